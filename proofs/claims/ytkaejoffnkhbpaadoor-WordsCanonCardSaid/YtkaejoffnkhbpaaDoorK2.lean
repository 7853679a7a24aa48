/- What the machine's calls do, function by function, printed by my own tool. Condition of each: its relation holds of the answer, and what is handed in lies in memory as told. -/
import Derived.Test.YtkaejoffnkhbpaaDoorK1
set_option linter.unusedVariables false
set_option maxRecDepth 100000
set_option maxHeartbeats 4000000
namespace Go.Proofs.YtkaejoffnkhbpaaDoor.K
open Go.Proofs.YtkaejoffnkhbpaaDoor.B Go.Proofs.YtkaejoffnkhbpaaDoor.R Go.RowKit
noncomputable abbrev trellisref8_Spell_c0 : Code := bodyOf Tryd.f10
noncomputable abbrev trellisref8_Spell_c1 : Code := Code.fst trellisref8_Spell_c0
noncomputable abbrev trellisref8_Spell_c2 : Code := Code.snd trellisref8_Spell_c0
noncomputable abbrev trellisref8_Spell_c3 : Code := Code.fst trellisref8_Spell_c2
noncomputable abbrev trellisref8_Spell_c4 : Code := Code.snd trellisref8_Spell_c2
noncomputable abbrev trellisref8_Spell_c5 : Code := Code.fst trellisref8_Spell_c3
noncomputable abbrev trellisref8_Spell_c6 : Code := Code.snd trellisref8_Spell_c3
noncomputable abbrev trellisref8_Spell_c7 : Code := Code.fst trellisref8_Spell_c6
noncomputable abbrev trellisref8_Spell_c8 : Code := Code.snd trellisref8_Spell_c6
noncomputable abbrev trellisref8_Spell_c9 : Code := Code.fst trellisref8_Spell_c4
noncomputable abbrev trellisref8_Spell_c10 : Code := Code.snd trellisref8_Spell_c4
noncomputable abbrev trellisref8_Spell_c11 : Code := Code.fst trellisref8_Spell_c9
noncomputable abbrev trellisref8_Spell_c12 : Code := Code.snd trellisref8_Spell_c9
noncomputable abbrev trellisref8_Spell_c13 : Code := Code.fst trellisref8_Spell_c12
noncomputable abbrev trellisref8_Spell_c14 : Code := Code.fst trellisref8_Spell_c13
noncomputable abbrev trellisref8_Spell_c15 : Code := Code.snd trellisref8_Spell_c13
noncomputable abbrev trellisref8_Spell_c16 : Code := Code.fst trellisref8_Spell_c15
noncomputable abbrev trellisref8_Spell_c17 : Code := Code.snd trellisref8_Spell_c15
noncomputable abbrev trellisref8_Spell_c18 : Code := Code.fst trellisref8_Spell_c16
noncomputable abbrev trellisref8_Spell_c19 : Code := Code.snd trellisref8_Spell_c16
noncomputable abbrev trellisref8_Spell_c20 : Code := Code.fst trellisref8_Spell_c19
noncomputable abbrev trellisref8_Spell_c21 : Code := Code.snd trellisref8_Spell_c19
noncomputable abbrev trellisref8_Spell_c22 : Code := Code.fst trellisref8_Spell_c20
noncomputable abbrev trellisref8_Spell_c23 : Code := Code.snd trellisref8_Spell_c20
noncomputable abbrev trellisref8_Spell_c24 : Code := Code.fst trellisref8_Spell_c23
noncomputable abbrev trellisref8_Spell_c25 : Code := Code.fst trellisref8_Spell_c24
noncomputable abbrev trellisref8_Spell_c26 : Code := Code.fst trellisref8_Spell_c25
noncomputable abbrev trellisref8_Spell_c27 : Code := Code.snd trellisref8_Spell_c25
noncomputable abbrev trellisref8_Spell_c28 : Code := Code.fst trellisref8_Spell_c26
noncomputable abbrev trellisref8_Spell_c29 : Code := Code.snd trellisref8_Spell_c26
noncomputable abbrev trellisref8_Spell_c30 : Code := Code.fst trellisref8_Spell_c29
noncomputable abbrev trellisref8_Spell_c31 : Code := Code.snd trellisref8_Spell_c29
noncomputable abbrev trellisref8_Spell_c32 : Code := Code.fst trellisref8_Spell_c27
noncomputable abbrev trellisref8_Spell_c33 : Code := Code.snd trellisref8_Spell_c27
noncomputable abbrev trellisref8_Spell_c34 : Code := Code.fst trellisref8_Spell_c32
noncomputable abbrev trellisref8_Spell_c35 : Code := Code.fst trellisref8_Spell_c21
noncomputable abbrev trellisref8_Spell_c36 : Code := Code.snd trellisref8_Spell_c21
noncomputable abbrev trellisref8_Spell_c37 : Code := Code.fst trellisref8_Spell_c17
noncomputable abbrev trellisref8_Spell_c38 : Code := Code.snd trellisref8_Spell_c17
noncomputable abbrev trellisref8_Spell_c39 : Code := Code.fst trellisref8_Spell_c38
noncomputable abbrev trellisref8_Spell_c40 : Code := Code.snd trellisref8_Spell_c38
noncomputable abbrev trellisref8_Spell_c41 : Code := Code.fst trellisref8_Spell_c39
noncomputable abbrev trellisref8_Spell_c42 : Code := Code.snd trellisref8_Spell_c39
noncomputable abbrev trellisref8_Spell_c43 : Code := Code.fst trellisref8_Spell_c40
noncomputable abbrev trellisref8_Spell_c44 : Code := Code.snd trellisref8_Spell_c40
noncomputable abbrev trellisref8_Spell_c45 : Code := Code.fst trellisref8_Spell_c44
noncomputable abbrev trellisref8_Spell_c46 : Code := Code.snd trellisref8_Spell_c44
noncomputable abbrev trellisref8_Spell_c47 : Code := Code.fst trellisref8_Spell_c45
noncomputable abbrev trellisref8_Spell_c48 : Code := Code.snd trellisref8_Spell_c45
noncomputable abbrev trellisref8_Spell_c49 : Code := Code.fst trellisref8_Spell_c10
noncomputable abbrev trellisref8_Spell_c50 : Code := Code.snd trellisref8_Spell_c10
noncomputable abbrev trellisref8_Spell_c51 : Code := Code.fst trellisref8_Spell_c7
noncomputable abbrev trellisref8_Spell_c52 : Code := Code.snd trellisref8_Spell_c7
abbrev trellisref8_Spell_R (w : World) (F : Nat → Prop) (r : ByteArray) : Ending → World → Prop := fun e w' => e = .returned (.string r) ∧ B.Loc w w' [] [St w []]
noncomputable abbrev trellisref8_Spell_C (w : World) (F : Nat → Prop) (r : ByteArray) : Cx := ⟨Tryd.prog, 10, Tryd.f10, 41, trellisref8_Spell_R w F  r, w⟩
theorem trellisref8_Spell_calls (w : World) (F : Nat → Prop) (x1 : api_Word) (hG : Tb Tryd.prog (St w [])) (hF : ∀ b, F b → b < w.heap.size ∧ ∀ o ∈ ([] : List (List Nat)), b ∉ o) (hL0 : B.Loc w w [] [Sm w.heap.size F w [], St w []]) (r : ByteArray) (h : trellisref8_Spell x1 r) : Calls Tryd.prog 10 #[.agg #[.int .i64 x1.kind, .string x1.text, .int .i64 x1.n, .int .i64 x1.at_]] w (trellisref8_Spell_R w F  r) := by
  unfold trellisref8_Spell at h
  refine calls_of_Loc (vs := [.agg #[.int .i64 x1.kind, .string x1.text, .int .i64 x1.n, .int .i64 x1.at_]]) 41 Tryd.func10 rfl Tryd.ntmps10 rfl hL0 ?_
  show G (trellisref8_Spell_C w F r) _ _ _ _
  refine g_seq (c := trellisref8_Spell_c0) rfl ?_
  refine g_region (c := trellisref8_Spell_c1) rfl rfl ?_
  refine wl_s 0 rfl (s_box [.int .i64 x1.kind, .string x1.text, .int .i64 x1.n, .int .i64 x1.at_] rfl rfl rfl fun gb2 => ?_) gn
  refine wl_v 1 rfl (v_assign rfl) gn rfl ?_
  refine w_end 2 rfl ?_
  refine g_seq (c := trellisref8_Spell_c2) rfl ?_
  refine g_seq (c := trellisref8_Spell_c3) rfl ?_
  refine g_region (c := trellisref8_Spell_c5) rfl rfl ?_
  refine wl_v 0 rfl (v_ldB [.int .i64 x1.kind, .string x1.text, .int .i64 x1.n, .int .i64 x1.at_] 0 ld_27 rfl rfl rfl rfl) gn rfl ?_
  obtain ⟨r7, hv8, h⟩ := h
  refine wl_s 1 rfl (s_call [.agg #[.int .i64 x1.kind, .string x1.text, .int .i64 x1.n, .int .i64 x1.at_]] rfl Tryd.func22 rfl rfl rfl fun w4 hL5 => ?_) gn
  have hp6 : List.Perm ([.box gb2 27 [.int .i64 x1.kind, .string x1.text, .int .i64 x1.n, .int .i64 x1.at_]] : List Ent) (([] : List Ent) ++ ([.box gb2 27 [.int .i64 x1.kind, .string x1.text, .int .i64 x1.n, .int .i64 x1.at_]] : List Ent)) := perm_of_idx [] [0] rfl rfl (by kernel_rfl)
  refine Calls.mono (trellisref8_Sound_calls w4 (Fl ([] : List Snap)) x1 (hL5.hFl (Sl := ([] : List Snap)) hp6 (sels [] rfl)) (hL5.into hp6 (Fl ([] : List Snap))) r7 hv8) ?_
  rintro _ w9 ⟨rfl, hM10⟩
  have hL11 := hL5.call hp6 hM10
  refine ⟨_, _, _, rfl, hL11, ?_⟩
  refine wl_v 2 rfl (v_not rfl) gn rfl ?_
  refine w_end 3 rfl ?_
  by_cases hp12 : r7 = true
  · have h := if_pos' hp12 h
    refine g_false (c := trellisref8_Spell_c6) rfl _ rfl ((nf hp12)) ?_
    refine g_skip (c := trellisref8_Spell_c8) rfl ?_
    refine g_seq (c := trellisref8_Spell_c4) rfl ?_
    refine g_seq (c := trellisref8_Spell_c9) rfl ?_
    refine g_region (c := trellisref8_Spell_c11) rfl rfl ?_
    refine wl_v 0 rfl (v_fldB fo_27_0 rfl) gn rfl ?_
    refine wl_v 1 rfl (v_ldB1 0 ld_25 rfl rfl rfl) gn rfl ?_
    refine w_end 2 rfl ?_
    refine g_block (c := trellisref8_Spell_c12) rfl ?_
    refine g_seq (c := trellisref8_Spell_c13) rfl ?_
    refine g_region (c := trellisref8_Spell_c14) rfl rfl ?_
    refine wl_v 0 rfl (v_bin rfl rfl rfl) gn rfl ?_
    refine wl_v 1 rfl (v_assign rfl) gn rfl ?_
    refine w_end 2 rfl ?_
    by_cases hp13 : x1.kind = 2
    · have h := if_pos' hp13 h
      refine g_true (c := trellisref8_Spell_c15) rfl _ rfl ((eqi hp13)) ?_
      refine g_seq (c := trellisref8_Spell_c16) rfl ?_
      refine g_region (c := trellisref8_Spell_c18) rfl rfl ?_
      refine wl_v 0 rfl (v_assign rfl) gn rfl ?_
      refine w_end 1 rfl ?_
      refine g_seq (c := trellisref8_Spell_c19) rfl ?_
      refine g_seq (c := trellisref8_Spell_c20) rfl ?_
      refine g_region (c := trellisref8_Spell_c22) rfl rfl ?_
      refine wl_v 0 rfl (v_assign rfl) gn rfl ?_
      refine w_end 1 rfl ?_
      refine g_block (c := trellisref8_Spell_c23) rfl ?_
      refine g_loop (c := trellisref8_Spell_c24) rfl ?_
      have key1 : ∀ s, Rounds (fun (s : ByteArray × Int) o => trellisref8_Spell_b1 x1 s.1 s.2 o) s r → (fun (s : ByteArray × Int) => ∀ (_ : Unit), G (trellisref8_Spell_C w F r) [.code trellisref8_Spell_c25, .inLoop trellisref8_Spell_c25, .inBlock 1, .code trellisref8_Spell_c21, .inBlock 0, .code trellisref8_Spell_c10] [(1, .pointer (some ⟨gb2, 0, none⟩)), (3, .string s.1), (4, .int .i64 s.2)] [.box gb2 27 [.int .i64 x1.kind, .string x1.text, .int .i64 x1.n, .int .i64 x1.at_]] [Sm w.heap.size F w [], St w []]) s := by
        intro s hs
        refine Rounds.ind (mot := (fun (s : ByteArray × Int) => ∀ (_ : Unit), G (trellisref8_Spell_C w F r) [.code trellisref8_Spell_c25, .inLoop trellisref8_Spell_c25, .inBlock 1, .code trellisref8_Spell_c21, .inBlock 0, .code trellisref8_Spell_c10] [(1, .pointer (some ⟨gb2, 0, none⟩)), (3, .string s.1), (4, .int .i64 s.2)] [.box gb2 27 [.int .i64 x1.kind, .string x1.text, .int .i64 x1.n, .int .i64 x1.at_]] [Sm w.heap.size F w [], St w []])) ?_ hs
        clear hs s
        intro s o1 h hO1
        obtain ⟨x27, x28⟩ := s
        show ∀ (_ : Unit), G (trellisref8_Spell_C w F r) [.code trellisref8_Spell_c25, .inLoop trellisref8_Spell_c25, .inBlock 1, .code trellisref8_Spell_c21, .inBlock 0, .code trellisref8_Spell_c10] [(1, .pointer (some ⟨gb2, 0, none⟩)), (3, .string x27), (4, .int .i64 x28)] [.box gb2 27 [.int .i64 x1.kind, .string x1.text, .int .i64 x1.n, .int .i64 x1.at_]] [Sm w.heap.size F w [], St w []]
        intro _
        have h : trellisref8_Spell_b1 x1 x27 x28 o1 := h
        unfold trellisref8_Spell_b1 at h
        refine g_seq (c := trellisref8_Spell_c25) rfl ?_
        refine g_seq (c := trellisref8_Spell_c26) rfl ?_
        refine g_region (c := trellisref8_Spell_c28) rfl rfl ?_
        refine wl_v 0 rfl (v_move rfl) gn rfl ?_
        refine wl_v 1 rfl (v_fldB fo_27_1 rfl) gn rfl ?_
        refine wl_v 2 rfl (v_ldB1 0 ld_9 rfl rfl rfl) gn rfl ?_
        refine wl_v 3 rfl (v_lenS un_9 rfl) gn rfl ?_
        refine wl_v 4 rfl (v_bin rfl rfl rfl) gn rfl ?_
        refine w_end 5 rfl ?_
        by_cases hp41 : x28 < (x1.text.size : Int)
        · have h := if_pos' hp41 h
          refine g_true (c := trellisref8_Spell_c29) rfl _ rfl ((decide_eq_true hp41)) ?_
          refine g_skip (c := trellisref8_Spell_c30) rfl ?_
          refine g_seq (c := trellisref8_Spell_c27) rfl ?_
          refine g_block (c := trellisref8_Spell_c32) rfl ?_
          refine g_region (c := trellisref8_Spell_c34) rfl rfl ?_
          refine wl_v 0 rfl (v_move rfl) gn rfl ?_
          refine wl_v 1 rfl (v_fldB fo_27_1 rfl) gn rfl ?_
          refine wl_v 2 rfl (v_ldB1 0 ld_9 rfl rfl rfl) gn rfl ?_
          refine wl_v 3 rfl (v_move rfl) gn rfl ?_
          obtain ⟨hb42, h⟩ := h
          refine wl_v 4 rfl (v_indexS un_9 rfl rfl hb42) gn rfl ?_
          obtain ⟨r46, hv47, h⟩ := h
          refine wl_s 5 rfl (s_call [.int .u8 (bt x1.text x28)] rfl Tryd.func23 rfl rfl rfl fun w43 hL44 => ?_) gn
          have hp45 : List.Perm ([.box gb2 27 [.int .i64 x1.kind, .string x1.text, .int .i64 x1.n, .int .i64 x1.at_]] : List Ent) (([] : List Ent) ++ ([.box gb2 27 [.int .i64 x1.kind, .string x1.text, .int .i64 x1.n, .int .i64 x1.at_]] : List Ent)) := perm_of_idx [] [0] rfl rfl (by kernel_rfl)
          refine Calls.mono (trellisref8_byteOf_calls w43 (Fl ([] : List Snap)) (bt x1.text x28) (hL44.hFl (Sl := ([] : List Snap)) hp45 (sels [] rfl)) (hL44.into hp45 (Fl ([] : List Snap))) r46 hv47) ?_
          rintro _ w48 ⟨rfl, hM49⟩
          have hL50 := hL44.call hp45 hM49
          refine ⟨_, _, _, rfl, hL50, ?_⟩
          obtain ⟨hb51, h⟩ := h
          refine wl_v 6 rfl (v_catS rfl rfl hb51) gn rfl ?_
          refine wl_v 7 rfl (v_assign rfl) gn rfl ?_
          refine w_end 8 rfl ?_
          refine g_inBlock ?_
          refine g_region (c := trellisref8_Spell_c33) rfl rfl ?_
          refine wl_v 0 rfl (v_move rfl) gn rfl ?_
          refine wl_v 1 rfl (v_bin rfl rfl rfl) gn rfl ?_
          refine wl_v 2 rfl (v_assign rfl) gn rfl ?_
          refine w_end 3 rfl ?_
          refine g_inLoop ?_
          have ih := Out.inl hO1 h
          exact g_go [0, 1] (ih ()) ⟨rfl, rfl, rfl, trivial⟩ (.cons_cons _ (.slnil)) rfl
        · have h := if_neg' hp41 h
          refine g_false (c := trellisref8_Spell_c29) rfl _ rfl ((decide_eq_false hp41)) ?_
          refine g_exit (c := trellisref8_Spell_c31) [.code trellisref8_Spell_c21, .inBlock 0, .code trellisref8_Spell_c10] rfl rfl ?_
          refine g_seq (c := trellisref8_Spell_c21) rfl ?_
          refine g_region (c := trellisref8_Spell_c35) rfl rfl ?_
          refine wl_v 0 rfl (v_move rfl) gn rfl ?_
          obtain ⟨hb52, h⟩ := h
          refine wl_v 1 rfl (v_catS rfl rfl hb52) gn rfl ?_
          refine wl_v 2 rfl (v_assign rfl) gn rfl ?_
          refine w_end 3 rfl ?_
          have h := Out.inr hO1 h
          refine g_retR (c := trellisref8_Spell_c36) [.string (x27 ++ (⟨#[34]⟩ : ByteArray))] rfl Tryd.func10 rfl (.tmp rfl (.nil)) fun wr hLr => ?_
          have hMr : B.Loc w wr [] [St w []] := hLr.pick (rest := [.box gb2 27 [.int .i64 x1.kind, .string x1.text, .int .i64 x1.n, .int .i64 x1.at_]]) (perm_of_idx [] [0] rfl rfl (by kernel_rfl)) (sels [1] rfl)
          have hMi : ∀ e ∈ ([] : List Ent), e ∈ ([.box gb2 27 [.int .i64 x1.kind, .string x1.text, .int .i64 x1.n, .int .i64 x1.at_]] : List Ent) := sels [] rfl
          show trellisref8_Spell_R w F  r (.returned (packV [.string (x27 ++ (⟨#[34]⟩ : ByteArray))])) wr
          rw [h]
          exact ⟨rfl, hMr⟩
      exact g_go [0, 1] (key1 _ h ()) ⟨rfl, rfl, rfl, trivial⟩ (.cons_cons _ (.slnil)) rfl
    · have h := if_neg' hp13 h
      refine g_false (c := trellisref8_Spell_c15) rfl _ rfl ((nei hp13)) ?_
      refine g_seq (c := trellisref8_Spell_c17) rfl ?_
      refine g_region (c := trellisref8_Spell_c37) rfl rfl ?_
      refine wl_v 0 rfl (v_bin rfl rfl rfl) gn rfl ?_
      refine wl_v 1 rfl (v_assign rfl) gn rfl ?_
      refine w_end 2 rfl ?_
      by_cases hp53 : x1.kind = 3
      · have h := if_pos' hp53 h
        refine g_true (c := trellisref8_Spell_c38) rfl _ rfl ((eqi hp53)) ?_
        refine g_seq (c := trellisref8_Spell_c39) rfl ?_
        refine g_region (c := trellisref8_Spell_c41) rfl rfl ?_
        refine wl_v 0 rfl (v_fldB fo_27_1 rfl) gn rfl ?_
        refine wl_v 1 rfl (v_ldB1 0 ld_9 rfl rfl rfl) gn rfl ?_
        obtain ⟨hb54, h⟩ := h
        refine wl_v 2 rfl (v_catS rfl rfl hb54) gn rfl ?_
        obtain ⟨hb55, h⟩ := h
        refine wl_v 3 rfl (v_catS rfl rfl hb55) gn rfl ?_
        refine wl_v 4 rfl (v_assign rfl) gn rfl ?_
        refine w_end 5 rfl ?_
        refine g_retR (c := trellisref8_Spell_c42) [.string (((⟨#[47]⟩ : ByteArray) ++ x1.text) ++ (⟨#[47]⟩ : ByteArray))] rfl Tryd.func10 rfl (.tmp rfl (.nil)) fun wr hLr => ?_
        have hMr : B.Loc w wr [] [St w []] := hLr.pick (rest := [.box gb2 27 [.int .i64 x1.kind, .string x1.text, .int .i64 x1.n, .int .i64 x1.at_]]) (perm_of_idx [] [0] rfl rfl (by kernel_rfl)) (sels [1] rfl)
        have hMi : ∀ e ∈ ([] : List Ent), e ∈ ([.box gb2 27 [.int .i64 x1.kind, .string x1.text, .int .i64 x1.n, .int .i64 x1.at_]] : List Ent) := sels [] rfl
        show trellisref8_Spell_R w F  r (.returned (packV [.string (((⟨#[47]⟩ : ByteArray) ++ x1.text) ++ (⟨#[47]⟩ : ByteArray))])) wr
        rw [h]
        exact ⟨rfl, hMr⟩
      · have h := if_neg' hp53 h
        refine g_false (c := trellisref8_Spell_c38) rfl _ rfl ((nei hp53)) ?_
        refine g_seq (c := trellisref8_Spell_c40) rfl ?_
        refine g_region (c := trellisref8_Spell_c43) rfl rfl ?_
        refine wl_v 0 rfl (v_bin rfl rfl rfl) gn rfl ?_
        refine wl_v 1 rfl (v_assign rfl) gn rfl ?_
        refine w_end 2 rfl ?_
        by_cases hp56 : x1.kind = 4
        · have h := if_pos' hp56 h
          refine g_true (c := trellisref8_Spell_c44) rfl _ rfl ((eqi hp56)) ?_
          refine g_seq (c := trellisref8_Spell_c45) rfl ?_
          refine g_region (c := trellisref8_Spell_c47) rfl rfl ?_
          refine wl_v 0 rfl (v_fldB fo_27_2 rfl) gn rfl ?_
          refine wl_v 1 rfl (v_ldB1 0 ld_3 rfl rfl rfl) gn rfl ?_
          obtain ⟨r60, hv61, h⟩ := h
          refine wl_s 2 rfl (s_call [.int .i64 x1.n] rfl Tryd.func21 rfl rfl rfl fun w57 hL58 => ?_) gn
          have hp59 : List.Perm ([.box gb2 27 [.int .i64 x1.kind, .string x1.text, .int .i64 x1.n, .int .i64 x1.at_]] : List Ent) (([] : List Ent) ++ ([.box gb2 27 [.int .i64 x1.kind, .string x1.text, .int .i64 x1.n, .int .i64 x1.at_]] : List Ent)) := perm_of_idx [] [0] rfl rfl (by kernel_rfl)
          refine Calls.mono (strconv_Itoa_calls w57 (Fl ([] : List Snap)) x1.n (hL58.tb hp59 hG (me 1 rfl)) (hL58.hFl (Sl := ([] : List Snap)) hp59 (sels [] rfl)) (hL58.into hp59 (Fl ([] : List Snap))) r60 hv61) ?_
          rintro _ w62 ⟨rfl, hM63⟩
          have hL64 := hL58.call hp59 hM63
          refine ⟨_, _, _, rfl, hL64, ?_⟩
          refine wl_v 3 rfl (v_assign rfl) gn rfl ?_
          refine w_end 4 rfl ?_
          refine g_retR (c := trellisref8_Spell_c48) [.string r60] rfl Tryd.func10 rfl (.tmp rfl (.nil)) fun wr hLr => ?_
          have hMr : B.Loc w wr [] [St w []] := hLr.pick (rest := [.box gb2 27 [.int .i64 x1.kind, .string x1.text, .int .i64 x1.n, .int .i64 x1.at_]]) (perm_of_idx [] [0] rfl rfl (by kernel_rfl)) (sels [1] rfl)
          have hMi : ∀ e ∈ ([] : List Ent), e ∈ ([.box gb2 27 [.int .i64 x1.kind, .string x1.text, .int .i64 x1.n, .int .i64 x1.at_]] : List Ent) := sels [] rfl
          show trellisref8_Spell_R w F  r (.returned (packV [.string r60])) wr
          rw [h]
          exact ⟨rfl, hMr⟩
        · have h := if_neg' hp56 h
          refine g_false (c := trellisref8_Spell_c44) rfl _ rfl ((nei hp56)) ?_
          refine g_skip (c := trellisref8_Spell_c46) rfl ?_
          refine g_inBlock ?_
          refine g_seq (c := trellisref8_Spell_c10) rfl ?_
          refine g_region (c := trellisref8_Spell_c49) rfl rfl ?_
          refine wl_v 0 rfl (v_fldB fo_27_1 rfl) gn rfl ?_
          refine wl_v 1 rfl (v_ldB1 0 ld_9 rfl rfl rfl) gn rfl ?_
          refine wl_v 2 rfl (v_assign rfl) gn rfl ?_
          refine w_end 3 rfl ?_
          refine g_retR (c := trellisref8_Spell_c50) [.string x1.text] rfl Tryd.func10 rfl (.tmp rfl (.nil)) fun wr hLr => ?_
          have hMr : B.Loc w wr [] [St w []] := hLr.pick (rest := [.box gb2 27 [.int .i64 x1.kind, .string x1.text, .int .i64 x1.n, .int .i64 x1.at_]]) (perm_of_idx [] [0] rfl rfl (by kernel_rfl)) (sels [1] rfl)
          have hMi : ∀ e ∈ ([] : List Ent), e ∈ ([.box gb2 27 [.int .i64 x1.kind, .string x1.text, .int .i64 x1.n, .int .i64 x1.at_]] : List Ent) := sels [] rfl
          show trellisref8_Spell_R w F  r (.returned (packV [.string x1.text])) wr
          rw [h]
          exact ⟨rfl, hMr⟩
  · have h := if_neg' hp12 h
    refine g_true (c := trellisref8_Spell_c6) rfl _ rfl ((nt (bf hp12))) ?_
    refine g_seq (c := trellisref8_Spell_c7) rfl ?_
    refine g_region (c := trellisref8_Spell_c51) rfl rfl ?_
    refine wl_v 0 rfl (v_assign rfl) gn rfl ?_
    refine w_end 1 rfl ?_
    refine g_retR (c := trellisref8_Spell_c52) [.string (⟨#[]⟩ : ByteArray)] rfl Tryd.func10 rfl (.tmp rfl (.nil)) fun wr hLr => ?_
    have hMr : B.Loc w wr [] [St w []] := hLr.pick (rest := [.box gb2 27 [.int .i64 x1.kind, .string x1.text, .int .i64 x1.n, .int .i64 x1.at_]]) (perm_of_idx [] [0] rfl rfl (by kernel_rfl)) (sels [1] rfl)
    have hMi : ∀ e ∈ ([] : List Ent), e ∈ ([.box gb2 27 [.int .i64 x1.kind, .string x1.text, .int .i64 x1.n, .int .i64 x1.at_]] : List Ent) := sels [] rfl
    show trellisref8_Spell_R w F  r (.returned (packV [.string (⟨#[]⟩ : ByteArray)])) wr
    rw [h]
    exact ⟨rfl, hMr⟩
noncomputable abbrev trellislaw8_lent_c0 : Code := bodyOf Tryd.f11
noncomputable abbrev trellislaw8_lent_c1 : Code := Code.fst trellislaw8_lent_c0
noncomputable abbrev trellislaw8_lent_c2 : Code := Code.snd trellislaw8_lent_c0
noncomputable abbrev trellislaw8_lent_c3 : Code := Code.fst trellislaw8_lent_c2
noncomputable abbrev trellislaw8_lent_c4 : Code := Code.snd trellislaw8_lent_c2
noncomputable abbrev trellislaw8_lent_c5 : Code := Code.fst trellislaw8_lent_c4
noncomputable abbrev trellislaw8_lent_c6 : Code := Code.snd trellislaw8_lent_c4
noncomputable abbrev trellislaw8_lent_c7 : Code := Code.fst trellislaw8_lent_c5
noncomputable abbrev trellislaw8_lent_c8 : Code := Code.snd trellislaw8_lent_c5
noncomputable abbrev trellislaw8_lent_c9 : Code := Code.fst trellislaw8_lent_c8
noncomputable abbrev trellislaw8_lent_c10 : Code := Code.fst trellislaw8_lent_c9
noncomputable abbrev trellislaw8_lent_c11 : Code := Code.fst trellislaw8_lent_c10
noncomputable abbrev trellislaw8_lent_c12 : Code := Code.snd trellislaw8_lent_c10
noncomputable abbrev trellislaw8_lent_c13 : Code := Code.fst trellislaw8_lent_c11
noncomputable abbrev trellislaw8_lent_c14 : Code := Code.snd trellislaw8_lent_c11
noncomputable abbrev trellislaw8_lent_c15 : Code := Code.fst trellislaw8_lent_c14
noncomputable abbrev trellislaw8_lent_c16 : Code := Code.snd trellislaw8_lent_c14
noncomputable abbrev trellislaw8_lent_c17 : Code := Code.fst trellislaw8_lent_c12
noncomputable abbrev trellislaw8_lent_c18 : Code := Code.snd trellislaw8_lent_c12
noncomputable abbrev trellislaw8_lent_c19 : Code := Code.fst trellislaw8_lent_c17
noncomputable abbrev trellislaw8_lent_c20 : Code := Code.fst trellislaw8_lent_c6
noncomputable abbrev trellislaw8_lent_c21 : Code := Code.snd trellislaw8_lent_c6
abbrev trellislaw8_lent_R (w : World) (F : Nat → Prop) (r : List api_Word) : Ending → World → Prop := fun e w' => ∃ A0 : Option Addr, ∃ n0 : Nat, ∃ c0 : Nat, e = .returned (.slice A0 n0 c0) ∧ B.Loc w w' [.own (.slice A0 n0 c0) 27 4 n0 (r.flatMap enc_api_Word)] [St w []] ∧ Ow w.heap.size A0 n0 c0 r
noncomputable abbrev trellislaw8_lent_C (w : World) (F : Nat → Prop) (r : List api_Word) : Cx := ⟨Tryd.prog, 11, Tryd.f11, 21, trellislaw8_lent_R w F  r, w⟩
theorem trellislaw8_lent_calls (w : World) (F : Nat → Prop) (x1 : List api_Word) (A2 : Option Addr) (n3 : Nat) (c4 : Nat) (h5 : Rw k_api_Word w (St w []).av A2 n3 c4 x1) (hF : ∀ b, F b → b < w.heap.size ∧ ∀ o ∈ ([] : List (List Nat)), b ∉ o) (hL0 : B.Loc w w [] [Sm w.heap.size F w [], St w []]) (r : List api_Word) (h : trellislaw8_lent x1 r) : Calls Tryd.prog 11 #[.slice A2 n3 c4] w (trellislaw8_lent_R w F  r) := by
  unfold trellislaw8_lent at h
  refine calls_of_Loc (vs := [.slice A2 n3 c4]) 21 Tryd.func11 rfl Tryd.ntmps11 rfl hL0 ?_
  show G (trellislaw8_lent_C w F r) _ _ _ _
  refine g_seq (c := trellislaw8_lent_c0) rfl ?_
  refine g_region (c := trellislaw8_lent_c1) rfl rfl ?_
  refine wl_v 0 rfl (v_assign rfl) gn rfl ?_
  refine w_end 1 rfl ?_
  refine g_seq (c := trellislaw8_lent_c2) rfl ?_
  refine g_region (c := trellislaw8_lent_c3) rfl rfl ?_
  refine wl_v 0 rfl (v_move rfl) gn rfl ?_
  obtain ⟨r9, hv10, h⟩ := h
  refine wl_s 1 rfl (s_call [.slice A2 n3 c4] rfl Tryd.func8 rfl rfl rfl fun w6 hL7 => ?_) gn
  have hp8 : List.Perm ([] : List Ent) (([] : List Ent) ++ ([] : List Ent)) := perm_of_idx [] [] rfl rfl (by kernel_rfl)
  refine Calls.mono (trellislaw8_twin_calls w6 (Fl ([] : List Snap)) x1 A2 n3 c4 (Rw.mono h5 (hL7.toSt hp8 (me 1 rfl))) (hL7.hFl (Sl := ([] : List Snap)) hp8 (sels [] rfl)) (hL7.into hp8 (Fl ([] : List Snap))) r9 hv10) ?_
  rintro _ w16 ⟨A11, n12, c13, rfl, hM17, h14⟩
  have hL18 := hL7.call hp8 hM17
  refine ⟨_, _, _, rfl, hL18, ?_⟩
  refine wl_v 2 rfl (v_assign rfl) gn rfl ?_
  refine w_end 3 rfl ?_
  refine g_seq (c := trellislaw8_lent_c4) rfl ?_
  refine g_seq (c := trellislaw8_lent_c5) rfl ?_
  refine g_region (c := trellislaw8_lent_c7) rfl rfl ?_
  refine wl_v 0 rfl (v_assign rfl) gn rfl ?_
  refine w_end 1 rfl ?_
  refine g_block (c := trellislaw8_lent_c8) rfl ?_
  refine g_loop (c := trellislaw8_lent_c9) rfl ?_
  have key1 : ∀ s, Rounds (fun (s : (List api_Word) × Int) o => trellislaw8_lent_b1 x1 s.1 s.2 o) s r → (fun (s : (List api_Word) × Int) => ∀ (A30 : Option Addr) (n31 : Nat) (c32 : Nat) (h33 : Ow w.heap.size A30 n31 c32 s.1), G (trellislaw8_lent_C w F r) [.code trellislaw8_lent_c10, .inLoop trellislaw8_lent_c10, .inBlock 0, .code trellislaw8_lent_c6] [(0, .slice A2 n3 c4), (3, .slice A30 n31 c32), (4, .int .i64 s.2)] [.own (.slice A30 n31 c32) 27 4 n31 (s.1.flatMap enc_api_Word)] [Sm w.heap.size F w [], St w []]) s := by
    intro s hs
    refine Rounds.ind (mot := (fun (s : (List api_Word) × Int) => ∀ (A30 : Option Addr) (n31 : Nat) (c32 : Nat) (h33 : Ow w.heap.size A30 n31 c32 s.1), G (trellislaw8_lent_C w F r) [.code trellislaw8_lent_c10, .inLoop trellislaw8_lent_c10, .inBlock 0, .code trellislaw8_lent_c6] [(0, .slice A2 n3 c4), (3, .slice A30 n31 c32), (4, .int .i64 s.2)] [.own (.slice A30 n31 c32) 27 4 n31 (s.1.flatMap enc_api_Word)] [Sm w.heap.size F w [], St w []])) ?_ hs
    clear hs s
    intro s o1 h hO1
    obtain ⟨x29, x34⟩ := s
    show ∀ (A30 : Option Addr) (n31 : Nat) (c32 : Nat) (h33 : Ow w.heap.size A30 n31 c32 x29), G (trellislaw8_lent_C w F r) [.code trellislaw8_lent_c10, .inLoop trellislaw8_lent_c10, .inBlock 0, .code trellislaw8_lent_c6] [(0, .slice A2 n3 c4), (3, .slice A30 n31 c32), (4, .int .i64 x34)] [.own (.slice A30 n31 c32) 27 4 n31 (x29.flatMap enc_api_Word)] [Sm w.heap.size F w [], St w []]
    intro A30 n31 c32 h33
    have h : trellislaw8_lent_b1 x1 x29 x34 o1 := h
    unfold trellislaw8_lent_b1 at h
    refine g_seq (c := trellislaw8_lent_c10) rfl ?_
    refine g_seq (c := trellislaw8_lent_c11) rfl ?_
    refine g_region (c := trellislaw8_lent_c13) rfl rfl ?_
    refine wl_v 0 rfl (v_move rfl) gn rfl ?_
    refine wl_v 1 rfl (v_bin rfl rfl rfl) gn rfl ?_
    refine w_end 2 rfl ?_
    by_cases hp51 : x34 < 20
    · have h := if_pos' hp51 h
      refine g_true (c := trellislaw8_lent_c14) rfl _ rfl ((decide_eq_true hp51)) ?_
      refine g_skip (c := trellislaw8_lent_c15) rfl ?_
      refine g_seq (c := trellislaw8_lent_c12) rfl ?_
      refine g_block (c := trellislaw8_lent_c17) rfl ?_
      refine g_region (c := trellislaw8_lent_c19) rfl rfl ?_
      refine wl_v 0 rfl (v_move rfl) gn rfl ?_
      refine wl_v 1 rfl (v_move rfl) gn rfl ?_
      refine wl_v 2 rfl (v_bin rfl rfl rfl) gn rfl ?_
      refine wl_v 3 rfl (v_build #[.int .i64 0, .string (⟨#[]⟩ : ByteArray), .int .i64 (w64 (900 + x34)), .int .i64 7] bd_27 rfl (by kernel_rfl)) gn rfl ?_
      refine wl_s 4 rfl (s_litO (xs := ([(⟨0, (⟨#[]⟩ : ByteArray), w64 (900 + x34), 7⟩ : api_Word)] : List api_Word)) [.int .i64 0, .string (⟨#[]⟩ : ByteArray), .int .i64 (w64 (900 + x34)), .int .i64 7] bs_22_1 rfl (by kernel_rfl) rfl rfl rfl rfl fun gb53 h54 => ?_) gn
      obtain ⟨x58, hv59, h⟩ := h
      obtain ⟨hb60, h⟩ := h
      refine wl_s 5 rfl (s_app (zs := x58) (cells' := x58.flatMap enc_api_Word) 1 ap_22 rfl rfl rfl h33 (Nat.le_refl _) (Src.ownF (hl := hl_api_Word) (h1 := h1_api_Word) 0 rfl h54) (by rw [hv59, List.flatMap_append] <;> rfl) (app_len hv59 h54.hq) hb60 rfl rfl fun A55 c56 h57 => ?_) gn
      refine wl_v 6 rfl (v_assign rfl) gn rfl ?_
      refine w_end 7 rfl ?_
      refine g_inBlock ?_
      refine g_region (c := trellislaw8_lent_c18) rfl rfl ?_
      refine wl_v 0 rfl (v_move rfl) gn rfl ?_
      refine wl_v 1 rfl (v_bin rfl rfl rfl) gn rfl ?_
      refine wl_v 2 rfl (v_assign rfl) gn rfl ?_
      refine w_end 3 rfl ?_
      refine g_inLoop ?_
      have ih := Out.inl hO1 h
      exact g_go [0, 1] (ih A55 (n31 + 1) c56 h57) ⟨rfl, rfl, rfl, trivial⟩ (.cons _ (.cons_cons _ (.slnil))) rfl
    · have h := if_neg' hp51 h
      refine g_false (c := trellislaw8_lent_c14) rfl _ rfl ((decide_eq_false hp51)) ?_
      refine g_exit (c := trellislaw8_lent_c16) [.code trellislaw8_lent_c6] rfl rfl ?_
      refine g_seq (c := trellislaw8_lent_c6) rfl ?_
      refine g_region (c := trellislaw8_lent_c20) rfl rfl ?_
      refine wl_v 0 rfl (v_move rfl) gn rfl ?_
      refine wl_v 1 rfl (v_move rfl) gn rfl ?_
      refine wl_v 2 rfl (v_lenQ un_22 rfl h5.hq) gn rfl ?_
      obtain ⟨hb61, h⟩ := h
      obtain ⟨x63, hv64, h⟩ := h
      have hle62 : ((x1.length : Int) : Int).toNat ≤ n31 := by have q := hb61; have q1 := h33.hq; omega
      have h65 : Ow w.heap.size A30 ((x1.length : Int) : Int).toNat c32 x63 := Ow.w (Ow.cut h33 hle62) (by rw [hv64])
      refine wl_v 3 rfl (v_cutHi (i := (x1.length : Int)) slE_22 rfl rfl (by have q := hb61; have q1 := h33.hq; have q2 := h33.hn; omega) h33.hn rfl) gn rfl ?_
      refine wl_v 4 rfl (v_assign rfl) gn rfl ?_
      refine w_end 5 rfl ?_
      have h66 : Ow w.heap.size A30 (((x1.length : Int) : Int).toNat) c32 x63 := (Ow.w (Ow.cut h33 hle62) (by rw [hv64]))
      refine g_short (j := 0) (m := (((x1.length : Int) : Int).toNat)) (cells' := x63.flatMap enc_api_Word) rfl hle62 (by rw [fm_take hl_api_Word, hv64]) ?_
      have h := Out.inr hO1 h
      refine g_retR (c := trellislaw8_lent_c21) [.slice A30 (((x1.length : Int) : Int).toNat) c32] rfl Tryd.func11 rfl (.tmp rfl (.nil)) fun wr hLr => ?_
      have hMr : B.Loc w wr [.own (.slice A30 (((x1.length : Int) : Int).toNat) c32) 27 4 (((x1.length : Int) : Int).toNat) (x63.flatMap enc_api_Word)] [St w []] := hLr.pick (rest := []) (perm_of_idx [0] [] rfl rfl (by kernel_rfl)) (sels [1] rfl)
      have hMi : ∀ e ∈ ([.own (.slice A30 (((x1.length : Int) : Int).toNat) c32) 27 4 (((x1.length : Int) : Int).toNat) (x63.flatMap enc_api_Word)] : List Ent), e ∈ ([.own (.slice A30 (((x1.length : Int) : Int).toNat) c32) 27 4 (((x1.length : Int) : Int).toNat) (x63.flatMap enc_api_Word)] : List Ent) := sels [0] rfl
      show trellislaw8_lent_R w F  r (.returned (packV [.slice A30 (((x1.length : Int) : Int).toNat) c32])) wr
      rw [h]
      exact ⟨A30, ((x1.length : Int) : Int).toNat, c32, rfl, hMr, h66⟩
  exact g_go [0, 1] (key1 _ h A11 n12 c13 (Ow.weak hL7.env.size h14)) ⟨rfl, rfl, rfl, trivial⟩ (.cons_cons _ (.slnil)) rfl
noncomputable abbrev strings_Join_c0 : Code := bodyOf Tryd.f24
abbrev strings_Join_R (w : World) (F : Nat → Prop) (r : ByteArray) : Ending → World → Prop := fun e w' => e = .returned (.string r) ∧ B.Loc w w' [] [St w []]
noncomputable abbrev strings_Join_C (w : World) (F : Nat → Prop) (r : ByteArray) : Cx := ⟨Tryd.prog, 24, Tryd.f24, 75, strings_Join_R w F  r, w⟩
theorem strings_Join_calls (w : World) (F : Nat → Prop) (x1 : List ByteArray) (x6 : ByteArray) (A2 : Option Addr) (n3 : Nat) (c4 : Nat) (h5 : Rw kStr w (St w []).av A2 n3 c4 x1) (hF : ∀ b, F b → b < w.heap.size ∧ ∀ o ∈ ([] : List (List Nat)), b ∉ o) (hL0 : B.Loc w w [] [Sm w.heap.size F w [], St w []]) (r : ByteArray) (h : strings_Join x1 x6 r) : Calls Tryd.prog 24 #[.slice A2 n3 c4, .string x6] w (strings_Join_R w F  r) := by
  unfold strings_Join at h
  obtain ⟨h1, h2, rfl⟩ := h
  refine Calls.mono (join_calls Tryd.strings_Join_none Tryd.strings_Join (fun b hb => hb.1) h5 h1 h2) ?_
  rintro e w' ⟨rfl, hb⟩
  exact ⟨rfl, Loc.of_below hb⟩
noncomputable abbrev words_Join_c0 : Code := bodyOf Tryd.f12
noncomputable abbrev words_Join_c1 : Code := Code.fst words_Join_c0
noncomputable abbrev words_Join_c2 : Code := Code.snd words_Join_c0
noncomputable abbrev words_Join_c3 : Code := Code.fst words_Join_c2
noncomputable abbrev words_Join_c4 : Code := Code.snd words_Join_c2
noncomputable abbrev words_Join_c5 : Code := Code.fst words_Join_c4
noncomputable abbrev words_Join_c6 : Code := Code.snd words_Join_c4
noncomputable abbrev words_Join_c7 : Code := Code.fst words_Join_c5
noncomputable abbrev words_Join_c8 : Code := Code.snd words_Join_c5
noncomputable abbrev words_Join_c9 : Code := Code.fst words_Join_c8
noncomputable abbrev words_Join_c10 : Code := Code.fst words_Join_c9
noncomputable abbrev words_Join_c11 : Code := Code.fst words_Join_c10
noncomputable abbrev words_Join_c12 : Code := Code.snd words_Join_c10
noncomputable abbrev words_Join_c13 : Code := Code.fst words_Join_c12
noncomputable abbrev words_Join_c14 : Code := Code.snd words_Join_c12
noncomputable abbrev words_Join_c15 : Code := Code.fst words_Join_c13
noncomputable abbrev words_Join_c16 : Code := Code.snd words_Join_c13
noncomputable abbrev words_Join_c17 : Code := Code.fst words_Join_c14
noncomputable abbrev words_Join_c18 : Code := Code.snd words_Join_c14
noncomputable abbrev words_Join_c19 : Code := Code.fst words_Join_c17
noncomputable abbrev words_Join_c20 : Code := Code.fst words_Join_c19
noncomputable abbrev words_Join_c21 : Code := Code.snd words_Join_c19
noncomputable abbrev words_Join_c22 : Code := Code.fst words_Join_c21
noncomputable abbrev words_Join_c23 : Code := Code.snd words_Join_c21
noncomputable abbrev words_Join_c24 : Code := Code.fst words_Join_c22
noncomputable abbrev words_Join_c25 : Code := Code.snd words_Join_c22
noncomputable abbrev words_Join_c26 : Code := Code.fst words_Join_c25
noncomputable abbrev words_Join_c27 : Code := Code.snd words_Join_c25
noncomputable abbrev words_Join_c28 : Code := Code.fst words_Join_c26
noncomputable abbrev words_Join_c29 : Code := Code.snd words_Join_c26
noncomputable abbrev words_Join_c30 : Code := Code.fst words_Join_c6
noncomputable abbrev words_Join_c31 : Code := Code.snd words_Join_c6
abbrev words_Join_R (w : World) (F : Nat → Prop) (r : ByteArray) : Ending → World → Prop := fun e w' => e = .returned (.string r) ∧ B.Loc w w' [] [St w []]
noncomputable abbrev words_Join_C (w : World) (F : Nat → Prop) (r : ByteArray) : Cx := ⟨Tryd.prog, 12, Tryd.f12, 23, words_Join_R w F  r, w⟩
theorem words_Join_calls (w : World) (F : Nat → Prop) (x1 : List api_Word) (A2 : Option Addr) (n3 : Nat) (c4 : Nat) (h5 : Rw k_api_Word w (St w []).av A2 n3 c4 x1) (hG : Tb Tryd.prog (St w [])) (hF : ∀ b, F b → b < w.heap.size ∧ ∀ o ∈ ([] : List (List Nat)), b ∉ o) (hL0 : B.Loc w w [] [Sm w.heap.size F w [], St w []]) (r : ByteArray) (h : words_Join x1 r) : Calls Tryd.prog 12 #[.slice A2 n3 c4] w (words_Join_R w F  r) := by
  unfold words_Join at h
  refine calls_of_Loc (vs := [.slice A2 n3 c4]) 23 Tryd.func12 rfl Tryd.ntmps12 rfl hL0 ?_
  show G (words_Join_C w F r) _ _ _ _
  refine g_seq (c := words_Join_c0) rfl ?_
  refine g_region (c := words_Join_c1) rfl rfl ?_
  refine wl_v 0 rfl (v_assign rfl) gn rfl ?_
  refine w_end 1 rfl ?_
  refine g_seq (c := words_Join_c2) rfl ?_
  refine g_region (c := words_Join_c3) rfl rfl ?_
  refine wl_v 0 rfl (v_assign rfl) gn rfl ?_
  refine w_end 1 rfl ?_
  refine g_seq (c := words_Join_c4) rfl ?_
  refine g_seq (c := words_Join_c5) rfl ?_
  refine g_region (c := words_Join_c7) rfl rfl ?_
  refine wl_v 0 rfl (v_move rfl) gn rfl ?_
  refine wl_v 1 rfl (v_lenQ un_22 rfl h5.hq) gn rfl ?_
  refine wl_v 2 rfl (v_move rfl) gn rfl ?_
  refine w_end 3 rfl ?_
  refine g_block (c := words_Join_c8) rfl ?_
  refine g_loop (c := words_Join_c9) rfl ?_
  have key1 : ∀ s, Rounds (fun (s : (List ByteArray) × Int) o => words_Join_b1 x1 s.1 s.2 o) s r → (fun (s : (List ByteArray) × Int) => ∀ (A48 : Option Addr) (n49 : Nat) (c50 : Nat) (h51 : Ow w.heap.size A48 n49 c50 s.1), G (words_Join_C w F r) [.code words_Join_c10, .inLoop words_Join_c10, .inBlock 0, .code words_Join_c6] [(3, .slice A48 n49 c50), (6, .slice A2 n3 c4), (7, .int .i64 (x1.length : Int)), (8, .int .i64 s.2)] [.own (.slice A48 n49 c50) 9 1 n49 (s.1.flatMap eS)] [Sm w.heap.size F w [], St w []]) s := by
    intro s hs
    refine Rounds.ind (mot := (fun (s : (List ByteArray) × Int) => ∀ (A48 : Option Addr) (n49 : Nat) (c50 : Nat) (h51 : Ow w.heap.size A48 n49 c50 s.1), G (words_Join_C w F r) [.code words_Join_c10, .inLoop words_Join_c10, .inBlock 0, .code words_Join_c6] [(3, .slice A48 n49 c50), (6, .slice A2 n3 c4), (7, .int .i64 (x1.length : Int)), (8, .int .i64 s.2)] [.own (.slice A48 n49 c50) 9 1 n49 (s.1.flatMap eS)] [Sm w.heap.size F w [], St w []])) ?_ hs
    clear hs s
    intro s o1 h hO1
    obtain ⟨x47, x52⟩ := s
    show ∀ (A48 : Option Addr) (n49 : Nat) (c50 : Nat) (h51 : Ow w.heap.size A48 n49 c50 x47), G (words_Join_C w F r) [.code words_Join_c10, .inLoop words_Join_c10, .inBlock 0, .code words_Join_c6] [(3, .slice A48 n49 c50), (6, .slice A2 n3 c4), (7, .int .i64 (x1.length : Int)), (8, .int .i64 x52)] [.own (.slice A48 n49 c50) 9 1 n49 (x47.flatMap eS)] [Sm w.heap.size F w [], St w []]
    intro A48 n49 c50 h51
    have h : words_Join_b1 x1 x47 x52 o1 := h
    unfold words_Join_b1 at h
    refine g_seq (c := words_Join_c10) rfl ?_
    refine g_region (c := words_Join_c11) rfl rfl ?_
    refine wl_v 0 rfl (v_bin rfl rfl rfl) gn rfl ?_
    refine w_end 1 rfl ?_
    refine g_seq (c := words_Join_c12) rfl ?_
    by_cases hp92 : x52 < (x1.length : Int)
    · have h := if_pos' hp92 h
      refine g_true (c := words_Join_c13) rfl _ rfl ((decide_eq_true hp92)) ?_
      refine g_skip (c := words_Join_c15) rfl ?_
      refine g_seq (c := words_Join_c14) rfl ?_
      refine g_block (c := words_Join_c17) rfl ?_
      refine g_seq (c := words_Join_c19) rfl ?_
      refine g_region (c := words_Join_c20) rfl rfl ?_
      obtain ⟨hb93, h⟩ := h
      have hr94 := Rw.readF (s := St w []) (hl := hl_api_Word) (h1 := h1_api_Word) h5 hb93
      refine wl_v 0 rfl (v_idxR (s := St w []) slE_22 rfl rfl h5 hb93) gn rfl ?_
      refine wl_v 1 rfl (v_ldA (St w []) ld_27 rfl hr94 rfl (me 1 rfl)) gn rfl ?_
      refine wl_s 2 rfl (s_alloc [.int .i64 0, .string (⟨#[]⟩ : ByteArray), .int .i64 0, .int .i64 0] zr_27 rfl fun gb95 => ?_) gn
      refine wl_s 3 rfl (s_stB (vs := [.int .i64 ((ix x1 x52).kind), .string ((ix x1 x52).text), .int .i64 ((ix x1 x52).n), .int .i64 ((ix x1 x52).at_)]) (cs' := [.int .i64 ((ix x1 x52).kind), .string ((ix x1 x52).text), .int .i64 ((ix x1 x52).n), .int .i64 ((ix x1 x52).at_)]) (M' := [.box gb95 27 [.int .i64 ((ix x1 x52).kind), .string ((ix x1 x52).text), .int .i64 ((ix x1 x52).n), .int .i64 ((ix x1 x52).at_)], .own (.slice A48 n49 c50) 9 1 n49 (x47.flatMap eS)]) 0 sz_27 rfl rfl rfl rfl rfl rfl rfl rfl rfl ?_) gn
      refine w_end 4 rfl ?_
      refine g_seq (c := words_Join_c21) rfl ?_
      refine g_seq (c := words_Join_c22) rfl ?_
      refine g_region (c := words_Join_c24) rfl rfl ?_
      refine wl_v 0 rfl (v_ldB [.int .i64 ((ix x1 x52).kind), .string ((ix x1 x52).text), .int .i64 ((ix x1 x52).n), .int .i64 ((ix x1 x52).at_)] 0 ld_27 rfl rfl rfl rfl) gn rfl ?_
      obtain ⟨r100, hv101, h⟩ := h
      refine wl_s 1 rfl (s_call [.agg #[.int .i64 ((ix x1 x52).kind), .string ((ix x1 x52).text), .int .i64 ((ix x1 x52).n), .int .i64 ((ix x1 x52).at_)]] rfl Tryd.func19 rfl rfl rfl fun w97 hL98 => ?_) gn
      have hp99 : List.Perm ([.box gb95 27 [.int .i64 ((ix x1 x52).kind), .string ((ix x1 x52).text), .int .i64 ((ix x1 x52).n), .int .i64 ((ix x1 x52).at_)], .own (.slice A48 n49 c50) 9 1 n49 (x47.flatMap eS)] : List Ent) (([] : List Ent) ++ ([.box gb95 27 [.int .i64 ((ix x1 x52).kind), .string ((ix x1 x52).text), .int .i64 ((ix x1 x52).n), .int .i64 ((ix x1 x52).at_)], .own (.slice A48 n49 c50) 9 1 n49 (x47.flatMap eS)] : List Ent)) := perm_of_idx [] [0, 1] rfl rfl (by kernel_rfl)
      refine Calls.mono (words_sound_calls w97 (Fl ([] : List Snap)) (ix x1 x52) (hL98.hFl (Sl := ([] : List Snap)) hp99 (sels [] rfl)) (hL98.into hp99 (Fl ([] : List Snap))) r100 hv101) ?_
      rintro _ w102 ⟨rfl, hM103⟩
      have hL104 := hL98.call hp99 hM103
      refine ⟨_, _, _, rfl, hL104, ?_⟩
      refine wl_v 2 rfl (v_not rfl) gn rfl ?_
      refine w_end 3 rfl ?_
      by_cases hp105 : r100 = true
      · have h := if_pos' hp105 h
        refine g_false (c := words_Join_c25) rfl _ rfl ((nf hp105)) ?_
        refine g_skip (c := words_Join_c27) rfl ?_
        refine g_region (c := words_Join_c23) rfl rfl ?_
        refine wl_v 0 rfl (v_move rfl) gn rfl ?_
        refine wl_v 1 rfl (v_ldB [.int .i64 ((ix x1 x52).kind), .string ((ix x1 x52).text), .int .i64 ((ix x1 x52).n), .int .i64 ((ix x1 x52).at_)] 0 ld_27 rfl rfl rfl rfl) gn rfl ?_
        obtain ⟨r109, hv110, h⟩ := h
        refine wl_s 2 rfl (s_call [.agg #[.int .i64 ((ix x1 x52).kind), .string ((ix x1 x52).text), .int .i64 ((ix x1 x52).n), .int .i64 ((ix x1 x52).at_)]] rfl Tryd.func9 rfl rfl rfl fun w106 hL107 => ?_) gn
        have hp108 : List.Perm ([.box gb95 27 [.int .i64 ((ix x1 x52).kind), .string ((ix x1 x52).text), .int .i64 ((ix x1 x52).n), .int .i64 ((ix x1 x52).at_)], .own (.slice A48 n49 c50) 9 1 n49 (x47.flatMap eS)] : List Ent) (([] : List Ent) ++ ([.box gb95 27 [.int .i64 ((ix x1 x52).kind), .string ((ix x1 x52).text), .int .i64 ((ix x1 x52).n), .int .i64 ((ix x1 x52).at_)], .own (.slice A48 n49 c50) 9 1 n49 (x47.flatMap eS)] : List Ent)) := perm_of_idx [] [0, 1] rfl rfl (by kernel_rfl)
        refine Calls.mono (words_Spell_calls w106 (Fl ([] : List Snap)) (ix x1 x52) (hL107.tb hp108 hG (me 1 rfl)) (hL107.hFl (Sl := ([] : List Snap)) hp108 (sels [] rfl)) (hL107.into hp108 (Fl ([] : List Snap))) r109 hv110) ?_
        rintro _ w111 ⟨rfl, hM112⟩
        have hL113 := hL107.call hp108 hM112
        refine ⟨_, _, _, rfl, hL113, ?_⟩
        refine wl_s 3 rfl (s_litO (xs := ([r109] : List ByteArray)) [.string r109] bs_41_1 rfl (by kernel_rfl) rfl rfl rfl rfl fun gb115 h116 => ?_) gn
        obtain ⟨x120, hv121, h⟩ := h
        obtain ⟨hb122, h⟩ := h
        refine wl_s 4 rfl (s_app (zs := x120) (cells' := x120.flatMap eS) 2 ap_41 rfl rfl rfl h51 (Nat.le_refl _) (Src.ownF (hl := hlS) (h1 := hone_str) 0 rfl h116) (by rw [hv121, List.flatMap_append] <;> rfl) (app_len hv121 h116.hq) hb122 rfl rfl fun A117 c118 h119 => ?_) gn
        refine wl_v 5 rfl (v_assign rfl) gn rfl ?_
        refine w_end 6 rfl ?_
        refine g_inBlock ?_
        refine g_region (c := words_Join_c18) rfl rfl ?_
        refine wl_v 0 rfl (v_bin rfl rfl rfl) gn rfl ?_
        refine wl_v 1 rfl (v_move rfl) gn rfl ?_
        refine w_end 2 rfl ?_
        refine g_inLoop ?_
        have ih := Out.inl hO1 h
        exact g_go [0, 1] (ih A117 (n49 + 1) c118 h119) ⟨rfl, rfl, rfl, rfl, trivial⟩ (.cons _ (.cons _ (.cons_cons _ (.slnil)))) rfl
      · have h := if_neg' hp105 h
        refine g_true (c := words_Join_c25) rfl _ rfl ((nt (bf hp105))) ?_
        refine g_seq (c := words_Join_c26) rfl ?_
        refine g_region (c := words_Join_c28) rfl rfl ?_
        refine wl_v 0 rfl (v_assign rfl) gn rfl ?_
        refine w_end 1 rfl ?_
        have h := Out.inr hO1 h
        refine g_retR (c := words_Join_c29) [.string (⟨#[]⟩ : ByteArray)] rfl Tryd.func12 rfl (.tmp rfl (.nil)) fun wr hLr => ?_
        have hMr : B.Loc w wr [] [St w []] := hLr.pick (rest := [.box gb95 27 [.int .i64 ((ix x1 x52).kind), .string ((ix x1 x52).text), .int .i64 ((ix x1 x52).n), .int .i64 ((ix x1 x52).at_)], .own (.slice A48 n49 c50) 9 1 n49 (x47.flatMap eS)]) (perm_of_idx [] [0, 1] rfl rfl (by kernel_rfl)) (sels [1] rfl)
        have hMi : ∀ e ∈ ([] : List Ent), e ∈ ([.box gb95 27 [.int .i64 ((ix x1 x52).kind), .string ((ix x1 x52).text), .int .i64 ((ix x1 x52).n), .int .i64 ((ix x1 x52).at_)], .own (.slice A48 n49 c50) 9 1 n49 (x47.flatMap eS)] : List Ent) := sels [] rfl
        show words_Join_R w F  r (.returned (packV [.string (⟨#[]⟩ : ByteArray)])) wr
        rw [h]
        exact ⟨rfl, hMr⟩
    · have h := if_neg' hp92 h
      refine g_false (c := words_Join_c13) rfl _ rfl ((decide_eq_false hp92)) ?_
      refine g_exit (c := words_Join_c16) [.code words_Join_c6] rfl rfl ?_
      refine g_seq (c := words_Join_c6) rfl ?_
      refine g_region (c := words_Join_c30) rfl rfl ?_
      refine wl_v 0 rfl (v_move rfl) gn rfl ?_
      obtain ⟨r126, hv127, h⟩ := h
      refine wl_s 1 rfl (s_call [.slice A48 n49 c50, .string (⟨#[32]⟩ : ByteArray)] rfl Tryd.func24 rfl rfl rfl fun w123 hL124 => ?_) gn
      have hp125 : List.Perm ([.own (.slice A48 n49 c50) 9 1 n49 (x47.flatMap eS)] : List Ent) (([] : List Ent) ++ ([.own (.slice A48 n49 c50) 9 1 n49 (x47.flatMap eS)] : List Ent)) := perm_of_idx [] [0] rfl rfl (by kernel_rfl)
      refine Calls.mono (strings_Join_calls w123 (Fl ([] : List Snap)) x47 (⟨#[32]⟩ : ByteArray) A48 n49 c50 (hL124.argO (dk := kStr) hp125 [] rfl 0 rfl rfl h51 (me 0 rfl) (Cells.flat _)) (hL124.hFl (Sl := ([] : List Snap)) hp125 (sels [] rfl)) (hL124.into hp125 (Fl ([] : List Snap))) r126 hv127) ?_
      rintro _ w128 ⟨rfl, hM129⟩
      have hL130 := hL124.call hp125 hM129
      refine ⟨_, _, _, rfl, hL130, ?_⟩
      refine wl_v 2 rfl (v_assign rfl) gn rfl ?_
      refine w_end 3 rfl ?_
      have h := Out.inr hO1 h
      refine g_retR (c := words_Join_c31) [.string r126] rfl Tryd.func12 rfl (.tmp rfl (.nil)) fun wr hLr => ?_
      have hMr : B.Loc w wr [] [St w []] := hLr.pick (rest := [.own (.slice A48 n49 c50) 9 1 n49 (x47.flatMap eS)]) (perm_of_idx [] [0] rfl rfl (by kernel_rfl)) (sels [1] rfl)
      have hMi : ∀ e ∈ ([] : List Ent), e ∈ ([.own (.slice A48 n49 c50) 9 1 n49 (x47.flatMap eS)] : List Ent) := sels [] rfl
      show words_Join_R w F  r (.returned (packV [.string r126])) wr
      rw [h]
      exact ⟨rfl, hMr⟩
  refine g_nil 9 1 ?_
  exact g_go [0, 1] (key1 _ h none 0 0 (Ow.nil (z := w.heap.size))) ⟨rfl, rfl, rfl, rfl, trivial⟩ (.cons_cons _ (.slnil)) rfl
noncomputable abbrev trellisref8_Join_c0 : Code := bodyOf Tryd.f13
noncomputable abbrev trellisref8_Join_c1 : Code := Code.fst trellisref8_Join_c0
noncomputable abbrev trellisref8_Join_c2 : Code := Code.snd trellisref8_Join_c0
noncomputable abbrev trellisref8_Join_c3 : Code := Code.fst trellisref8_Join_c2
noncomputable abbrev trellisref8_Join_c4 : Code := Code.snd trellisref8_Join_c2
noncomputable abbrev trellisref8_Join_c5 : Code := Code.fst trellisref8_Join_c4
noncomputable abbrev trellisref8_Join_c6 : Code := Code.snd trellisref8_Join_c4
noncomputable abbrev trellisref8_Join_c7 : Code := Code.fst trellisref8_Join_c5
noncomputable abbrev trellisref8_Join_c8 : Code := Code.snd trellisref8_Join_c5
noncomputable abbrev trellisref8_Join_c9 : Code := Code.fst trellisref8_Join_c8
noncomputable abbrev trellisref8_Join_c10 : Code := Code.fst trellisref8_Join_c9
noncomputable abbrev trellisref8_Join_c11 : Code := Code.fst trellisref8_Join_c10
noncomputable abbrev trellisref8_Join_c12 : Code := Code.snd trellisref8_Join_c10
noncomputable abbrev trellisref8_Join_c13 : Code := Code.fst trellisref8_Join_c11
noncomputable abbrev trellisref8_Join_c14 : Code := Code.snd trellisref8_Join_c11
noncomputable abbrev trellisref8_Join_c15 : Code := Code.fst trellisref8_Join_c14
noncomputable abbrev trellisref8_Join_c16 : Code := Code.snd trellisref8_Join_c14
noncomputable abbrev trellisref8_Join_c17 : Code := Code.fst trellisref8_Join_c12
noncomputable abbrev trellisref8_Join_c18 : Code := Code.snd trellisref8_Join_c12
noncomputable abbrev trellisref8_Join_c19 : Code := Code.fst trellisref8_Join_c17
noncomputable abbrev trellisref8_Join_c20 : Code := Code.fst trellisref8_Join_c19
noncomputable abbrev trellisref8_Join_c21 : Code := Code.snd trellisref8_Join_c19
noncomputable abbrev trellisref8_Join_c22 : Code := Code.fst trellisref8_Join_c20
noncomputable abbrev trellisref8_Join_c23 : Code := Code.snd trellisref8_Join_c20
noncomputable abbrev trellisref8_Join_c24 : Code := Code.fst trellisref8_Join_c23
noncomputable abbrev trellisref8_Join_c25 : Code := Code.snd trellisref8_Join_c23
noncomputable abbrev trellisref8_Join_c26 : Code := Code.fst trellisref8_Join_c21
noncomputable abbrev trellisref8_Join_c27 : Code := Code.snd trellisref8_Join_c21
noncomputable abbrev trellisref8_Join_c28 : Code := Code.fst trellisref8_Join_c26
noncomputable abbrev trellisref8_Join_c29 : Code := Code.snd trellisref8_Join_c26
noncomputable abbrev trellisref8_Join_c30 : Code := Code.fst trellisref8_Join_c29
noncomputable abbrev trellisref8_Join_c31 : Code := Code.snd trellisref8_Join_c29
noncomputable abbrev trellisref8_Join_c32 : Code := Code.fst trellisref8_Join_c24
noncomputable abbrev trellisref8_Join_c33 : Code := Code.snd trellisref8_Join_c24
noncomputable abbrev trellisref8_Join_c34 : Code := Code.fst trellisref8_Join_c6
noncomputable abbrev trellisref8_Join_c35 : Code := Code.snd trellisref8_Join_c6
abbrev trellisref8_Join_R (w : World) (F : Nat → Prop) (r : ByteArray) : Ending → World → Prop := fun e w' => e = .returned (.string r) ∧ B.Loc w w' [] [St w []]
noncomputable abbrev trellisref8_Join_C (w : World) (F : Nat → Prop) (r : ByteArray) : Cx := ⟨Tryd.prog, 13, Tryd.f13, 29, trellisref8_Join_R w F  r, w⟩
theorem trellisref8_Join_calls (w : World) (F : Nat → Prop) (x1 : List api_Word) (A2 : Option Addr) (n3 : Nat) (c4 : Nat) (h5 : Rw k_api_Word w (St w []).av A2 n3 c4 x1) (hG : Tb Tryd.prog (St w [])) (hF : ∀ b, F b → b < w.heap.size ∧ ∀ o ∈ ([] : List (List Nat)), b ∉ o) (hL0 : B.Loc w w [] [Sm w.heap.size F w [], St w []]) (r : ByteArray) (h : trellisref8_Join x1 r) : Calls Tryd.prog 13 #[.slice A2 n3 c4] w (trellisref8_Join_R w F  r) := by
  unfold trellisref8_Join at h
  refine calls_of_Loc (vs := [.slice A2 n3 c4]) 29 Tryd.func13 rfl Tryd.ntmps13 rfl hL0 ?_
  show G (trellisref8_Join_C w F r) _ _ _ _
  refine g_seq (c := trellisref8_Join_c0) rfl ?_
  refine g_region (c := trellisref8_Join_c1) rfl rfl ?_
  refine wl_v 0 rfl (v_assign rfl) gn rfl ?_
  refine w_end 1 rfl ?_
  refine g_seq (c := trellisref8_Join_c2) rfl ?_
  refine g_region (c := trellisref8_Join_c3) rfl rfl ?_
  refine wl_v 0 rfl (v_assign rfl) gn rfl ?_
  refine w_end 1 rfl ?_
  refine g_seq (c := trellisref8_Join_c4) rfl ?_
  refine g_seq (c := trellisref8_Join_c5) rfl ?_
  refine g_region (c := trellisref8_Join_c7) rfl rfl ?_
  refine wl_v 0 rfl (v_assign rfl) gn rfl ?_
  refine w_end 1 rfl ?_
  refine g_block (c := trellisref8_Join_c8) rfl ?_
  refine g_loop (c := trellisref8_Join_c9) rfl ?_
  have key1 : ∀ s, Rounds (fun (s : ByteArray × Int) o => trellisref8_Join_b1 x1 s.1 s.2 o) s r → (fun (s : ByteArray × Int) => ∀ (_ : Unit), G (trellisref8_Join_C w F r) [.code trellisref8_Join_c10, .inLoop trellisref8_Join_c10, .inBlock 0, .code trellisref8_Join_c6] [(0, .slice A2 n3 c4), (3, .string s.1), (4, .int .i64 s.2)] [] [Sm w.heap.size F w [], St w []]) s := by
    intro s hs
    refine Rounds.ind (mot := (fun (s : ByteArray × Int) => ∀ (_ : Unit), G (trellisref8_Join_C w F r) [.code trellisref8_Join_c10, .inLoop trellisref8_Join_c10, .inBlock 0, .code trellisref8_Join_c6] [(0, .slice A2 n3 c4), (3, .string s.1), (4, .int .i64 s.2)] [] [Sm w.heap.size F w [], St w []])) ?_ hs
    clear hs s
    intro s o1 h hO1
    obtain ⟨x29, x30⟩ := s
    show ∀ (_ : Unit), G (trellisref8_Join_C w F r) [.code trellisref8_Join_c10, .inLoop trellisref8_Join_c10, .inBlock 0, .code trellisref8_Join_c6] [(0, .slice A2 n3 c4), (3, .string x29), (4, .int .i64 x30)] [] [Sm w.heap.size F w [], St w []]
    intro _
    have h : trellisref8_Join_b1 x1 x29 x30 o1 := h
    unfold trellisref8_Join_b1 at h
    refine g_seq (c := trellisref8_Join_c10) rfl ?_
    refine g_seq (c := trellisref8_Join_c11) rfl ?_
    refine g_region (c := trellisref8_Join_c13) rfl rfl ?_
    refine wl_v 0 rfl (v_move rfl) gn rfl ?_
    refine wl_v 1 rfl (v_move rfl) gn rfl ?_
    refine wl_v 2 rfl (v_lenQ un_22 rfl h5.hq) gn rfl ?_
    refine wl_v 3 rfl (v_bin rfl rfl rfl) gn rfl ?_
    refine w_end 4 rfl ?_
    by_cases hp65 : x30 < (x1.length : Int)
    · have h := if_pos' hp65 h
      refine g_true (c := trellisref8_Join_c14) rfl _ rfl ((decide_eq_true hp65)) ?_
      refine g_skip (c := trellisref8_Join_c15) rfl ?_
      refine g_seq (c := trellisref8_Join_c12) rfl ?_
      refine g_block (c := trellisref8_Join_c17) rfl ?_
      refine g_seq (c := trellisref8_Join_c19) rfl ?_
      refine g_seq (c := trellisref8_Join_c20) rfl ?_
      refine g_region (c := trellisref8_Join_c22) rfl rfl ?_
      refine wl_v 0 rfl (v_move rfl) gn rfl ?_
      refine wl_v 1 rfl (v_move rfl) gn rfl ?_
      obtain ⟨hb66, h⟩ := h
      have hr67 := Rw.readF (s := St w []) (hl := hl_api_Word) (h1 := h1_api_Word) h5 hb66
      refine wl_v 2 rfl (v_idxR (s := St w []) slE_22 rfl rfl h5 hb66) gn rfl ?_
      refine wl_v 3 rfl (v_ldA (St w []) ld_27 rfl hr67 rfl (me 1 rfl)) gn rfl ?_
      obtain ⟨r71, hv72, h⟩ := h
      refine wl_s 4 rfl (s_call [.agg #[.int .i64 ((ix x1 x30).kind), .string ((ix x1 x30).text), .int .i64 ((ix x1 x30).n), .int .i64 ((ix x1 x30).at_)]] rfl Tryd.func22 rfl rfl rfl fun w68 hL69 => ?_) gn
      have hp70 : List.Perm ([] : List Ent) (([] : List Ent) ++ ([] : List Ent)) := perm_of_idx [] [] rfl rfl (by kernel_rfl)
      refine Calls.mono (trellisref8_Sound_calls w68 (Fl ([] : List Snap)) (ix x1 x30) (hL69.hFl (Sl := ([] : List Snap)) hp70 (sels [] rfl)) (hL69.into hp70 (Fl ([] : List Snap))) r71 hv72) ?_
      rintro _ w73 ⟨rfl, hM74⟩
      have hL75 := hL69.call hp70 hM74
      refine ⟨_, _, _, rfl, hL75, ?_⟩
      refine wl_v 5 rfl (v_not rfl) gn rfl ?_
      refine w_end 6 rfl ?_
      by_cases hp76 : r71 = true
      · have h := if_pos' hp76 h
        refine g_false (c := trellisref8_Join_c23) rfl _ rfl ((nf hp76)) ?_
        refine g_skip (c := trellisref8_Join_c25) rfl ?_
        refine g_seq (c := trellisref8_Join_c21) rfl ?_
        refine g_seq (c := trellisref8_Join_c26) rfl ?_
        refine g_region (c := trellisref8_Join_c28) rfl rfl ?_
        refine wl_v 0 rfl (v_move rfl) gn rfl ?_
        refine wl_v 1 rfl (v_bin rfl rfl rfl) gn rfl ?_
        refine w_end 2 rfl ?_
        by_cases hp77 : x30 > 0
        · have h := if_pos' hp77 h
          refine g_true (c := trellisref8_Join_c29) rfl _ rfl ((decide_eq_true hp77)) ?_
          refine g_region (c := trellisref8_Join_c30) rfl rfl ?_
          refine wl_v 0 rfl (v_move rfl) gn rfl ?_
          obtain ⟨hb78, h⟩ := h
          refine wl_v 1 rfl (v_catS rfl rfl hb78) gn rfl ?_
          refine wl_v 2 rfl (v_assign rfl) gn rfl ?_
          refine w_end 3 rfl ?_
          refine g_region (c := trellisref8_Join_c27) rfl rfl ?_
          refine wl_v 0 rfl (v_move rfl) gn rfl ?_
          refine wl_v 1 rfl (v_move rfl) gn rfl ?_
          refine wl_v 2 rfl (v_move rfl) gn rfl ?_
          have hr79 := Rw.readF (s := St w []) (hl := hl_api_Word) (h1 := h1_api_Word) h5 hb66
          refine wl_v 3 rfl (v_idxR (s := St w []) slE_22 rfl rfl h5 hb66) gn rfl ?_
          refine wl_v 4 rfl (v_ldA (St w []) ld_27 rfl hr79 rfl (me 1 rfl)) gn rfl ?_
          obtain ⟨r83, hv84, h⟩ := h
          refine wl_s 5 rfl (s_call [.agg #[.int .i64 ((ix x1 x30).kind), .string ((ix x1 x30).text), .int .i64 ((ix x1 x30).n), .int .i64 ((ix x1 x30).at_)]] rfl Tryd.func10 rfl rfl rfl fun w80 hL81 => ?_) gn
          have hp82 : List.Perm ([] : List Ent) (([] : List Ent) ++ ([] : List Ent)) := perm_of_idx [] [] rfl rfl (by kernel_rfl)
          refine Calls.mono (trellisref8_Spell_calls w80 (Fl ([] : List Snap)) (ix x1 x30) (hL81.tb hp82 hG (me 1 rfl)) (hL81.hFl (Sl := ([] : List Snap)) hp82 (sels [] rfl)) (hL81.into hp82 (Fl ([] : List Snap))) r83 hv84) ?_
          rintro _ w85 ⟨rfl, hM86⟩
          have hL87 := hL81.call hp82 hM86
          refine ⟨_, _, _, rfl, hL87, ?_⟩
          obtain ⟨hb88, h⟩ := h
          refine wl_v 6 rfl (v_catS rfl rfl hb88) gn rfl ?_
          refine wl_v 7 rfl (v_assign rfl) gn rfl ?_
          refine w_end 8 rfl ?_
          refine g_inBlock ?_
          refine g_region (c := trellisref8_Join_c18) rfl rfl ?_
          refine wl_v 0 rfl (v_move rfl) gn rfl ?_
          refine wl_v 1 rfl (v_bin rfl rfl rfl) gn rfl ?_
          refine wl_v 2 rfl (v_assign rfl) gn rfl ?_
          refine w_end 3 rfl ?_
          refine g_inLoop ?_
          have ih := Out.inl hO1 h
          exact g_go [0, 1] (ih ()) ⟨rfl, rfl, rfl, trivial⟩ (.slnil) rfl
        · have h := if_neg' hp77 h
          refine g_false (c := trellisref8_Join_c29) rfl _ rfl ((decide_eq_false hp77)) ?_
          refine g_skip (c := trellisref8_Join_c31) rfl ?_
          refine g_region (c := trellisref8_Join_c27) rfl rfl ?_
          refine wl_v 0 rfl (v_move rfl) gn rfl ?_
          refine wl_v 1 rfl (v_move rfl) gn rfl ?_
          refine wl_v 2 rfl (v_move rfl) gn rfl ?_
          have hr89 := Rw.readF (s := St w []) (hl := hl_api_Word) (h1 := h1_api_Word) h5 hb66
          refine wl_v 3 rfl (v_idxR (s := St w []) slE_22 rfl rfl h5 hb66) gn rfl ?_
          refine wl_v 4 rfl (v_ldA (St w []) ld_27 rfl hr89 rfl (me 1 rfl)) gn rfl ?_
          obtain ⟨r93, hv94, h⟩ := h
          refine wl_s 5 rfl (s_call [.agg #[.int .i64 ((ix x1 x30).kind), .string ((ix x1 x30).text), .int .i64 ((ix x1 x30).n), .int .i64 ((ix x1 x30).at_)]] rfl Tryd.func10 rfl rfl rfl fun w90 hL91 => ?_) gn
          have hp92 : List.Perm ([] : List Ent) (([] : List Ent) ++ ([] : List Ent)) := perm_of_idx [] [] rfl rfl (by kernel_rfl)
          refine Calls.mono (trellisref8_Spell_calls w90 (Fl ([] : List Snap)) (ix x1 x30) (hL91.tb hp92 hG (me 1 rfl)) (hL91.hFl (Sl := ([] : List Snap)) hp92 (sels [] rfl)) (hL91.into hp92 (Fl ([] : List Snap))) r93 hv94) ?_
          rintro _ w95 ⟨rfl, hM96⟩
          have hL97 := hL91.call hp92 hM96
          refine ⟨_, _, _, rfl, hL97, ?_⟩
          obtain ⟨hb98, h⟩ := h
          refine wl_v 6 rfl (v_catS rfl rfl hb98) gn rfl ?_
          refine wl_v 7 rfl (v_assign rfl) gn rfl ?_
          refine w_end 8 rfl ?_
          refine g_inBlock ?_
          refine g_region (c := trellisref8_Join_c18) rfl rfl ?_
          refine wl_v 0 rfl (v_move rfl) gn rfl ?_
          refine wl_v 1 rfl (v_bin rfl rfl rfl) gn rfl ?_
          refine wl_v 2 rfl (v_assign rfl) gn rfl ?_
          refine w_end 3 rfl ?_
          refine g_inLoop ?_
          have ih := Out.inl hO1 h
          exact g_go [0, 1] (ih ()) ⟨rfl, rfl, rfl, trivial⟩ (.slnil) rfl
      · have h := if_neg' hp76 h
        refine g_true (c := trellisref8_Join_c23) rfl _ rfl ((nt (bf hp76))) ?_
        refine g_seq (c := trellisref8_Join_c24) rfl ?_
        refine g_region (c := trellisref8_Join_c32) rfl rfl ?_
        refine wl_v 0 rfl (v_assign rfl) gn rfl ?_
        refine w_end 1 rfl ?_
        have h := Out.inr hO1 h
        refine g_retR (c := trellisref8_Join_c33) [.string (⟨#[]⟩ : ByteArray)] rfl Tryd.func13 rfl (.tmp rfl (.nil)) fun wr hLr => ?_
        have hMr : B.Loc w wr [] [St w []] := hLr.pick (rest := []) (perm_of_idx [] [] rfl rfl (by kernel_rfl)) (sels [1] rfl)
        have hMi : ∀ e ∈ ([] : List Ent), e ∈ ([] : List Ent) := sels [] rfl
        show trellisref8_Join_R w F  r (.returned (packV [.string (⟨#[]⟩ : ByteArray)])) wr
        rw [h]
        exact ⟨rfl, hMr⟩
    · have h := if_neg' hp65 h
      refine g_false (c := trellisref8_Join_c14) rfl _ rfl ((decide_eq_false hp65)) ?_
      refine g_exit (c := trellisref8_Join_c16) [.code trellisref8_Join_c6] rfl rfl ?_
      refine g_seq (c := trellisref8_Join_c6) rfl ?_
      refine g_region (c := trellisref8_Join_c34) rfl rfl ?_
      refine wl_v 0 rfl (v_move rfl) gn rfl ?_
      refine wl_v 1 rfl (v_assign rfl) gn rfl ?_
      refine w_end 2 rfl ?_
      have h := Out.inr hO1 h
      refine g_retR (c := trellisref8_Join_c35) [.string x29] rfl Tryd.func13 rfl (.tmp rfl (.nil)) fun wr hLr => ?_
      have hMr : B.Loc w wr [] [St w []] := hLr.pick (rest := []) (perm_of_idx [] [] rfl rfl (by kernel_rfl)) (sels [1] rfl)
      have hMi : ∀ e ∈ ([] : List Ent), e ∈ ([] : List Ent) := sels [] rfl
      show trellisref8_Join_R w F  r (.returned (packV [.string x29])) wr
      rw [h]
      exact ⟨rfl, hMr⟩
  exact g_go [0, 1] (key1 _ h ()) ⟨rfl, rfl, rfl, trivial⟩ (.slnil) rfl
noncomputable abbrev trellislaw8_sameWord_c0 : Code := bodyOf Tryd.f25
noncomputable abbrev trellislaw8_sameWord_c1 : Code := Code.fst trellislaw8_sameWord_c0
noncomputable abbrev trellislaw8_sameWord_c2 : Code := Code.snd trellislaw8_sameWord_c0
noncomputable abbrev trellislaw8_sameWord_c3 : Code := Code.fst trellislaw8_sameWord_c2
noncomputable abbrev trellislaw8_sameWord_c4 : Code := Code.snd trellislaw8_sameWord_c2
abbrev trellislaw8_sameWord_R (w : World) (F : Nat → Prop) (r : Bool) : Ending → World → Prop := fun e w' => e = .returned (.bool r) ∧ B.Loc w w' [] [St w []]
noncomputable abbrev trellislaw8_sameWord_C (w : World) (F : Nat → Prop) (r : Bool) : Cx := ⟨Tryd.prog, 25, Tryd.f25, 31, trellislaw8_sameWord_R w F  r, w⟩
theorem trellislaw8_sameWord_calls (w : World) (F : Nat → Prop) (x1 : api_Word) (x2 : api_Word) (hF : ∀ b, F b → b < w.heap.size ∧ ∀ o ∈ ([] : List (List Nat)), b ∉ o) (hL0 : B.Loc w w [] [Sm w.heap.size F w [], St w []]) (r : Bool) (h : trellislaw8_sameWord x1 x2 r) : Calls Tryd.prog 25 #[.agg #[.int .i64 x1.kind, .string x1.text, .int .i64 x1.n, .int .i64 x1.at_], .agg #[.int .i64 x2.kind, .string x2.text, .int .i64 x2.n, .int .i64 x2.at_]] w (trellislaw8_sameWord_R w F  r) := by
  unfold trellislaw8_sameWord at h
  refine calls_of_Loc (vs := [.agg #[.int .i64 x1.kind, .string x1.text, .int .i64 x1.n, .int .i64 x1.at_], .agg #[.int .i64 x2.kind, .string x2.text, .int .i64 x2.n, .int .i64 x2.at_]]) 31 Tryd.func25 rfl Tryd.ntmps25 rfl hL0 ?_
  show G (trellislaw8_sameWord_C w F r) _ _ _ _
  refine g_seq (c := trellislaw8_sameWord_c0) rfl ?_
  refine g_region (c := trellislaw8_sameWord_c1) rfl rfl ?_
  refine wl_s 0 rfl (s_box [.int .i64 x1.kind, .string x1.text, .int .i64 x1.n, .int .i64 x1.at_] rfl rfl rfl fun gb3 => ?_) gn
  refine wl_s 1 rfl (s_box [.int .i64 x2.kind, .string x2.text, .int .i64 x2.n, .int .i64 x2.at_] rfl rfl rfl fun gb5 => ?_) gn
  refine wl_v 2 rfl (v_assign rfl) gn rfl ?_
  refine w_end 3 rfl ?_
  refine g_seq (c := trellislaw8_sameWord_c2) rfl ?_
  refine g_region (c := trellislaw8_sameWord_c3) rfl rfl ?_
  refine wl_v 0 rfl (v_fldB fo_27_0 rfl) gn rfl ?_
  refine wl_v 1 rfl (v_ldB1 1 ld_25 rfl rfl rfl) gn rfl ?_
  refine wl_v 2 rfl (v_fldB fo_27_0 rfl) gn rfl ?_
  refine wl_v 3 rfl (v_ldB1 0 ld_25 rfl rfl rfl) gn rfl ?_
  refine wl_v 4 rfl (v_bin rfl rfl rfl) gn rfl ?_
  refine wl_v 5 rfl (v_move rfl) gn rfl ?_
  by_cases hp7 : x1.kind = x2.kind
  · have h := if_pos' hp7 h
    refine w_bool 10 rfl ((eqi hp7)) ?_
    refine wl_v 6 rfl (v_fldB fo_27_1 rfl) (gy 10 rfl rfl) rfl ?_
    refine wl_v 7 rfl (v_ldB1 1 ld_9 rfl rfl rfl) (gy 10 rfl rfl) rfl ?_
    refine wl_v 8 rfl (v_fldB fo_27_1 rfl) (gy 10 rfl rfl) rfl ?_
    refine wl_v 9 rfl (v_ldB1 0 ld_9 rfl rfl rfl) (gy 10 rfl rfl) rfl ?_
    refine wl_v 10 rfl (v_eqS rfl rfl) (gy 10 rfl rfl) rfl ?_
    refine wl_v 11 rfl (v_pick (b := true) rfl rfl) gn rfl ?_
    refine wl_v 12 rfl (v_move rfl) gn rfl ?_
    by_cases hp8 : x1.text = x2.text
    · have h := if_pos' hp8 h
      refine w_bool 17 rfl ((seq_t hp8)) ?_
      refine wl_v 13 rfl (v_fldB fo_27_2 rfl) (gy 17 rfl rfl) rfl ?_
      refine wl_v 14 rfl (v_ldB1 1 ld_3 rfl rfl rfl) (gy 17 rfl rfl) rfl ?_
      refine wl_v 15 rfl (v_fldB fo_27_2 rfl) (gy 17 rfl rfl) rfl ?_
      refine wl_v 16 rfl (v_ldB1 0 ld_3 rfl rfl rfl) (gy 17 rfl rfl) rfl ?_
      refine wl_v 17 rfl (v_bin rfl rfl rfl) (gy 17 rfl rfl) rfl ?_
      refine wl_v 18 rfl (v_pick (b := true) rfl rfl) gn rfl ?_
      refine wl_v 19 rfl (v_move rfl) gn rfl ?_
      by_cases hp9 : x1.n = x2.n
      · have h := if_pos' hp9 h
        refine w_bool 24 rfl ((eqi hp9)) ?_
        refine wl_v 20 rfl (v_fldB fo_27_3 rfl) (gy 24 rfl rfl) rfl ?_
        refine wl_v 21 rfl (v_ldB1 1 ld_3 rfl rfl rfl) (gy 24 rfl rfl) rfl ?_
        refine wl_v 22 rfl (v_fldB fo_27_3 rfl) (gy 24 rfl rfl) rfl ?_
        refine wl_v 23 rfl (v_ldB1 0 ld_3 rfl rfl rfl) (gy 24 rfl rfl) rfl ?_
        refine wl_v 24 rfl (v_bin rfl rfl rfl) (gy 24 rfl rfl) rfl ?_
        refine wl_v 25 rfl (v_pick (b := true) rfl rfl) gn rfl ?_
        refine wl_v 26 rfl (v_assign rfl) gn rfl ?_
        refine w_end 27 rfl ?_
        refine g_retR (c := trellislaw8_sameWord_c4) [.bool (x1.at_ == x2.at_)] rfl Tryd.func25 rfl (.tmp rfl (.nil)) fun wr hLr => ?_
        have hMr : B.Loc w wr [] [St w []] := hLr.pick (rest := [.box gb5 27 [.int .i64 x2.kind, .string x2.text, .int .i64 x2.n, .int .i64 x2.at_], .box gb3 27 [.int .i64 x1.kind, .string x1.text, .int .i64 x1.n, .int .i64 x1.at_]]) (perm_of_idx [] [0, 1] rfl rfl (by kernel_rfl)) (sels [1] rfl)
        have hMi : ∀ e ∈ ([] : List Ent), e ∈ ([.box gb5 27 [.int .i64 x2.kind, .string x2.text, .int .i64 x2.n, .int .i64 x2.at_], .box gb3 27 [.int .i64 x1.kind, .string x1.text, .int .i64 x1.n, .int .i64 x1.at_]] : List Ent) := sels [] rfl
        show trellislaw8_sameWord_R w F  r (.returned (packV [.bool (x1.at_ == x2.at_)])) wr
        rw [h]
        exact ⟨rfl, hMr⟩
      · have h := if_neg' hp9 h
        refine w_bool 24 rfl ((nei hp9)) ?_
        refine wl_pass 20 rfl (ps 24 rfl rfl rfl) ?_
        refine wl_pass 21 rfl (ps 24 rfl rfl rfl) ?_
        refine wl_pass 22 rfl (ps 24 rfl rfl rfl) ?_
        refine wl_pass 23 rfl (ps 24 rfl rfl rfl) ?_
        refine wl_pass 24 rfl (ps 24 rfl rfl rfl) ?_
        refine wl_v 25 rfl (v_pick (b := false) rfl rfl) gn rfl ?_
        refine wl_v 26 rfl (v_assign rfl) gn rfl ?_
        refine w_end 27 rfl ?_
        refine g_retR (c := trellislaw8_sameWord_c4) [.bool false] rfl Tryd.func25 rfl (.tmp rfl (.nil)) fun wr hLr => ?_
        have hMr : B.Loc w wr [] [St w []] := hLr.pick (rest := [.box gb5 27 [.int .i64 x2.kind, .string x2.text, .int .i64 x2.n, .int .i64 x2.at_], .box gb3 27 [.int .i64 x1.kind, .string x1.text, .int .i64 x1.n, .int .i64 x1.at_]]) (perm_of_idx [] [0, 1] rfl rfl (by kernel_rfl)) (sels [1] rfl)
        have hMi : ∀ e ∈ ([] : List Ent), e ∈ ([.box gb5 27 [.int .i64 x2.kind, .string x2.text, .int .i64 x2.n, .int .i64 x2.at_], .box gb3 27 [.int .i64 x1.kind, .string x1.text, .int .i64 x1.n, .int .i64 x1.at_]] : List Ent) := sels [] rfl
        show trellislaw8_sameWord_R w F  r (.returned (packV [.bool false])) wr
        rw [h]
        exact ⟨rfl, hMr⟩
    · have h := if_neg' hp8 h
      refine w_bool 17 rfl ((seq_f hp8)) ?_
      refine wl_pass 13 rfl (ps 17 rfl rfl rfl) ?_
      refine wl_pass 14 rfl (ps 17 rfl rfl rfl) ?_
      refine wl_pass 15 rfl (ps 17 rfl rfl rfl) ?_
      refine wl_pass 16 rfl (ps 17 rfl rfl rfl) ?_
      refine wl_pass 17 rfl (ps 17 rfl rfl rfl) ?_
      refine wl_v 18 rfl (v_pick (b := false) rfl rfl) gn rfl ?_
      refine wl_v 19 rfl (v_move rfl) gn rfl ?_
      refine wl_pass 20 rfl (ps 24 rfl rfl rfl) ?_
      refine wl_pass 21 rfl (ps 24 rfl rfl rfl) ?_
      refine wl_pass 22 rfl (ps 24 rfl rfl rfl) ?_
      refine wl_pass 23 rfl (ps 24 rfl rfl rfl) ?_
      refine wl_pass 24 rfl (ps 24 rfl rfl rfl) ?_
      refine wl_v 25 rfl (v_pick (b := false) rfl rfl) gn rfl ?_
      refine wl_v 26 rfl (v_assign rfl) gn rfl ?_
      refine w_end 27 rfl ?_
      refine g_retR (c := trellislaw8_sameWord_c4) [.bool false] rfl Tryd.func25 rfl (.tmp rfl (.nil)) fun wr hLr => ?_
      have hMr : B.Loc w wr [] [St w []] := hLr.pick (rest := [.box gb5 27 [.int .i64 x2.kind, .string x2.text, .int .i64 x2.n, .int .i64 x2.at_], .box gb3 27 [.int .i64 x1.kind, .string x1.text, .int .i64 x1.n, .int .i64 x1.at_]]) (perm_of_idx [] [0, 1] rfl rfl (by kernel_rfl)) (sels [1] rfl)
      have hMi : ∀ e ∈ ([] : List Ent), e ∈ ([.box gb5 27 [.int .i64 x2.kind, .string x2.text, .int .i64 x2.n, .int .i64 x2.at_], .box gb3 27 [.int .i64 x1.kind, .string x1.text, .int .i64 x1.n, .int .i64 x1.at_]] : List Ent) := sels [] rfl
      show trellislaw8_sameWord_R w F  r (.returned (packV [.bool false])) wr
      rw [h]
      exact ⟨rfl, hMr⟩
  · have h := if_neg' hp7 h
    refine w_bool 10 rfl ((nei hp7)) ?_
    refine wl_pass 6 rfl (ps 10 rfl rfl rfl) ?_
    refine wl_pass 7 rfl (ps 10 rfl rfl rfl) ?_
    refine wl_pass 8 rfl (ps 10 rfl rfl rfl) ?_
    refine wl_pass 9 rfl (ps 10 rfl rfl rfl) ?_
    refine wl_pass 10 rfl (ps 10 rfl rfl rfl) ?_
    refine wl_v 11 rfl (v_pick (b := false) rfl rfl) gn rfl ?_
    refine wl_v 12 rfl (v_move rfl) gn rfl ?_
    refine wl_pass 13 rfl (ps 17 rfl rfl rfl) ?_
    refine wl_pass 14 rfl (ps 17 rfl rfl rfl) ?_
    refine wl_pass 15 rfl (ps 17 rfl rfl rfl) ?_
    refine wl_pass 16 rfl (ps 17 rfl rfl rfl) ?_
    refine wl_pass 17 rfl (ps 17 rfl rfl rfl) ?_
    refine wl_v 18 rfl (v_pick (b := false) rfl rfl) gn rfl ?_
    refine wl_v 19 rfl (v_move rfl) gn rfl ?_
    refine wl_pass 20 rfl (ps 24 rfl rfl rfl) ?_
    refine wl_pass 21 rfl (ps 24 rfl rfl rfl) ?_
    refine wl_pass 22 rfl (ps 24 rfl rfl rfl) ?_
    refine wl_pass 23 rfl (ps 24 rfl rfl rfl) ?_
    refine wl_pass 24 rfl (ps 24 rfl rfl rfl) ?_
    refine wl_v 25 rfl (v_pick (b := false) rfl rfl) gn rfl ?_
    refine wl_v 26 rfl (v_assign rfl) gn rfl ?_
    refine w_end 27 rfl ?_
    refine g_retR (c := trellislaw8_sameWord_c4) [.bool false] rfl Tryd.func25 rfl (.tmp rfl (.nil)) fun wr hLr => ?_
    have hMr : B.Loc w wr [] [St w []] := hLr.pick (rest := [.box gb5 27 [.int .i64 x2.kind, .string x2.text, .int .i64 x2.n, .int .i64 x2.at_], .box gb3 27 [.int .i64 x1.kind, .string x1.text, .int .i64 x1.n, .int .i64 x1.at_]]) (perm_of_idx [] [0, 1] rfl rfl (by kernel_rfl)) (sels [1] rfl)
    have hMi : ∀ e ∈ ([] : List Ent), e ∈ ([.box gb5 27 [.int .i64 x2.kind, .string x2.text, .int .i64 x2.n, .int .i64 x2.at_], .box gb3 27 [.int .i64 x1.kind, .string x1.text, .int .i64 x1.n, .int .i64 x1.at_]] : List Ent) := sels [] rfl
    show trellislaw8_sameWord_R w F  r (.returned (packV [.bool false])) wr
    rw [h]
    exact ⟨rfl, hMr⟩
noncomputable abbrev trellislaw8_same_c0 : Code := bodyOf Tryd.f17
noncomputable abbrev trellislaw8_same_c1 : Code := Code.fst trellislaw8_same_c0
noncomputable abbrev trellislaw8_same_c2 : Code := Code.snd trellislaw8_same_c0
noncomputable abbrev trellislaw8_same_c3 : Code := Code.fst trellislaw8_same_c2
noncomputable abbrev trellislaw8_same_c4 : Code := Code.snd trellislaw8_same_c2
noncomputable abbrev trellislaw8_same_c5 : Code := Code.fst trellislaw8_same_c3
noncomputable abbrev trellislaw8_same_c6 : Code := Code.snd trellislaw8_same_c3
noncomputable abbrev trellislaw8_same_c7 : Code := Code.fst trellislaw8_same_c6
noncomputable abbrev trellislaw8_same_c8 : Code := Code.snd trellislaw8_same_c6
noncomputable abbrev trellislaw8_same_c9 : Code := Code.fst trellislaw8_same_c4
noncomputable abbrev trellislaw8_same_c10 : Code := Code.snd trellislaw8_same_c4
noncomputable abbrev trellislaw8_same_c11 : Code := Code.fst trellislaw8_same_c9
noncomputable abbrev trellislaw8_same_c12 : Code := Code.snd trellislaw8_same_c9
noncomputable abbrev trellislaw8_same_c13 : Code := Code.fst trellislaw8_same_c12
noncomputable abbrev trellislaw8_same_c14 : Code := Code.fst trellislaw8_same_c13
noncomputable abbrev trellislaw8_same_c15 : Code := Code.fst trellislaw8_same_c14
noncomputable abbrev trellislaw8_same_c16 : Code := Code.snd trellislaw8_same_c14
noncomputable abbrev trellislaw8_same_c17 : Code := Code.fst trellislaw8_same_c15
noncomputable abbrev trellislaw8_same_c18 : Code := Code.snd trellislaw8_same_c15
noncomputable abbrev trellislaw8_same_c19 : Code := Code.fst trellislaw8_same_c18
noncomputable abbrev trellislaw8_same_c20 : Code := Code.snd trellislaw8_same_c18
noncomputable abbrev trellislaw8_same_c21 : Code := Code.fst trellislaw8_same_c16
noncomputable abbrev trellislaw8_same_c22 : Code := Code.snd trellislaw8_same_c16
noncomputable abbrev trellislaw8_same_c23 : Code := Code.fst trellislaw8_same_c21
noncomputable abbrev trellislaw8_same_c24 : Code := Code.fst trellislaw8_same_c23
noncomputable abbrev trellislaw8_same_c25 : Code := Code.snd trellislaw8_same_c23
noncomputable abbrev trellislaw8_same_c26 : Code := Code.fst trellislaw8_same_c25
noncomputable abbrev trellislaw8_same_c27 : Code := Code.snd trellislaw8_same_c25
noncomputable abbrev trellislaw8_same_c28 : Code := Code.fst trellislaw8_same_c26
noncomputable abbrev trellislaw8_same_c29 : Code := Code.snd trellislaw8_same_c26
noncomputable abbrev trellislaw8_same_c30 : Code := Code.fst trellislaw8_same_c10
noncomputable abbrev trellislaw8_same_c31 : Code := Code.snd trellislaw8_same_c10
noncomputable abbrev trellislaw8_same_c32 : Code := Code.fst trellislaw8_same_c7
noncomputable abbrev trellislaw8_same_c33 : Code := Code.snd trellislaw8_same_c7
abbrev trellislaw8_same_R (w : World) (F : Nat → Prop) (r : Bool) : Ending → World → Prop := fun e w' => e = .returned (.bool r) ∧ B.Loc w w' [] [St w []]
noncomputable abbrev trellislaw8_same_C (w : World) (F : Nat → Prop) (r : Bool) : Cx := ⟨Tryd.prog, 17, Tryd.f17, 27, trellislaw8_same_R w F  r, w⟩
theorem trellislaw8_same_calls (w : World) (F : Nat → Prop) (x1 : List api_Word) (x6 : List api_Word) (A2 : Option Addr) (n3 : Nat) (c4 : Nat) (A7 : Option Addr) (n8 : Nat) (c9 : Nat) (h5 : Rw k_api_Word w (St w []).av A2 n3 c4 x1) (h10 : Rw k_api_Word w (St w []).av A7 n8 c9 x6) (hF : ∀ b, F b → b < w.heap.size ∧ ∀ o ∈ ([] : List (List Nat)), b ∉ o) (hL0 : B.Loc w w [] [Sm w.heap.size F w [], St w []]) (r : Bool) (h : trellislaw8_same x1 x6 r) : Calls Tryd.prog 17 #[.slice A2 n3 c4, .slice A7 n8 c9] w (trellislaw8_same_R w F  r) := by
  unfold trellislaw8_same at h
  refine calls_of_Loc (vs := [.slice A2 n3 c4, .slice A7 n8 c9]) 27 Tryd.func17 rfl Tryd.ntmps17 rfl hL0 ?_
  show G (trellislaw8_same_C w F r) _ _ _ _
  refine g_seq (c := trellislaw8_same_c0) rfl ?_
  refine g_region (c := trellislaw8_same_c1) rfl rfl ?_
  refine wl_v 0 rfl (v_assign rfl) gn rfl ?_
  refine w_end 1 rfl ?_
  refine g_seq (c := trellislaw8_same_c2) rfl ?_
  refine g_seq (c := trellislaw8_same_c3) rfl ?_
  refine g_region (c := trellislaw8_same_c5) rfl rfl ?_
  refine wl_v 0 rfl (v_move rfl) gn rfl ?_
  refine wl_v 1 rfl (v_lenQ un_22 rfl h5.hq) gn rfl ?_
  refine wl_v 2 rfl (v_move rfl) gn rfl ?_
  refine wl_v 3 rfl (v_lenQ un_22 rfl h10.hq) gn rfl ?_
  refine wl_v 4 rfl (v_bin rfl rfl rfl) gn rfl ?_
  refine w_end 5 rfl ?_
  by_cases hp11 : (x1.length : Int) = (x6.length : Int)
  · have h := if_pos' hp11 h
    refine g_false (c := trellislaw8_same_c6) rfl _ rfl ((eqib hp11)) ?_
    refine g_skip (c := trellislaw8_same_c8) rfl ?_
    refine g_seq (c := trellislaw8_same_c4) rfl ?_
    refine g_seq (c := trellislaw8_same_c9) rfl ?_
    refine g_region (c := trellislaw8_same_c11) rfl rfl ?_
    refine wl_v 0 rfl (v_assign rfl) gn rfl ?_
    refine w_end 1 rfl ?_
    refine g_block (c := trellislaw8_same_c12) rfl ?_
    refine g_loop (c := trellislaw8_same_c13) rfl ?_
    have key1 : ∀ s, Rounds (fun (s : Int) o => trellislaw8_same_b1 x1 x6 s o) s r → (fun (s : Int) => ∀ (_ : Unit), G (trellislaw8_same_C w F r) [.code trellislaw8_same_c14, .inLoop trellislaw8_same_c14, .inBlock 0, .code trellislaw8_same_c10] [(0, .slice A2 n3 c4), (1, .slice A7 n8 c9), (5, .int .i64 s)] [] [Sm w.heap.size F w [], St w []]) s := by
      intro s hs
      refine Rounds.ind (mot := (fun (s : Int) => ∀ (_ : Unit), G (trellislaw8_same_C w F r) [.code trellislaw8_same_c14, .inLoop trellislaw8_same_c14, .inBlock 0, .code trellislaw8_same_c10] [(0, .slice A2 n3 c4), (1, .slice A7 n8 c9), (5, .int .i64 s)] [] [Sm w.heap.size F w [], St w []])) ?_ hs
      clear hs s
      intro x55 o1 h hO1
      show ∀ (_ : Unit), G (trellislaw8_same_C w F r) [.code trellislaw8_same_c14, .inLoop trellislaw8_same_c14, .inBlock 0, .code trellislaw8_same_c10] [(0, .slice A2 n3 c4), (1, .slice A7 n8 c9), (5, .int .i64 x55)] [] [Sm w.heap.size F w [], St w []]
      intro _
      have h : trellislaw8_same_b1 x1 x6 x55 o1 := h
      unfold trellislaw8_same_b1 at h
      refine g_seq (c := trellislaw8_same_c14) rfl ?_
      refine g_seq (c := trellislaw8_same_c15) rfl ?_
      refine g_region (c := trellislaw8_same_c17) rfl rfl ?_
      refine wl_v 0 rfl (v_move rfl) gn rfl ?_
      refine wl_v 1 rfl (v_move rfl) gn rfl ?_
      refine wl_v 2 rfl (v_lenQ un_22 rfl h5.hq) gn rfl ?_
      refine wl_v 3 rfl (v_bin rfl rfl rfl) gn rfl ?_
      refine w_end 4 rfl ?_
      by_cases hp98 : x55 < (x1.length : Int)
      · have h := if_pos' hp98 h
        refine g_true (c := trellislaw8_same_c18) rfl _ rfl ((decide_eq_true hp98)) ?_
        refine g_skip (c := trellislaw8_same_c19) rfl ?_
        refine g_seq (c := trellislaw8_same_c16) rfl ?_
        refine g_block (c := trellislaw8_same_c21) rfl ?_
        refine g_seq (c := trellislaw8_same_c23) rfl ?_
        obtain ⟨hb99, h⟩ := h
        obtain ⟨hb101, h⟩ := h
        obtain ⟨r106, hv107, h⟩ := h
        have hns : Region.noSelect (Code.ops trellislaw8_same_c24) = true := by kernel_rfl
        refine g_drawF (c := trellislaw8_same_c24) [] [Sm w.heap.size F w [], St w []] [] 10 rfl rfl mix rfl (.slnil) (sels [0, 1] rfl) ?_
        refine wf_v 0 rfl (v_move rfl) gn rfl hns (by kernel_rfl) (by kernel_rfl) rfl rfl ?_
        refine wf_v 1 rfl (v_move rfl) gn rfl hns (by kernel_rfl) (by kernel_rfl) rfl rfl ?_
        have hr125 := Rw.readF (s := St w []) (hl := hl_api_Word) (h1 := h1_api_Word) h5 hb99
        refine wf_v 2 rfl (v_idxR (s := St w []) slE_22 rfl rfl h5 hb99) gn rfl hns (by kernel_rfl) (by kernel_rfl) rfl rfl ?_
        refine wf_v 3 rfl (v_ldA (St w []) ld_27 rfl hr125 rfl (me 1 rfl)) gn rfl hns (by kernel_rfl) (by kernel_rfl) rfl rfl ?_
        refine wf_v 4 rfl (v_move rfl) gn rfl hns (by kernel_rfl) (by kernel_rfl) rfl rfl ?_
        refine wf_v 5 rfl (v_move rfl) gn rfl hns (by kernel_rfl) (by kernel_rfl) rfl rfl ?_
        have hr126 := Rw.readF (s := St w []) (hl := hl_api_Word) (h1 := h1_api_Word) h10 hb101
        refine wf_v 6 rfl (v_idxR (s := St w []) slE_22 rfl rfl h10 hb101) gn rfl hns (by kernel_rfl) (by kernel_rfl) rfl rfl ?_
        refine wf_v 7 rfl (v_ldA (St w []) ld_27 rfl hr126 rfl (me 1 rfl)) gn rfl hns (by kernel_rfl) (by kernel_rfl) rfl rfl ?_
        refine wf_all [8] (by kernel_rfl) rfl ⟨on_s 8 rfl gn rfl (s_call [.agg #[.int .i64 ((ix x1 x55).kind), .string ((ix x1 x55).text), .int .i64 ((ix x1 x55).n), .int .i64 ((ix x1 x55).at_)], .agg #[.int .i64 ((ix x6 x55).kind), .string ((ix x6 x55).text), .int .i64 ((ix x6 x55).n), .int .i64 ((ix x6 x55).at_)]] rfl Tryd.func25 rfl rfl rfl fun w133 hL134 => ?_), trivial⟩
        have hp135 : List.Perm ([] : List Ent) (([] : List Ent) ++ ([] : List Ent)) := perm_of_idx [] [] rfl rfl (by kernel_rfl)
        refine Calls.mono (trellislaw8_sameWord_calls w133 (Fl ([] : List Snap)) (ix x1 x55) (ix x6 x55) (hL134.hFl (Sl := ([] : List Snap)) hp135 (sels [] rfl)) (hL134.into hp135 (Fl ([] : List Snap))) r106 hv107) ?_
        rintro _ w136 ⟨rfl, hM137⟩
        have hL138 := hL134.call hp135 hM137
        refine ⟨_, _, _, rfl, hL138, ?_⟩
        refine ⟨sels [] rfl, sels [0, 1] rfl, ?_⟩
        refine wf_v 9 rfl (v_not rfl) gn rfl hns (by kernel_rfl) (by kernel_rfl) rfl rfl ?_
        refine wf_end (by kernel_rfl) ?_
        by_cases hp139 : r106 = true
        · have h := if_pos' hp139 h
          refine g_false (c := trellislaw8_same_c25) rfl _ rfl ((nf hp139)) ?_
          refine g_skip (c := trellislaw8_same_c27) rfl ?_
          refine g_inBlock ?_
          refine g_region (c := trellislaw8_same_c22) rfl rfl ?_
          refine wl_v 0 rfl (v_move rfl) gn rfl ?_
          refine wl_v 1 rfl (v_bin rfl rfl rfl) gn rfl ?_
          refine wl_v 2 rfl (v_assign rfl) gn rfl ?_
          refine w_end 3 rfl ?_
          refine g_inLoop ?_
          have ih := Out.inl hO1 h
          exact g_go [0, 1] (ih ()) ⟨rfl, rfl, rfl, trivial⟩ (.slnil) rfl
        · have h := if_neg' hp139 h
          refine g_true (c := trellislaw8_same_c25) rfl _ rfl ((nt (bf hp139))) ?_
          refine g_seq (c := trellislaw8_same_c26) rfl ?_
          refine g_region (c := trellislaw8_same_c28) rfl rfl ?_
          refine wl_v 0 rfl (v_assign rfl) gn rfl ?_
          refine w_end 1 rfl ?_
          have h := Out.inr hO1 h
          refine g_retR (c := trellislaw8_same_c29) [.bool false] rfl Tryd.func17 rfl (.tmp rfl (.nil)) fun wr hLr => ?_
          have hMr : B.Loc w wr [] [St w []] := hLr.pick (rest := []) (perm_of_idx [] [] rfl rfl (by kernel_rfl)) (sels [1] rfl)
          have hMi : ∀ e ∈ ([] : List Ent), e ∈ ([] : List Ent) := sels [] rfl
          show trellislaw8_same_R w F  r (.returned (packV [.bool false])) wr
          rw [h]
          exact ⟨rfl, hMr⟩
      · have h := if_neg' hp98 h
        refine g_false (c := trellislaw8_same_c18) rfl _ rfl ((decide_eq_false hp98)) ?_
        refine g_exit (c := trellislaw8_same_c20) [.code trellislaw8_same_c10] rfl rfl ?_
        refine g_seq (c := trellislaw8_same_c10) rfl ?_
        refine g_region (c := trellislaw8_same_c30) rfl rfl ?_
        refine wl_v 0 rfl (v_assign rfl) gn rfl ?_
        refine w_end 1 rfl ?_
        have h := Out.inr hO1 h
        refine g_retR (c := trellislaw8_same_c31) [.bool true] rfl Tryd.func17 rfl (.tmp rfl (.nil)) fun wr hLr => ?_
        have hMr : B.Loc w wr [] [St w []] := hLr.pick (rest := []) (perm_of_idx [] [] rfl rfl (by kernel_rfl)) (sels [1] rfl)
        have hMi : ∀ e ∈ ([] : List Ent), e ∈ ([] : List Ent) := sels [] rfl
        show trellislaw8_same_R w F  r (.returned (packV [.bool true])) wr
        rw [h]
        exact ⟨rfl, hMr⟩
    exact g_go [0, 1] (key1 _ h ()) ⟨rfl, rfl, rfl, trivial⟩ (.slnil) rfl
  · have h := if_neg' hp11 h
    refine g_true (c := trellislaw8_same_c6) rfl _ rfl ((neib hp11)) ?_
    refine g_seq (c := trellislaw8_same_c7) rfl ?_
    refine g_region (c := trellislaw8_same_c32) rfl rfl ?_
    refine wl_v 0 rfl (v_assign rfl) gn rfl ?_
    refine w_end 1 rfl ?_
    refine g_retR (c := trellislaw8_same_c33) [.bool false] rfl Tryd.func17 rfl (.tmp rfl (.nil)) fun wr hLr => ?_
    have hMr : B.Loc w wr [] [St w []] := hLr.pick (rest := []) (perm_of_idx [] [] rfl rfl (by kernel_rfl)) (sels [1] rfl)
    have hMi : ∀ e ∈ ([] : List Ent), e ∈ ([] : List Ent) := sels [] rfl
    show trellislaw8_same_R w F  r (.returned (packV [.bool false])) wr
    rw [h]
    exact ⟨rfl, hMr⟩
noncomputable abbrev trellislaw8_still_c0 : Code := bodyOf Tryd.f14
noncomputable abbrev trellislaw8_still_c1 : Code := Code.fst trellislaw8_still_c0
noncomputable abbrev trellislaw8_still_c2 : Code := Code.snd trellislaw8_still_c0
noncomputable abbrev trellislaw8_still_c3 : Code := Code.fst trellislaw8_still_c2
noncomputable abbrev trellislaw8_still_c4 : Code := Code.snd trellislaw8_still_c2
noncomputable abbrev trellislaw8_still_c5 : Code := Code.fst trellislaw8_still_c4
noncomputable abbrev trellislaw8_still_c6 : Code := Code.snd trellislaw8_still_c4
noncomputable abbrev trellislaw8_still_c7 : Code := Code.fst trellislaw8_still_c5
noncomputable abbrev trellislaw8_still_c8 : Code := Code.snd trellislaw8_still_c5
noncomputable abbrev trellislaw8_still_c9 : Code := Code.fst trellislaw8_still_c8
noncomputable abbrev trellislaw8_still_c10 : Code := Code.fst trellislaw8_still_c9
noncomputable abbrev trellislaw8_still_c11 : Code := Code.fst trellislaw8_still_c10
noncomputable abbrev trellislaw8_still_c12 : Code := Code.snd trellislaw8_still_c10
noncomputable abbrev trellislaw8_still_c13 : Code := Code.fst trellislaw8_still_c11
noncomputable abbrev trellislaw8_still_c14 : Code := Code.snd trellislaw8_still_c11
noncomputable abbrev trellislaw8_still_c15 : Code := Code.fst trellislaw8_still_c14
noncomputable abbrev trellislaw8_still_c16 : Code := Code.snd trellislaw8_still_c14
noncomputable abbrev trellislaw8_still_c17 : Code := Code.fst trellislaw8_still_c12
noncomputable abbrev trellislaw8_still_c18 : Code := Code.snd trellislaw8_still_c12
noncomputable abbrev trellislaw8_still_c19 : Code := Code.fst trellislaw8_still_c17
noncomputable abbrev trellislaw8_still_c20 : Code := Code.fst trellislaw8_still_c19
noncomputable abbrev trellislaw8_still_c21 : Code := Code.snd trellislaw8_still_c19
noncomputable abbrev trellislaw8_still_c22 : Code := Code.fst trellislaw8_still_c21
noncomputable abbrev trellislaw8_still_c23 : Code := Code.snd trellislaw8_still_c21
noncomputable abbrev trellislaw8_still_c24 : Code := Code.fst trellislaw8_still_c22
noncomputable abbrev trellislaw8_still_c25 : Code := Code.snd trellislaw8_still_c22
noncomputable abbrev trellislaw8_still_c26 : Code := Code.fst trellislaw8_still_c6
noncomputable abbrev trellislaw8_still_c27 : Code := Code.snd trellislaw8_still_c6
abbrev trellislaw8_still_R (w : World) (F : Nat → Prop) (r : Bool) : Ending → World → Prop := fun e w' => e = .returned (.bool r) ∧ B.Loc w w' [] [St w []]
noncomputable abbrev trellislaw8_still_C (w : World) (F : Nat → Prop) (r : Bool) : Cx := ⟨Tryd.prog, 14, Tryd.f14, 31, trellislaw8_still_R w F  r, w⟩
theorem trellislaw8_still_calls (w : World) (F : Nat → Prop) (x1 : List api_Word) (x6 : List api_Word) (A2 : Option Addr) (n3 : Nat) (c4 : Nat) (A7 : Option Addr) (n8 : Nat) (c9 : Nat) (h5 : Rw k_api_Word w (St w []).av A2 n3 c4 x1) (h10 : Rw k_api_Word w (St w []).av A7 n8 c9 x6) (hF : ∀ b, F b → b < w.heap.size ∧ ∀ o ∈ ([] : List (List Nat)), b ∉ o) (hL0 : B.Loc w w [] [Sm w.heap.size F w [], St w []]) (r : Bool) (h : trellislaw8_still x1 x6 r) : Calls Tryd.prog 14 #[.slice A2 n3 c4, .slice A7 n8 c9] w (trellislaw8_still_R w F  r) := by
  unfold trellislaw8_still at h
  refine calls_of_Loc (vs := [.slice A2 n3 c4, .slice A7 n8 c9]) 31 Tryd.func14 rfl Tryd.ntmps14 rfl hL0 ?_
  show G (trellislaw8_still_C w F r) _ _ _ _
  refine g_seq (c := trellislaw8_still_c0) rfl ?_
  refine g_region (c := trellislaw8_still_c1) rfl rfl ?_
  refine wl_v 0 rfl (v_assign rfl) gn rfl ?_
  refine w_end 1 rfl ?_
  refine g_seq (c := trellislaw8_still_c2) rfl ?_
  refine g_region (c := trellislaw8_still_c3) rfl rfl ?_
  refine wl_v 0 rfl (v_move rfl) gn rfl ?_
  refine wl_v 1 rfl (v_move rfl) gn rfl ?_
  refine wl_v 2 rfl (v_lenQ un_22 rfl h10.hq) gn rfl ?_
  refine wl_v 3 rfl (v_bin rfl rfl rfl) gn rfl ?_
  obtain ⟨hb11, h⟩ := h
  have h12 := Rw.cutHi (hv := w64 ((x6.length : Int) + 20)) h5 (by have q := hb11; have q1 := h5.hq; have q2 := h5.hn; omega)
  refine wl_v 4 rfl (v_cutHi (i := w64 ((x6.length : Int) + 20)) slE_22 rfl rfl (by have q := hb11; have q1 := h5.hq; have q2 := h5.hn; omega) h5.hn rfl) gn rfl ?_
  refine wl_v 5 rfl (v_assign rfl) gn rfl ?_
  refine w_end 6 rfl ?_
  refine g_seq (c := trellislaw8_still_c4) rfl ?_
  refine g_seq (c := trellislaw8_still_c5) rfl ?_
  refine g_region (c := trellislaw8_still_c7) rfl rfl ?_
  refine wl_v 0 rfl (v_assign rfl) gn rfl ?_
  refine w_end 1 rfl ?_
  refine g_block (c := trellislaw8_still_c8) rfl ?_
  refine g_loop (c := trellislaw8_still_c9) rfl ?_
  have key1 : ∀ s, Rounds (fun (s : Int) o => trellislaw8_still_b1 x6 x1 s o) s r → (fun (s : Int) => ∀ (_ : Unit), G (trellislaw8_still_C w F r) [.code trellislaw8_still_c10, .inLoop trellislaw8_still_c10, .inBlock 0, .code trellislaw8_still_c6] [(0, .slice A2 n3 c4), (1, .slice A7 n8 c9), (5, .slice A2 ((w64 ((x6.length : Int) + 20) : Int).toNat) c4), (6, .int .i64 s)] [] [Sm w.heap.size F w [], St w []]) s := by
    intro s hs
    refine Rounds.ind (mot := (fun (s : Int) => ∀ (_ : Unit), G (trellislaw8_still_C w F r) [.code trellislaw8_still_c10, .inLoop trellislaw8_still_c10, .inBlock 0, .code trellislaw8_still_c6] [(0, .slice A2 n3 c4), (1, .slice A7 n8 c9), (5, .slice A2 ((w64 ((x6.length : Int) + 20) : Int).toNat) c4), (6, .int .i64 s)] [] [Sm w.heap.size F w [], St w []])) ?_ hs
    clear hs s
    intro x25 o1 h hO1
    show ∀ (_ : Unit), G (trellislaw8_still_C w F r) [.code trellislaw8_still_c10, .inLoop trellislaw8_still_c10, .inBlock 0, .code trellislaw8_still_c6] [(0, .slice A2 n3 c4), (1, .slice A7 n8 c9), (5, .slice A2 ((w64 ((x6.length : Int) + 20) : Int).toNat) c4), (6, .int .i64 x25)] [] [Sm w.heap.size F w [], St w []]
    intro _
    have h : trellislaw8_still_b1 x6 x1 x25 o1 := h
    unfold trellislaw8_still_b1 at h
    refine g_seq (c := trellislaw8_still_c10) rfl ?_
    refine g_seq (c := trellislaw8_still_c11) rfl ?_
    refine g_region (c := trellislaw8_still_c13) rfl rfl ?_
    refine wl_v 0 rfl (v_move rfl) gn rfl ?_
    refine wl_v 1 rfl (v_bin rfl rfl rfl) gn rfl ?_
    refine w_end 2 rfl ?_
    by_cases hp46 : x25 < 20
    · have h := if_pos' hp46 h
      refine g_true (c := trellislaw8_still_c14) rfl _ rfl ((decide_eq_true hp46)) ?_
      refine g_skip (c := trellislaw8_still_c15) rfl ?_
      refine g_seq (c := trellislaw8_still_c12) rfl ?_
      refine g_block (c := trellislaw8_still_c17) rfl ?_
      refine g_seq (c := trellislaw8_still_c19) rfl ?_
      refine g_region (c := trellislaw8_still_c20) rfl rfl ?_
      refine wl_v 0 rfl (v_move rfl) gn rfl ?_
      refine wl_v 1 rfl (v_move rfl) gn rfl ?_
      refine wl_v 2 rfl (v_lenQ un_22 rfl h10.hq) gn rfl ?_
      refine wl_v 3 rfl (v_move rfl) gn rfl ?_
      refine wl_v 4 rfl (v_bin rfl rfl rfl) gn rfl ?_
      obtain ⟨hb47, h⟩ := h
      have hr48 := Rw.readF (s := St w []) (hl := hl_api_Word) (h1 := h1_api_Word) h12 hb47
      refine wl_v 5 rfl (v_idxR (s := St w []) slE_22 rfl rfl h12 hb47) gn rfl ?_
      refine wl_v 6 rfl (v_ldA (St w []) ld_27 rfl hr48 rfl (me 1 rfl)) gn rfl ?_
      refine wl_v 7 rfl (v_move rfl) gn rfl ?_
      refine wl_v 8 rfl (v_bin rfl rfl rfl) gn rfl ?_
      refine wl_v 9 rfl (v_build #[.int .i64 0, .string (⟨#[]⟩ : ByteArray), .int .i64 (w64 (900 + x25)), .int .i64 7] bd_27 rfl (by kernel_rfl)) gn rfl ?_
      obtain ⟨r52, hv53, h⟩ := h
      refine wl_s 10 rfl (s_call [.agg #[.int .i64 ((ix (x1.take (w64 ((x6.length : Int) + 20) : Int).toNat) (w64 ((x6.length : Int) + x25))).kind), .string ((ix (x1.take (w64 ((x6.length : Int) + 20) : Int).toNat) (w64 ((x6.length : Int) + x25))).text), .int .i64 ((ix (x1.take (w64 ((x6.length : Int) + 20) : Int).toNat) (w64 ((x6.length : Int) + x25))).n), .int .i64 ((ix (x1.take (w64 ((x6.length : Int) + 20) : Int).toNat) (w64 ((x6.length : Int) + x25))).at_)], .agg #[.int .i64 0, .string (⟨#[]⟩ : ByteArray), .int .i64 (w64 (900 + x25)), .int .i64 7]] rfl Tryd.func25 rfl rfl rfl fun w49 hL50 => ?_) gn
      have hp51 : List.Perm ([] : List Ent) (([] : List Ent) ++ ([] : List Ent)) := perm_of_idx [] [] rfl rfl (by kernel_rfl)
      refine Calls.mono (trellislaw8_sameWord_calls w49 (Fl ([] : List Snap)) (ix (x1.take (w64 ((x6.length : Int) + 20) : Int).toNat) (w64 ((x6.length : Int) + x25))) (⟨0, (⟨#[]⟩ : ByteArray), w64 (900 + x25), 7⟩ : api_Word) (hL50.hFl (Sl := ([] : List Snap)) hp51 (sels [] rfl)) (hL50.into hp51 (Fl ([] : List Snap))) r52 hv53) ?_
      rintro _ w54 ⟨rfl, hM55⟩
      have hL56 := hL50.call hp51 hM55
      refine ⟨_, _, _, rfl, hL56, ?_⟩
      refine wl_v 11 rfl (v_not rfl) gn rfl ?_
      refine w_end 12 rfl ?_
      by_cases hp57 : r52 = true
      · have h := if_pos' hp57 h
        refine g_false (c := trellislaw8_still_c21) rfl _ rfl ((nf hp57)) ?_
        refine g_skip (c := trellislaw8_still_c23) rfl ?_
        refine g_inBlock ?_
        refine g_region (c := trellislaw8_still_c18) rfl rfl ?_
        refine wl_v 0 rfl (v_move rfl) gn rfl ?_
        refine wl_v 1 rfl (v_bin rfl rfl rfl) gn rfl ?_
        refine wl_v 2 rfl (v_assign rfl) gn rfl ?_
        refine w_end 3 rfl ?_
        refine g_inLoop ?_
        have ih := Out.inl hO1 h
        exact g_go [0, 1] (ih ()) ⟨rfl, rfl, rfl, rfl, trivial⟩ (.slnil) rfl
      · have h := if_neg' hp57 h
        refine g_true (c := trellislaw8_still_c21) rfl _ rfl ((nt (bf hp57))) ?_
        refine g_seq (c := trellislaw8_still_c22) rfl ?_
        refine g_region (c := trellislaw8_still_c24) rfl rfl ?_
        refine wl_v 0 rfl (v_assign rfl) gn rfl ?_
        refine w_end 1 rfl ?_
        have h := Out.inr hO1 h
        refine g_retR (c := trellislaw8_still_c25) [.bool false] rfl Tryd.func14 rfl (.tmp rfl (.nil)) fun wr hLr => ?_
        have hMr : B.Loc w wr [] [St w []] := hLr.pick (rest := []) (perm_of_idx [] [] rfl rfl (by kernel_rfl)) (sels [1] rfl)
        have hMi : ∀ e ∈ ([] : List Ent), e ∈ ([] : List Ent) := sels [] rfl
        show trellislaw8_still_R w F  r (.returned (packV [.bool false])) wr
        rw [h]
        exact ⟨rfl, hMr⟩
    · have h := if_neg' hp46 h
      refine g_false (c := trellislaw8_still_c14) rfl _ rfl ((decide_eq_false hp46)) ?_
      refine g_exit (c := trellislaw8_still_c16) [.code trellislaw8_still_c6] rfl rfl ?_
      refine g_seq (c := trellislaw8_still_c6) rfl ?_
      refine g_region (c := trellislaw8_still_c26) rfl rfl ?_
      refine wl_v 0 rfl (v_move rfl) gn rfl ?_
      refine wl_v 1 rfl (v_move rfl) gn rfl ?_
      obtain ⟨r61, hv62, h⟩ := h
      refine wl_s 2 rfl (s_call [.slice A2 n3 c4, .slice A7 n8 c9] rfl Tryd.func17 rfl rfl rfl fun w58 hL59 => ?_) gn
      have hp60 : List.Perm ([] : List Ent) (([] : List Ent) ++ ([] : List Ent)) := perm_of_idx [] [] rfl rfl (by kernel_rfl)
      refine Calls.mono (trellislaw8_same_calls w58 (Fl ([] : List Snap)) x1 x6 A2 n3 c4 A7 n8 c9 (Rw.mono h5 (hL59.toSt hp60 (me 1 rfl))) (Rw.mono h10 (hL59.toSt hp60 (me 1 rfl))) (hL59.hFl (Sl := ([] : List Snap)) hp60 (sels [] rfl)) (hL59.into hp60 (Fl ([] : List Snap))) r61 hv62) ?_
      rintro _ w63 ⟨rfl, hM64⟩
      have hL65 := hL59.call hp60 hM64
      refine ⟨_, _, _, rfl, hL65, ?_⟩
      refine wl_v 3 rfl (v_assign rfl) gn rfl ?_
      refine w_end 4 rfl ?_
      have h := Out.inr hO1 h
      refine g_retR (c := trellislaw8_still_c27) [.bool r61] rfl Tryd.func14 rfl (.tmp rfl (.nil)) fun wr hLr => ?_
      have hMr : B.Loc w wr [] [St w []] := hLr.pick (rest := []) (perm_of_idx [] [] rfl rfl (by kernel_rfl)) (sels [1] rfl)
      have hMi : ∀ e ∈ ([] : List Ent), e ∈ ([] : List Ent) := sels [] rfl
      show trellislaw8_still_R w F  r (.returned (packV [.bool r61])) wr
      rw [h]
      exact ⟨rfl, hMr⟩
  exact g_go [0, 1] (key1 _ h ()) ⟨rfl, rfl, rfl, rfl, trivial⟩ (.slnil) rfl
noncomputable abbrev trellislaw8_WordsSpell_c0 : Code := bodyOf Tryd.f3
noncomputable abbrev trellislaw8_WordsSpell_c1 : Code := Code.fst trellislaw8_WordsSpell_c0
noncomputable abbrev trellislaw8_WordsSpell_c2 : Code := Code.snd trellislaw8_WordsSpell_c0
noncomputable abbrev trellislaw8_WordsSpell_c3 : Code := Code.fst trellislaw8_WordsSpell_c2
noncomputable abbrev trellislaw8_WordsSpell_c4 : Code := Code.snd trellislaw8_WordsSpell_c2
noncomputable abbrev trellislaw8_WordsSpell_c5 : Code := Code.fst trellislaw8_WordsSpell_c4
noncomputable abbrev trellislaw8_WordsSpell_c6 : Code := Code.snd trellislaw8_WordsSpell_c4
noncomputable abbrev trellislaw8_WordsSpell_c7 : Code := Code.fst trellislaw8_WordsSpell_c5
noncomputable abbrev trellislaw8_WordsSpell_c8 : Code := Code.snd trellislaw8_WordsSpell_c5
noncomputable abbrev trellislaw8_WordsSpell_c9 : Code := Code.fst trellislaw8_WordsSpell_c8
noncomputable abbrev trellislaw8_WordsSpell_c10 : Code := Code.fst trellislaw8_WordsSpell_c9
noncomputable abbrev trellislaw8_WordsSpell_c11 : Code := Code.fst trellislaw8_WordsSpell_c10
noncomputable abbrev trellislaw8_WordsSpell_c12 : Code := Code.snd trellislaw8_WordsSpell_c10
noncomputable abbrev trellislaw8_WordsSpell_c13 : Code := Code.fst trellislaw8_WordsSpell_c11
noncomputable abbrev trellislaw8_WordsSpell_c14 : Code := Code.snd trellislaw8_WordsSpell_c11
noncomputable abbrev trellislaw8_WordsSpell_c15 : Code := Code.fst trellislaw8_WordsSpell_c14
noncomputable abbrev trellislaw8_WordsSpell_c16 : Code := Code.snd trellislaw8_WordsSpell_c14
noncomputable abbrev trellislaw8_WordsSpell_c17 : Code := Code.fst trellislaw8_WordsSpell_c12
noncomputable abbrev trellislaw8_WordsSpell_c18 : Code := Code.snd trellislaw8_WordsSpell_c12
noncomputable abbrev trellislaw8_WordsSpell_c19 : Code := Code.fst trellislaw8_WordsSpell_c17
noncomputable abbrev trellislaw8_WordsSpell_c20 : Code := Code.fst trellislaw8_WordsSpell_c19
noncomputable abbrev trellislaw8_WordsSpell_c21 : Code := Code.snd trellislaw8_WordsSpell_c19
noncomputable abbrev trellislaw8_WordsSpell_c22 : Code := Code.fst trellislaw8_WordsSpell_c21
noncomputable abbrev trellislaw8_WordsSpell_c23 : Code := Code.snd trellislaw8_WordsSpell_c21
noncomputable abbrev trellislaw8_WordsSpell_c24 : Code := Code.fst trellislaw8_WordsSpell_c22
noncomputable abbrev trellislaw8_WordsSpell_c25 : Code := Code.snd trellislaw8_WordsSpell_c22
noncomputable abbrev trellislaw8_WordsSpell_c26 : Code := Code.fst trellislaw8_WordsSpell_c6
noncomputable abbrev trellislaw8_WordsSpell_c27 : Code := Code.snd trellislaw8_WordsSpell_c6
noncomputable abbrev trellislaw8_WordsSpell_c28 : Code := Code.fst trellislaw8_WordsSpell_c27
noncomputable abbrev trellislaw8_WordsSpell_c29 : Code := Code.snd trellislaw8_WordsSpell_c27
noncomputable abbrev trellislaw8_WordsSpell_c30 : Code := Code.fst trellislaw8_WordsSpell_c28
noncomputable abbrev trellislaw8_WordsSpell_c31 : Code := Code.snd trellislaw8_WordsSpell_c28
noncomputable abbrev trellislaw8_WordsSpell_c32 : Code := Code.fst trellislaw8_WordsSpell_c31
noncomputable abbrev trellislaw8_WordsSpell_c33 : Code := Code.snd trellislaw8_WordsSpell_c31
noncomputable abbrev trellislaw8_WordsSpell_c34 : Code := Code.fst trellislaw8_WordsSpell_c32
noncomputable abbrev trellislaw8_WordsSpell_c35 : Code := Code.snd trellislaw8_WordsSpell_c32
noncomputable abbrev trellislaw8_WordsSpell_c36 : Code := Code.fst trellislaw8_WordsSpell_c29
noncomputable abbrev trellislaw8_WordsSpell_c37 : Code := Code.snd trellislaw8_WordsSpell_c29
noncomputable abbrev trellislaw8_WordsSpell_c38 : Code := Code.fst trellislaw8_WordsSpell_c36
noncomputable abbrev trellislaw8_WordsSpell_c39 : Code := Code.snd trellislaw8_WordsSpell_c36
noncomputable abbrev trellislaw8_WordsSpell_c40 : Code := Code.fst trellislaw8_WordsSpell_c39
noncomputable abbrev trellislaw8_WordsSpell_c41 : Code := Code.fst trellislaw8_WordsSpell_c40
noncomputable abbrev trellislaw8_WordsSpell_c42 : Code := Code.fst trellislaw8_WordsSpell_c41
noncomputable abbrev trellislaw8_WordsSpell_c43 : Code := Code.snd trellislaw8_WordsSpell_c41
noncomputable abbrev trellislaw8_WordsSpell_c44 : Code := Code.fst trellislaw8_WordsSpell_c42
noncomputable abbrev trellislaw8_WordsSpell_c45 : Code := Code.snd trellislaw8_WordsSpell_c42
noncomputable abbrev trellislaw8_WordsSpell_c46 : Code := Code.fst trellislaw8_WordsSpell_c45
noncomputable abbrev trellislaw8_WordsSpell_c47 : Code := Code.snd trellislaw8_WordsSpell_c45
noncomputable abbrev trellislaw8_WordsSpell_c48 : Code := Code.fst trellislaw8_WordsSpell_c43
noncomputable abbrev trellislaw8_WordsSpell_c49 : Code := Code.snd trellislaw8_WordsSpell_c43
noncomputable abbrev trellislaw8_WordsSpell_c50 : Code := Code.fst trellislaw8_WordsSpell_c48
noncomputable abbrev trellislaw8_WordsSpell_c51 : Code := Code.fst trellislaw8_WordsSpell_c37
noncomputable abbrev trellislaw8_WordsSpell_c52 : Code := Code.snd trellislaw8_WordsSpell_c37
noncomputable abbrev trellislaw8_WordsSpell_c53 : Code := Code.fst trellislaw8_WordsSpell_c51
noncomputable abbrev trellislaw8_WordsSpell_c54 : Code := Code.snd trellislaw8_WordsSpell_c51
noncomputable abbrev trellislaw8_WordsSpell_c55 : Code := Code.fst trellislaw8_WordsSpell_c54
noncomputable abbrev trellislaw8_WordsSpell_c56 : Code := Code.snd trellislaw8_WordsSpell_c54
noncomputable abbrev trellislaw8_WordsSpell_c57 : Code := Code.fst trellislaw8_WordsSpell_c52
noncomputable abbrev trellislaw8_WordsSpell_c58 : Code := Code.snd trellislaw8_WordsSpell_c52
noncomputable abbrev trellislaw8_WordsSpell_c59 : Code := Code.fst trellislaw8_WordsSpell_c58
noncomputable abbrev trellislaw8_WordsSpell_c60 : Code := Code.snd trellislaw8_WordsSpell_c58
noncomputable abbrev trellislaw8_WordsSpell_c61 : Code := Code.fst trellislaw8_WordsSpell_c60
noncomputable abbrev trellislaw8_WordsSpell_c62 : Code := Code.snd trellislaw8_WordsSpell_c60
abbrev trellislaw8_WordsSpell_R (w : World) (F : Nat → Prop) (r : Bool) : Ending → World → Prop := fun e w' => e = .returned (.bool r) ∧ B.Loc w w' [] [St w []]
noncomputable abbrev trellislaw8_WordsSpell_C (w : World) (F : Nat → Prop) (r : Bool) : Cx := ⟨Tryd.prog, 3, Tryd.f3, 77, trellislaw8_WordsSpell_R w F  r, w⟩
theorem trellislaw8_WordsSpell_calls (w : World) (F : Nat → Prop) (x1 : List api_Word) (A2 : Option Addr) (n3 : Nat) (c4 : Nat) (h5 : Rw k_api_Word w (St w []).av A2 n3 c4 x1) (hG : Tb Tryd.prog (St w [])) (hF : ∀ b, F b → b < w.heap.size ∧ ∀ o ∈ ([] : List (List Nat)), b ∉ o) (hL0 : B.Loc w w [] [Sm w.heap.size F w [], St w []]) (r : Bool) (h : trellislaw8_WordsSpell x1 r) : Calls Tryd.prog 3 #[.slice A2 n3 c4] w (trellislaw8_WordsSpell_R w F  r) := by
  unfold trellislaw8_WordsSpell at h
  refine calls_of_Loc (vs := [.slice A2 n3 c4]) 77 Tryd.func3 rfl Tryd.ntmps3 rfl hL0 ?_
  show G (trellislaw8_WordsSpell_C w F r) _ _ _ _
  refine g_seq (c := trellislaw8_WordsSpell_c0) rfl ?_
  refine g_region (c := trellislaw8_WordsSpell_c1) rfl rfl ?_
  refine wl_v 0 rfl (v_assign rfl) gn rfl ?_
  refine w_end 1 rfl ?_
  refine g_seq (c := trellislaw8_WordsSpell_c2) rfl ?_
  refine g_region (c := trellislaw8_WordsSpell_c3) rfl rfl ?_
  refine wl_v 0 rfl (v_move rfl) gn rfl ?_
  obtain ⟨r9, hv10, h⟩ := h
  refine wl_s 1 rfl (s_call [.slice A2 n3 c4] rfl Tryd.func8 rfl rfl rfl fun w6 hL7 => ?_) gn
  have hp8 : List.Perm ([] : List Ent) (([] : List Ent) ++ ([] : List Ent)) := perm_of_idx [] [] rfl rfl (by kernel_rfl)
  refine Calls.mono (trellislaw8_twin_calls w6 (Fl ([] : List Snap)) x1 A2 n3 c4 (Rw.mono h5 (hL7.toSt hp8 (me 1 rfl))) (hL7.hFl (Sl := ([] : List Snap)) hp8 (sels [] rfl)) (hL7.into hp8 (Fl ([] : List Snap))) r9 hv10) ?_
  rintro _ w16 ⟨A11, n12, c13, rfl, hM17, h14⟩
  have hL18 := hL7.call hp8 hM17
  refine ⟨_, _, _, rfl, hL18, ?_⟩
  refine wl_v 2 rfl (v_assign rfl) gn rfl ?_
  refine w_end 3 rfl ?_
  refine g_seq (c := trellislaw8_WordsSpell_c4) rfl ?_
  refine g_seq (c := trellislaw8_WordsSpell_c5) rfl ?_
  refine g_region (c := trellislaw8_WordsSpell_c7) rfl rfl ?_
  refine wl_v 0 rfl (v_assign rfl) gn rfl ?_
  refine w_end 1 rfl ?_
  refine g_block (c := trellislaw8_WordsSpell_c8) rfl ?_
  refine g_loop (c := trellislaw8_WordsSpell_c9) rfl ?_
  have key1 : ∀ s, Rounds (fun (s : Int) o => trellislaw8_WordsSpell_b1 x1 r9 s o) s r → (fun (s : Int) => ∀ (_ : Unit), G (trellislaw8_WordsSpell_C w F r) [.code trellislaw8_WordsSpell_c10, .inLoop trellislaw8_WordsSpell_c10, .inBlock 0, .code trellislaw8_WordsSpell_c6] [(0, .slice A2 n3 c4), (3, .slice A11 n12 c13), (4, .int .i64 s)] [.own (.slice A11 n12 c13) 27 4 n12 (r9.flatMap enc_api_Word)] [Sm w.heap.size F w [], St w []]) s := by
    intro s hs
    refine Rounds.ind (mot := (fun (s : Int) => ∀ (_ : Unit), G (trellislaw8_WordsSpell_C w F r) [.code trellislaw8_WordsSpell_c10, .inLoop trellislaw8_WordsSpell_c10, .inBlock 0, .code trellislaw8_WordsSpell_c6] [(0, .slice A2 n3 c4), (3, .slice A11 n12 c13), (4, .int .i64 s)] [.own (.slice A11 n12 c13) 27 4 n12 (r9.flatMap enc_api_Word)] [Sm w.heap.size F w [], St w []])) ?_ hs
    clear hs s
    intro x389 o1 h hO1
    show ∀ (_ : Unit), G (trellislaw8_WordsSpell_C w F r) [.code trellislaw8_WordsSpell_c10, .inLoop trellislaw8_WordsSpell_c10, .inBlock 0, .code trellislaw8_WordsSpell_c6] [(0, .slice A2 n3 c4), (3, .slice A11 n12 c13), (4, .int .i64 x389)] [.own (.slice A11 n12 c13) 27 4 n12 (r9.flatMap enc_api_Word)] [Sm w.heap.size F w [], St w []]
    intro _
    have h : trellislaw8_WordsSpell_b1 x1 r9 x389 o1 := h
    unfold trellislaw8_WordsSpell_b1 at h
    refine g_seq (c := trellislaw8_WordsSpell_c10) rfl ?_
    refine g_seq (c := trellislaw8_WordsSpell_c11) rfl ?_
    refine g_region (c := trellislaw8_WordsSpell_c13) rfl rfl ?_
    refine wl_v 0 rfl (v_move rfl) gn rfl ?_
    refine wl_v 1 rfl (v_move rfl) gn rfl ?_
    refine wl_v 2 rfl (v_lenQ un_22 rfl h5.hq) gn rfl ?_
    refine wl_v 3 rfl (v_bin rfl rfl rfl) gn rfl ?_
    refine w_end 4 rfl ?_
    by_cases hp759 : x389 < (x1.length : Int)
    · have h := if_pos' hp759 h
      refine g_true (c := trellislaw8_WordsSpell_c14) rfl _ rfl ((decide_eq_true hp759)) ?_
      refine g_skip (c := trellislaw8_WordsSpell_c15) rfl ?_
      refine g_seq (c := trellislaw8_WordsSpell_c12) rfl ?_
      refine g_block (c := trellislaw8_WordsSpell_c17) rfl ?_
      refine g_seq (c := trellislaw8_WordsSpell_c19) rfl ?_
      obtain ⟨hb760, h⟩ := h
      obtain ⟨r765, hv766, h⟩ := h
      obtain ⟨hb770, h⟩ := h
      obtain ⟨r774, hv775, h⟩ := h
      have hns : Region.noSelect (Code.ops trellislaw8_WordsSpell_c20) = true := by kernel_rfl
      refine g_drawF (c := trellislaw8_WordsSpell_c20) [.own (.slice A11 n12 c13) 27 4 n12 (r9.flatMap enc_api_Word)] [Sm w.heap.size F w [], St w []] [] 11 rfl rfl mix rfl (.cons_cons _ (.slnil)) (sels [0, 1] rfl) ?_
      refine wf_v 0 rfl (v_move rfl) gn rfl hns (by kernel_rfl) (by kernel_rfl) rfl rfl ?_
      refine wf_v 1 rfl (v_move rfl) gn rfl hns (by kernel_rfl) (by kernel_rfl) rfl rfl ?_
      have hr828 := Rw.readF (s := St w []) (hl := hl_api_Word) (h1 := h1_api_Word) h5 hb760
      refine wf_v 2 rfl (v_idxR (s := St w []) slE_22 rfl rfl h5 hb760) gn rfl hns (by kernel_rfl) (by kernel_rfl) rfl rfl ?_
      refine wf_v 3 rfl (v_ldA (St w []) ld_27 rfl hr828 rfl (me 1 rfl)) gn rfl hns (by kernel_rfl) (by kernel_rfl) rfl rfl ?_
      refine wf_v 5 rfl (v_move rfl) gn rfl hns (by kernel_rfl) (by kernel_rfl) rfl rfl ?_
      refine wf_v 6 rfl (v_move rfl) gn rfl hns (by kernel_rfl) (by kernel_rfl) rfl rfl ?_
      refine wf_v 7 rfl (v_idxO slE_22 rfl rfl (Ow.weak hL7.env.size h14) hb770) gn rfl hns (by kernel_rfl) (by kernel_rfl) rfl rfl ?_
      refine wf_v 8 rfl (v_ldO [.int .i64 ((ix r9 x389).kind), .string ((ix r9 x389).text), .int .i64 ((ix r9 x389).n), .int .i64 ((ix r9 x389).at_)] 0 ld_27 rfl rfl (fm_one hl_api_Word hb770) rfl) gn rfl hns (by kernel_rfl) (by kernel_rfl) rfl rfl ?_
      refine wf_all [4] (by kernel_rfl) rfl ⟨on_s 4 rfl gn rfl (s_call [.agg #[.int .i64 ((ix x1 x389).kind), .string ((ix x1 x389).text), .int .i64 ((ix x1 x389).n), .int .i64 ((ix x1 x389).at_)]] rfl Tryd.func9 rfl rfl rfl fun w859 hL860 => ?_), trivial⟩
      have hp861 : List.Perm ([.own (.slice A11 n12 c13) 27 4 n12 (r9.flatMap enc_api_Word)] : List Ent) (([] : List Ent) ++ ([.own (.slice A11 n12 c13) 27 4 n12 (r9.flatMap enc_api_Word)] : List Ent)) := perm_of_idx [] [0] rfl rfl (by kernel_rfl)
      refine Calls.mono (words_Spell_calls w859 (Fl ([] : List Snap)) (ix x1 x389) (hL860.tb hp861 hG (me 1 rfl)) (hL860.hFl (Sl := ([] : List Snap)) hp861 (sels [] rfl)) (hL860.into hp861 (Fl ([] : List Snap))) r765 hv766) ?_
      rintro _ w862 ⟨rfl, hM863⟩
      have hL864 := hL860.call hp861 hM863
      refine ⟨_, _, _, rfl, hL864, ?_⟩
      refine ⟨sels [0] rfl, sels [0, 1] rfl, ?_⟩
      refine wf_all [9] (by kernel_rfl) rfl ⟨on_s 9 rfl gn rfl (s_call [.agg #[.int .i64 ((ix r9 x389).kind), .string ((ix r9 x389).text), .int .i64 ((ix r9 x389).n), .int .i64 ((ix r9 x389).at_)]] rfl Tryd.func10 rfl rfl rfl fun w871 hL872 => ?_), trivial⟩
      have hp873 : List.Perm ([.own (.slice A11 n12 c13) 27 4 n12 (r9.flatMap enc_api_Word)] : List Ent) (([] : List Ent) ++ ([.own (.slice A11 n12 c13) 27 4 n12 (r9.flatMap enc_api_Word)] : List Ent)) := perm_of_idx [] [0] rfl rfl (by kernel_rfl)
      refine Calls.mono (trellisref8_Spell_calls w871 (Fl ([] : List Snap)) (ix r9 x389) (hL872.tb hp873 hG (me 1 rfl)) (hL872.hFl (Sl := ([] : List Snap)) hp873 (sels [] rfl)) (hL872.into hp873 (Fl ([] : List Snap))) r774 hv775) ?_
      rintro _ w874 ⟨rfl, hM875⟩
      have hL876 := hL872.call hp873 hM875
      refine ⟨_, _, _, rfl, hL876, ?_⟩
      refine ⟨sels [0] rfl, sels [0, 1] rfl, ?_⟩
      refine wf_v 10 rfl (v_neS rfl rfl) gn rfl hns (by kernel_rfl) (by kernel_rfl) rfl rfl ?_
      refine wf_end (by kernel_rfl) ?_
      by_cases hp877 : r765 = r774
      · have h := if_pos' hp877 h
        refine g_false (c := trellislaw8_WordsSpell_c21) rfl _ rfl ((nf (seq_t hp877))) ?_
        refine g_skip (c := trellislaw8_WordsSpell_c23) rfl ?_
        refine g_inBlock ?_
        refine g_region (c := trellislaw8_WordsSpell_c18) rfl rfl ?_
        refine wl_v 0 rfl (v_move rfl) gn rfl ?_
        refine wl_v 1 rfl (v_bin rfl rfl rfl) gn rfl ?_
        refine wl_v 2 rfl (v_assign rfl) gn rfl ?_
        refine w_end 3 rfl ?_
        refine g_inLoop ?_
        have ih := Out.inl hO1 h
        exact g_go [0, 1] (ih ()) ⟨rfl, rfl, rfl, trivial⟩ (.cons_cons _ (.slnil)) rfl
      · have h := if_neg' hp877 h
        refine g_true (c := trellislaw8_WordsSpell_c21) rfl _ rfl ((nt (seq_f hp877))) ?_
        refine g_seq (c := trellislaw8_WordsSpell_c22) rfl ?_
        refine g_region (c := trellislaw8_WordsSpell_c24) rfl rfl ?_
        refine wl_v 0 rfl (v_assign rfl) gn rfl ?_
        refine w_end 1 rfl ?_
        have h := Out.inr hO1 h
        refine g_retR (c := trellislaw8_WordsSpell_c25) [.bool false] rfl Tryd.func3 rfl (.tmp rfl (.nil)) fun wr hLr => ?_
        have hMr : B.Loc w wr [] [St w []] := hLr.pick (rest := [.own (.slice A11 n12 c13) 27 4 n12 (r9.flatMap enc_api_Word)]) (perm_of_idx [] [0] rfl rfl (by kernel_rfl)) (sels [1] rfl)
        have hMi : ∀ e ∈ ([] : List Ent), e ∈ ([.own (.slice A11 n12 c13) 27 4 n12 (r9.flatMap enc_api_Word)] : List Ent) := sels [] rfl
        show trellislaw8_WordsSpell_R w F  r (.returned (packV [.bool false])) wr
        rw [h]
        exact ⟨rfl, hMr⟩
    · have h := if_neg' hp759 h
      refine g_false (c := trellislaw8_WordsSpell_c14) rfl _ rfl ((decide_eq_false hp759)) ?_
      refine g_exit (c := trellislaw8_WordsSpell_c16) [.code trellislaw8_WordsSpell_c6] rfl rfl ?_
      refine g_seq (c := trellislaw8_WordsSpell_c6) rfl ?_
      refine g_region (c := trellislaw8_WordsSpell_c26) rfl rfl ?_
      refine wl_v 0 rfl (v_move rfl) gn rfl ?_
      obtain ⟨r881, hv882, h⟩ := h
      refine wl_s 1 rfl (s_call [.slice A2 n3 c4] rfl Tryd.func11 rfl rfl rfl fun w878 hL879 => ?_) gn
      have hp880 : List.Perm ([.own (.slice A11 n12 c13) 27 4 n12 (r9.flatMap enc_api_Word)] : List Ent) (([] : List Ent) ++ ([.own (.slice A11 n12 c13) 27 4 n12 (r9.flatMap enc_api_Word)] : List Ent)) := perm_of_idx [] [0] rfl rfl (by kernel_rfl)
      refine Calls.mono (trellislaw8_lent_calls w878 (Fl ([] : List Snap)) x1 A2 n3 c4 (Rw.mono h5 (hL879.toSt hp880 (me 1 rfl))) (hL879.hFl (Sl := ([] : List Snap)) hp880 (sels [] rfl)) (hL879.into hp880 (Fl ([] : List Snap))) r881 hv882) ?_
      rintro _ w888 ⟨A883, n884, c885, rfl, hM889, h886⟩
      have hL890 := hL879.call hp880 hM889
      refine ⟨_, _, _, rfl, hL890, ?_⟩
      refine wl_v 2 rfl (v_assign rfl) gn rfl ?_
      refine w_end 3 rfl ?_
      refine g_seq (c := trellislaw8_WordsSpell_c27) rfl ?_
      refine g_seq (c := trellislaw8_WordsSpell_c28) rfl ?_
      have j2 : ∀ (x917 : Bool) (h : trellislaw8_WordsSpell_j2 r9 r881 x917 o1) , G (trellislaw8_WordsSpell_C w F r) [.code trellislaw8_WordsSpell_c31, .code trellislaw8_WordsSpell_c29] [(3, .slice A11 n12 c13), (5, .slice A883 n884 c885), (40, .bool x917)] [.own (.slice A883 n884 c885) 27 4 n884 (r881.flatMap enc_api_Word), .own (.slice A11 n12 c13) 27 4 n12 (r9.flatMap enc_api_Word)] [Sm w.heap.size F w [], St w []] := by
        intro x917 h
        unfold trellislaw8_WordsSpell_j2 at h
        by_cases hp918 : x917 = true
        · have h := if_pos' hp918 h
          refine g_true (c := trellislaw8_WordsSpell_c31) rfl _ rfl (hp918) ?_
          refine g_seq (c := trellislaw8_WordsSpell_c32) rfl ?_
          refine g_region (c := trellislaw8_WordsSpell_c34) rfl rfl ?_
          refine wl_v 0 rfl (v_assign rfl) gn rfl ?_
          refine w_end 1 rfl ?_
          have h := Out.inr hO1 h
          refine g_retR (c := trellislaw8_WordsSpell_c35) [.bool false] rfl Tryd.func3 rfl (.tmp rfl (.nil)) fun wr hLr => ?_
          have hMr : B.Loc w wr [] [St w []] := hLr.pick (rest := [.own (.slice A883 n884 c885) 27 4 n884 (r881.flatMap enc_api_Word), .own (.slice A11 n12 c13) 27 4 n12 (r9.flatMap enc_api_Word)]) (perm_of_idx [] [0, 1] rfl rfl (by kernel_rfl)) (sels [1] rfl)
          have hMi : ∀ e ∈ ([] : List Ent), e ∈ ([.own (.slice A883 n884 c885) 27 4 n884 (r881.flatMap enc_api_Word), .own (.slice A11 n12 c13) 27 4 n12 (r9.flatMap enc_api_Word)] : List Ent) := sels [] rfl
          show trellislaw8_WordsSpell_R w F  r (.returned (packV [.bool false])) wr
          rw [h]
          exact ⟨rfl, hMr⟩
        · have h := if_neg' hp918 h
          refine g_false (c := trellislaw8_WordsSpell_c31) rfl _ rfl ((bf hp918)) ?_
          refine g_skip (c := trellislaw8_WordsSpell_c33) rfl ?_
          refine g_seq (c := trellislaw8_WordsSpell_c29) rfl ?_
          refine g_seq (c := trellislaw8_WordsSpell_c36) rfl ?_
          refine g_region (c := trellislaw8_WordsSpell_c38) rfl rfl ?_
          refine wl_v 0 rfl (v_assign rfl) gn rfl ?_
          refine w_end 1 rfl ?_
          refine g_block (c := trellislaw8_WordsSpell_c39) rfl ?_
          refine g_loop (c := trellislaw8_WordsSpell_c40) rfl ?_
          have key3 : ∀ s, Rounds (fun (s : (List api_Word) × Int) o => trellislaw8_WordsSpell_b3 r9 s.1 s.2 o) s o1 → (fun (s : (List api_Word) × Int) => ∀ (A980 : Option Addr) (n981 : Nat) (c982 : Nat) (h983 : Ow w.heap.size A980 n981 c982 s.1), G (trellislaw8_WordsSpell_C w F r) [.code trellislaw8_WordsSpell_c41, .inLoop trellislaw8_WordsSpell_c41, .inBlock 2, .code trellislaw8_WordsSpell_c37] [(3, .slice A11 n12 c13), (5, .slice A980 n981 c982), (6, .int .i64 s.2)] [.own (.slice A980 n981 c982) 27 4 n981 (s.1.flatMap enc_api_Word), .own (.slice A11 n12 c13) 27 4 n12 (r9.flatMap enc_api_Word)] [Sm w.heap.size F w [], St w []]) s := by
            intro s hs
            refine Rounds.ind (mot := (fun (s : (List api_Word) × Int) => ∀ (A980 : Option Addr) (n981 : Nat) (c982 : Nat) (h983 : Ow w.heap.size A980 n981 c982 s.1), G (trellislaw8_WordsSpell_C w F r) [.code trellislaw8_WordsSpell_c41, .inLoop trellislaw8_WordsSpell_c41, .inBlock 2, .code trellislaw8_WordsSpell_c37] [(3, .slice A11 n12 c13), (5, .slice A980 n981 c982), (6, .int .i64 s.2)] [.own (.slice A980 n981 c982) 27 4 n981 (s.1.flatMap enc_api_Word), .own (.slice A11 n12 c13) 27 4 n12 (r9.flatMap enc_api_Word)] [Sm w.heap.size F w [], St w []])) ?_ hs
            clear hs s
            intro s o2 h hO2
            obtain ⟨x979, x984⟩ := s
            show ∀ (A980 : Option Addr) (n981 : Nat) (c982 : Nat) (h983 : Ow w.heap.size A980 n981 c982 x979), G (trellislaw8_WordsSpell_C w F r) [.code trellislaw8_WordsSpell_c41, .inLoop trellislaw8_WordsSpell_c41, .inBlock 2, .code trellislaw8_WordsSpell_c37] [(3, .slice A11 n12 c13), (5, .slice A980 n981 c982), (6, .int .i64 x984)] [.own (.slice A980 n981 c982) 27 4 n981 (x979.flatMap enc_api_Word), .own (.slice A11 n12 c13) 27 4 n12 (r9.flatMap enc_api_Word)] [Sm w.heap.size F w [], St w []]
            intro A980 n981 c982 h983
            have h : trellislaw8_WordsSpell_b3 r9 x979 x984 o2 := h
            unfold trellislaw8_WordsSpell_b3 at h
            refine g_seq (c := trellislaw8_WordsSpell_c41) rfl ?_
            refine g_seq (c := trellislaw8_WordsSpell_c42) rfl ?_
            refine g_region (c := trellislaw8_WordsSpell_c44) rfl rfl ?_
            refine wl_v 0 rfl (v_move rfl) gn rfl ?_
            refine wl_v 1 rfl (v_move rfl) gn rfl ?_
            refine wl_v 2 rfl (v_lenQ un_22 rfl h983.hq) gn rfl ?_
            refine wl_v 3 rfl (v_bin rfl rfl rfl) gn rfl ?_
            refine w_end 4 rfl ?_
            by_cases hp1044 : x984 < (x979.length : Int)
            · have h := if_pos' hp1044 h
              refine g_true (c := trellislaw8_WordsSpell_c45) rfl _ rfl ((decide_eq_true hp1044)) ?_
              refine g_skip (c := trellislaw8_WordsSpell_c46) rfl ?_
              refine g_seq (c := trellislaw8_WordsSpell_c43) rfl ?_
              refine g_block (c := trellislaw8_WordsSpell_c48) rfl ?_
              refine g_region (c := trellislaw8_WordsSpell_c50) rfl rfl ?_
              refine wl_v 0 rfl (v_move rfl) gn rfl ?_
              refine wl_v 1 rfl (v_move rfl) gn rfl ?_
              refine wl_v 2 rfl (v_move rfl) gn rfl ?_
              refine wl_v 3 rfl (v_move rfl) gn rfl ?_
              refine wl_v 4 rfl (v_lenQ un_22 rfl (Ow.weak hL7.env.size h14).hq) gn rfl ?_
              refine wl_v 5 rfl (v_bin rfl rfl rfl) gn rfl ?_
              refine wl_v 6 rfl (v_move rfl) gn rfl ?_
              refine wl_v 7 rfl (v_bin rfl rfl rfl) gn rfl ?_
              obtain ⟨hb1045, h⟩ := h
              refine wl_v 8 rfl (v_idxO slE_22 rfl rfl (Ow.weak hL7.env.size h14) hb1045) gn rfl ?_
              refine wl_v 9 rfl (v_ldO [.int .i64 ((ix r9 (w64 ((w64 ((r9.length : Int) - 1)) - x984))).kind), .string ((ix r9 (w64 ((w64 ((r9.length : Int) - 1)) - x984))).text), .int .i64 ((ix r9 (w64 ((w64 ((r9.length : Int) - 1)) - x984))).n), .int .i64 ((ix r9 (w64 ((w64 ((r9.length : Int) - 1)) - x984))).at_)] 1 ld_27 rfl rfl (fm_one hl_api_Word hb1045) rfl) gn rfl ?_
              obtain ⟨hb1046, h⟩ := h
              refine wl_v 10 rfl (v_idxO slE_22 rfl rfl h983 hb1046) gn rfl ?_
              obtain ⟨x1047, hv1048, h⟩ := h
              refine wl_s 11 rfl (s_stF (enc := enc_api_Word) (o := 0) (z := (ix r9 (w64 ((w64 ((r9.length : Int) - 1)) - x984)))) (vs := [.int .i64 ((ix r9 (w64 ((w64 ((r9.length : Int) - 1)) - x984))).kind), .string ((ix r9 (w64 ((w64 ((r9.length : Int) - 1)) - x984))).text), .int .i64 ((ix r9 (w64 ((w64 ((r9.length : Int) - 1)) - x984))).n), .int .i64 ((ix r9 (w64 ((w64 ((r9.length : Int) - 1)) - x984))).at_)]) (i := x984) 0 hl_api_Word sz_27 rfl rfl rfl rfl rfl h983 hb1046 rfl rfl rfl hv1048 fun h1049 => ?_) gn
              refine w_end 12 rfl ?_
              refine g_inBlock ?_
              refine g_region (c := trellislaw8_WordsSpell_c49) rfl rfl ?_
              refine wl_v 0 rfl (v_move rfl) gn rfl ?_
              refine wl_v 1 rfl (v_bin rfl rfl rfl) gn rfl ?_
              refine wl_v 2 rfl (v_assign rfl) gn rfl ?_
              refine w_end 3 rfl ?_
              refine g_inLoop ?_
              have ih := Out.inl hO2 h
              exact g_go [0, 1] (ih A980 n981 c982 h1049) ⟨rfl, rfl, rfl, trivial⟩ (.cons_cons _ (.cons_cons _ (.slnil))) rfl
            · have h := if_neg' hp1044 h
              refine g_false (c := trellislaw8_WordsSpell_c45) rfl _ rfl ((decide_eq_false hp1044)) ?_
              refine g_exit (c := trellislaw8_WordsSpell_c47) [.code trellislaw8_WordsSpell_c37] rfl rfl ?_
              refine g_seq (c := trellislaw8_WordsSpell_c37) rfl ?_
              refine g_seq (c := trellislaw8_WordsSpell_c51) rfl ?_
              refine g_region (c := trellislaw8_WordsSpell_c53) rfl rfl ?_
              refine wl_v 0 rfl (v_move rfl) gn rfl ?_
              refine wl_v 1 rfl (v_lenQ un_22 rfl h983.hq) gn rfl ?_
              refine wl_v 2 rfl (v_bin rfl rfl rfl) gn rfl ?_
              refine w_end 3 rfl ?_
              have j4 : ∀ (x1056 : List api_Word) (h : trellislaw8_WordsSpell_j4 x1056 o2) (A1057 : Option Addr) (n1058 : Nat) (c1059 : Nat) (h1060 : Ow w.heap.size A1057 n1058 c1059 x1056), G (trellislaw8_WordsSpell_C w F r) [.code trellislaw8_WordsSpell_c52] [(5, .slice A1057 n1058 c1059)] [.own (.slice A1057 n1058 c1059) 27 4 n1058 (x1056.flatMap enc_api_Word)] [Sm w.heap.size F w [], St w []] := by
                intro x1056 h A1057 n1058 c1059 h1060
                unfold trellislaw8_WordsSpell_j4 at h
                refine g_seq (c := trellislaw8_WordsSpell_c52) rfl ?_
                refine g_region (c := trellislaw8_WordsSpell_c57) rfl rfl ?_
                refine wl_v 0 rfl (v_move rfl) gn rfl ?_
                obtain ⟨r1064, hv1065, h⟩ := h
                refine wl_s 1 rfl (s_call [.slice A1057 n1058 c1059] rfl Tryd.func8 rfl rfl rfl fun w1061 hL1062 => ?_) gn
                have hp1063 : List.Perm ([.own (.slice A1057 n1058 c1059) 27 4 n1058 (x1056.flatMap enc_api_Word)] : List Ent) (([] : List Ent) ++ ([.own (.slice A1057 n1058 c1059) 27 4 n1058 (x1056.flatMap enc_api_Word)] : List Ent)) := perm_of_idx [] [0] rfl rfl (by kernel_rfl)
                refine Calls.mono (trellislaw8_twin_calls w1061 (Fl ([] : List Snap)) x1056 A1057 n1058 c1059 (hL1062.argO (dk := k_api_Word) hp1063 [] rfl 0 rfl rfl h1060 (me 0 rfl) (Cells.flat _)) (hL1062.hFl (Sl := ([] : List Snap)) hp1063 (sels [] rfl)) (hL1062.into hp1063 (Fl ([] : List Snap))) r1064 hv1065) ?_
                rintro _ w1071 ⟨A1066, n1067, c1068, rfl, hM1072, h1069⟩
                have hL1073 := hL1062.call hp1063 hM1072
                refine ⟨_, _, _, rfl, hL1073, ?_⟩
                refine wl_v 2 rfl (v_assign rfl) gn rfl ?_
                refine w_end 3 rfl ?_
                refine g_seq (c := trellislaw8_WordsSpell_c58) rfl ?_
                refine g_region (c := trellislaw8_WordsSpell_c59) rfl rfl ?_
                refine wl_v 0 rfl (v_move rfl) gn rfl ?_
                obtain ⟨r1077, hv1078, h⟩ := h
                refine wl_s 1 rfl (s_call [.slice A1066 n1067 c1068] rfl Tryd.func13 rfl rfl rfl fun w1074 hL1075 => ?_) gn
                have hp1076 : List.Perm ([.own (.slice A1066 n1067 c1068) 27 4 n1067 (r1064.flatMap enc_api_Word), .own (.slice A1057 n1058 c1059) 27 4 n1058 (x1056.flatMap enc_api_Word)] : List Ent) (([] : List Ent) ++ ([.own (.slice A1066 n1067 c1068) 27 4 n1067 (r1064.flatMap enc_api_Word), .own (.slice A1057 n1058 c1059) 27 4 n1058 (x1056.flatMap enc_api_Word)] : List Ent)) := perm_of_idx [] [0, 1] rfl rfl (by kernel_rfl)
                refine Calls.mono (trellisref8_Join_calls w1074 (Fl ([] : List Snap)) r1064 A1066 n1067 c1068 (hL1075.argO (dk := k_api_Word) hp1076 [] rfl 0 rfl rfl (Ow.weak hL1062.env.size h1069) (me 0 rfl) (Cells.flat _)) (hL1075.tb hp1076 hG (me 1 rfl)) (hL1075.hFl (Sl := ([] : List Snap)) hp1076 (sels [] rfl)) (hL1075.into hp1076 (Fl ([] : List Snap))) r1077 hv1078) ?_
                rintro _ w1079 ⟨rfl, hM1080⟩
                have hL1081 := hL1075.call hp1076 hM1080
                refine ⟨_, _, _, rfl, hL1081, ?_⟩
                refine wl_v 2 rfl (v_assign rfl) gn rfl ?_
                refine w_end 3 rfl ?_
                refine g_seq (c := trellislaw8_WordsSpell_c60) rfl ?_
                refine g_region (c := trellislaw8_WordsSpell_c61) rfl rfl ?_
                refine wl_v 0 rfl (v_move rfl) gn rfl ?_
                obtain ⟨r1085, hv1086, h⟩ := h
                refine wl_s 1 rfl (s_call [.slice A1057 n1058 c1059] rfl Tryd.func12 rfl rfl rfl fun w1082 hL1083 => ?_) gn
                have hp1084 : List.Perm ([.own (.slice A1066 n1067 c1068) 27 4 n1067 (r1064.flatMap enc_api_Word), .own (.slice A1057 n1058 c1059) 27 4 n1058 (x1056.flatMap enc_api_Word)] : List Ent) (([] : List Ent) ++ ([.own (.slice A1066 n1067 c1068) 27 4 n1067 (r1064.flatMap enc_api_Word), .own (.slice A1057 n1058 c1059) 27 4 n1058 (x1056.flatMap enc_api_Word)] : List Ent)) := perm_of_idx [] [0, 1] rfl rfl (by kernel_rfl)
                refine Calls.mono (words_Join_calls w1082 (Fl ([] : List Snap)) x1056 A1057 n1058 c1059 (hL1083.argO (dk := k_api_Word) hp1084 [] rfl 1 rfl rfl h1060 (me 0 rfl) (Cells.flat _)) (hL1083.tb hp1084 hG (me 1 rfl)) (hL1083.hFl (Sl := ([] : List Snap)) hp1084 (sels [] rfl)) (hL1083.into hp1084 (Fl ([] : List Snap))) r1085 hv1086) ?_
                rintro _ w1087 ⟨rfl, hM1088⟩
                have hL1089 := hL1083.call hp1084 hM1088
                refine ⟨_, _, _, rfl, hL1089, ?_⟩
                refine wl_v 2 rfl (v_move rfl) gn rfl ?_
                refine wl_v 3 rfl (v_eqS rfl rfl) gn rfl ?_
                refine wl_v 4 rfl (v_move rfl) gn rfl ?_
                by_cases hp1090 : r1085 = r1077
                · have h := if_pos' hp1090 h
                  refine w_bool 72 rfl ((seq_t hp1090)) ?_
                  refine wl_v 5 rfl (v_move rfl) (gy 72 rfl rfl) rfl ?_
                  refine wl_v 6 rfl (v_move rfl) (gy 72 rfl rfl) rfl ?_
                  obtain ⟨r1094, hv1095, h⟩ := h
                  refine wl_s 7 rfl (s_call [.slice A1057 n1058 c1059, .slice A1066 n1067 c1068] rfl Tryd.func14 rfl rfl rfl fun w1091 hL1092 => ?_) (gy 72 rfl rfl)
                  have hp1093 : List.Perm ([.own (.slice A1066 n1067 c1068) 27 4 n1067 (r1064.flatMap enc_api_Word), .own (.slice A1057 n1058 c1059) 27 4 n1058 (x1056.flatMap enc_api_Word)] : List Ent) (([] : List Ent) ++ ([.own (.slice A1066 n1067 c1068) 27 4 n1067 (r1064.flatMap enc_api_Word), .own (.slice A1057 n1058 c1059) 27 4 n1058 (x1056.flatMap enc_api_Word)] : List Ent)) := perm_of_idx [] [0, 1] rfl rfl (by kernel_rfl)
                  refine Calls.mono (trellislaw8_still_calls w1091 (Fl ([] : List Snap)) x1056 r1064 A1057 n1058 c1059 A1066 n1067 c1068 (hL1092.argO (dk := k_api_Word) hp1093 [] rfl 1 rfl rfl h1060 (me 0 rfl) (Cells.flat _)) (hL1092.argO (dk := k_api_Word) hp1093 [] rfl 0 rfl rfl (Ow.weak hL1062.env.size h1069) (me 0 rfl) (Cells.flat _)) (hL1092.hFl (Sl := ([] : List Snap)) hp1093 (sels [] rfl)) (hL1092.into hp1093 (Fl ([] : List Snap))) r1094 hv1095) ?_
                  rintro _ w1096 ⟨rfl, hM1097⟩
                  have hL1098 := hL1092.call hp1093 hM1097
                  refine ⟨_, _, _, rfl, hL1098, ?_⟩
                  refine wl_v 8 rfl (v_pick (b := true) rfl rfl) gn rfl ?_
                  refine wl_v 9 rfl (v_assign rfl) gn rfl ?_
                  refine w_end 10 rfl ?_
                  have h := Out.inr hO2 h
                  have h := Out.inr hO1 h
                  refine g_retR (c := trellislaw8_WordsSpell_c62) [.bool r1094] rfl Tryd.func3 rfl (.tmp rfl (.nil)) fun wr hLr => ?_
                  have hMr : B.Loc w wr [] [St w []] := hLr.pick (rest := [.own (.slice A1066 n1067 c1068) 27 4 n1067 (r1064.flatMap enc_api_Word), .own (.slice A1057 n1058 c1059) 27 4 n1058 (x1056.flatMap enc_api_Word)]) (perm_of_idx [] [0, 1] rfl rfl (by kernel_rfl)) (sels [1] rfl)
                  have hMi : ∀ e ∈ ([] : List Ent), e ∈ ([.own (.slice A1066 n1067 c1068) 27 4 n1067 (r1064.flatMap enc_api_Word), .own (.slice A1057 n1058 c1059) 27 4 n1058 (x1056.flatMap enc_api_Word)] : List Ent) := sels [] rfl
                  show trellislaw8_WordsSpell_R w F  r (.returned (packV [.bool r1094])) wr
                  rw [h]
                  exact ⟨rfl, hMr⟩
                · have h := if_neg' hp1090 h
                  refine w_bool 72 rfl ((seq_f hp1090)) ?_
                  refine wl_pass 5 rfl (ps 72 rfl rfl rfl) ?_
                  refine wl_pass 6 rfl (ps 72 rfl rfl rfl) ?_
                  refine wl_pass 7 rfl (ps 72 rfl rfl rfl) ?_
                  refine wl_v 8 rfl (v_pick (b := false) rfl rfl) gn rfl ?_
                  refine wl_v 9 rfl (v_assign rfl) gn rfl ?_
                  refine w_end 10 rfl ?_
                  have h := Out.inr hO2 h
                  have h := Out.inr hO1 h
                  refine g_retR (c := trellislaw8_WordsSpell_c62) [.bool false] rfl Tryd.func3 rfl (.tmp rfl (.nil)) fun wr hLr => ?_
                  have hMr : B.Loc w wr [] [St w []] := hLr.pick (rest := [.own (.slice A1066 n1067 c1068) 27 4 n1067 (r1064.flatMap enc_api_Word), .own (.slice A1057 n1058 c1059) 27 4 n1058 (x1056.flatMap enc_api_Word)]) (perm_of_idx [] [0, 1] rfl rfl (by kernel_rfl)) (sels [1] rfl)
                  have hMi : ∀ e ∈ ([] : List Ent), e ∈ ([.own (.slice A1066 n1067 c1068) 27 4 n1067 (r1064.flatMap enc_api_Word), .own (.slice A1057 n1058 c1059) 27 4 n1058 (x1056.flatMap enc_api_Word)] : List Ent) := sels [] rfl
                  show trellislaw8_WordsSpell_R w F  r (.returned (packV [.bool false])) wr
                  rw [h]
                  exact ⟨rfl, hMr⟩
              by_cases hp1050 : (x979.length : Int) = 1
              · have h := if_pos' hp1050 h
                refine g_true (c := trellislaw8_WordsSpell_c54) rfl _ rfl ((eqi hp1050)) ?_
                refine g_region (c := trellislaw8_WordsSpell_c55) rfl rfl ?_
                refine wl_v 0 rfl (v_move rfl) gn rfl ?_
                refine wl_v 1 rfl (v_build #[.int .i64 4, .string (⟨#[]⟩ : ByteArray), .int .i64 7, .int .i64 0] bd_27 rfl (by kernel_rfl)) gn rfl ?_
                obtain ⟨hb1099, h⟩ := h
                refine wl_v 2 rfl (v_idxO slE_22 rfl rfl h983 hb1099) gn rfl ?_
                obtain ⟨x1100, hv1101, h⟩ := h
                refine wl_s 3 rfl (s_stF (enc := enc_api_Word) (o := 0) (z := (⟨4, (⟨#[]⟩ : ByteArray), 7, 0⟩ : api_Word)) (vs := [.int .i64 4, .string (⟨#[]⟩ : ByteArray), .int .i64 7, .int .i64 0]) (i := 0) 0 hl_api_Word sz_27 rfl rfl rfl rfl rfl h983 hb1099 rfl rfl rfl hv1101 fun h1102 => ?_) gn
                refine w_end 4 rfl ?_
                exact g_go [0, 1] (j4 x1100 h A980 n981 c982 h1102) ⟨rfl, trivial⟩ (.cons_cons _ (.cons _ (.slnil))) rfl
              · have h := if_neg' hp1050 h
                refine g_false (c := trellislaw8_WordsSpell_c54) rfl _ rfl ((nei hp1050)) ?_
                refine g_skip (c := trellislaw8_WordsSpell_c56) rfl ?_
                exact g_go [0, 1] (j4 x979 h A980 n981 c982 h983) ⟨rfl, trivial⟩ (.cons_cons _ (.cons _ (.slnil))) rfl
          exact g_go [0, 1] (key3 _ h A883 n884 c885 (Ow.weak hL879.env.size h886)) ⟨rfl, rfl, rfl, trivial⟩ (.cons_cons _ (.cons_cons _ (.slnil))) rfl
      refine g_region (c := trellislaw8_WordsSpell_c30) rfl rfl ?_
      refine wl_v 0 rfl (v_move rfl) gn rfl ?_
      obtain ⟨r1106, hv1107, h⟩ := h
      refine wl_s 1 rfl (s_call [.slice A883 n884 c885] rfl Tryd.func12 rfl rfl rfl fun w1103 hL1104 => ?_) gn
      have hp1105 : List.Perm ([.own (.slice A883 n884 c885) 27 4 n884 (r881.flatMap enc_api_Word), .own (.slice A11 n12 c13) 27 4 n12 (r9.flatMap enc_api_Word)] : List Ent) (([] : List Ent) ++ ([.own (.slice A883 n884 c885) 27 4 n884 (r881.flatMap enc_api_Word), .own (.slice A11 n12 c13) 27 4 n12 (r9.flatMap enc_api_Word)] : List Ent)) := perm_of_idx [] [0, 1] rfl rfl (by kernel_rfl)
      refine Calls.mono (words_Join_calls w1103 (Fl ([] : List Snap)) r881 A883 n884 c885 (hL1104.argO (dk := k_api_Word) hp1105 [] rfl 0 rfl rfl (Ow.weak hL879.env.size h886) (me 0 rfl) (Cells.flat _)) (hL1104.tb hp1105 hG (me 1 rfl)) (hL1104.hFl (Sl := ([] : List Snap)) hp1105 (sels [] rfl)) (hL1104.into hp1105 (Fl ([] : List Snap))) r1106 hv1107) ?_
      rintro _ w1108 ⟨rfl, hM1109⟩
      have hL1110 := hL1104.call hp1105 hM1109
      refine ⟨_, _, _, rfl, hL1110, ?_⟩
      refine wl_v 2 rfl (v_move rfl) gn rfl ?_
      obtain ⟨r1114, hv1115, h⟩ := h
      refine wl_s 3 rfl (s_call [.slice A11 n12 c13] rfl Tryd.func13 rfl rfl rfl fun w1111 hL1112 => ?_) gn
      have hp1113 : List.Perm ([.own (.slice A883 n884 c885) 27 4 n884 (r881.flatMap enc_api_Word), .own (.slice A11 n12 c13) 27 4 n12 (r9.flatMap enc_api_Word)] : List Ent) (([] : List Ent) ++ ([.own (.slice A883 n884 c885) 27 4 n884 (r881.flatMap enc_api_Word), .own (.slice A11 n12 c13) 27 4 n12 (r9.flatMap enc_api_Word)] : List Ent)) := perm_of_idx [] [0, 1] rfl rfl (by kernel_rfl)
      refine Calls.mono (trellisref8_Join_calls w1111 (Fl ([] : List Snap)) r9 A11 n12 c13 (hL1112.argO (dk := k_api_Word) hp1113 [] rfl 1 rfl rfl (Ow.weak hL7.env.size h14) (me 0 rfl) (Cells.flat _)) (hL1112.tb hp1113 hG (me 1 rfl)) (hL1112.hFl (Sl := ([] : List Snap)) hp1113 (sels [] rfl)) (hL1112.into hp1113 (Fl ([] : List Snap))) r1114 hv1115) ?_
      rintro _ w1116 ⟨rfl, hM1117⟩
      have hL1118 := hL1112.call hp1113 hM1117
      refine ⟨_, _, _, rfl, hL1118, ?_⟩
      refine wl_v 4 rfl (v_neS rfl rfl) gn rfl ?_
      refine wl_v 5 rfl (v_move rfl) gn rfl ?_
      by_cases hp1119 : r1106 = r1114
      · have h := if_pos' hp1119 h
        refine w_bool 35 rfl ((nf (seq_t hp1119))) ?_
        refine wl_v 6 rfl (v_move rfl) (gy 35 rfl rfl) rfl ?_
        refine wl_v 7 rfl (v_move rfl) (gy 35 rfl rfl) rfl ?_
        obtain ⟨r1123, hv1124, h⟩ := h
        refine wl_s 8 rfl (s_call [.slice A883 n884 c885, .slice A2 n3 c4] rfl Tryd.func14 rfl rfl rfl fun w1120 hL1121 => ?_) (gy 35 rfl rfl)
        have hp1122 : List.Perm ([.own (.slice A883 n884 c885) 27 4 n884 (r881.flatMap enc_api_Word), .own (.slice A11 n12 c13) 27 4 n12 (r9.flatMap enc_api_Word)] : List Ent) (([] : List Ent) ++ ([.own (.slice A883 n884 c885) 27 4 n884 (r881.flatMap enc_api_Word), .own (.slice A11 n12 c13) 27 4 n12 (r9.flatMap enc_api_Word)] : List Ent)) := perm_of_idx [] [0, 1] rfl rfl (by kernel_rfl)
        refine Calls.mono (trellislaw8_still_calls w1120 (Fl ([] : List Snap)) r881 x1 A883 n884 c885 A2 n3 c4 (hL1121.argO (dk := k_api_Word) hp1122 [] rfl 0 rfl rfl (Ow.weak hL879.env.size h886) (me 0 rfl) (Cells.flat _)) (Rw.mono h5 (hL1121.toSt hp1122 (me 1 rfl))) (hL1121.hFl (Sl := ([] : List Snap)) hp1122 (sels [] rfl)) (hL1121.into hp1122 (Fl ([] : List Snap))) r1123 hv1124) ?_
        rintro _ w1125 ⟨rfl, hM1126⟩
        have hL1127 := hL1121.call hp1122 hM1126
        refine ⟨_, _, _, rfl, hL1127, ?_⟩
        refine wl_v 9 rfl (v_not rfl) (gy 35 rfl rfl) rfl ?_
        refine wl_v 10 rfl (v_pick (b := false) rfl rfl) gn rfl ?_
        refine w_end 11 rfl ?_
        exact g_go [0, 1] (j2 (!r1123) h) ⟨rfl, rfl, rfl, trivial⟩ (.cons_cons _ (.cons_cons _ (.slnil))) rfl
      · have h := if_neg' hp1119 h
        refine w_bool 35 rfl ((nt (seq_f hp1119))) ?_
        refine wl_pass 6 rfl (ps 35 rfl rfl rfl) ?_
        refine wl_pass 7 rfl (ps 35 rfl rfl rfl) ?_
        refine wl_pass 8 rfl (ps 35 rfl rfl rfl) ?_
        refine wl_pass 9 rfl (ps 35 rfl rfl rfl) ?_
        refine wl_v 10 rfl (v_pick (b := true) rfl rfl) gn rfl ?_
        refine w_end 11 rfl ?_
        exact g_go [0, 1] (j2 true h) ⟨rfl, rfl, rfl, trivial⟩ (.cons_cons _ (.cons_cons _ (.slnil))) rfl
  exact g_go [0, 1] (key1 _ h ()) ⟨rfl, rfl, rfl, trivial⟩ (.cons_cons _ (.slnil)) rfl
noncomputable abbrev words_blank_c0 : Code := bodyOf Tryd.f26
noncomputable abbrev words_blank_c1 : Code := Code.fst words_blank_c0
noncomputable abbrev words_blank_c2 : Code := Code.snd words_blank_c0
noncomputable abbrev words_blank_c3 : Code := Code.fst words_blank_c2
noncomputable abbrev words_blank_c4 : Code := Code.snd words_blank_c2
abbrev words_blank_R (w : World) (F : Nat → Prop) (r : Bool) : Ending → World → Prop := fun e w' => e = .returned (.bool r) ∧ B.Loc w w' [] [St w []]
noncomputable abbrev words_blank_C (w : World) (F : Nat → Prop) (r : Bool) : Cx := ⟨Tryd.prog, 26, Tryd.f26, 17, words_blank_R w F  r, w⟩
theorem words_blank_calls (w : World) (F : Nat → Prop) (x1 : Int) (hF : ∀ b, F b → b < w.heap.size ∧ ∀ o ∈ ([] : List (List Nat)), b ∉ o) (hL0 : B.Loc w w [] [Sm w.heap.size F w [], St w []]) (r : Bool) (h : words_blank x1 r) : Calls Tryd.prog 26 #[.int .u8 x1] w (words_blank_R w F  r) := by
  unfold words_blank at h
  refine calls_of_Loc (vs := [.int .u8 x1]) 17 Tryd.func26 rfl Tryd.ntmps26 rfl hL0 ?_
  show G (words_blank_C w F r) _ _ _ _
  refine g_seq (c := words_blank_c0) rfl ?_
  refine g_region (c := words_blank_c1) rfl rfl ?_
  refine wl_v 0 rfl (v_assign rfl) gn rfl ?_
  refine w_end 1 rfl ?_
  refine g_seq (c := words_blank_c2) rfl ?_
  refine g_region (c := words_blank_c3) rfl rfl ?_
  refine wl_v 0 rfl (v_move rfl) gn rfl ?_
  refine wl_v 1 rfl (v_bin rfl rfl rfl) gn rfl ?_
  refine wl_v 2 rfl (v_move rfl) gn rfl ?_
  by_cases hp2 : x1 = 32
  · have h := if_pos' hp2 h
    refine w_bool 5 rfl ((eqi hp2)) ?_
    refine wl_pass 3 rfl (ps 5 rfl rfl rfl) ?_
    refine wl_pass 4 rfl (ps 5 rfl rfl rfl) ?_
    refine wl_v 5 rfl (v_pick (b := true) rfl rfl) gn rfl ?_
    refine wl_v 6 rfl (v_move rfl) gn rfl ?_
    refine wl_pass 7 rfl (ps 9 rfl rfl rfl) ?_
    refine wl_pass 8 rfl (ps 9 rfl rfl rfl) ?_
    refine wl_v 9 rfl (v_pick (b := true) rfl rfl) gn rfl ?_
    refine wl_v 10 rfl (v_move rfl) gn rfl ?_
    refine wl_pass 11 rfl (ps 13 rfl rfl rfl) ?_
    refine wl_pass 12 rfl (ps 13 rfl rfl rfl) ?_
    refine wl_v 13 rfl (v_pick (b := true) rfl rfl) gn rfl ?_
    refine wl_v 14 rfl (v_assign rfl) gn rfl ?_
    refine w_end 15 rfl ?_
    refine g_retR (c := words_blank_c4) [.bool true] rfl Tryd.func26 rfl (.tmp rfl (.nil)) fun wr hLr => ?_
    have hMr : B.Loc w wr [] [St w []] := hLr.pick (rest := []) (perm_of_idx [] [] rfl rfl (by kernel_rfl)) (sels [1] rfl)
    have hMi : ∀ e ∈ ([] : List Ent), e ∈ ([] : List Ent) := sels [] rfl
    show words_blank_R w F  r (.returned (packV [.bool true])) wr
    rw [h]
    exact ⟨rfl, hMr⟩
  · have h := if_neg' hp2 h
    refine w_bool 5 rfl ((nei hp2)) ?_
    refine wl_v 3 rfl (v_move rfl) (gy 5 rfl rfl) rfl ?_
    refine wl_v 4 rfl (v_bin rfl rfl rfl) (gy 5 rfl rfl) rfl ?_
    refine wl_v 5 rfl (v_pick (b := false) rfl rfl) gn rfl ?_
    refine wl_v 6 rfl (v_move rfl) gn rfl ?_
    by_cases hp3 : x1 = 9
    · have h := if_pos' hp3 h
      refine w_bool 9 rfl ((eqi hp3)) ?_
      refine wl_pass 7 rfl (ps 9 rfl rfl rfl) ?_
      refine wl_pass 8 rfl (ps 9 rfl rfl rfl) ?_
      refine wl_v 9 rfl (v_pick (b := true) rfl rfl) gn rfl ?_
      refine wl_v 10 rfl (v_move rfl) gn rfl ?_
      refine wl_pass 11 rfl (ps 13 rfl rfl rfl) ?_
      refine wl_pass 12 rfl (ps 13 rfl rfl rfl) ?_
      refine wl_v 13 rfl (v_pick (b := true) rfl rfl) gn rfl ?_
      refine wl_v 14 rfl (v_assign rfl) gn rfl ?_
      refine w_end 15 rfl ?_
      refine g_retR (c := words_blank_c4) [.bool true] rfl Tryd.func26 rfl (.tmp rfl (.nil)) fun wr hLr => ?_
      have hMr : B.Loc w wr [] [St w []] := hLr.pick (rest := []) (perm_of_idx [] [] rfl rfl (by kernel_rfl)) (sels [1] rfl)
      have hMi : ∀ e ∈ ([] : List Ent), e ∈ ([] : List Ent) := sels [] rfl
      show words_blank_R w F  r (.returned (packV [.bool true])) wr
      rw [h]
      exact ⟨rfl, hMr⟩
    · have h := if_neg' hp3 h
      refine w_bool 9 rfl ((nei hp3)) ?_
      refine wl_v 7 rfl (v_move rfl) (gy 9 rfl rfl) rfl ?_
      refine wl_v 8 rfl (v_bin rfl rfl rfl) (gy 9 rfl rfl) rfl ?_
      refine wl_v 9 rfl (v_pick (b := false) rfl rfl) gn rfl ?_
      refine wl_v 10 rfl (v_move rfl) gn rfl ?_
      by_cases hp4 : x1 = 13
      · have h := if_pos' hp4 h
        refine w_bool 13 rfl ((eqi hp4)) ?_
        refine wl_pass 11 rfl (ps 13 rfl rfl rfl) ?_
        refine wl_pass 12 rfl (ps 13 rfl rfl rfl) ?_
        refine wl_v 13 rfl (v_pick (b := true) rfl rfl) gn rfl ?_
        refine wl_v 14 rfl (v_assign rfl) gn rfl ?_
        refine w_end 15 rfl ?_
        refine g_retR (c := words_blank_c4) [.bool true] rfl Tryd.func26 rfl (.tmp rfl (.nil)) fun wr hLr => ?_
        have hMr : B.Loc w wr [] [St w []] := hLr.pick (rest := []) (perm_of_idx [] [] rfl rfl (by kernel_rfl)) (sels [1] rfl)
        have hMi : ∀ e ∈ ([] : List Ent), e ∈ ([] : List Ent) := sels [] rfl
        show words_blank_R w F  r (.returned (packV [.bool true])) wr
        rw [h]
        exact ⟨rfl, hMr⟩
      · have h := if_neg' hp4 h
        refine w_bool 13 rfl ((nei hp4)) ?_
        refine wl_v 11 rfl (v_move rfl) (gy 13 rfl rfl) rfl ?_
        refine wl_v 12 rfl (v_bin rfl rfl rfl) (gy 13 rfl rfl) rfl ?_
        refine wl_v 13 rfl (v_pick (b := false) rfl rfl) gn rfl ?_
        refine wl_v 14 rfl (v_assign rfl) gn rfl ?_
        refine w_end 15 rfl ?_
        refine g_retR (c := words_blank_c4) [.bool (x1 == 10)] rfl Tryd.func26 rfl (.tmp rfl (.nil)) fun wr hLr => ?_
        have hMr : B.Loc w wr [] [St w []] := hLr.pick (rest := []) (perm_of_idx [] [] rfl rfl (by kernel_rfl)) (sels [1] rfl)
        have hMi : ∀ e ∈ ([] : List Ent), e ∈ ([] : List Ent) := sels [] rfl
        show words_blank_R w F  r (.returned (packV [.bool (x1 == 10)])) wr
        rw [h]
        exact ⟨rfl, hMr⟩
noncomputable abbrev internal_stringslite_IndexByte_c0 : Code := bodyOf Tryd.f40
noncomputable abbrev internal_stringslite_IndexByte_c1 : Code := Code.fst internal_stringslite_IndexByte_c0
noncomputable abbrev internal_stringslite_IndexByte_c2 : Code := Code.snd internal_stringslite_IndexByte_c0
noncomputable abbrev internal_stringslite_IndexByte_c3 : Code := Code.fst internal_stringslite_IndexByte_c2
noncomputable abbrev internal_stringslite_IndexByte_c4 : Code := Code.snd internal_stringslite_IndexByte_c2
abbrev internal_stringslite_IndexByte_R (w : World) (F : Nat → Prop) (r : Int) : Ending → World → Prop := fun e w' => e = .returned (.int .i64 r) ∧ B.Loc w w' [] [St w []]
noncomputable abbrev internal_stringslite_IndexByte_C (w : World) (F : Nat → Prop) (r : Int) : Cx := ⟨Tryd.prog, 40, Tryd.f40, 8, internal_stringslite_IndexByte_R w F  r, w⟩
theorem internal_stringslite_IndexByte_calls (w : World) (F : Nat → Prop) (x1 : ByteArray) (x2 : Int) (hF : ∀ b, F b → b < w.heap.size ∧ ∀ o ∈ ([] : List (List Nat)), b ∉ o) (hL0 : B.Loc w w [] [Sm w.heap.size F w [], St w []]) (r : Int) (h : internal_stringslite_IndexByte x1 x2 r) : Calls Tryd.prog 40 #[.string x1, .int .u8 x2] w (internal_stringslite_IndexByte_R w F  r) := by
  unfold internal_stringslite_IndexByte at h
  refine calls_of_Loc (vs := [.string x1, .int .u8 x2]) 8 Tryd.func40 rfl Tryd.ntmps40 rfl hL0 ?_
  show G (internal_stringslite_IndexByte_C w F r) _ _ _ _
  refine g_seq (c := internal_stringslite_IndexByte_c0) rfl ?_
  refine g_region (c := internal_stringslite_IndexByte_c1) rfl rfl ?_
  refine wl_v 0 rfl (v_assign rfl) gn rfl ?_
  refine w_end 1 rfl ?_
  refine g_seq (c := internal_stringslite_IndexByte_c2) rfl ?_
  refine g_region (c := internal_stringslite_IndexByte_c3) rfl rfl ?_
  refine wl_v 0 rfl (v_move rfl) gn rfl ?_
  refine wl_v 1 rfl (v_move rfl) gn rfl ?_
  refine wl_v 2 rfl (v_ext [.string x1, .int .u8 x2] rfl Tryd.func46 rfl rfl (by kernel_rfl) (by kernel_rfl) (fun w => x_indexByteS _ _ w)) gn rfl ?_
  refine wl_v 3 rfl (v_assign rfl) gn rfl ?_
  refine w_end 4 rfl ?_
  refine g_retR (c := internal_stringslite_IndexByte_c4) [.int .i64 (idxB x1 x2)] rfl Tryd.func40 rfl (.tmp rfl (.nil)) fun wr hLr => ?_
  have hMr : B.Loc w wr [] [St w []] := hLr.pick (rest := []) (perm_of_idx [] [] rfl rfl (by kernel_rfl)) (sels [1] rfl)
  have hMi : ∀ e ∈ ([] : List Ent), e ∈ ([] : List Ent) := sels [] rfl
  show internal_stringslite_IndexByte_R w F  r (.returned (packV [.int .i64 (idxB x1 x2)])) wr
  rw [h]
  exact ⟨rfl, hMr⟩
noncomputable abbrev strings_IndexByte_c0 : Code := bodyOf Tryd.f29
noncomputable abbrev strings_IndexByte_c1 : Code := Code.fst strings_IndexByte_c0
noncomputable abbrev strings_IndexByte_c2 : Code := Code.snd strings_IndexByte_c0
noncomputable abbrev strings_IndexByte_c3 : Code := Code.fst strings_IndexByte_c2
noncomputable abbrev strings_IndexByte_c4 : Code := Code.snd strings_IndexByte_c2
abbrev strings_IndexByte_R (w : World) (F : Nat → Prop) (r : Int) : Ending → World → Prop := fun e w' => e = .returned (.int .i64 r) ∧ B.Loc w w' [] [St w []]
noncomputable abbrev strings_IndexByte_C (w : World) (F : Nat → Prop) (r : Int) : Cx := ⟨Tryd.prog, 29, Tryd.f29, 8, strings_IndexByte_R w F  r, w⟩
theorem strings_IndexByte_calls (w : World) (F : Nat → Prop) (x1 : ByteArray) (x2 : Int) (hF : ∀ b, F b → b < w.heap.size ∧ ∀ o ∈ ([] : List (List Nat)), b ∉ o) (hL0 : B.Loc w w [] [Sm w.heap.size F w [], St w []]) (r : Int) (h : strings_IndexByte x1 x2 r) : Calls Tryd.prog 29 #[.string x1, .int .u8 x2] w (strings_IndexByte_R w F  r) := by
  unfold strings_IndexByte at h
  refine calls_of_Loc (vs := [.string x1, .int .u8 x2]) 8 Tryd.func29 rfl Tryd.ntmps29 rfl hL0 ?_
  show G (strings_IndexByte_C w F r) _ _ _ _
  refine g_seq (c := strings_IndexByte_c0) rfl ?_
  refine g_region (c := strings_IndexByte_c1) rfl rfl ?_
  refine wl_v 0 rfl (v_assign rfl) gn rfl ?_
  refine w_end 1 rfl ?_
  refine g_seq (c := strings_IndexByte_c2) rfl ?_
  refine g_region (c := strings_IndexByte_c3) rfl rfl ?_
  refine wl_v 0 rfl (v_move rfl) gn rfl ?_
  refine wl_v 1 rfl (v_move rfl) gn rfl ?_
  obtain ⟨r6, hv7, h⟩ := h
  refine wl_s 2 rfl (s_call [.string x1, .int .u8 x2] rfl Tryd.func40 rfl rfl rfl fun w3 hL4 => ?_) gn
  have hp5 : List.Perm ([] : List Ent) (([] : List Ent) ++ ([] : List Ent)) := perm_of_idx [] [] rfl rfl (by kernel_rfl)
  refine Calls.mono (internal_stringslite_IndexByte_calls w3 (Fl ([] : List Snap)) x1 x2 (hL4.hFl (Sl := ([] : List Snap)) hp5 (sels [] rfl)) (hL4.into hp5 (Fl ([] : List Snap))) r6 hv7) ?_
  rintro _ w8 ⟨rfl, hM9⟩
  have hL10 := hL4.call hp5 hM9
  refine ⟨_, _, _, rfl, hL10, ?_⟩
  refine wl_v 3 rfl (v_assign rfl) gn rfl ?_
  refine w_end 4 rfl ?_
  refine g_retR (c := strings_IndexByte_c4) [.int .i64 r6] rfl Tryd.func29 rfl (.tmp rfl (.nil)) fun wr hLr => ?_
  have hMr : B.Loc w wr [] [St w []] := hLr.pick (rest := []) (perm_of_idx [] [] rfl rfl (by kernel_rfl)) (sels [1] rfl)
  have hMi : ∀ e ∈ ([] : List Ent), e ∈ ([] : List Ent) := sels [] rfl
  show strings_IndexByte_R w F  r (.returned (packV [.int .i64 r6])) wr
  rw [h]
  exact ⟨rfl, hMr⟩
noncomputable abbrev words_hex_c0 : Code := bodyOf Tryd.f47
noncomputable abbrev words_hex_c1 : Code := Code.fst words_hex_c0
noncomputable abbrev words_hex_c2 : Code := Code.snd words_hex_c0
noncomputable abbrev words_hex_c3 : Code := Code.fst words_hex_c2
noncomputable abbrev words_hex_c4 : Code := Code.snd words_hex_c2
noncomputable abbrev words_hex_c5 : Code := Code.fst words_hex_c3
noncomputable abbrev words_hex_c6 : Code := Code.fst words_hex_c5
noncomputable abbrev words_hex_c7 : Code := Code.snd words_hex_c5
noncomputable abbrev words_hex_c8 : Code := Code.fst words_hex_c7
noncomputable abbrev words_hex_c9 : Code := Code.snd words_hex_c7
noncomputable abbrev words_hex_c10 : Code := Code.fst words_hex_c8
noncomputable abbrev words_hex_c11 : Code := Code.snd words_hex_c8
noncomputable abbrev words_hex_c12 : Code := Code.fst words_hex_c9
noncomputable abbrev words_hex_c13 : Code := Code.snd words_hex_c9
noncomputable abbrev words_hex_c14 : Code := Code.fst words_hex_c13
noncomputable abbrev words_hex_c15 : Code := Code.snd words_hex_c13
noncomputable abbrev words_hex_c16 : Code := Code.fst words_hex_c14
noncomputable abbrev words_hex_c17 : Code := Code.snd words_hex_c14
noncomputable abbrev words_hex_c18 : Code := Code.fst words_hex_c15
noncomputable abbrev words_hex_c19 : Code := Code.snd words_hex_c15
noncomputable abbrev words_hex_c20 : Code := Code.fst words_hex_c19
noncomputable abbrev words_hex_c21 : Code := Code.snd words_hex_c19
noncomputable abbrev words_hex_c22 : Code := Code.fst words_hex_c20
noncomputable abbrev words_hex_c23 : Code := Code.snd words_hex_c20
noncomputable abbrev words_hex_c24 : Code := Code.fst words_hex_c4
noncomputable abbrev words_hex_c25 : Code := Code.snd words_hex_c4
abbrev words_hex_R (w : World) (F : Nat → Prop) (r : Int × Bool) : Ending → World → Prop := fun e w' => e = .returned (.tuple #[.int .u8 r.1, .bool r.2]) ∧ B.Loc w w' [] [St w []]
noncomputable abbrev words_hex_C (w : World) (F : Nat → Prop) (r : Int × Bool) : Cx := ⟨Tryd.prog, 47, Tryd.f47, 29, words_hex_R w F  r, w⟩
theorem words_hex_calls (w : World) (F : Nat → Prop) (x1 : Int) (hF : ∀ b, F b → b < w.heap.size ∧ ∀ o ∈ ([] : List (List Nat)), b ∉ o) (hL0 : B.Loc w w [] [Sm w.heap.size F w [], St w []]) (r : Int × Bool) (h : words_hex x1 r) : Calls Tryd.prog 47 #[.int .u8 x1] w (words_hex_R w F  r) := by
  unfold words_hex at h
  refine calls_of_Loc (vs := [.int .u8 x1]) 29 Tryd.func47 rfl Tryd.ntmps47 rfl hL0 ?_
  show G (words_hex_C w F r) _ _ _ _
  refine g_seq (c := words_hex_c0) rfl ?_
  refine g_region (c := words_hex_c1) rfl rfl ?_
  refine wl_v 0 rfl (v_assign rfl) gn rfl ?_
  refine wl_v 1 rfl (v_assign rfl) gn rfl ?_
  refine w_end 2 rfl ?_
  refine g_seq (c := words_hex_c2) rfl ?_
  refine g_block (c := words_hex_c3) rfl ?_
  refine g_seq (c := words_hex_c5) rfl ?_
  refine g_region (c := words_hex_c6) rfl rfl ?_
  refine wl_v 0 rfl (v_move rfl) gn rfl ?_
  obtain ⟨r5, hv6, h⟩ := h
  refine wl_s 1 rfl (s_call [.int .u8 x1] rfl Tryd.func28 rfl rfl rfl fun w2 hL3 => ?_) gn
  have hp4 : List.Perm ([] : List Ent) (([] : List Ent) ++ ([] : List Ent)) := perm_of_idx [] [] rfl rfl (by kernel_rfl)
  refine Calls.mono (words_digit_calls w2 (Fl ([] : List Snap)) x1 (hL3.hFl (Sl := ([] : List Snap)) hp4 (sels [] rfl)) (hL3.into hp4 (Fl ([] : List Snap))) r5 hv6) ?_
  rintro _ w7 ⟨rfl, hM8⟩
  have hL9 := hL3.call hp4 hM8
  refine ⟨_, _, _, rfl, hL9, ?_⟩
  refine wl_v 2 rfl (v_assign rfl) gn rfl ?_
  refine w_end 3 rfl ?_
  by_cases hp10 : r5 = true
  · have h := if_pos' hp10 h
    refine g_true (c := words_hex_c7) rfl _ rfl (hp10) ?_
    refine g_seq (c := words_hex_c8) rfl ?_
    refine g_region (c := words_hex_c10) rfl rfl ?_
    refine wl_v 0 rfl (v_move rfl) gn rfl ?_
    refine wl_v 1 rfl (v_bin rfl rfl rfl) gn rfl ?_
    refine wl_v 2 rfl (v_assign rfl) gn rfl ?_
    refine wl_v 3 rfl (v_assign rfl) gn rfl ?_
    refine w_end 4 rfl ?_
    refine g_retR (c := words_hex_c11) [.int .u8 (IntKind.u8.wrap (x1 - 48)), .bool true] rfl Tryd.func47 rfl (.tmp rfl (.tmp rfl (.nil))) fun wr hLr => ?_
    have hMr : B.Loc w wr [] [St w []] := hLr.pick (rest := []) (perm_of_idx [] [] rfl rfl (by kernel_rfl)) (sels [1] rfl)
    have hMi : ∀ e ∈ ([] : List Ent), e ∈ ([] : List Ent) := sels [] rfl
    show words_hex_R w F  r (.returned (packV [.int .u8 (IntKind.u8.wrap (x1 - 48)), .bool true])) wr
    rw [h]
    exact ⟨rfl, hMr⟩
  · have h := if_neg' hp10 h
    refine g_false (c := words_hex_c7) rfl _ rfl ((bf hp10)) ?_
    refine g_seq (c := words_hex_c9) rfl ?_
    have j1 : ∀ (x13 : Bool) (h : words_hex_j1 x1 x13 r) , G (words_hex_C w F r) [.code words_hex_c13, .inBlock 0, .code words_hex_c4] [(0, .int .u8 x1), (9, .bool x13)] [] [Sm w.heap.size F w [], St w []] := by
      intro x13 h
      unfold words_hex_j1 at h
      by_cases hp14 : x13 = true
      · have h := if_pos' hp14 h
        refine g_true (c := words_hex_c13) rfl _ rfl (hp14) ?_
        refine g_seq (c := words_hex_c14) rfl ?_
        refine g_region (c := words_hex_c16) rfl rfl ?_
        refine wl_v 0 rfl (v_move rfl) gn rfl ?_
        refine wl_v 1 rfl (v_bin rfl rfl rfl) gn rfl ?_
        refine wl_v 2 rfl (v_bin rfl rfl rfl) gn rfl ?_
        refine wl_v 3 rfl (v_assign rfl) gn rfl ?_
        refine wl_v 4 rfl (v_assign rfl) gn rfl ?_
        refine w_end 5 rfl ?_
        refine g_retR (c := words_hex_c17) [.int .u8 (IntKind.u8.wrap ((IntKind.u8.wrap (x1 - 97)) + 10)), .bool true] rfl Tryd.func47 rfl (.tmp rfl (.tmp rfl (.nil))) fun wr hLr => ?_
        have hMr : B.Loc w wr [] [St w []] := hLr.pick (rest := []) (perm_of_idx [] [] rfl rfl (by kernel_rfl)) (sels [1] rfl)
        have hMi : ∀ e ∈ ([] : List Ent), e ∈ ([] : List Ent) := sels [] rfl
        show words_hex_R w F  r (.returned (packV [.int .u8 (IntKind.u8.wrap ((IntKind.u8.wrap (x1 - 97)) + 10)), .bool true])) wr
        rw [h]
        exact ⟨rfl, hMr⟩
      · have h := if_neg' hp14 h
        refine g_false (c := words_hex_c13) rfl _ rfl ((bf hp14)) ?_
        refine g_seq (c := words_hex_c15) rfl ?_
        have j2 : ∀ (x17 : Bool) (h : words_hex_j2 x1 x17 r) , G (words_hex_C w F r) [.code words_hex_c19, .inBlock 0, .code words_hex_c4] [(0, .int .u8 x1), (19, .bool x17)] [] [Sm w.heap.size F w [], St w []] := by
          intro x17 h
          unfold words_hex_j2 at h
          by_cases hp18 : x17 = true
          · have h := if_pos' hp18 h
            refine g_true (c := words_hex_c19) rfl _ rfl (hp18) ?_
            refine g_seq (c := words_hex_c20) rfl ?_
            refine g_region (c := words_hex_c22) rfl rfl ?_
            refine wl_v 0 rfl (v_move rfl) gn rfl ?_
            refine wl_v 1 rfl (v_bin rfl rfl rfl) gn rfl ?_
            refine wl_v 2 rfl (v_bin rfl rfl rfl) gn rfl ?_
            refine wl_v 3 rfl (v_assign rfl) gn rfl ?_
            refine wl_v 4 rfl (v_assign rfl) gn rfl ?_
            refine w_end 5 rfl ?_
            refine g_retR (c := words_hex_c23) [.int .u8 (IntKind.u8.wrap ((IntKind.u8.wrap (x1 - 65)) + 10)), .bool true] rfl Tryd.func47 rfl (.tmp rfl (.tmp rfl (.nil))) fun wr hLr => ?_
            have hMr : B.Loc w wr [] [St w []] := hLr.pick (rest := []) (perm_of_idx [] [] rfl rfl (by kernel_rfl)) (sels [1] rfl)
            have hMi : ∀ e ∈ ([] : List Ent), e ∈ ([] : List Ent) := sels [] rfl
            show words_hex_R w F  r (.returned (packV [.int .u8 (IntKind.u8.wrap ((IntKind.u8.wrap (x1 - 65)) + 10)), .bool true])) wr
            rw [h]
            exact ⟨rfl, hMr⟩
          · have h := if_neg' hp18 h
            refine g_false (c := words_hex_c19) rfl _ rfl ((bf hp18)) ?_
            refine g_skip (c := words_hex_c21) rfl ?_
            refine g_inBlock ?_
            refine g_seq (c := words_hex_c4) rfl ?_
            refine g_region (c := words_hex_c24) rfl rfl ?_
            refine wl_v 0 rfl (v_assign rfl) gn rfl ?_
            refine wl_v 1 rfl (v_assign rfl) gn rfl ?_
            refine w_end 2 rfl ?_
            refine g_retR (c := words_hex_c25) [.int .u8 0, .bool false] rfl Tryd.func47 rfl (.tmp rfl (.tmp rfl (.nil))) fun wr hLr => ?_
            have hMr : B.Loc w wr [] [St w []] := hLr.pick (rest := []) (perm_of_idx [] [] rfl rfl (by kernel_rfl)) (sels [1] rfl)
            have hMi : ∀ e ∈ ([] : List Ent), e ∈ ([] : List Ent) := sels [] rfl
            show words_hex_R w F  r (.returned (packV [.int .u8 0, .bool false])) wr
            rw [h]
            exact ⟨rfl, hMr⟩
        refine g_region (c := words_hex_c18) rfl rfl ?_
        refine wl_v 0 rfl (v_move rfl) gn rfl ?_
        refine wl_v 1 rfl (v_bin rfl rfl rfl) gn rfl ?_
        refine wl_v 2 rfl (v_move rfl) gn rfl ?_
        by_cases hp19 : x1 ≥ 65
        · have h := if_pos' hp19 h
          refine w_bool 22 rfl ((decide_eq_true hp19)) ?_
          refine wl_v 3 rfl (v_move rfl) (gy 22 rfl rfl) rfl ?_
          refine wl_v 4 rfl (v_bin rfl rfl rfl) (gy 22 rfl rfl) rfl ?_
          refine wl_v 5 rfl (v_pick (b := true) rfl rfl) gn rfl ?_
          refine wl_v 6 rfl (v_assign rfl) gn rfl ?_
          refine w_end 7 rfl ?_
          exact g_go [0, 1] (j2 (decide (x1 ≤ 70)) h) ⟨rfl, rfl, trivial⟩ (.slnil) rfl
        · have h := if_neg' hp19 h
          refine w_bool 22 rfl ((decide_eq_false hp19)) ?_
          refine wl_pass 3 rfl (ps 22 rfl rfl rfl) ?_
          refine wl_pass 4 rfl (ps 22 rfl rfl rfl) ?_
          refine wl_v 5 rfl (v_pick (b := false) rfl rfl) gn rfl ?_
          refine wl_v 6 rfl (v_assign rfl) gn rfl ?_
          refine w_end 7 rfl ?_
          exact g_go [0, 1] (j2 false h) ⟨rfl, rfl, trivial⟩ (.slnil) rfl
    refine g_region (c := words_hex_c12) rfl rfl ?_
    refine wl_v 0 rfl (v_move rfl) gn rfl ?_
    refine wl_v 1 rfl (v_bin rfl rfl rfl) gn rfl ?_
    refine wl_v 2 rfl (v_move rfl) gn rfl ?_
    by_cases hp20 : x1 ≥ 97
    · have h := if_pos' hp20 h
      refine w_bool 12 rfl ((decide_eq_true hp20)) ?_
      refine wl_v 3 rfl (v_move rfl) (gy 12 rfl rfl) rfl ?_
      refine wl_v 4 rfl (v_bin rfl rfl rfl) (gy 12 rfl rfl) rfl ?_
      refine wl_v 5 rfl (v_pick (b := true) rfl rfl) gn rfl ?_
      refine wl_v 6 rfl (v_assign rfl) gn rfl ?_
      refine w_end 7 rfl ?_
      exact g_go [0, 1] (j1 (decide (x1 ≤ 102)) h) ⟨rfl, rfl, trivial⟩ (.slnil) rfl
    · have h := if_neg' hp20 h
      refine w_bool 12 rfl ((decide_eq_false hp20)) ?_
      refine wl_pass 3 rfl (ps 12 rfl rfl rfl) ?_
      refine wl_pass 4 rfl (ps 12 rfl rfl rfl) ?_
      refine wl_v 5 rfl (v_pick (b := false) rfl rfl) gn rfl ?_
      refine wl_v 6 rfl (v_assign rfl) gn rfl ?_
      refine w_end 7 rfl ?_
      exact g_go [0, 1] (j1 false h) ⟨rfl, rfl, trivial⟩ (.slnil) rfl
noncomputable abbrev words_escape_c0 : Code := bodyOf Tryd.f41
noncomputable abbrev words_escape_c1 : Code := Code.fst words_escape_c0
noncomputable abbrev words_escape_c2 : Code := Code.snd words_escape_c0
noncomputable abbrev words_escape_c3 : Code := Code.fst words_escape_c2
noncomputable abbrev words_escape_c4 : Code := Code.snd words_escape_c2
noncomputable abbrev words_escape_c5 : Code := Code.fst words_escape_c3
noncomputable abbrev words_escape_c6 : Code := Code.snd words_escape_c3
noncomputable abbrev words_escape_c7 : Code := Code.fst words_escape_c6
noncomputable abbrev words_escape_c8 : Code := Code.snd words_escape_c6
noncomputable abbrev words_escape_c9 : Code := Code.fst words_escape_c7
noncomputable abbrev words_escape_c10 : Code := Code.snd words_escape_c7
noncomputable abbrev words_escape_c11 : Code := Code.fst words_escape_c4
noncomputable abbrev words_escape_c12 : Code := Code.snd words_escape_c4
noncomputable abbrev words_escape_c13 : Code := Code.fst words_escape_c11
noncomputable abbrev words_escape_c14 : Code := Code.snd words_escape_c11
noncomputable abbrev words_escape_c15 : Code := Code.fst words_escape_c14
noncomputable abbrev words_escape_c16 : Code := Code.fst words_escape_c15
noncomputable abbrev words_escape_c17 : Code := Code.snd words_escape_c15
noncomputable abbrev words_escape_c18 : Code := Code.fst words_escape_c16
noncomputable abbrev words_escape_c19 : Code := Code.snd words_escape_c16
noncomputable abbrev words_escape_c20 : Code := Code.fst words_escape_c19
noncomputable abbrev words_escape_c21 : Code := Code.snd words_escape_c19
noncomputable abbrev words_escape_c22 : Code := Code.fst words_escape_c17
noncomputable abbrev words_escape_c23 : Code := Code.snd words_escape_c17
noncomputable abbrev words_escape_c24 : Code := Code.fst words_escape_c22
noncomputable abbrev words_escape_c25 : Code := Code.snd words_escape_c22
noncomputable abbrev words_escape_c26 : Code := Code.fst words_escape_c23
noncomputable abbrev words_escape_c27 : Code := Code.snd words_escape_c23
noncomputable abbrev words_escape_c28 : Code := Code.fst words_escape_c27
noncomputable abbrev words_escape_c29 : Code := Code.snd words_escape_c27
noncomputable abbrev words_escape_c30 : Code := Code.fst words_escape_c28
noncomputable abbrev words_escape_c31 : Code := Code.snd words_escape_c28
noncomputable abbrev words_escape_c32 : Code := Code.fst words_escape_c29
noncomputable abbrev words_escape_c33 : Code := Code.snd words_escape_c29
noncomputable abbrev words_escape_c34 : Code := Code.fst words_escape_c33
noncomputable abbrev words_escape_c35 : Code := Code.snd words_escape_c33
noncomputable abbrev words_escape_c36 : Code := Code.fst words_escape_c34
noncomputable abbrev words_escape_c37 : Code := Code.snd words_escape_c34
noncomputable abbrev words_escape_c38 : Code := Code.fst words_escape_c35
noncomputable abbrev words_escape_c39 : Code := Code.snd words_escape_c35
noncomputable abbrev words_escape_c40 : Code := Code.fst words_escape_c39
noncomputable abbrev words_escape_c41 : Code := Code.snd words_escape_c39
noncomputable abbrev words_escape_c42 : Code := Code.fst words_escape_c40
noncomputable abbrev words_escape_c43 : Code := Code.snd words_escape_c40
noncomputable abbrev words_escape_c44 : Code := Code.fst words_escape_c41
noncomputable abbrev words_escape_c45 : Code := Code.snd words_escape_c41
noncomputable abbrev words_escape_c46 : Code := Code.fst words_escape_c45
noncomputable abbrev words_escape_c47 : Code := Code.snd words_escape_c45
noncomputable abbrev words_escape_c48 : Code := Code.fst words_escape_c46
noncomputable abbrev words_escape_c49 : Code := Code.snd words_escape_c46
noncomputable abbrev words_escape_c50 : Code := Code.fst words_escape_c49
noncomputable abbrev words_escape_c51 : Code := Code.snd words_escape_c49
noncomputable abbrev words_escape_c52 : Code := Code.fst words_escape_c50
noncomputable abbrev words_escape_c53 : Code := Code.snd words_escape_c50
noncomputable abbrev words_escape_c54 : Code := Code.fst words_escape_c53
noncomputable abbrev words_escape_c55 : Code := Code.snd words_escape_c53
noncomputable abbrev words_escape_c56 : Code := Code.fst words_escape_c55
noncomputable abbrev words_escape_c57 : Code := Code.snd words_escape_c55
noncomputable abbrev words_escape_c58 : Code := Code.fst words_escape_c57
noncomputable abbrev words_escape_c59 : Code := Code.snd words_escape_c57
noncomputable abbrev words_escape_c60 : Code := Code.fst words_escape_c58
noncomputable abbrev words_escape_c61 : Code := Code.snd words_escape_c58
noncomputable abbrev words_escape_c62 : Code := Code.fst words_escape_c12
noncomputable abbrev words_escape_c63 : Code := Code.snd words_escape_c12
abbrev words_escape_R (w : World) (F : Nat → Prop) (r : Int × Int) : Ending → World → Prop := fun e w' => e = .returned (.tuple #[.int .u8 r.1, .int .i64 r.2]) ∧ B.Loc w w' [] [St w []]
noncomputable abbrev words_escape_C (w : World) (F : Nat → Prop) (r : Int × Int) : Cx := ⟨Tryd.prog, 41, Tryd.f41, 63, words_escape_R w F  r, w⟩
theorem words_escape_calls (w : World) (F : Nat → Prop) (x1 : ByteArray) (x2 : Int) (hF : ∀ b, F b → b < w.heap.size ∧ ∀ o ∈ ([] : List (List Nat)), b ∉ o) (hL0 : B.Loc w w [] [Sm w.heap.size F w [], St w []]) (r : Int × Int) (h : words_escape x1 x2 r) : Calls Tryd.prog 41 #[.string x1, .int .i64 x2] w (words_escape_R w F  r) := by
  unfold words_escape at h
  refine calls_of_Loc (vs := [.string x1, .int .i64 x2]) 63 Tryd.func41 rfl Tryd.ntmps41 rfl hL0 ?_
  show G (words_escape_C w F r) _ _ _ _
  refine g_seq (c := words_escape_c0) rfl ?_
  refine g_region (c := words_escape_c1) rfl rfl ?_
  refine wl_v 0 rfl (v_assign rfl) gn rfl ?_
  refine wl_v 1 rfl (v_assign rfl) gn rfl ?_
  refine w_end 2 rfl ?_
  refine g_seq (c := words_escape_c2) rfl ?_
  refine g_seq (c := words_escape_c3) rfl ?_
  refine g_region (c := words_escape_c5) rfl rfl ?_
  refine wl_v 0 rfl (v_move rfl) gn rfl ?_
  refine wl_v 1 rfl (v_bin rfl rfl rfl) gn rfl ?_
  refine wl_v 2 rfl (v_move rfl) gn rfl ?_
  refine wl_v 3 rfl (v_lenS un_9 rfl) gn rfl ?_
  refine wl_v 4 rfl (v_bin rfl rfl rfl) gn rfl ?_
  refine w_end 5 rfl ?_
  by_cases hp3 : w64 (x2 + 1) ≥ (x1.size : Int)
  · have h := if_pos' hp3 h
    refine g_true (c := words_escape_c6) rfl _ rfl ((decide_eq_true hp3)) ?_
    refine g_seq (c := words_escape_c7) rfl ?_
    refine g_region (c := words_escape_c9) rfl rfl ?_
    refine wl_v 0 rfl (v_assign rfl) gn rfl ?_
    refine wl_v 1 rfl (v_assign rfl) gn rfl ?_
    refine w_end 2 rfl ?_
    refine g_retR (c := words_escape_c10) [.int .u8 0, .int .i64 0] rfl Tryd.func41 rfl (.tmp rfl (.tmp rfl (.nil))) fun wr hLr => ?_
    have hMr : B.Loc w wr [] [St w []] := hLr.pick (rest := []) (perm_of_idx [] [] rfl rfl (by kernel_rfl)) (sels [1] rfl)
    have hMi : ∀ e ∈ ([] : List Ent), e ∈ ([] : List Ent) := sels [] rfl
    show words_escape_R w F  r (.returned (packV [.int .u8 0, .int .i64 0])) wr
    rw [h]
    exact ⟨rfl, hMr⟩
  · have h := if_neg' hp3 h
    refine g_false (c := words_escape_c6) rfl _ rfl ((decide_eq_false hp3)) ?_
    refine g_skip (c := words_escape_c8) rfl ?_
    refine g_seq (c := words_escape_c4) rfl ?_
    refine g_seq (c := words_escape_c11) rfl ?_
    refine g_region (c := words_escape_c13) rfl rfl ?_
    refine wl_v 0 rfl (v_move rfl) gn rfl ?_
    refine wl_v 1 rfl (v_move rfl) gn rfl ?_
    refine wl_v 2 rfl (v_bin rfl rfl rfl) gn rfl ?_
    obtain ⟨hb4, h⟩ := h
    refine wl_v 3 rfl (v_indexS un_9 rfl rfl hb4) gn rfl ?_
    refine w_end 4 rfl ?_
    refine g_block (c := words_escape_c14) rfl ?_
    refine g_seq (c := words_escape_c15) rfl ?_
    refine g_seq (c := words_escape_c16) rfl ?_
    refine g_region (c := words_escape_c18) rfl rfl ?_
    refine wl_v 0 rfl (v_bin rfl rfl rfl) gn rfl ?_
    refine wl_v 1 rfl (v_assign rfl) gn rfl ?_
    refine w_end 2 rfl ?_
    have j1 : ∀ (x7 : Bool) (h : words_escape_j1 x1 x2 x7 r) , G (words_escape_C w F r) [.code words_escape_c17, .inBlock 0, .code words_escape_c12] [(0, .string x1), (1, .int .i64 x2), (18, .int .u8 (bt x1 (w64 (x2 + 1)))), (19, .bool x7)] [] [Sm w.heap.size F w [], St w []] := by
      intro x7 h
      unfold words_escape_j1 at h
      by_cases hp8 : x7 = true
      · have h := if_pos' hp8 h
        refine g_true (c := words_escape_c17) rfl _ rfl (hp8) ?_
        refine g_seq (c := words_escape_c22) rfl ?_
        refine g_region (c := words_escape_c24) rfl rfl ?_
        refine wl_v 0 rfl (v_move rfl) gn rfl ?_
        refine wl_v 1 rfl (v_move rfl) gn rfl ?_
        refine wl_v 2 rfl (v_bin rfl rfl rfl) gn rfl ?_
        refine wl_v 3 rfl (v_indexS un_9 rfl rfl hb4) gn rfl ?_
        refine wl_v 4 rfl (v_assign rfl) gn rfl ?_
        refine wl_v 5 rfl (v_assign rfl) gn rfl ?_
        refine w_end 6 rfl ?_
        refine g_retR (c := words_escape_c25) [.int .u8 (bt x1 (w64 (x2 + 1))), .int .i64 2] rfl Tryd.func41 rfl (.tmp rfl (.tmp rfl (.nil))) fun wr hLr => ?_
        have hMr : B.Loc w wr [] [St w []] := hLr.pick (rest := []) (perm_of_idx [] [] rfl rfl (by kernel_rfl)) (sels [1] rfl)
        have hMi : ∀ e ∈ ([] : List Ent), e ∈ ([] : List Ent) := sels [] rfl
        show words_escape_R w F  r (.returned (packV [.int .u8 (bt x1 (w64 (x2 + 1))), .int .i64 2])) wr
        rw [h]
        exact ⟨rfl, hMr⟩
      · have h := if_neg' hp8 h
        refine g_false (c := words_escape_c17) rfl _ rfl ((bf hp8)) ?_
        refine g_seq (c := words_escape_c23) rfl ?_
        refine g_region (c := words_escape_c26) rfl rfl ?_
        refine wl_v 0 rfl (v_bin rfl rfl rfl) gn rfl ?_
        refine wl_v 1 rfl (v_assign rfl) gn rfl ?_
        refine w_end 2 rfl ?_
        by_cases hp9 : bt x1 (w64 (x2 + 1)) = 110
        · have h := if_pos' hp9 h
          refine g_true (c := words_escape_c27) rfl _ rfl ((eqi hp9)) ?_
          refine g_seq (c := words_escape_c28) rfl ?_
          refine g_region (c := words_escape_c30) rfl rfl ?_
          refine wl_v 0 rfl (v_assign rfl) gn rfl ?_
          refine wl_v 1 rfl (v_assign rfl) gn rfl ?_
          refine w_end 2 rfl ?_
          refine g_retR (c := words_escape_c31) [.int .u8 10, .int .i64 2] rfl Tryd.func41 rfl (.tmp rfl (.tmp rfl (.nil))) fun wr hLr => ?_
          have hMr : B.Loc w wr [] [St w []] := hLr.pick (rest := []) (perm_of_idx [] [] rfl rfl (by kernel_rfl)) (sels [1] rfl)
          have hMi : ∀ e ∈ ([] : List Ent), e ∈ ([] : List Ent) := sels [] rfl
          show words_escape_R w F  r (.returned (packV [.int .u8 10, .int .i64 2])) wr
          rw [h]
          exact ⟨rfl, hMr⟩
        · have h := if_neg' hp9 h
          refine g_false (c := words_escape_c27) rfl _ rfl ((nei hp9)) ?_
          refine g_seq (c := words_escape_c29) rfl ?_
          refine g_region (c := words_escape_c32) rfl rfl ?_
          refine wl_v 0 rfl (v_bin rfl rfl rfl) gn rfl ?_
          refine wl_v 1 rfl (v_assign rfl) gn rfl ?_
          refine w_end 2 rfl ?_
          by_cases hp10 : bt x1 (w64 (x2 + 1)) = 116
          · have h := if_pos' hp10 h
            refine g_true (c := words_escape_c33) rfl _ rfl ((eqi hp10)) ?_
            refine g_seq (c := words_escape_c34) rfl ?_
            refine g_region (c := words_escape_c36) rfl rfl ?_
            refine wl_v 0 rfl (v_assign rfl) gn rfl ?_
            refine wl_v 1 rfl (v_assign rfl) gn rfl ?_
            refine w_end 2 rfl ?_
            refine g_retR (c := words_escape_c37) [.int .u8 9, .int .i64 2] rfl Tryd.func41 rfl (.tmp rfl (.tmp rfl (.nil))) fun wr hLr => ?_
            have hMr : B.Loc w wr [] [St w []] := hLr.pick (rest := []) (perm_of_idx [] [] rfl rfl (by kernel_rfl)) (sels [1] rfl)
            have hMi : ∀ e ∈ ([] : List Ent), e ∈ ([] : List Ent) := sels [] rfl
            show words_escape_R w F  r (.returned (packV [.int .u8 9, .int .i64 2])) wr
            rw [h]
            exact ⟨rfl, hMr⟩
          · have h := if_neg' hp10 h
            refine g_false (c := words_escape_c33) rfl _ rfl ((nei hp10)) ?_
            refine g_seq (c := words_escape_c35) rfl ?_
            refine g_region (c := words_escape_c38) rfl rfl ?_
            refine wl_v 0 rfl (v_bin rfl rfl rfl) gn rfl ?_
            refine wl_v 1 rfl (v_assign rfl) gn rfl ?_
            refine w_end 2 rfl ?_
            by_cases hp11 : bt x1 (w64 (x2 + 1)) = 114
            · have h := if_pos' hp11 h
              refine g_true (c := words_escape_c39) rfl _ rfl ((eqi hp11)) ?_
              refine g_seq (c := words_escape_c40) rfl ?_
              refine g_region (c := words_escape_c42) rfl rfl ?_
              refine wl_v 0 rfl (v_assign rfl) gn rfl ?_
              refine wl_v 1 rfl (v_assign rfl) gn rfl ?_
              refine w_end 2 rfl ?_
              refine g_retR (c := words_escape_c43) [.int .u8 13, .int .i64 2] rfl Tryd.func41 rfl (.tmp rfl (.tmp rfl (.nil))) fun wr hLr => ?_
              have hMr : B.Loc w wr [] [St w []] := hLr.pick (rest := []) (perm_of_idx [] [] rfl rfl (by kernel_rfl)) (sels [1] rfl)
              have hMi : ∀ e ∈ ([] : List Ent), e ∈ ([] : List Ent) := sels [] rfl
              show words_escape_R w F  r (.returned (packV [.int .u8 13, .int .i64 2])) wr
              rw [h]
              exact ⟨rfl, hMr⟩
            · have h := if_neg' hp11 h
              refine g_false (c := words_escape_c39) rfl _ rfl ((nei hp11)) ?_
              refine g_seq (c := words_escape_c41) rfl ?_
              refine g_region (c := words_escape_c44) rfl rfl ?_
              refine wl_v 0 rfl (v_bin rfl rfl rfl) gn rfl ?_
              refine wl_v 1 rfl (v_assign rfl) gn rfl ?_
              refine w_end 2 rfl ?_
              by_cases hp12 : bt x1 (w64 (x2 + 1)) = 120
              · have h := if_pos' hp12 h
                refine g_true (c := words_escape_c45) rfl _ rfl ((eqi hp12)) ?_
                refine g_seq (c := words_escape_c46) rfl ?_
                refine g_region (c := words_escape_c48) rfl rfl ?_
                refine wl_v 0 rfl (v_move rfl) gn rfl ?_
                refine wl_v 1 rfl (v_bin rfl rfl rfl) gn rfl ?_
                refine wl_v 2 rfl (v_move rfl) gn rfl ?_
                refine wl_v 3 rfl (v_lenS un_9 rfl) gn rfl ?_
                refine wl_v 4 rfl (v_bin rfl rfl rfl) gn rfl ?_
                refine w_end 5 rfl ?_
                by_cases hp13 : w64 (x2 + 3) < (x1.size : Int)
                · have h := if_pos' hp13 h
                  refine g_true (c := words_escape_c49) rfl _ rfl ((decide_eq_true hp13)) ?_
                  refine g_seq (c := words_escape_c50) rfl ?_
                  refine g_region (c := words_escape_c52) rfl rfl ?_
                  refine wl_v 0 rfl (v_move rfl) gn rfl ?_
                  refine wl_v 1 rfl (v_move rfl) gn rfl ?_
                  refine wl_v 2 rfl (v_bin rfl rfl rfl) gn rfl ?_
                  obtain ⟨hb14, h⟩ := h
                  refine wl_v 3 rfl (v_indexS un_9 rfl rfl hb14) gn rfl ?_
                  obtain ⟨r18, hv19, h⟩ := h
                  refine wl_s 4 rfl (s_call [.int .u8 (bt x1 (w64 (x2 + 2)))] rfl Tryd.func47 rfl rfl rfl fun w15 hL16 => ?_) gn
                  have hp17 : List.Perm ([] : List Ent) (([] : List Ent) ++ ([] : List Ent)) := perm_of_idx [] [] rfl rfl (by kernel_rfl)
                  refine Calls.mono (words_hex_calls w15 (Fl ([] : List Snap)) (bt x1 (w64 (x2 + 2))) (hL16.hFl (Sl := ([] : List Snap)) hp17 (sels [] rfl)) (hL16.into hp17 (Fl ([] : List Snap))) r18 hv19) ?_
                  rintro _ w20 ⟨rfl, hM21⟩
                  have hL22 := hL16.call hp17 hM21
                  refine ⟨_, _, _, rfl, hL22, ?_⟩
                  refine wl_v 5 rfl (v_move rfl) gn rfl ?_
                  refine wl_v 6 rfl (v_extract rfl rfl) gn rfl ?_
                  refine wl_v 7 rfl (v_extract rfl rfl) gn rfl ?_
                  refine wl_v 8 rfl (v_assign rfl) gn rfl ?_
                  refine wl_v 9 rfl (v_assign rfl) gn rfl ?_
                  refine w_end 10 rfl ?_
                  refine g_seq (c := words_escape_c53) rfl ?_
                  refine g_region (c := words_escape_c54) rfl rfl ?_
                  refine wl_v 0 rfl (v_move rfl) gn rfl ?_
                  refine wl_v 1 rfl (v_move rfl) gn rfl ?_
                  refine wl_v 2 rfl (v_bin rfl rfl rfl) gn rfl ?_
                  obtain ⟨hb23, h⟩ := h
                  refine wl_v 3 rfl (v_indexS un_9 rfl rfl hb23) gn rfl ?_
                  obtain ⟨r27, hv28, h⟩ := h
                  refine wl_s 4 rfl (s_call [.int .u8 (bt x1 (w64 (x2 + 3)))] rfl Tryd.func47 rfl rfl rfl fun w24 hL25 => ?_) gn
                  have hp26 : List.Perm ([] : List Ent) (([] : List Ent) ++ ([] : List Ent)) := perm_of_idx [] [] rfl rfl (by kernel_rfl)
                  refine Calls.mono (words_hex_calls w24 (Fl ([] : List Snap)) (bt x1 (w64 (x2 + 3))) (hL25.hFl (Sl := ([] : List Snap)) hp26 (sels [] rfl)) (hL25.into hp26 (Fl ([] : List Snap))) r27 hv28) ?_
                  rintro _ w29 ⟨rfl, hM30⟩
                  have hL31 := hL25.call hp26 hM30
                  refine ⟨_, _, _, rfl, hL31, ?_⟩
                  refine wl_v 5 rfl (v_move rfl) gn rfl ?_
                  refine wl_v 6 rfl (v_extract rfl rfl) gn rfl ?_
                  refine wl_v 7 rfl (v_extract rfl rfl) gn rfl ?_
                  refine wl_v 8 rfl (v_assign rfl) gn rfl ?_
                  refine wl_v 9 rfl (v_assign rfl) gn rfl ?_
                  refine w_end 10 rfl ?_
                  refine g_seq (c := words_escape_c55) rfl ?_
                  have j2 : ∀ (x34 : Bool) (h : words_escape_j2 r18 r27 x34 r) , G (words_escape_C w F r) [.code words_escape_c57, .inBlock 0, .code words_escape_c12] [(6, .int .u8 r18.1), (8, .int .u8 r27.1), (58, .bool x34)] [] [Sm w.heap.size F w [], St w []] := by
                    intro x34 h
                    unfold words_escape_j2 at h
                    by_cases hp35 : x34 = true
                    · have h := if_pos' hp35 h
                      refine g_true (c := words_escape_c57) rfl _ rfl (hp35) ?_
                      refine g_seq (c := words_escape_c58) rfl ?_
                      refine g_region (c := words_escape_c60) rfl rfl ?_
                      refine wl_v 0 rfl (v_move rfl) gn rfl ?_
                      refine wl_v 1 rfl (v_bin rfl rfl rfl) gn rfl ?_
                      refine wl_v 2 rfl (v_move rfl) gn rfl ?_
                      refine wl_v 3 rfl (v_bin rfl rfl rfl) gn rfl ?_
                      refine wl_v 4 rfl (v_assign rfl) gn rfl ?_
                      refine wl_v 5 rfl (v_assign rfl) gn rfl ?_
                      refine w_end 6 rfl ?_
                      refine g_retR (c := words_escape_c61) [.int .u8 (IntKind.u8.wrap ((IntKind.u8.wrap (16 * r18.1)) + r27.1)), .int .i64 4] rfl Tryd.func41 rfl (.tmp rfl (.tmp rfl (.nil))) fun wr hLr => ?_
                      have hMr : B.Loc w wr [] [St w []] := hLr.pick (rest := []) (perm_of_idx [] [] rfl rfl (by kernel_rfl)) (sels [1] rfl)
                      have hMi : ∀ e ∈ ([] : List Ent), e ∈ ([] : List Ent) := sels [] rfl
                      show words_escape_R w F  r (.returned (packV [.int .u8 (IntKind.u8.wrap ((IntKind.u8.wrap (16 * r18.1)) + r27.1)), .int .i64 4])) wr
                      rw [h]
                      exact ⟨rfl, hMr⟩
                    · have h := if_neg' hp35 h
                      refine g_false (c := words_escape_c57) rfl _ rfl ((bf hp35)) ?_
                      refine g_skip (c := words_escape_c59) rfl ?_
                      refine g_inBlock ?_
                      refine g_seq (c := words_escape_c12) rfl ?_
                      refine g_region (c := words_escape_c62) rfl rfl ?_
                      refine wl_v 0 rfl (v_assign rfl) gn rfl ?_
                      refine wl_v 1 rfl (v_assign rfl) gn rfl ?_
                      refine w_end 2 rfl ?_
                      refine g_retR (c := words_escape_c63) [.int .u8 0, .int .i64 0] rfl Tryd.func41 rfl (.tmp rfl (.tmp rfl (.nil))) fun wr hLr => ?_
                      have hMr : B.Loc w wr [] [St w []] := hLr.pick (rest := []) (perm_of_idx [] [] rfl rfl (by kernel_rfl)) (sels [1] rfl)
                      have hMi : ∀ e ∈ ([] : List Ent), e ∈ ([] : List Ent) := sels [] rfl
                      show words_escape_R w F  r (.returned (packV [.int .u8 0, .int .i64 0])) wr
                      rw [h]
                      exact ⟨rfl, hMr⟩
                  refine g_region (c := words_escape_c56) rfl rfl ?_
                  refine wl_v 0 rfl (v_move rfl) gn rfl ?_
                  refine wl_v 1 rfl (v_move rfl) gn rfl ?_
                  by_cases hp36 : r18.2 = true
                  · have h := if_pos' hp36 h
                    refine w_bool 56 rfl (hp36) ?_
                    refine wl_v 2 rfl (v_move rfl) (gy 56 rfl rfl) rfl ?_
                    refine wl_v 3 rfl (v_pick (b := true) rfl rfl) gn rfl ?_
                    refine w_end 4 rfl ?_
                    exact g_go [0, 1] (j2 r27.2 h) ⟨rfl, rfl, rfl, trivial⟩ (.slnil) rfl
                  · have h := if_neg' hp36 h
                    refine w_bool 56 rfl ((bf hp36)) ?_
                    refine wl_pass 2 rfl (ps 56 rfl rfl rfl) ?_
                    refine wl_v 3 rfl (v_pick (b := false) rfl rfl) gn rfl ?_
                    refine w_end 4 rfl ?_
                    exact g_go [0, 1] (j2 false h) ⟨rfl, rfl, rfl, trivial⟩ (.slnil) rfl
                · have h := if_neg' hp13 h
                  refine g_false (c := words_escape_c49) rfl _ rfl ((decide_eq_false hp13)) ?_
                  refine g_skip (c := words_escape_c51) rfl ?_
                  refine g_inBlock ?_
                  refine g_seq (c := words_escape_c12) rfl ?_
                  refine g_region (c := words_escape_c62) rfl rfl ?_
                  refine wl_v 0 rfl (v_assign rfl) gn rfl ?_
                  refine wl_v 1 rfl (v_assign rfl) gn rfl ?_
                  refine w_end 2 rfl ?_
                  refine g_retR (c := words_escape_c63) [.int .u8 0, .int .i64 0] rfl Tryd.func41 rfl (.tmp rfl (.tmp rfl (.nil))) fun wr hLr => ?_
                  have hMr : B.Loc w wr [] [St w []] := hLr.pick (rest := []) (perm_of_idx [] [] rfl rfl (by kernel_rfl)) (sels [1] rfl)
                  have hMi : ∀ e ∈ ([] : List Ent), e ∈ ([] : List Ent) := sels [] rfl
                  show words_escape_R w F  r (.returned (packV [.int .u8 0, .int .i64 0])) wr
                  rw [h]
                  exact ⟨rfl, hMr⟩
              · have h := if_neg' hp12 h
                refine g_false (c := words_escape_c45) rfl _ rfl ((nei hp12)) ?_
                refine g_skip (c := words_escape_c47) rfl ?_
                refine g_inBlock ?_
                refine g_seq (c := words_escape_c12) rfl ?_
                refine g_region (c := words_escape_c62) rfl rfl ?_
                refine wl_v 0 rfl (v_assign rfl) gn rfl ?_
                refine wl_v 1 rfl (v_assign rfl) gn rfl ?_
                refine w_end 2 rfl ?_
                refine g_retR (c := words_escape_c63) [.int .u8 0, .int .i64 0] rfl Tryd.func41 rfl (.tmp rfl (.tmp rfl (.nil))) fun wr hLr => ?_
                have hMr : B.Loc w wr [] [St w []] := hLr.pick (rest := []) (perm_of_idx [] [] rfl rfl (by kernel_rfl)) (sels [1] rfl)
                have hMi : ∀ e ∈ ([] : List Ent), e ∈ ([] : List Ent) := sels [] rfl
                show words_escape_R w F  r (.returned (packV [.int .u8 0, .int .i64 0])) wr
                rw [h]
                exact ⟨rfl, hMr⟩
    by_cases hp5 : bt x1 (w64 (x2 + 1)) = 34
    · have h := if_pos' hp5 h
      refine g_true (c := words_escape_c19) rfl _ rfl ((eqi hp5)) ?_
      refine g_skip (c := words_escape_c20) rfl ?_
      exact g_go [0, 1] (j1 ((bt x1 (w64 (x2 + 1))) == 34) h) ⟨rfl, rfl, rfl, rfl, trivial⟩ (.slnil) rfl
    · have h := if_neg' hp5 h
      refine g_false (c := words_escape_c19) rfl _ rfl ((nei hp5)) ?_
      refine g_region (c := words_escape_c21) rfl rfl ?_
      refine wl_v 0 rfl (v_bin rfl rfl rfl) gn rfl ?_
      refine wl_v 1 rfl (v_assign rfl) gn rfl ?_
      refine w_end 2 rfl ?_
      exact g_go [0, 1] (j1 ((bt x1 (w64 (x2 + 1))) == 92) h) ⟨rfl, rfl, rfl, rfl, trivial⟩ (.slnil) rfl
noncomputable abbrev words_quoted_c0 : Code := bodyOf Tryd.f30
noncomputable abbrev words_quoted_c1 : Code := Code.fst words_quoted_c0
noncomputable abbrev words_quoted_c2 : Code := Code.snd words_quoted_c0
noncomputable abbrev words_quoted_c3 : Code := Code.fst words_quoted_c2
noncomputable abbrev words_quoted_c4 : Code := Code.fst words_quoted_c3
noncomputable abbrev words_quoted_c5 : Code := Code.snd words_quoted_c3
noncomputable abbrev words_quoted_c6 : Code := Code.fst words_quoted_c5
noncomputable abbrev words_quoted_c7 : Code := Code.snd words_quoted_c5
noncomputable abbrev words_quoted_c8 : Code := Code.fst words_quoted_c7
noncomputable abbrev words_quoted_c9 : Code := Code.snd words_quoted_c7
noncomputable abbrev words_quoted_c10 : Code := Code.fst words_quoted_c9
noncomputable abbrev words_quoted_c11 : Code := Code.snd words_quoted_c9
noncomputable abbrev words_quoted_c12 : Code := Code.fst words_quoted_c10
noncomputable abbrev words_quoted_c13 : Code := Code.snd words_quoted_c10
noncomputable abbrev words_quoted_c14 : Code := Code.fst words_quoted_c13
noncomputable abbrev words_quoted_c15 : Code := Code.snd words_quoted_c13
noncomputable abbrev words_quoted_c16 : Code := Code.fst words_quoted_c14
noncomputable abbrev words_quoted_c17 : Code := Code.snd words_quoted_c14
noncomputable abbrev words_quoted_c18 : Code := Code.fst words_quoted_c11
noncomputable abbrev words_quoted_c19 : Code := Code.snd words_quoted_c11
noncomputable abbrev words_quoted_c20 : Code := Code.fst words_quoted_c18
noncomputable abbrev words_quoted_c21 : Code := Code.snd words_quoted_c18
noncomputable abbrev words_quoted_c22 : Code := Code.fst words_quoted_c21
noncomputable abbrev words_quoted_c23 : Code := Code.snd words_quoted_c21
noncomputable abbrev words_quoted_c24 : Code := Code.fst words_quoted_c23
noncomputable abbrev words_quoted_c25 : Code := Code.fst words_quoted_c24
noncomputable abbrev words_quoted_c26 : Code := Code.snd words_quoted_c24
noncomputable abbrev words_quoted_c27 : Code := Code.fst words_quoted_c26
noncomputable abbrev words_quoted_c28 : Code := Code.snd words_quoted_c26
noncomputable abbrev words_quoted_c29 : Code := Code.fst words_quoted_c27
noncomputable abbrev words_quoted_c30 : Code := Code.snd words_quoted_c27
noncomputable abbrev words_quoted_c31 : Code := Code.fst words_quoted_c28
noncomputable abbrev words_quoted_c32 : Code := Code.snd words_quoted_c28
noncomputable abbrev words_quoted_c33 : Code := Code.fst words_quoted_c32
noncomputable abbrev words_quoted_c34 : Code := Code.snd words_quoted_c32
noncomputable abbrev words_quoted_c35 : Code := Code.fst words_quoted_c33
noncomputable abbrev words_quoted_c36 : Code := Code.snd words_quoted_c33
noncomputable abbrev words_quoted_c37 : Code := Code.fst words_quoted_c36
noncomputable abbrev words_quoted_c38 : Code := Code.snd words_quoted_c36
noncomputable abbrev words_quoted_c39 : Code := Code.fst words_quoted_c37
noncomputable abbrev words_quoted_c40 : Code := Code.snd words_quoted_c37
noncomputable abbrev words_quoted_c41 : Code := Code.fst words_quoted_c40
noncomputable abbrev words_quoted_c42 : Code := Code.snd words_quoted_c40
noncomputable abbrev words_quoted_c43 : Code := Code.fst words_quoted_c41
noncomputable abbrev words_quoted_c44 : Code := Code.snd words_quoted_c41
noncomputable abbrev words_quoted_c45 : Code := Code.fst words_quoted_c38
noncomputable abbrev words_quoted_c46 : Code := Code.snd words_quoted_c38
noncomputable abbrev words_quoted_c47 : Code := Code.fst words_quoted_c34
noncomputable abbrev words_quoted_c48 : Code := Code.snd words_quoted_c34
abbrev words_quoted_R (w : World) (F : Nat → Prop) (r : (List Int) × Int × Int) : Ending → World → Prop := fun e w' => ∃ A0 : Option Addr, ∃ n0 : Nat, ∃ c0 : Nat, e = .returned (.tuple #[.slice A0 n0 c0, .int .i64 r.2.1, .int .i64 r.2.2]) ∧ B.Loc w w' [.own (.slice A0 n0 c0) 5 1 n0 (r.1.flatMap (eI .u8))] [St w []] ∧ Ow w.heap.size A0 n0 c0 r.1
noncomputable abbrev words_quoted_C (w : World) (F : Nat → Prop) (r : (List Int) × Int × Int) : Cx := ⟨Tryd.prog, 30, Tryd.f30, 58, words_quoted_R w F  r, w⟩
theorem words_quoted_calls (w : World) (F : Nat → Prop) (x1 : ByteArray) (x2 : Int) (hF : ∀ b, F b → b < w.heap.size ∧ ∀ o ∈ ([] : List (List Nat)), b ∉ o) (hL0 : B.Loc w w [] [Sm w.heap.size F w [], St w []]) (r : (List Int) × Int × Int) (h : words_quoted x1 x2 r) : Calls Tryd.prog 30 #[.string x1, .int .i64 x2] w (words_quoted_R w F  r) := by
  unfold words_quoted at h
  refine calls_of_Loc (vs := [.string x1, .int .i64 x2]) 58 Tryd.func30 rfl Tryd.ntmps30 rfl hL0 ?_
  show G (words_quoted_C w F r) _ _ _ _
  refine g_seq (c := words_quoted_c0) rfl ?_
  refine g_region (c := words_quoted_c1) rfl rfl ?_
  refine wl_v 0 rfl (v_assign rfl) gn rfl ?_
  refine wl_v 1 rfl (v_assign rfl) gn rfl ?_
  refine wl_v 2 rfl (v_assign rfl) gn rfl ?_
  refine w_end 3 rfl ?_
  refine g_scope (c := words_quoted_c2) rfl ?_
  refine g_seq (c := words_quoted_c3) rfl ?_
  refine g_region (c := words_quoted_c4) rfl rfl ?_
  refine wl_v 0 rfl (v_assign rfl) gn rfl ?_
  refine w_end 1 rfl ?_
  refine g_seq (c := words_quoted_c5) rfl ?_
  refine g_region (c := words_quoted_c6) rfl rfl ?_
  refine wl_v 0 rfl (v_move rfl) gn rfl ?_
  refine wl_v 1 rfl (v_bin rfl rfl rfl) gn rfl ?_
  refine wl_v 2 rfl (v_assign rfl) gn rfl ?_
  refine w_end 3 rfl ?_
  refine g_seq (c := words_quoted_c7) rfl ?_
  refine g_label (c := words_quoted_c8) rfl ?_
  have key1 : ∀ s, Rounds (fun (s : (List Int) × Int) o => words_quoted_b1 x1 x2 s.1 s.2 o) s r → (fun (s : (List Int) × Int) => ∀ (A44 : Option Addr) (n45 : Nat) (c46 : Nat) (h47 : Ow w.heap.size A44 n45 c46 s.1), G (words_quoted_C w F r) [.code words_quoted_c9, .inScope words_quoted_c3] [(0, .string x1), (1, .int .i64 x2), (7, .slice A44 n45 c46), (8, .int .i64 s.2)] [.own (.slice A44 n45 c46) 5 1 n45 (s.1.flatMap (eI .u8))] [Sm w.heap.size F w [], St w []]) s := by
    intro s hs
    refine Rounds.ind (mot := (fun (s : (List Int) × Int) => ∀ (A44 : Option Addr) (n45 : Nat) (c46 : Nat) (h47 : Ow w.heap.size A44 n45 c46 s.1), G (words_quoted_C w F r) [.code words_quoted_c9, .inScope words_quoted_c3] [(0, .string x1), (1, .int .i64 x2), (7, .slice A44 n45 c46), (8, .int .i64 s.2)] [.own (.slice A44 n45 c46) 5 1 n45 (s.1.flatMap (eI .u8))] [Sm w.heap.size F w [], St w []])) ?_ hs
    clear hs s
    intro s o1 h hO1
    obtain ⟨x43, x48⟩ := s
    show ∀ (A44 : Option Addr) (n45 : Nat) (c46 : Nat) (h47 : Ow w.heap.size A44 n45 c46 x43), G (words_quoted_C w F r) [.code words_quoted_c9, .inScope words_quoted_c3] [(0, .string x1), (1, .int .i64 x2), (7, .slice A44 n45 c46), (8, .int .i64 x48)] [.own (.slice A44 n45 c46) 5 1 n45 (x43.flatMap (eI .u8))] [Sm w.heap.size F w [], St w []]
    intro A44 n45 c46 h47
    have h : words_quoted_b1 x1 x2 x43 x48 o1 := h
    unfold words_quoted_b1 at h
    refine g_seq (c := words_quoted_c9) rfl ?_
    refine g_seq (c := words_quoted_c10) rfl ?_
    have j2 : ∀ (x89 : Bool) (h : words_quoted_j2 x2 x48 x1 x43 x89 o1) , G (words_quoted_C w F r) [.code words_quoted_c13, .code words_quoted_c11, .inScope words_quoted_c3] [(0, .string x1), (1, .int .i64 x2), (7, .slice A44 n45 c46), (8, .int .i64 x48), (23, .bool x89)] [.own (.slice A44 n45 c46) 5 1 n45 (x43.flatMap (eI .u8))] [Sm w.heap.size F w [], St w []] := by
      intro x89 h
      unfold words_quoted_j2 at h
      by_cases hp90 : x89 = true
      · have h := if_pos' hp90 h
        refine g_true (c := words_quoted_c13) rfl _ rfl (hp90) ?_
        refine g_seq (c := words_quoted_c14) rfl ?_
        refine g_region (c := words_quoted_c16) rfl rfl ?_
        refine wl_v 0 rfl (v_move rfl) gn rfl ?_
        refine wl_v 1 rfl (v_assign rfl) gn rfl ?_
        refine wl_v 2 rfl (v_assign rfl) gn rfl ?_
        refine wl_v 3 rfl (v_assign rfl) gn rfl ?_
        refine w_end 4 rfl ?_
        refine g_nil 5 1 ?_
        have h := Out.inr hO1 h
        refine g_retR (c := words_quoted_c17) [.slice none 0 0, .int .i64 82, .int .i64 x2] rfl Tryd.func30 rfl (.tmp rfl (.tmp rfl (.tmp rfl (.nil)))) fun wr hLr => ?_
        have hMr : B.Loc w wr [.own (.slice none 0 0) 5 1 0 (([] : List Int).flatMap (eI .u8))] [St w []] := hLr.pick (rest := [.own (.slice A44 n45 c46) 5 1 n45 (x43.flatMap (eI .u8))]) (perm_of_idx [0] [1] rfl rfl (by kernel_rfl)) (sels [1] rfl)
        have hMi : ∀ e ∈ ([.own (.slice none 0 0) 5 1 0 (([] : List Int).flatMap (eI .u8))] : List Ent), e ∈ ([.own (.slice none 0 0) 5 1 0 (([] : List Int).flatMap (eI .u8)), .own (.slice A44 n45 c46) 5 1 n45 (x43.flatMap (eI .u8))] : List Ent) := sels [0] rfl
        show words_quoted_R w F  r (.returned (packV [.slice none 0 0, .int .i64 82, .int .i64 x2])) wr
        rw [h]
        exact ⟨none, 0, 0, rfl, hMr, (Ow.nil (z := w.heap.size))⟩
      · have h := if_neg' hp90 h
        refine g_false (c := words_quoted_c13) rfl _ rfl ((bf hp90)) ?_
        refine g_skip (c := words_quoted_c15) rfl ?_
        refine g_seq (c := words_quoted_c11) rfl ?_
        refine g_seq (c := words_quoted_c18) rfl ?_
        refine g_region (c := words_quoted_c20) rfl rfl ?_
        refine wl_v 0 rfl (v_move rfl) gn rfl ?_
        refine wl_v 1 rfl (v_move rfl) gn rfl ?_
        obtain ⟨hb91, h⟩ := h
        refine wl_v 2 rfl (v_indexS un_9 rfl rfl hb91) gn rfl ?_
        refine wl_v 3 rfl (v_assign rfl) gn rfl ?_
        refine w_end 4 rfl ?_
        refine g_seq (c := words_quoted_c21) rfl ?_
        refine g_region (c := words_quoted_c22) rfl rfl ?_
        refine wl_v 0 rfl (v_move rfl) gn rfl ?_
        refine w_end 1 rfl ?_
        refine g_block (c := words_quoted_c23) rfl ?_
        refine g_seq (c := words_quoted_c24) rfl ?_
        refine g_region (c := words_quoted_c25) rfl rfl ?_
        refine wl_v 0 rfl (v_bin rfl rfl rfl) gn rfl ?_
        refine wl_v 1 rfl (v_assign rfl) gn rfl ?_
        refine w_end 2 rfl ?_
        by_cases hp92 : bt x1 x48 = 34
        · have h := if_pos' hp92 h
          refine g_true (c := words_quoted_c26) rfl _ rfl ((eqi hp92)) ?_
          refine g_seq (c := words_quoted_c27) rfl ?_
          refine g_region (c := words_quoted_c29) rfl rfl ?_
          refine wl_v 0 rfl (v_move rfl) gn rfl ?_
          refine wl_v 1 rfl (v_move rfl) gn rfl ?_
          refine wl_v 2 rfl (v_bin rfl rfl rfl) gn rfl ?_
          refine wl_v 3 rfl (v_assign rfl) gn rfl ?_
          refine wl_v 4 rfl (v_assign rfl) gn rfl ?_
          refine wl_v 5 rfl (v_assign rfl) gn rfl ?_
          refine w_end 6 rfl ?_
          have h := Out.inr hO1 h
          refine g_retR (c := words_quoted_c30) [.slice A44 n45 c46, .int .i64 0, .int .i64 (w64 (x48 + 1))] rfl Tryd.func30 rfl (.tmp rfl (.tmp rfl (.tmp rfl (.nil)))) fun wr hLr => ?_
          have hMr : B.Loc w wr [.own (.slice A44 n45 c46) 5 1 n45 (x43.flatMap (eI .u8))] [St w []] := hLr.pick (rest := []) (perm_of_idx [0] [] rfl rfl (by kernel_rfl)) (sels [1] rfl)
          have hMi : ∀ e ∈ ([.own (.slice A44 n45 c46) 5 1 n45 (x43.flatMap (eI .u8))] : List Ent), e ∈ ([.own (.slice A44 n45 c46) 5 1 n45 (x43.flatMap (eI .u8))] : List Ent) := sels [0] rfl
          show words_quoted_R w F  r (.returned (packV [.slice A44 n45 c46, .int .i64 0, .int .i64 (w64 (x48 + 1))])) wr
          rw [h]
          exact ⟨A44, n45, c46, rfl, hMr, h47⟩
        · have h := if_neg' hp92 h
          refine g_false (c := words_quoted_c26) rfl _ rfl ((nei hp92)) ?_
          refine g_seq (c := words_quoted_c28) rfl ?_
          refine g_region (c := words_quoted_c31) rfl rfl ?_
          refine wl_v 0 rfl (v_bin rfl rfl rfl) gn rfl ?_
          refine wl_v 1 rfl (v_assign rfl) gn rfl ?_
          refine w_end 2 rfl ?_
          by_cases hp93 : bt x1 x48 = 92
          · have h := if_pos' hp93 h
            refine g_true (c := words_quoted_c32) rfl _ rfl ((eqi hp93)) ?_
            refine g_seq (c := words_quoted_c33) rfl ?_
            refine g_region (c := words_quoted_c35) rfl rfl ?_
            refine wl_v 0 rfl (v_move rfl) gn rfl ?_
            refine wl_v 1 rfl (v_move rfl) gn rfl ?_
            obtain ⟨r97, hv98, h⟩ := h
            refine wl_s 2 rfl (s_call [.string x1, .int .i64 x48] rfl Tryd.func41 rfl rfl rfl fun w94 hL95 => ?_) gn
            have hp96 : List.Perm ([.own (.slice A44 n45 c46) 5 1 n45 (x43.flatMap (eI .u8))] : List Ent) (([] : List Ent) ++ ([.own (.slice A44 n45 c46) 5 1 n45 (x43.flatMap (eI .u8))] : List Ent)) := perm_of_idx [] [0] rfl rfl (by kernel_rfl)
            refine Calls.mono (words_escape_calls w94 (Fl ([] : List Snap)) x1 x48 (hL95.hFl (Sl := ([] : List Snap)) hp96 (sels [] rfl)) (hL95.into hp96 (Fl ([] : List Snap))) r97 hv98) ?_
            rintro _ w99 ⟨rfl, hM100⟩
            have hL101 := hL95.call hp96 hM100
            refine ⟨_, _, _, rfl, hL101, ?_⟩
            refine wl_v 3 rfl (v_move rfl) gn rfl ?_
            refine wl_v 4 rfl (v_extract rfl rfl) gn rfl ?_
            refine wl_v 5 rfl (v_extract rfl rfl) gn rfl ?_
            refine wl_v 6 rfl (v_assign rfl) gn rfl ?_
            refine wl_v 7 rfl (v_assign rfl) gn rfl ?_
            refine w_end 8 rfl ?_
            refine g_seq (c := words_quoted_c36) rfl ?_
            refine g_seq (c := words_quoted_c37) rfl ?_
            refine g_region (c := words_quoted_c39) rfl rfl ?_
            refine wl_v 0 rfl (v_move rfl) gn rfl ?_
            refine wl_v 1 rfl (v_bin rfl rfl rfl) gn rfl ?_
            refine w_end 2 rfl ?_
            by_cases hp102 : r97.2 = 0
            · have h := if_pos' hp102 h
              refine g_true (c := words_quoted_c40) rfl _ rfl ((eqi hp102)) ?_
              refine g_seq (c := words_quoted_c41) rfl ?_
              refine g_region (c := words_quoted_c43) rfl rfl ?_
              refine wl_v 0 rfl (v_move rfl) gn rfl ?_
              refine wl_v 1 rfl (v_assign rfl) gn rfl ?_
              refine wl_v 2 rfl (v_assign rfl) gn rfl ?_
              refine wl_v 3 rfl (v_assign rfl) gn rfl ?_
              refine w_end 4 rfl ?_
              refine g_nil 5 1 ?_
              have h := Out.inr hO1 h
              refine g_retR (c := words_quoted_c44) [.slice none 0 0, .int .i64 82, .int .i64 x48] rfl Tryd.func30 rfl (.tmp rfl (.tmp rfl (.tmp rfl (.nil)))) fun wr hLr => ?_
              have hMr : B.Loc w wr [.own (.slice none 0 0) 5 1 0 (([] : List Int).flatMap (eI .u8))] [St w []] := hLr.pick (rest := [.own (.slice A44 n45 c46) 5 1 n45 (x43.flatMap (eI .u8))]) (perm_of_idx [0] [1] rfl rfl (by kernel_rfl)) (sels [1] rfl)
              have hMi : ∀ e ∈ ([.own (.slice none 0 0) 5 1 0 (([] : List Int).flatMap (eI .u8))] : List Ent), e ∈ ([.own (.slice none 0 0) 5 1 0 (([] : List Int).flatMap (eI .u8)), .own (.slice A44 n45 c46) 5 1 n45 (x43.flatMap (eI .u8))] : List Ent) := sels [0] rfl
              show words_quoted_R w F  r (.returned (packV [.slice none 0 0, .int .i64 82, .int .i64 x48])) wr
              rw [h]
              exact ⟨none, 0, 0, rfl, hMr, (Ow.nil (z := w.heap.size))⟩
            · have h := if_neg' hp102 h
              refine g_false (c := words_quoted_c40) rfl _ rfl ((nei hp102)) ?_
              refine g_skip (c := words_quoted_c42) rfl ?_
              refine g_seq (c := words_quoted_c38) rfl ?_
              refine g_region (c := words_quoted_c45) rfl rfl ?_
              refine wl_v 0 rfl (v_move rfl) gn rfl ?_
              refine wl_v 1 rfl (v_move rfl) gn rfl ?_
              refine wl_s 2 rfl (s_litO (xs := ([r97.1] : List Int)) [.int .u8 r97.1] bs_44_1 rfl (by kernel_rfl) rfl rfl rfl rfl fun gb104 h105 => ?_) gn
              obtain ⟨x109, hv110, h⟩ := h
              obtain ⟨hb111, h⟩ := h
              refine wl_s 3 rfl (s_app (zs := x109) (cells' := x109.flatMap (eI .u8)) 1 ap_44 rfl rfl rfl h47 (Nat.le_refl _) (Src.ownF (hl := (hlI .u8)) (h1 := (hone_int .u8)) 0 rfl h105) (by rw [hv110, List.flatMap_append] <;> rfl) (app_len hv110 h105.hq) hb111 rfl rfl fun A106 c107 h108 => ?_) gn
              refine wl_v 4 rfl (v_assign rfl) gn rfl ?_
              refine w_end 5 rfl ?_
              refine g_region (c := words_quoted_c46) rfl rfl ?_
              refine wl_v 0 rfl (v_move rfl) gn rfl ?_
              refine wl_v 1 rfl (v_move rfl) gn rfl ?_
              refine wl_v 2 rfl (v_bin rfl rfl rfl) gn rfl ?_
              refine wl_v 3 rfl (v_assign rfl) gn rfl ?_
              refine w_end 4 rfl ?_
              refine g_inBlock ?_
              refine g_goto (c := words_quoted_c19) [.code (.seq .skip words_quoted_c9), .inScope words_quoted_c3] rfl rfl ?_
              refine g_seq rfl ?_
              refine g_skip rfl ?_
              have ih := Out.inl hO1 h
              exact g_go [0, 1] (ih A106 (n45 + 1) c107 h108) ⟨rfl, rfl, rfl, rfl, trivial⟩ (.cons _ (.cons_cons _ (.slnil))) rfl
          · have h := if_neg' hp93 h
            refine g_false (c := words_quoted_c32) rfl _ rfl ((nei hp93)) ?_
            refine g_seq (c := words_quoted_c34) rfl ?_
            refine g_region (c := words_quoted_c47) rfl rfl ?_
            refine wl_v 0 rfl (v_move rfl) gn rfl ?_
            refine wl_v 1 rfl (v_move rfl) gn rfl ?_
            refine wl_s 2 rfl (s_litO (xs := ([bt x1 x48] : List Int)) [.int .u8 (bt x1 x48)] bs_44_1 rfl (by kernel_rfl) rfl rfl rfl rfl fun gb113 h114 => ?_) gn
            obtain ⟨x118, hv119, h⟩ := h
            obtain ⟨hb120, h⟩ := h
            refine wl_s 3 rfl (s_app (zs := x118) (cells' := x118.flatMap (eI .u8)) 1 ap_44 rfl rfl rfl h47 (Nat.le_refl _) (Src.ownF (hl := (hlI .u8)) (h1 := (hone_int .u8)) 0 rfl h114) (by rw [hv119, List.flatMap_append] <;> rfl) (app_len hv119 h114.hq) hb120 rfl rfl fun A115 c116 h117 => ?_) gn
            refine wl_v 4 rfl (v_assign rfl) gn rfl ?_
            refine w_end 5 rfl ?_
            refine g_region (c := words_quoted_c48) rfl rfl ?_
            refine wl_v 0 rfl (v_move rfl) gn rfl ?_
            refine wl_v 1 rfl (v_bin rfl rfl rfl) gn rfl ?_
            refine wl_v 2 rfl (v_assign rfl) gn rfl ?_
            refine w_end 3 rfl ?_
            refine g_inBlock ?_
            refine g_goto (c := words_quoted_c19) [.code (.seq .skip words_quoted_c9), .inScope words_quoted_c3] rfl rfl ?_
            refine g_seq rfl ?_
            refine g_skip rfl ?_
            have ih := Out.inl hO1 h
            exact g_go [0, 1] (ih A115 (n45 + 1) c116 h117) ⟨rfl, rfl, rfl, rfl, trivial⟩ (.cons _ (.cons_cons _ (.slnil))) rfl
    refine g_region (c := words_quoted_c12) rfl rfl ?_
    refine wl_v 0 rfl (v_move rfl) gn rfl ?_
    refine wl_v 1 rfl (v_move rfl) gn rfl ?_
    refine wl_v 2 rfl (v_lenS un_9 rfl) gn rfl ?_
    refine wl_v 3 rfl (v_bin rfl rfl rfl) gn rfl ?_
    refine wl_v 4 rfl (v_move rfl) gn rfl ?_
    by_cases hp121 : x48 = (x1.size : Int)
    · have h := if_pos' hp121 h
      refine w_bool 18 rfl ((eqi hp121)) ?_
      refine wl_pass 5 rfl (ps 18 rfl rfl rfl) ?_
      refine wl_pass 6 rfl (ps 18 rfl rfl rfl) ?_
      refine wl_pass 7 rfl (ps 18 rfl rfl rfl) ?_
      refine wl_pass 8 rfl (ps 18 rfl rfl rfl) ?_
      refine wl_v 9 rfl (v_pick (b := true) rfl rfl) gn rfl ?_
      refine w_end 10 rfl ?_
      exact g_go [0, 1] (j2 true h) ⟨rfl, rfl, rfl, rfl, rfl, trivial⟩ (.cons_cons _ (.slnil)) rfl
    · have h := if_neg' hp121 h
      refine w_bool 18 rfl ((nei hp121)) ?_
      refine wl_v 5 rfl (v_move rfl) (gy 18 rfl rfl) rfl ?_
      refine wl_v 6 rfl (v_move rfl) (gy 18 rfl rfl) rfl ?_
      obtain ⟨hb122, h⟩ := h
      refine wl_v 7 rfl (v_indexS un_9 rfl rfl hb122) (gy 18 rfl rfl) rfl ?_
      refine wl_v 8 rfl (v_bin rfl rfl rfl) (gy 18 rfl rfl) rfl ?_
      refine wl_v 9 rfl (v_pick (b := false) rfl rfl) gn rfl ?_
      refine w_end 10 rfl ?_
      exact g_go [0, 1] (j2 ((bt x1 x48) == 10) h) ⟨rfl, rfl, rfl, rfl, rfl, trivial⟩ (.cons_cons _ (.slnil)) rfl
  refine g_nil 5 1 ?_
  exact g_go [0, 1] (key1 _ h none 0 0 (Ow.nil (z := w.heap.size))) ⟨rfl, rfl, rfl, rfl, trivial⟩ (.cons_cons _ (.slnil)) rfl
end Go.Proofs.YtkaejoffnkhbpaaDoor.K
