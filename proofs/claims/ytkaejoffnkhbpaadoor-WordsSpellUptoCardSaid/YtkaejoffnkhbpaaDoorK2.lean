/- What the machine's calls do, function by function, printed by my own tool. Condition of each: its relation holds of the answer, and what is handed in lies in memory as told. -/
import Derived.Test.YtkaejoffnkhbpaaDoorK1
set_option linter.unusedVariables false
set_option maxRecDepth 100000
set_option maxHeartbeats 4000000
namespace Go.Proofs.YtkaejoffnkhbpaaDoor.K
open Go.Proofs.YtkaejoffnkhbpaaDoor.B Go.Proofs.YtkaejoffnkhbpaaDoor.R Go.RowKit
noncomputable abbrev trellisref8_Spell_c0 : Code := bodyOf Tryd.f10
noncomputable abbrev trellisref8_Spell_c1 : Code := Code.fst trellisref8_Spell_c0
noncomputable abbrev trellisref8_Spell_c2 : Code := Code.snd trellisref8_Spell_c0
noncomputable abbrev trellisref8_Spell_c3 : Code := Code.fst trellisref8_Spell_c2
noncomputable abbrev trellisref8_Spell_c4 : Code := Code.snd trellisref8_Spell_c2
noncomputable abbrev trellisref8_Spell_c5 : Code := Code.fst trellisref8_Spell_c3
noncomputable abbrev trellisref8_Spell_c6 : Code := Code.snd trellisref8_Spell_c3
noncomputable abbrev trellisref8_Spell_c7 : Code := Code.fst trellisref8_Spell_c6
noncomputable abbrev trellisref8_Spell_c8 : Code := Code.snd trellisref8_Spell_c6
noncomputable abbrev trellisref8_Spell_c9 : Code := Code.fst trellisref8_Spell_c4
noncomputable abbrev trellisref8_Spell_c10 : Code := Code.snd trellisref8_Spell_c4
noncomputable abbrev trellisref8_Spell_c11 : Code := Code.fst trellisref8_Spell_c9
noncomputable abbrev trellisref8_Spell_c12 : Code := Code.snd trellisref8_Spell_c9
noncomputable abbrev trellisref8_Spell_c13 : Code := Code.fst trellisref8_Spell_c12
noncomputable abbrev trellisref8_Spell_c14 : Code := Code.fst trellisref8_Spell_c13
noncomputable abbrev trellisref8_Spell_c15 : Code := Code.snd trellisref8_Spell_c13
noncomputable abbrev trellisref8_Spell_c16 : Code := Code.fst trellisref8_Spell_c15
noncomputable abbrev trellisref8_Spell_c17 : Code := Code.snd trellisref8_Spell_c15
noncomputable abbrev trellisref8_Spell_c18 : Code := Code.fst trellisref8_Spell_c16
noncomputable abbrev trellisref8_Spell_c19 : Code := Code.snd trellisref8_Spell_c16
noncomputable abbrev trellisref8_Spell_c20 : Code := Code.fst trellisref8_Spell_c19
noncomputable abbrev trellisref8_Spell_c21 : Code := Code.snd trellisref8_Spell_c19
noncomputable abbrev trellisref8_Spell_c22 : Code := Code.fst trellisref8_Spell_c20
noncomputable abbrev trellisref8_Spell_c23 : Code := Code.snd trellisref8_Spell_c20
noncomputable abbrev trellisref8_Spell_c24 : Code := Code.fst trellisref8_Spell_c23
noncomputable abbrev trellisref8_Spell_c25 : Code := Code.fst trellisref8_Spell_c24
noncomputable abbrev trellisref8_Spell_c26 : Code := Code.fst trellisref8_Spell_c25
noncomputable abbrev trellisref8_Spell_c27 : Code := Code.snd trellisref8_Spell_c25
noncomputable abbrev trellisref8_Spell_c28 : Code := Code.fst trellisref8_Spell_c26
noncomputable abbrev trellisref8_Spell_c29 : Code := Code.snd trellisref8_Spell_c26
noncomputable abbrev trellisref8_Spell_c30 : Code := Code.fst trellisref8_Spell_c29
noncomputable abbrev trellisref8_Spell_c31 : Code := Code.snd trellisref8_Spell_c29
noncomputable abbrev trellisref8_Spell_c32 : Code := Code.fst trellisref8_Spell_c27
noncomputable abbrev trellisref8_Spell_c33 : Code := Code.snd trellisref8_Spell_c27
noncomputable abbrev trellisref8_Spell_c34 : Code := Code.fst trellisref8_Spell_c32
noncomputable abbrev trellisref8_Spell_c35 : Code := Code.fst trellisref8_Spell_c21
noncomputable abbrev trellisref8_Spell_c36 : Code := Code.snd trellisref8_Spell_c21
noncomputable abbrev trellisref8_Spell_c37 : Code := Code.fst trellisref8_Spell_c17
noncomputable abbrev trellisref8_Spell_c38 : Code := Code.snd trellisref8_Spell_c17
noncomputable abbrev trellisref8_Spell_c39 : Code := Code.fst trellisref8_Spell_c38
noncomputable abbrev trellisref8_Spell_c40 : Code := Code.snd trellisref8_Spell_c38
noncomputable abbrev trellisref8_Spell_c41 : Code := Code.fst trellisref8_Spell_c39
noncomputable abbrev trellisref8_Spell_c42 : Code := Code.snd trellisref8_Spell_c39
noncomputable abbrev trellisref8_Spell_c43 : Code := Code.fst trellisref8_Spell_c40
noncomputable abbrev trellisref8_Spell_c44 : Code := Code.snd trellisref8_Spell_c40
noncomputable abbrev trellisref8_Spell_c45 : Code := Code.fst trellisref8_Spell_c44
noncomputable abbrev trellisref8_Spell_c46 : Code := Code.snd trellisref8_Spell_c44
noncomputable abbrev trellisref8_Spell_c47 : Code := Code.fst trellisref8_Spell_c45
noncomputable abbrev trellisref8_Spell_c48 : Code := Code.snd trellisref8_Spell_c45
noncomputable abbrev trellisref8_Spell_c49 : Code := Code.fst trellisref8_Spell_c10
noncomputable abbrev trellisref8_Spell_c50 : Code := Code.snd trellisref8_Spell_c10
noncomputable abbrev trellisref8_Spell_c51 : Code := Code.fst trellisref8_Spell_c7
noncomputable abbrev trellisref8_Spell_c52 : Code := Code.snd trellisref8_Spell_c7
abbrev trellisref8_Spell_R (w : World) (F : Nat → Prop) (r : ByteArray) : Ending → World → Prop := fun e w' => e = .returned (.string r) ∧ B.Loc w w' [] [St w []]
noncomputable abbrev trellisref8_Spell_C (w : World) (F : Nat → Prop) (r : ByteArray) : Cx := ⟨Tryd.prog, 10, Tryd.f10, 41, trellisref8_Spell_R w F  r, w⟩
theorem trellisref8_Spell_calls (w : World) (F : Nat → Prop) (x1 : api_Word) (hG : Tb Tryd.prog (St w [])) (hF : ∀ b, F b → b < w.heap.size ∧ ∀ o ∈ ([] : List (List Nat)), b ∉ o) (hL0 : B.Loc w w [] [Sm w.heap.size F w [], St w []]) (r : ByteArray) (h : trellisref8_Spell x1 r) : Calls Tryd.prog 10 #[.agg #[.int .i64 x1.kind, .string x1.text, .int .i64 x1.n, .int .i64 x1.at_]] w (trellisref8_Spell_R w F  r) := by
  unfold trellisref8_Spell at h
  refine calls_of_Loc (vs := [.agg #[.int .i64 x1.kind, .string x1.text, .int .i64 x1.n, .int .i64 x1.at_]]) 41 Tryd.func10 rfl Tryd.ntmps10 rfl hL0 ?_
  show G (trellisref8_Spell_C w F r) _ _ _ _
  refine g_seq (c := trellisref8_Spell_c0) rfl ?_
  refine g_region (c := trellisref8_Spell_c1) rfl rfl ?_
  refine wl_s 0 rfl (s_box [.int .i64 x1.kind, .string x1.text, .int .i64 x1.n, .int .i64 x1.at_] rfl rfl rfl fun gb2 => ?_) gn
  refine wl_v 1 rfl (v_assign rfl) gn rfl ?_
  refine w_end 2 rfl ?_
  refine g_seq (c := trellisref8_Spell_c2) rfl ?_
  refine g_seq (c := trellisref8_Spell_c3) rfl ?_
  refine g_region (c := trellisref8_Spell_c5) rfl rfl ?_
  refine wl_v 0 rfl (v_ldB [.int .i64 x1.kind, .string x1.text, .int .i64 x1.n, .int .i64 x1.at_] 0 ld_27 rfl rfl rfl rfl) gn rfl ?_
  obtain ⟨r7, hv8, h⟩ := h
  refine wl_s 1 rfl (s_call [.agg #[.int .i64 x1.kind, .string x1.text, .int .i64 x1.n, .int .i64 x1.at_]] rfl Tryd.func22 rfl rfl rfl fun w4 hL5 => ?_) gn
  have hp6 : List.Perm ([.box gb2 27 [.int .i64 x1.kind, .string x1.text, .int .i64 x1.n, .int .i64 x1.at_]] : List Ent) (([] : List Ent) ++ ([.box gb2 27 [.int .i64 x1.kind, .string x1.text, .int .i64 x1.n, .int .i64 x1.at_]] : List Ent)) := perm_of_idx [] [0] rfl rfl (by kernel_rfl)
  refine Calls.mono (trellisref8_Sound_calls w4 (Fl ([] : List Snap)) x1 (hL5.hFl (Sl := ([] : List Snap)) hp6 (sels [] rfl)) (hL5.into hp6 (Fl ([] : List Snap))) r7 hv8) ?_
  rintro _ w9 ⟨rfl, hM10⟩
  have hL11 := hL5.call hp6 hM10
  refine ⟨_, _, _, rfl, hL11, ?_⟩
  refine wl_v 2 rfl (v_not rfl) gn rfl ?_
  refine w_end 3 rfl ?_
  by_cases hp12 : r7 = true
  · have h := if_pos' hp12 h
    refine g_false (c := trellisref8_Spell_c6) rfl _ rfl ((nf hp12)) ?_
    refine g_skip (c := trellisref8_Spell_c8) rfl ?_
    refine g_seq (c := trellisref8_Spell_c4) rfl ?_
    refine g_seq (c := trellisref8_Spell_c9) rfl ?_
    refine g_region (c := trellisref8_Spell_c11) rfl rfl ?_
    refine wl_v 0 rfl (v_fldB fo_27_0 rfl) gn rfl ?_
    refine wl_v 1 rfl (v_ldB1 0 ld_25 rfl rfl rfl) gn rfl ?_
    refine w_end 2 rfl ?_
    refine g_block (c := trellisref8_Spell_c12) rfl ?_
    refine g_seq (c := trellisref8_Spell_c13) rfl ?_
    refine g_region (c := trellisref8_Spell_c14) rfl rfl ?_
    refine wl_v 0 rfl (v_bin rfl rfl rfl) gn rfl ?_
    refine wl_v 1 rfl (v_assign rfl) gn rfl ?_
    refine w_end 2 rfl ?_
    by_cases hp13 : x1.kind = 2
    · have h := if_pos' hp13 h
      refine g_true (c := trellisref8_Spell_c15) rfl _ rfl ((eqi hp13)) ?_
      refine g_seq (c := trellisref8_Spell_c16) rfl ?_
      refine g_region (c := trellisref8_Spell_c18) rfl rfl ?_
      refine wl_v 0 rfl (v_assign rfl) gn rfl ?_
      refine w_end 1 rfl ?_
      refine g_seq (c := trellisref8_Spell_c19) rfl ?_
      refine g_seq (c := trellisref8_Spell_c20) rfl ?_
      refine g_region (c := trellisref8_Spell_c22) rfl rfl ?_
      refine wl_v 0 rfl (v_assign rfl) gn rfl ?_
      refine w_end 1 rfl ?_
      refine g_block (c := trellisref8_Spell_c23) rfl ?_
      refine g_loop (c := trellisref8_Spell_c24) rfl ?_
      have key1 : ∀ s, Rounds (fun (s : ByteArray × Int) o => trellisref8_Spell_b1 x1 s.1 s.2 o) s r → (fun (s : ByteArray × Int) => ∀ (_ : Unit), G (trellisref8_Spell_C w F r) [.code trellisref8_Spell_c25, .inLoop trellisref8_Spell_c25, .inBlock 1, .code trellisref8_Spell_c21, .inBlock 0, .code trellisref8_Spell_c10] [(1, .pointer (some ⟨gb2, 0, none⟩)), (3, .string s.1), (4, .int .i64 s.2)] [.box gb2 27 [.int .i64 x1.kind, .string x1.text, .int .i64 x1.n, .int .i64 x1.at_]] [Sm w.heap.size F w [], St w []]) s := by
        intro s hs
        refine Rounds.ind (mot := (fun (s : ByteArray × Int) => ∀ (_ : Unit), G (trellisref8_Spell_C w F r) [.code trellisref8_Spell_c25, .inLoop trellisref8_Spell_c25, .inBlock 1, .code trellisref8_Spell_c21, .inBlock 0, .code trellisref8_Spell_c10] [(1, .pointer (some ⟨gb2, 0, none⟩)), (3, .string s.1), (4, .int .i64 s.2)] [.box gb2 27 [.int .i64 x1.kind, .string x1.text, .int .i64 x1.n, .int .i64 x1.at_]] [Sm w.heap.size F w [], St w []])) ?_ hs
        clear hs s
        intro s o1 h hO1
        obtain ⟨x27, x28⟩ := s
        show ∀ (_ : Unit), G (trellisref8_Spell_C w F r) [.code trellisref8_Spell_c25, .inLoop trellisref8_Spell_c25, .inBlock 1, .code trellisref8_Spell_c21, .inBlock 0, .code trellisref8_Spell_c10] [(1, .pointer (some ⟨gb2, 0, none⟩)), (3, .string x27), (4, .int .i64 x28)] [.box gb2 27 [.int .i64 x1.kind, .string x1.text, .int .i64 x1.n, .int .i64 x1.at_]] [Sm w.heap.size F w [], St w []]
        intro _
        have h : trellisref8_Spell_b1 x1 x27 x28 o1 := h
        unfold trellisref8_Spell_b1 at h
        refine g_seq (c := trellisref8_Spell_c25) rfl ?_
        refine g_seq (c := trellisref8_Spell_c26) rfl ?_
        refine g_region (c := trellisref8_Spell_c28) rfl rfl ?_
        refine wl_v 0 rfl (v_move rfl) gn rfl ?_
        refine wl_v 1 rfl (v_fldB fo_27_1 rfl) gn rfl ?_
        refine wl_v 2 rfl (v_ldB1 0 ld_9 rfl rfl rfl) gn rfl ?_
        refine wl_v 3 rfl (v_lenS un_9 rfl) gn rfl ?_
        refine wl_v 4 rfl (v_bin rfl rfl rfl) gn rfl ?_
        refine w_end 5 rfl ?_
        by_cases hp41 : x28 < (x1.text.size : Int)
        · have h := if_pos' hp41 h
          refine g_true (c := trellisref8_Spell_c29) rfl _ rfl ((decide_eq_true hp41)) ?_
          refine g_skip (c := trellisref8_Spell_c30) rfl ?_
          refine g_seq (c := trellisref8_Spell_c27) rfl ?_
          refine g_block (c := trellisref8_Spell_c32) rfl ?_
          refine g_region (c := trellisref8_Spell_c34) rfl rfl ?_
          refine wl_v 0 rfl (v_move rfl) gn rfl ?_
          refine wl_v 1 rfl (v_fldB fo_27_1 rfl) gn rfl ?_
          refine wl_v 2 rfl (v_ldB1 0 ld_9 rfl rfl rfl) gn rfl ?_
          refine wl_v 3 rfl (v_move rfl) gn rfl ?_
          obtain ⟨hb42, h⟩ := h
          refine wl_v 4 rfl (v_indexS un_9 rfl rfl hb42) gn rfl ?_
          obtain ⟨r46, hv47, h⟩ := h
          refine wl_s 5 rfl (s_call [.int .u8 (bt x1.text x28)] rfl Tryd.func23 rfl rfl rfl fun w43 hL44 => ?_) gn
          have hp45 : List.Perm ([.box gb2 27 [.int .i64 x1.kind, .string x1.text, .int .i64 x1.n, .int .i64 x1.at_]] : List Ent) (([] : List Ent) ++ ([.box gb2 27 [.int .i64 x1.kind, .string x1.text, .int .i64 x1.n, .int .i64 x1.at_]] : List Ent)) := perm_of_idx [] [0] rfl rfl (by kernel_rfl)
          refine Calls.mono (trellisref8_byteOf_calls w43 (Fl ([] : List Snap)) (bt x1.text x28) (hL44.hFl (Sl := ([] : List Snap)) hp45 (sels [] rfl)) (hL44.into hp45 (Fl ([] : List Snap))) r46 hv47) ?_
          rintro _ w48 ⟨rfl, hM49⟩
          have hL50 := hL44.call hp45 hM49
          refine ⟨_, _, _, rfl, hL50, ?_⟩
          obtain ⟨hb51, h⟩ := h
          refine wl_v 6 rfl (v_catS rfl rfl hb51) gn rfl ?_
          refine wl_v 7 rfl (v_assign rfl) gn rfl ?_
          refine w_end 8 rfl ?_
          refine g_inBlock ?_
          refine g_region (c := trellisref8_Spell_c33) rfl rfl ?_
          refine wl_v 0 rfl (v_move rfl) gn rfl ?_
          refine wl_v 1 rfl (v_bin rfl rfl rfl) gn rfl ?_
          refine wl_v 2 rfl (v_assign rfl) gn rfl ?_
          refine w_end 3 rfl ?_
          refine g_inLoop ?_
          have ih := Out.inl hO1 h
          exact g_go [0, 1] (ih ()) ⟨rfl, rfl, rfl, trivial⟩ (.cons_cons _ (.slnil)) rfl
        · have h := if_neg' hp41 h
          refine g_false (c := trellisref8_Spell_c29) rfl _ rfl ((decide_eq_false hp41)) ?_
          refine g_exit (c := trellisref8_Spell_c31) [.code trellisref8_Spell_c21, .inBlock 0, .code trellisref8_Spell_c10] rfl rfl ?_
          refine g_seq (c := trellisref8_Spell_c21) rfl ?_
          refine g_region (c := trellisref8_Spell_c35) rfl rfl ?_
          refine wl_v 0 rfl (v_move rfl) gn rfl ?_
          obtain ⟨hb52, h⟩ := h
          refine wl_v 1 rfl (v_catS rfl rfl hb52) gn rfl ?_
          refine wl_v 2 rfl (v_assign rfl) gn rfl ?_
          refine w_end 3 rfl ?_
          have h := Out.inr hO1 h
          refine g_retR (c := trellisref8_Spell_c36) [.string (x27 ++ (⟨#[34]⟩ : ByteArray))] rfl Tryd.func10 rfl (.tmp rfl (.nil)) fun wr hLr => ?_
          have hMr : B.Loc w wr [] [St w []] := hLr.pick (rest := [.box gb2 27 [.int .i64 x1.kind, .string x1.text, .int .i64 x1.n, .int .i64 x1.at_]]) (perm_of_idx [] [0] rfl rfl (by kernel_rfl)) (sels [1] rfl)
          have hMi : ∀ e ∈ ([] : List Ent), e ∈ ([.box gb2 27 [.int .i64 x1.kind, .string x1.text, .int .i64 x1.n, .int .i64 x1.at_]] : List Ent) := sels [] rfl
          show trellisref8_Spell_R w F  r (.returned (packV [.string (x27 ++ (⟨#[34]⟩ : ByteArray))])) wr
          rw [h]
          exact ⟨rfl, hMr⟩
      exact g_go [0, 1] (key1 _ h ()) ⟨rfl, rfl, rfl, trivial⟩ (.cons_cons _ (.slnil)) rfl
    · have h := if_neg' hp13 h
      refine g_false (c := trellisref8_Spell_c15) rfl _ rfl ((nei hp13)) ?_
      refine g_seq (c := trellisref8_Spell_c17) rfl ?_
      refine g_region (c := trellisref8_Spell_c37) rfl rfl ?_
      refine wl_v 0 rfl (v_bin rfl rfl rfl) gn rfl ?_
      refine wl_v 1 rfl (v_assign rfl) gn rfl ?_
      refine w_end 2 rfl ?_
      by_cases hp53 : x1.kind = 3
      · have h := if_pos' hp53 h
        refine g_true (c := trellisref8_Spell_c38) rfl _ rfl ((eqi hp53)) ?_
        refine g_seq (c := trellisref8_Spell_c39) rfl ?_
        refine g_region (c := trellisref8_Spell_c41) rfl rfl ?_
        refine wl_v 0 rfl (v_fldB fo_27_1 rfl) gn rfl ?_
        refine wl_v 1 rfl (v_ldB1 0 ld_9 rfl rfl rfl) gn rfl ?_
        obtain ⟨hb54, h⟩ := h
        refine wl_v 2 rfl (v_catS rfl rfl hb54) gn rfl ?_
        obtain ⟨hb55, h⟩ := h
        refine wl_v 3 rfl (v_catS rfl rfl hb55) gn rfl ?_
        refine wl_v 4 rfl (v_assign rfl) gn rfl ?_
        refine w_end 5 rfl ?_
        refine g_retR (c := trellisref8_Spell_c42) [.string (((⟨#[47]⟩ : ByteArray) ++ x1.text) ++ (⟨#[47]⟩ : ByteArray))] rfl Tryd.func10 rfl (.tmp rfl (.nil)) fun wr hLr => ?_
        have hMr : B.Loc w wr [] [St w []] := hLr.pick (rest := [.box gb2 27 [.int .i64 x1.kind, .string x1.text, .int .i64 x1.n, .int .i64 x1.at_]]) (perm_of_idx [] [0] rfl rfl (by kernel_rfl)) (sels [1] rfl)
        have hMi : ∀ e ∈ ([] : List Ent), e ∈ ([.box gb2 27 [.int .i64 x1.kind, .string x1.text, .int .i64 x1.n, .int .i64 x1.at_]] : List Ent) := sels [] rfl
        show trellisref8_Spell_R w F  r (.returned (packV [.string (((⟨#[47]⟩ : ByteArray) ++ x1.text) ++ (⟨#[47]⟩ : ByteArray))])) wr
        rw [h]
        exact ⟨rfl, hMr⟩
      · have h := if_neg' hp53 h
        refine g_false (c := trellisref8_Spell_c38) rfl _ rfl ((nei hp53)) ?_
        refine g_seq (c := trellisref8_Spell_c40) rfl ?_
        refine g_region (c := trellisref8_Spell_c43) rfl rfl ?_
        refine wl_v 0 rfl (v_bin rfl rfl rfl) gn rfl ?_
        refine wl_v 1 rfl (v_assign rfl) gn rfl ?_
        refine w_end 2 rfl ?_
        by_cases hp56 : x1.kind = 4
        · have h := if_pos' hp56 h
          refine g_true (c := trellisref8_Spell_c44) rfl _ rfl ((eqi hp56)) ?_
          refine g_seq (c := trellisref8_Spell_c45) rfl ?_
          refine g_region (c := trellisref8_Spell_c47) rfl rfl ?_
          refine wl_v 0 rfl (v_fldB fo_27_2 rfl) gn rfl ?_
          refine wl_v 1 rfl (v_ldB1 0 ld_3 rfl rfl rfl) gn rfl ?_
          obtain ⟨r60, hv61, h⟩ := h
          refine wl_s 2 rfl (s_call [.int .i64 x1.n] rfl Tryd.func21 rfl rfl rfl fun w57 hL58 => ?_) gn
          have hp59 : List.Perm ([.box gb2 27 [.int .i64 x1.kind, .string x1.text, .int .i64 x1.n, .int .i64 x1.at_]] : List Ent) (([] : List Ent) ++ ([.box gb2 27 [.int .i64 x1.kind, .string x1.text, .int .i64 x1.n, .int .i64 x1.at_]] : List Ent)) := perm_of_idx [] [0] rfl rfl (by kernel_rfl)
          refine Calls.mono (strconv_Itoa_calls w57 (Fl ([] : List Snap)) x1.n (hL58.tb hp59 hG (me 1 rfl)) (hL58.hFl (Sl := ([] : List Snap)) hp59 (sels [] rfl)) (hL58.into hp59 (Fl ([] : List Snap))) r60 hv61) ?_
          rintro _ w62 ⟨rfl, hM63⟩
          have hL64 := hL58.call hp59 hM63
          refine ⟨_, _, _, rfl, hL64, ?_⟩
          refine wl_v 3 rfl (v_assign rfl) gn rfl ?_
          refine w_end 4 rfl ?_
          refine g_retR (c := trellisref8_Spell_c48) [.string r60] rfl Tryd.func10 rfl (.tmp rfl (.nil)) fun wr hLr => ?_
          have hMr : B.Loc w wr [] [St w []] := hLr.pick (rest := [.box gb2 27 [.int .i64 x1.kind, .string x1.text, .int .i64 x1.n, .int .i64 x1.at_]]) (perm_of_idx [] [0] rfl rfl (by kernel_rfl)) (sels [1] rfl)
          have hMi : ∀ e ∈ ([] : List Ent), e ∈ ([.box gb2 27 [.int .i64 x1.kind, .string x1.text, .int .i64 x1.n, .int .i64 x1.at_]] : List Ent) := sels [] rfl
          show trellisref8_Spell_R w F  r (.returned (packV [.string r60])) wr
          rw [h]
          exact ⟨rfl, hMr⟩
        · have h := if_neg' hp56 h
          refine g_false (c := trellisref8_Spell_c44) rfl _ rfl ((nei hp56)) ?_
          refine g_skip (c := trellisref8_Spell_c46) rfl ?_
          refine g_inBlock ?_
          refine g_seq (c := trellisref8_Spell_c10) rfl ?_
          refine g_region (c := trellisref8_Spell_c49) rfl rfl ?_
          refine wl_v 0 rfl (v_fldB fo_27_1 rfl) gn rfl ?_
          refine wl_v 1 rfl (v_ldB1 0 ld_9 rfl rfl rfl) gn rfl ?_
          refine wl_v 2 rfl (v_assign rfl) gn rfl ?_
          refine w_end 3 rfl ?_
          refine g_retR (c := trellisref8_Spell_c50) [.string x1.text] rfl Tryd.func10 rfl (.tmp rfl (.nil)) fun wr hLr => ?_
          have hMr : B.Loc w wr [] [St w []] := hLr.pick (rest := [.box gb2 27 [.int .i64 x1.kind, .string x1.text, .int .i64 x1.n, .int .i64 x1.at_]]) (perm_of_idx [] [0] rfl rfl (by kernel_rfl)) (sels [1] rfl)
          have hMi : ∀ e ∈ ([] : List Ent), e ∈ ([.box gb2 27 [.int .i64 x1.kind, .string x1.text, .int .i64 x1.n, .int .i64 x1.at_]] : List Ent) := sels [] rfl
          show trellisref8_Spell_R w F  r (.returned (packV [.string x1.text])) wr
          rw [h]
          exact ⟨rfl, hMr⟩
  · have h := if_neg' hp12 h
    refine g_true (c := trellisref8_Spell_c6) rfl _ rfl ((nt (bf hp12))) ?_
    refine g_seq (c := trellisref8_Spell_c7) rfl ?_
    refine g_region (c := trellisref8_Spell_c51) rfl rfl ?_
    refine wl_v 0 rfl (v_assign rfl) gn rfl ?_
    refine w_end 1 rfl ?_
    refine g_retR (c := trellisref8_Spell_c52) [.string (⟨#[]⟩ : ByteArray)] rfl Tryd.func10 rfl (.tmp rfl (.nil)) fun wr hLr => ?_
    have hMr : B.Loc w wr [] [St w []] := hLr.pick (rest := [.box gb2 27 [.int .i64 x1.kind, .string x1.text, .int .i64 x1.n, .int .i64 x1.at_]]) (perm_of_idx [] [0] rfl rfl (by kernel_rfl)) (sels [1] rfl)
    have hMi : ∀ e ∈ ([] : List Ent), e ∈ ([.box gb2 27 [.int .i64 x1.kind, .string x1.text, .int .i64 x1.n, .int .i64 x1.at_]] : List Ent) := sels [] rfl
    show trellisref8_Spell_R w F  r (.returned (packV [.string (⟨#[]⟩ : ByteArray)])) wr
    rw [h]
    exact ⟨rfl, hMr⟩
noncomputable abbrev trellislaw8_lent_c0 : Code := bodyOf Tryd.f11
noncomputable abbrev trellislaw8_lent_c1 : Code := Code.fst trellislaw8_lent_c0
noncomputable abbrev trellislaw8_lent_c2 : Code := Code.snd trellislaw8_lent_c0
noncomputable abbrev trellislaw8_lent_c3 : Code := Code.fst trellislaw8_lent_c2
noncomputable abbrev trellislaw8_lent_c4 : Code := Code.snd trellislaw8_lent_c2
noncomputable abbrev trellislaw8_lent_c5 : Code := Code.fst trellislaw8_lent_c4
noncomputable abbrev trellislaw8_lent_c6 : Code := Code.snd trellislaw8_lent_c4
noncomputable abbrev trellislaw8_lent_c7 : Code := Code.fst trellislaw8_lent_c5
noncomputable abbrev trellislaw8_lent_c8 : Code := Code.snd trellislaw8_lent_c5
noncomputable abbrev trellislaw8_lent_c9 : Code := Code.fst trellislaw8_lent_c8
noncomputable abbrev trellislaw8_lent_c10 : Code := Code.fst trellislaw8_lent_c9
noncomputable abbrev trellislaw8_lent_c11 : Code := Code.fst trellislaw8_lent_c10
noncomputable abbrev trellislaw8_lent_c12 : Code := Code.snd trellislaw8_lent_c10
noncomputable abbrev trellislaw8_lent_c13 : Code := Code.fst trellislaw8_lent_c11
noncomputable abbrev trellislaw8_lent_c14 : Code := Code.snd trellislaw8_lent_c11
noncomputable abbrev trellislaw8_lent_c15 : Code := Code.fst trellislaw8_lent_c14
noncomputable abbrev trellislaw8_lent_c16 : Code := Code.snd trellislaw8_lent_c14
noncomputable abbrev trellislaw8_lent_c17 : Code := Code.fst trellislaw8_lent_c12
noncomputable abbrev trellislaw8_lent_c18 : Code := Code.snd trellislaw8_lent_c12
noncomputable abbrev trellislaw8_lent_c19 : Code := Code.fst trellislaw8_lent_c17
noncomputable abbrev trellislaw8_lent_c20 : Code := Code.fst trellislaw8_lent_c6
noncomputable abbrev trellislaw8_lent_c21 : Code := Code.snd trellislaw8_lent_c6
abbrev trellislaw8_lent_R (w : World) (F : Nat → Prop) (r : (List api_Word) × Nat) : Ending → World → Prop := fun e w' => ∃ A0 : Option Addr, ∃ n0 : Nat, ∃ c0 : Nat, e = .returned (.slice A0 r.2 c0) ∧ B.Loc w w' [.own (.slice A0 n0 c0) 27 4 n0 (r.1.flatMap enc_api_Word)] [St w []] ∧ Ow w.heap.size A0 n0 c0 r.1 ∧ r.2 ≤ n0
noncomputable abbrev trellislaw8_lent_C (w : World) (F : Nat → Prop) (r : (List api_Word) × Nat) : Cx := ⟨Tryd.prog, 11, Tryd.f11, 21, trellislaw8_lent_R w F  r, w⟩
theorem trellislaw8_lent_calls (w : World) (F : Nat → Prop) (x1 : List api_Word) (A2 : Option Addr) (n3 : Nat) (c4 : Nat) (h5 : Rw k_api_Word w (St w []).av A2 n3 c4 x1) (hF : ∀ b, F b → b < w.heap.size ∧ ∀ o ∈ ([] : List (List Nat)), b ∉ o) (hL0 : B.Loc w w [] [Sm w.heap.size F w [], St w []]) (r : (List api_Word) × Nat) (h : trellislaw8_lent x1 r) : Calls Tryd.prog 11 #[.slice A2 n3 c4] w (trellislaw8_lent_R w F  r) := by
  unfold trellislaw8_lent at h
  refine calls_of_Loc (vs := [.slice A2 n3 c4]) 21 Tryd.func11 rfl Tryd.ntmps11 rfl hL0 ?_
  show G (trellislaw8_lent_C w F r) _ _ _ _
  refine g_seq (c := trellislaw8_lent_c0) rfl ?_
  refine g_region (c := trellislaw8_lent_c1) rfl rfl ?_
  refine wl_v 0 rfl (v_assign rfl) gn rfl ?_
  refine w_end 1 rfl ?_
  refine g_seq (c := trellislaw8_lent_c2) rfl ?_
  refine g_region (c := trellislaw8_lent_c3) rfl rfl ?_
  refine wl_v 0 rfl (v_move rfl) gn rfl ?_
  obtain ⟨r9, hv10, h⟩ := h
  refine wl_s 1 rfl (s_call [.slice A2 n3 c4] rfl Tryd.func8 rfl rfl rfl fun w6 hL7 => ?_) gn
  have hp8 : List.Perm ([] : List Ent) (([] : List Ent) ++ ([] : List Ent)) := perm_of_idx [] [] rfl rfl (by kernel_rfl)
  refine Calls.mono (trellislaw8_twin_calls w6 (Fl ([] : List Snap)) x1 A2 n3 c4 (Rw.mono h5 (hL7.toSt hp8 (me 1 rfl))) (hL7.hFl (Sl := ([] : List Snap)) hp8 (sels [] rfl)) (hL7.into hp8 (Fl ([] : List Snap))) r9 hv10) ?_
  rintro _ w16 ⟨A11, n12, c13, rfl, hM17, h14⟩
  have hL18 := hL7.call hp8 hM17
  refine ⟨_, _, _, rfl, hL18, ?_⟩
  refine wl_v 2 rfl (v_assign rfl) gn rfl ?_
  refine w_end 3 rfl ?_
  refine g_seq (c := trellislaw8_lent_c4) rfl ?_
  refine g_seq (c := trellislaw8_lent_c5) rfl ?_
  refine g_region (c := trellislaw8_lent_c7) rfl rfl ?_
  refine wl_v 0 rfl (v_assign rfl) gn rfl ?_
  refine w_end 1 rfl ?_
  refine g_block (c := trellislaw8_lent_c8) rfl ?_
  refine g_loop (c := trellislaw8_lent_c9) rfl ?_
  have key1 : ∀ s, Rounds (fun (s : (List api_Word) × Int) o => trellislaw8_lent_b1 x1 s.1 s.2 o) s r → (fun (s : (List api_Word) × Int) => ∀ (A30 : Option Addr) (n31 : Nat) (c32 : Nat) (h33 : Ow w.heap.size A30 n31 c32 s.1), G (trellislaw8_lent_C w F r) [.code trellislaw8_lent_c10, .inLoop trellislaw8_lent_c10, .inBlock 0, .code trellislaw8_lent_c6] [(0, .slice A2 n3 c4), (3, .slice A30 n31 c32), (4, .int .i64 s.2)] [.own (.slice A30 n31 c32) 27 4 n31 (s.1.flatMap enc_api_Word)] [Sm w.heap.size F w [], St w []]) s := by
    intro s hs
    refine Rounds.ind (mot := (fun (s : (List api_Word) × Int) => ∀ (A30 : Option Addr) (n31 : Nat) (c32 : Nat) (h33 : Ow w.heap.size A30 n31 c32 s.1), G (trellislaw8_lent_C w F r) [.code trellislaw8_lent_c10, .inLoop trellislaw8_lent_c10, .inBlock 0, .code trellislaw8_lent_c6] [(0, .slice A2 n3 c4), (3, .slice A30 n31 c32), (4, .int .i64 s.2)] [.own (.slice A30 n31 c32) 27 4 n31 (s.1.flatMap enc_api_Word)] [Sm w.heap.size F w [], St w []])) ?_ hs
    clear hs s
    intro s o1 h hO1
    obtain ⟨x29, x34⟩ := s
    show ∀ (A30 : Option Addr) (n31 : Nat) (c32 : Nat) (h33 : Ow w.heap.size A30 n31 c32 x29), G (trellislaw8_lent_C w F r) [.code trellislaw8_lent_c10, .inLoop trellislaw8_lent_c10, .inBlock 0, .code trellislaw8_lent_c6] [(0, .slice A2 n3 c4), (3, .slice A30 n31 c32), (4, .int .i64 x34)] [.own (.slice A30 n31 c32) 27 4 n31 (x29.flatMap enc_api_Word)] [Sm w.heap.size F w [], St w []]
    intro A30 n31 c32 h33
    have h : trellislaw8_lent_b1 x1 x29 x34 o1 := h
    unfold trellislaw8_lent_b1 at h
    refine g_seq (c := trellislaw8_lent_c10) rfl ?_
    refine g_seq (c := trellislaw8_lent_c11) rfl ?_
    refine g_region (c := trellislaw8_lent_c13) rfl rfl ?_
    refine wl_v 0 rfl (v_move rfl) gn rfl ?_
    refine wl_v 1 rfl (v_bin rfl rfl rfl) gn rfl ?_
    refine w_end 2 rfl ?_
    by_cases hp47 : x34 < 20
    · have h := if_pos' hp47 h
      refine g_true (c := trellislaw8_lent_c14) rfl _ rfl ((decide_eq_true hp47)) ?_
      refine g_skip (c := trellislaw8_lent_c15) rfl ?_
      refine g_seq (c := trellislaw8_lent_c12) rfl ?_
      refine g_block (c := trellislaw8_lent_c17) rfl ?_
      refine g_region (c := trellislaw8_lent_c19) rfl rfl ?_
      refine wl_v 0 rfl (v_move rfl) gn rfl ?_
      refine wl_v 1 rfl (v_move rfl) gn rfl ?_
      refine wl_v 2 rfl (v_bin rfl rfl rfl) gn rfl ?_
      refine wl_v 3 rfl (v_build #[.int .i64 0, .string (⟨#[]⟩ : ByteArray), .int .i64 (w64 (900 + x34)), .int .i64 7] bd_27 rfl (by kernel_rfl)) gn rfl ?_
      refine wl_s 4 rfl (s_litO (xs := ([(⟨0, (⟨#[]⟩ : ByteArray), w64 (900 + x34), 7⟩ : api_Word)] : List api_Word)) [.int .i64 0, .string (⟨#[]⟩ : ByteArray), .int .i64 (w64 (900 + x34)), .int .i64 7] bs_22_1 rfl (by kernel_rfl) rfl rfl rfl rfl fun gb49 h50 => ?_) gn
      obtain ⟨x54, hv55, h⟩ := h
      obtain ⟨hb56, h⟩ := h
      refine wl_s 5 rfl (s_app (zs := x54) (cells' := x54.flatMap enc_api_Word) 1 ap_22 rfl rfl rfl h33 (Nat.le_refl _) (Src.ownF (hl := hl_api_Word) (h1 := h1_api_Word) 0 rfl h50) (by rw [hv55, List.flatMap_append] <;> rfl) (app_len hv55 h50.hq) hb56 rfl rfl fun A51 c52 h53 => ?_) gn
      refine wl_v 6 rfl (v_assign rfl) gn rfl ?_
      refine w_end 7 rfl ?_
      refine g_inBlock ?_
      refine g_region (c := trellislaw8_lent_c18) rfl rfl ?_
      refine wl_v 0 rfl (v_move rfl) gn rfl ?_
      refine wl_v 1 rfl (v_bin rfl rfl rfl) gn rfl ?_
      refine wl_v 2 rfl (v_assign rfl) gn rfl ?_
      refine w_end 3 rfl ?_
      refine g_inLoop ?_
      have ih := Out.inl hO1 h
      exact g_go [0, 1] (ih A51 (n31 + 1) c52 h53) ⟨rfl, rfl, rfl, trivial⟩ (.cons _ (.cons_cons _ (.slnil))) rfl
    · have h := if_neg' hp47 h
      refine g_false (c := trellislaw8_lent_c14) rfl _ rfl ((decide_eq_false hp47)) ?_
      refine g_exit (c := trellislaw8_lent_c16) [.code trellislaw8_lent_c6] rfl rfl ?_
      refine g_seq (c := trellislaw8_lent_c6) rfl ?_
      refine g_region (c := trellislaw8_lent_c20) rfl rfl ?_
      refine wl_v 0 rfl (v_move rfl) gn rfl ?_
      refine wl_v 1 rfl (v_move rfl) gn rfl ?_
      refine wl_v 2 rfl (v_lenQ un_22 rfl h5.hq) gn rfl ?_
      obtain ⟨hb57, h⟩ := h
      have hle58 : ((x1.length : Int) : Int).toNat ≤ n31 := by have q := hb57; have q1 := h33.hq; omega
      refine wl_v 3 rfl (v_cutHi (i := (x1.length : Int)) slE_22 rfl rfl (by have q := hb57; have q1 := h33.hq; have q2 := h33.hn; omega) h33.hn rfl) gn rfl ?_
      refine wl_v 4 rfl (v_assign rfl) gn rfl ?_
      refine w_end 5 rfl ?_
      have h := Out.inr hO1 h
      refine g_retR (c := trellislaw8_lent_c21) [.slice A30 (((x1.length : Int) : Int).toNat) c32] rfl Tryd.func11 rfl (.tmp rfl (.nil)) fun wr hLr => ?_
      have hMr : B.Loc w wr [.own (.slice A30 n31 c32) 27 4 n31 (x29.flatMap enc_api_Word)] [St w []] := hLr.pick (rest := []) (perm_of_idx [0] [] rfl rfl (by kernel_rfl)) (sels [1] rfl)
      have hMi : ∀ e ∈ ([.own (.slice A30 n31 c32) 27 4 n31 (x29.flatMap enc_api_Word)] : List Ent), e ∈ ([.own (.slice A30 n31 c32) 27 4 n31 (x29.flatMap enc_api_Word)] : List Ent) := sels [0] rfl
      show trellislaw8_lent_R w F  r (.returned (packV [.slice A30 (((x1.length : Int) : Int).toNat) c32])) wr
      rw [h]
      exact ⟨A30, n31, c32, rfl, hMr, h33, hle58⟩
  exact g_go [0, 1] (key1 _ h A11 n12 c13 (Ow.weak hL7.env.size h14)) ⟨rfl, rfl, rfl, trivial⟩ (.cons_cons _ (.slnil)) rfl
noncomputable abbrev strings_Join_c0 : Code := bodyOf Tryd.f24
abbrev strings_Join_R (w : World) (F : Nat → Prop) (r : ByteArray) : Ending → World → Prop := fun e w' => e = .returned (.string r) ∧ B.Loc w w' [] [St w []]
noncomputable abbrev strings_Join_C (w : World) (F : Nat → Prop) (r : ByteArray) : Cx := ⟨Tryd.prog, 24, Tryd.f24, 75, strings_Join_R w F  r, w⟩
theorem strings_Join_calls (w : World) (F : Nat → Prop) (x1 : List ByteArray) (x6 : ByteArray) (A2 : Option Addr) (n3 : Nat) (c4 : Nat) (h5 : Rw kStr w (St w []).av A2 n3 c4 x1) (hF : ∀ b, F b → b < w.heap.size ∧ ∀ o ∈ ([] : List (List Nat)), b ∉ o) (hL0 : B.Loc w w [] [Sm w.heap.size F w [], St w []]) (r : ByteArray) (h : strings_Join x1 x6 r) : Calls Tryd.prog 24 #[.slice A2 n3 c4, .string x6] w (strings_Join_R w F  r) := by
  unfold strings_Join at h
  obtain ⟨h1, h2, rfl⟩ := h
  refine Calls.mono (join_calls Tryd.strings_Join_none Tryd.strings_Join (fun b hb => hb.1) h5 h1 h2) ?_
  rintro e w' ⟨rfl, hb⟩
  exact ⟨rfl, Loc.of_below hb⟩
noncomputable abbrev words_Join_c0 : Code := bodyOf Tryd.f12
noncomputable abbrev words_Join_c1 : Code := Code.fst words_Join_c0
noncomputable abbrev words_Join_c2 : Code := Code.snd words_Join_c0
noncomputable abbrev words_Join_c3 : Code := Code.fst words_Join_c2
noncomputable abbrev words_Join_c4 : Code := Code.snd words_Join_c2
noncomputable abbrev words_Join_c5 : Code := Code.fst words_Join_c4
noncomputable abbrev words_Join_c6 : Code := Code.snd words_Join_c4
noncomputable abbrev words_Join_c7 : Code := Code.fst words_Join_c5
noncomputable abbrev words_Join_c8 : Code := Code.snd words_Join_c5
noncomputable abbrev words_Join_c9 : Code := Code.fst words_Join_c8
noncomputable abbrev words_Join_c10 : Code := Code.fst words_Join_c9
noncomputable abbrev words_Join_c11 : Code := Code.fst words_Join_c10
noncomputable abbrev words_Join_c12 : Code := Code.snd words_Join_c10
noncomputable abbrev words_Join_c13 : Code := Code.fst words_Join_c12
noncomputable abbrev words_Join_c14 : Code := Code.snd words_Join_c12
noncomputable abbrev words_Join_c15 : Code := Code.fst words_Join_c13
noncomputable abbrev words_Join_c16 : Code := Code.snd words_Join_c13
noncomputable abbrev words_Join_c17 : Code := Code.fst words_Join_c14
noncomputable abbrev words_Join_c18 : Code := Code.snd words_Join_c14
noncomputable abbrev words_Join_c19 : Code := Code.fst words_Join_c17
noncomputable abbrev words_Join_c20 : Code := Code.fst words_Join_c19
noncomputable abbrev words_Join_c21 : Code := Code.snd words_Join_c19
noncomputable abbrev words_Join_c22 : Code := Code.fst words_Join_c21
noncomputable abbrev words_Join_c23 : Code := Code.snd words_Join_c21
noncomputable abbrev words_Join_c24 : Code := Code.fst words_Join_c22
noncomputable abbrev words_Join_c25 : Code := Code.snd words_Join_c22
noncomputable abbrev words_Join_c26 : Code := Code.fst words_Join_c25
noncomputable abbrev words_Join_c27 : Code := Code.snd words_Join_c25
noncomputable abbrev words_Join_c28 : Code := Code.fst words_Join_c26
noncomputable abbrev words_Join_c29 : Code := Code.snd words_Join_c26
noncomputable abbrev words_Join_c30 : Code := Code.fst words_Join_c6
noncomputable abbrev words_Join_c31 : Code := Code.snd words_Join_c6
abbrev words_Join_R (w : World) (F : Nat → Prop) (r : ByteArray) : Ending → World → Prop := fun e w' => e = .returned (.string r) ∧ B.Loc w w' [] [St w []]
noncomputable abbrev words_Join_C (w : World) (F : Nat → Prop) (r : ByteArray) : Cx := ⟨Tryd.prog, 12, Tryd.f12, 23, words_Join_R w F  r, w⟩
theorem words_Join_calls (w : World) (F : Nat → Prop) (x1 : List api_Word) (A2 : Option Addr) (n3 : Nat) (c4 : Nat) (h5 : Rw k_api_Word w (St w []).av A2 n3 c4 x1) (hG : Tb Tryd.prog (St w [])) (hF : ∀ b, F b → b < w.heap.size ∧ ∀ o ∈ ([] : List (List Nat)), b ∉ o) (hL0 : B.Loc w w [] [Sm w.heap.size F w [], St w []]) (r : ByteArray) (h : words_Join x1 r) : Calls Tryd.prog 12 #[.slice A2 n3 c4] w (words_Join_R w F  r) := by
  unfold words_Join at h
  refine calls_of_Loc (vs := [.slice A2 n3 c4]) 23 Tryd.func12 rfl Tryd.ntmps12 rfl hL0 ?_
  show G (words_Join_C w F r) _ _ _ _
  refine g_seq (c := words_Join_c0) rfl ?_
  refine g_region (c := words_Join_c1) rfl rfl ?_
  refine wl_v 0 rfl (v_assign rfl) gn rfl ?_
  refine w_end 1 rfl ?_
  refine g_seq (c := words_Join_c2) rfl ?_
  refine g_region (c := words_Join_c3) rfl rfl ?_
  refine wl_v 0 rfl (v_assign rfl) gn rfl ?_
  refine w_end 1 rfl ?_
  refine g_seq (c := words_Join_c4) rfl ?_
  refine g_seq (c := words_Join_c5) rfl ?_
  refine g_region (c := words_Join_c7) rfl rfl ?_
  refine wl_v 0 rfl (v_move rfl) gn rfl ?_
  refine wl_v 1 rfl (v_lenQ un_22 rfl h5.hq) gn rfl ?_
  refine wl_v 2 rfl (v_move rfl) gn rfl ?_
  refine w_end 3 rfl ?_
  refine g_block (c := words_Join_c8) rfl ?_
  refine g_loop (c := words_Join_c9) rfl ?_
  have key1 : ∀ s, Rounds (fun (s : (List ByteArray) × Int) o => words_Join_b1 x1 s.1 s.2 o) s r → (fun (s : (List ByteArray) × Int) => ∀ (A48 : Option Addr) (n49 : Nat) (c50 : Nat) (h51 : Ow w.heap.size A48 n49 c50 s.1), G (words_Join_C w F r) [.code words_Join_c10, .inLoop words_Join_c10, .inBlock 0, .code words_Join_c6] [(3, .slice A48 n49 c50), (6, .slice A2 n3 c4), (7, .int .i64 (x1.length : Int)), (8, .int .i64 s.2)] [.own (.slice A48 n49 c50) 9 1 n49 (s.1.flatMap eS)] [Sm w.heap.size F w [], St w []]) s := by
    intro s hs
    refine Rounds.ind (mot := (fun (s : (List ByteArray) × Int) => ∀ (A48 : Option Addr) (n49 : Nat) (c50 : Nat) (h51 : Ow w.heap.size A48 n49 c50 s.1), G (words_Join_C w F r) [.code words_Join_c10, .inLoop words_Join_c10, .inBlock 0, .code words_Join_c6] [(3, .slice A48 n49 c50), (6, .slice A2 n3 c4), (7, .int .i64 (x1.length : Int)), (8, .int .i64 s.2)] [.own (.slice A48 n49 c50) 9 1 n49 (s.1.flatMap eS)] [Sm w.heap.size F w [], St w []])) ?_ hs
    clear hs s
    intro s o1 h hO1
    obtain ⟨x47, x52⟩ := s
    show ∀ (A48 : Option Addr) (n49 : Nat) (c50 : Nat) (h51 : Ow w.heap.size A48 n49 c50 x47), G (words_Join_C w F r) [.code words_Join_c10, .inLoop words_Join_c10, .inBlock 0, .code words_Join_c6] [(3, .slice A48 n49 c50), (6, .slice A2 n3 c4), (7, .int .i64 (x1.length : Int)), (8, .int .i64 x52)] [.own (.slice A48 n49 c50) 9 1 n49 (x47.flatMap eS)] [Sm w.heap.size F w [], St w []]
    intro A48 n49 c50 h51
    have h : words_Join_b1 x1 x47 x52 o1 := h
    unfold words_Join_b1 at h
    refine g_seq (c := words_Join_c10) rfl ?_
    refine g_region (c := words_Join_c11) rfl rfl ?_
    refine wl_v 0 rfl (v_bin rfl rfl rfl) gn rfl ?_
    refine w_end 1 rfl ?_
    refine g_seq (c := words_Join_c12) rfl ?_
    by_cases hp92 : x52 < (x1.length : Int)
    · have h := if_pos' hp92 h
      refine g_true (c := words_Join_c13) rfl _ rfl ((decide_eq_true hp92)) ?_
      refine g_skip (c := words_Join_c15) rfl ?_
      refine g_seq (c := words_Join_c14) rfl ?_
      refine g_block (c := words_Join_c17) rfl ?_
      refine g_seq (c := words_Join_c19) rfl ?_
      refine g_region (c := words_Join_c20) rfl rfl ?_
      obtain ⟨hb93, h⟩ := h
      have hr94 := Rw.readF (s := St w []) (hl := hl_api_Word) (h1 := h1_api_Word) h5 hb93
      refine wl_v 0 rfl (v_idxR (s := St w []) slE_22 rfl rfl h5 hb93) gn rfl ?_
      refine wl_v 1 rfl (v_ldA (St w []) ld_27 rfl hr94 rfl (me 1 rfl)) gn rfl ?_
      refine wl_s 2 rfl (s_alloc [.int .i64 0, .string (⟨#[]⟩ : ByteArray), .int .i64 0, .int .i64 0] zr_27 rfl fun gb95 => ?_) gn
      refine wl_s 3 rfl (s_stB (vs := [.int .i64 ((ix x1 x52).kind), .string ((ix x1 x52).text), .int .i64 ((ix x1 x52).n), .int .i64 ((ix x1 x52).at_)]) (cs' := [.int .i64 ((ix x1 x52).kind), .string ((ix x1 x52).text), .int .i64 ((ix x1 x52).n), .int .i64 ((ix x1 x52).at_)]) (M' := [.box gb95 27 [.int .i64 ((ix x1 x52).kind), .string ((ix x1 x52).text), .int .i64 ((ix x1 x52).n), .int .i64 ((ix x1 x52).at_)], .own (.slice A48 n49 c50) 9 1 n49 (x47.flatMap eS)]) 0 sz_27 rfl rfl rfl rfl rfl rfl rfl rfl rfl ?_) gn
      refine w_end 4 rfl ?_
      refine g_seq (c := words_Join_c21) rfl ?_
      refine g_seq (c := words_Join_c22) rfl ?_
      refine g_region (c := words_Join_c24) rfl rfl ?_
      refine wl_v 0 rfl (v_ldB [.int .i64 ((ix x1 x52).kind), .string ((ix x1 x52).text), .int .i64 ((ix x1 x52).n), .int .i64 ((ix x1 x52).at_)] 0 ld_27 rfl rfl rfl rfl) gn rfl ?_
      obtain ⟨r100, hv101, h⟩ := h
      refine wl_s 1 rfl (s_call [.agg #[.int .i64 ((ix x1 x52).kind), .string ((ix x1 x52).text), .int .i64 ((ix x1 x52).n), .int .i64 ((ix x1 x52).at_)]] rfl Tryd.func19 rfl rfl rfl fun w97 hL98 => ?_) gn
      have hp99 : List.Perm ([.box gb95 27 [.int .i64 ((ix x1 x52).kind), .string ((ix x1 x52).text), .int .i64 ((ix x1 x52).n), .int .i64 ((ix x1 x52).at_)], .own (.slice A48 n49 c50) 9 1 n49 (x47.flatMap eS)] : List Ent) (([] : List Ent) ++ ([.box gb95 27 [.int .i64 ((ix x1 x52).kind), .string ((ix x1 x52).text), .int .i64 ((ix x1 x52).n), .int .i64 ((ix x1 x52).at_)], .own (.slice A48 n49 c50) 9 1 n49 (x47.flatMap eS)] : List Ent)) := perm_of_idx [] [0, 1] rfl rfl (by kernel_rfl)
      refine Calls.mono (words_sound_calls w97 (Fl ([] : List Snap)) (ix x1 x52) (hL98.hFl (Sl := ([] : List Snap)) hp99 (sels [] rfl)) (hL98.into hp99 (Fl ([] : List Snap))) r100 hv101) ?_
      rintro _ w102 ⟨rfl, hM103⟩
      have hL104 := hL98.call hp99 hM103
      refine ⟨_, _, _, rfl, hL104, ?_⟩
      refine wl_v 2 rfl (v_not rfl) gn rfl ?_
      refine w_end 3 rfl ?_
      by_cases hp105 : r100 = true
      · have h := if_pos' hp105 h
        refine g_false (c := words_Join_c25) rfl _ rfl ((nf hp105)) ?_
        refine g_skip (c := words_Join_c27) rfl ?_
        refine g_region (c := words_Join_c23) rfl rfl ?_
        refine wl_v 0 rfl (v_move rfl) gn rfl ?_
        refine wl_v 1 rfl (v_ldB [.int .i64 ((ix x1 x52).kind), .string ((ix x1 x52).text), .int .i64 ((ix x1 x52).n), .int .i64 ((ix x1 x52).at_)] 0 ld_27 rfl rfl rfl rfl) gn rfl ?_
        obtain ⟨r109, hv110, h⟩ := h
        refine wl_s 2 rfl (s_call [.agg #[.int .i64 ((ix x1 x52).kind), .string ((ix x1 x52).text), .int .i64 ((ix x1 x52).n), .int .i64 ((ix x1 x52).at_)]] rfl Tryd.func9 rfl rfl rfl fun w106 hL107 => ?_) gn
        have hp108 : List.Perm ([.box gb95 27 [.int .i64 ((ix x1 x52).kind), .string ((ix x1 x52).text), .int .i64 ((ix x1 x52).n), .int .i64 ((ix x1 x52).at_)], .own (.slice A48 n49 c50) 9 1 n49 (x47.flatMap eS)] : List Ent) (([] : List Ent) ++ ([.box gb95 27 [.int .i64 ((ix x1 x52).kind), .string ((ix x1 x52).text), .int .i64 ((ix x1 x52).n), .int .i64 ((ix x1 x52).at_)], .own (.slice A48 n49 c50) 9 1 n49 (x47.flatMap eS)] : List Ent)) := perm_of_idx [] [0, 1] rfl rfl (by kernel_rfl)
        refine Calls.mono (words_Spell_calls w106 (Fl ([] : List Snap)) (ix x1 x52) (hL107.tb hp108 hG (me 1 rfl)) (hL107.hFl (Sl := ([] : List Snap)) hp108 (sels [] rfl)) (hL107.into hp108 (Fl ([] : List Snap))) r109 hv110) ?_
        rintro _ w111 ⟨rfl, hM112⟩
        have hL113 := hL107.call hp108 hM112
        refine ⟨_, _, _, rfl, hL113, ?_⟩
        refine wl_s 3 rfl (s_litO (xs := ([r109] : List ByteArray)) [.string r109] bs_41_1 rfl (by kernel_rfl) rfl rfl rfl rfl fun gb115 h116 => ?_) gn
        obtain ⟨x120, hv121, h⟩ := h
        obtain ⟨hb122, h⟩ := h
        refine wl_s 4 rfl (s_app (zs := x120) (cells' := x120.flatMap eS) 2 ap_41 rfl rfl rfl h51 (Nat.le_refl _) (Src.ownF (hl := hlS) (h1 := hone_str) 0 rfl h116) (by rw [hv121, List.flatMap_append] <;> rfl) (app_len hv121 h116.hq) hb122 rfl rfl fun A117 c118 h119 => ?_) gn
        refine wl_v 5 rfl (v_assign rfl) gn rfl ?_
        refine w_end 6 rfl ?_
        refine g_inBlock ?_
        refine g_region (c := words_Join_c18) rfl rfl ?_
        refine wl_v 0 rfl (v_bin rfl rfl rfl) gn rfl ?_
        refine wl_v 1 rfl (v_move rfl) gn rfl ?_
        refine w_end 2 rfl ?_
        refine g_inLoop ?_
        have ih := Out.inl hO1 h
        exact g_go [0, 1] (ih A117 (n49 + 1) c118 h119) ⟨rfl, rfl, rfl, rfl, trivial⟩ (.cons _ (.cons _ (.cons_cons _ (.slnil)))) rfl
      · have h := if_neg' hp105 h
        refine g_true (c := words_Join_c25) rfl _ rfl ((nt (bf hp105))) ?_
        refine g_seq (c := words_Join_c26) rfl ?_
        refine g_region (c := words_Join_c28) rfl rfl ?_
        refine wl_v 0 rfl (v_assign rfl) gn rfl ?_
        refine w_end 1 rfl ?_
        have h := Out.inr hO1 h
        refine g_retR (c := words_Join_c29) [.string (⟨#[]⟩ : ByteArray)] rfl Tryd.func12 rfl (.tmp rfl (.nil)) fun wr hLr => ?_
        have hMr : B.Loc w wr [] [St w []] := hLr.pick (rest := [.box gb95 27 [.int .i64 ((ix x1 x52).kind), .string ((ix x1 x52).text), .int .i64 ((ix x1 x52).n), .int .i64 ((ix x1 x52).at_)], .own (.slice A48 n49 c50) 9 1 n49 (x47.flatMap eS)]) (perm_of_idx [] [0, 1] rfl rfl (by kernel_rfl)) (sels [1] rfl)
        have hMi : ∀ e ∈ ([] : List Ent), e ∈ ([.box gb95 27 [.int .i64 ((ix x1 x52).kind), .string ((ix x1 x52).text), .int .i64 ((ix x1 x52).n), .int .i64 ((ix x1 x52).at_)], .own (.slice A48 n49 c50) 9 1 n49 (x47.flatMap eS)] : List Ent) := sels [] rfl
        show words_Join_R w F  r (.returned (packV [.string (⟨#[]⟩ : ByteArray)])) wr
        rw [h]
        exact ⟨rfl, hMr⟩
    · have h := if_neg' hp92 h
      refine g_false (c := words_Join_c13) rfl _ rfl ((decide_eq_false hp92)) ?_
      refine g_exit (c := words_Join_c16) [.code words_Join_c6] rfl rfl ?_
      refine g_seq (c := words_Join_c6) rfl ?_
      refine g_region (c := words_Join_c30) rfl rfl ?_
      refine wl_v 0 rfl (v_move rfl) gn rfl ?_
      obtain ⟨r126, hv127, h⟩ := h
      refine wl_s 1 rfl (s_call [.slice A48 n49 c50, .string (⟨#[32]⟩ : ByteArray)] rfl Tryd.func24 rfl rfl rfl fun w123 hL124 => ?_) gn
      have hp125 : List.Perm ([.own (.slice A48 n49 c50) 9 1 n49 (x47.flatMap eS)] : List Ent) (([] : List Ent) ++ ([.own (.slice A48 n49 c50) 9 1 n49 (x47.flatMap eS)] : List Ent)) := perm_of_idx [] [0] rfl rfl (by kernel_rfl)
      refine Calls.mono (strings_Join_calls w123 (Fl ([] : List Snap)) x47 (⟨#[32]⟩ : ByteArray) A48 n49 c50 (hL124.argO (dk := kStr) hp125 [] rfl 0 rfl rfl h51 (me 0 rfl) (Cells.flat _)) (hL124.hFl (Sl := ([] : List Snap)) hp125 (sels [] rfl)) (hL124.into hp125 (Fl ([] : List Snap))) r126 hv127) ?_
      rintro _ w128 ⟨rfl, hM129⟩
      have hL130 := hL124.call hp125 hM129
      refine ⟨_, _, _, rfl, hL130, ?_⟩
      refine wl_v 2 rfl (v_assign rfl) gn rfl ?_
      refine w_end 3 rfl ?_
      have h := Out.inr hO1 h
      refine g_retR (c := words_Join_c31) [.string r126] rfl Tryd.func12 rfl (.tmp rfl (.nil)) fun wr hLr => ?_
      have hMr : B.Loc w wr [] [St w []] := hLr.pick (rest := [.own (.slice A48 n49 c50) 9 1 n49 (x47.flatMap eS)]) (perm_of_idx [] [0] rfl rfl (by kernel_rfl)) (sels [1] rfl)
      have hMi : ∀ e ∈ ([] : List Ent), e ∈ ([.own (.slice A48 n49 c50) 9 1 n49 (x47.flatMap eS)] : List Ent) := sels [] rfl
      show words_Join_R w F  r (.returned (packV [.string r126])) wr
      rw [h]
      exact ⟨rfl, hMr⟩
  refine g_nil 9 1 ?_
  exact g_go [0, 1] (key1 _ h none 0 0 (Ow.nil (z := w.heap.size))) ⟨rfl, rfl, rfl, rfl, trivial⟩ (.cons_cons _ (.slnil)) rfl
noncomputable abbrev trellisref8_Join_c0 : Code := bodyOf Tryd.f13
noncomputable abbrev trellisref8_Join_c1 : Code := Code.fst trellisref8_Join_c0
noncomputable abbrev trellisref8_Join_c2 : Code := Code.snd trellisref8_Join_c0
noncomputable abbrev trellisref8_Join_c3 : Code := Code.fst trellisref8_Join_c2
noncomputable abbrev trellisref8_Join_c4 : Code := Code.snd trellisref8_Join_c2
noncomputable abbrev trellisref8_Join_c5 : Code := Code.fst trellisref8_Join_c4
noncomputable abbrev trellisref8_Join_c6 : Code := Code.snd trellisref8_Join_c4
noncomputable abbrev trellisref8_Join_c7 : Code := Code.fst trellisref8_Join_c5
noncomputable abbrev trellisref8_Join_c8 : Code := Code.snd trellisref8_Join_c5
noncomputable abbrev trellisref8_Join_c9 : Code := Code.fst trellisref8_Join_c8
noncomputable abbrev trellisref8_Join_c10 : Code := Code.fst trellisref8_Join_c9
noncomputable abbrev trellisref8_Join_c11 : Code := Code.fst trellisref8_Join_c10
noncomputable abbrev trellisref8_Join_c12 : Code := Code.snd trellisref8_Join_c10
noncomputable abbrev trellisref8_Join_c13 : Code := Code.fst trellisref8_Join_c11
noncomputable abbrev trellisref8_Join_c14 : Code := Code.snd trellisref8_Join_c11
noncomputable abbrev trellisref8_Join_c15 : Code := Code.fst trellisref8_Join_c14
noncomputable abbrev trellisref8_Join_c16 : Code := Code.snd trellisref8_Join_c14
noncomputable abbrev trellisref8_Join_c17 : Code := Code.fst trellisref8_Join_c12
noncomputable abbrev trellisref8_Join_c18 : Code := Code.snd trellisref8_Join_c12
noncomputable abbrev trellisref8_Join_c19 : Code := Code.fst trellisref8_Join_c17
noncomputable abbrev trellisref8_Join_c20 : Code := Code.fst trellisref8_Join_c19
noncomputable abbrev trellisref8_Join_c21 : Code := Code.snd trellisref8_Join_c19
noncomputable abbrev trellisref8_Join_c22 : Code := Code.fst trellisref8_Join_c20
noncomputable abbrev trellisref8_Join_c23 : Code := Code.snd trellisref8_Join_c20
noncomputable abbrev trellisref8_Join_c24 : Code := Code.fst trellisref8_Join_c23
noncomputable abbrev trellisref8_Join_c25 : Code := Code.snd trellisref8_Join_c23
noncomputable abbrev trellisref8_Join_c26 : Code := Code.fst trellisref8_Join_c21
noncomputable abbrev trellisref8_Join_c27 : Code := Code.snd trellisref8_Join_c21
noncomputable abbrev trellisref8_Join_c28 : Code := Code.fst trellisref8_Join_c26
noncomputable abbrev trellisref8_Join_c29 : Code := Code.snd trellisref8_Join_c26
noncomputable abbrev trellisref8_Join_c30 : Code := Code.fst trellisref8_Join_c29
noncomputable abbrev trellisref8_Join_c31 : Code := Code.snd trellisref8_Join_c29
noncomputable abbrev trellisref8_Join_c32 : Code := Code.fst trellisref8_Join_c24
noncomputable abbrev trellisref8_Join_c33 : Code := Code.snd trellisref8_Join_c24
noncomputable abbrev trellisref8_Join_c34 : Code := Code.fst trellisref8_Join_c6
noncomputable abbrev trellisref8_Join_c35 : Code := Code.snd trellisref8_Join_c6
abbrev trellisref8_Join_R (w : World) (F : Nat → Prop) (r : ByteArray) : Ending → World → Prop := fun e w' => e = .returned (.string r) ∧ B.Loc w w' [] [St w []]
noncomputable abbrev trellisref8_Join_C (w : World) (F : Nat → Prop) (r : ByteArray) : Cx := ⟨Tryd.prog, 13, Tryd.f13, 29, trellisref8_Join_R w F  r, w⟩
theorem trellisref8_Join_calls (w : World) (F : Nat → Prop) (x1 : List api_Word) (A2 : Option Addr) (n3 : Nat) (c4 : Nat) (h5 : Rw k_api_Word w (St w []).av A2 n3 c4 x1) (hG : Tb Tryd.prog (St w [])) (hF : ∀ b, F b → b < w.heap.size ∧ ∀ o ∈ ([] : List (List Nat)), b ∉ o) (hL0 : B.Loc w w [] [Sm w.heap.size F w [], St w []]) (r : ByteArray) (h : trellisref8_Join x1 r) : Calls Tryd.prog 13 #[.slice A2 n3 c4] w (trellisref8_Join_R w F  r) := by
  unfold trellisref8_Join at h
  refine calls_of_Loc (vs := [.slice A2 n3 c4]) 29 Tryd.func13 rfl Tryd.ntmps13 rfl hL0 ?_
  show G (trellisref8_Join_C w F r) _ _ _ _
  refine g_seq (c := trellisref8_Join_c0) rfl ?_
  refine g_region (c := trellisref8_Join_c1) rfl rfl ?_
  refine wl_v 0 rfl (v_assign rfl) gn rfl ?_
  refine w_end 1 rfl ?_
  refine g_seq (c := trellisref8_Join_c2) rfl ?_
  refine g_region (c := trellisref8_Join_c3) rfl rfl ?_
  refine wl_v 0 rfl (v_assign rfl) gn rfl ?_
  refine w_end 1 rfl ?_
  refine g_seq (c := trellisref8_Join_c4) rfl ?_
  refine g_seq (c := trellisref8_Join_c5) rfl ?_
  refine g_region (c := trellisref8_Join_c7) rfl rfl ?_
  refine wl_v 0 rfl (v_assign rfl) gn rfl ?_
  refine w_end 1 rfl ?_
  refine g_block (c := trellisref8_Join_c8) rfl ?_
  refine g_loop (c := trellisref8_Join_c9) rfl ?_
  have key1 : ∀ s, Rounds (fun (s : ByteArray × Int) o => trellisref8_Join_b1 x1 s.1 s.2 o) s r → (fun (s : ByteArray × Int) => ∀ (_ : Unit), G (trellisref8_Join_C w F r) [.code trellisref8_Join_c10, .inLoop trellisref8_Join_c10, .inBlock 0, .code trellisref8_Join_c6] [(0, .slice A2 n3 c4), (3, .string s.1), (4, .int .i64 s.2)] [] [Sm w.heap.size F w [], St w []]) s := by
    intro s hs
    refine Rounds.ind (mot := (fun (s : ByteArray × Int) => ∀ (_ : Unit), G (trellisref8_Join_C w F r) [.code trellisref8_Join_c10, .inLoop trellisref8_Join_c10, .inBlock 0, .code trellisref8_Join_c6] [(0, .slice A2 n3 c4), (3, .string s.1), (4, .int .i64 s.2)] [] [Sm w.heap.size F w [], St w []])) ?_ hs
    clear hs s
    intro s o1 h hO1
    obtain ⟨x29, x30⟩ := s
    show ∀ (_ : Unit), G (trellisref8_Join_C w F r) [.code trellisref8_Join_c10, .inLoop trellisref8_Join_c10, .inBlock 0, .code trellisref8_Join_c6] [(0, .slice A2 n3 c4), (3, .string x29), (4, .int .i64 x30)] [] [Sm w.heap.size F w [], St w []]
    intro _
    have h : trellisref8_Join_b1 x1 x29 x30 o1 := h
    unfold trellisref8_Join_b1 at h
    refine g_seq (c := trellisref8_Join_c10) rfl ?_
    refine g_seq (c := trellisref8_Join_c11) rfl ?_
    refine g_region (c := trellisref8_Join_c13) rfl rfl ?_
    refine wl_v 0 rfl (v_move rfl) gn rfl ?_
    refine wl_v 1 rfl (v_move rfl) gn rfl ?_
    refine wl_v 2 rfl (v_lenQ un_22 rfl h5.hq) gn rfl ?_
    refine wl_v 3 rfl (v_bin rfl rfl rfl) gn rfl ?_
    refine w_end 4 rfl ?_
    by_cases hp65 : x30 < (x1.length : Int)
    · have h := if_pos' hp65 h
      refine g_true (c := trellisref8_Join_c14) rfl _ rfl ((decide_eq_true hp65)) ?_
      refine g_skip (c := trellisref8_Join_c15) rfl ?_
      refine g_seq (c := trellisref8_Join_c12) rfl ?_
      refine g_block (c := trellisref8_Join_c17) rfl ?_
      refine g_seq (c := trellisref8_Join_c19) rfl ?_
      refine g_seq (c := trellisref8_Join_c20) rfl ?_
      refine g_region (c := trellisref8_Join_c22) rfl rfl ?_
      refine wl_v 0 rfl (v_move rfl) gn rfl ?_
      refine wl_v 1 rfl (v_move rfl) gn rfl ?_
      obtain ⟨hb66, h⟩ := h
      have hr67 := Rw.readF (s := St w []) (hl := hl_api_Word) (h1 := h1_api_Word) h5 hb66
      refine wl_v 2 rfl (v_idxR (s := St w []) slE_22 rfl rfl h5 hb66) gn rfl ?_
      refine wl_v 3 rfl (v_ldA (St w []) ld_27 rfl hr67 rfl (me 1 rfl)) gn rfl ?_
      obtain ⟨r71, hv72, h⟩ := h
      refine wl_s 4 rfl (s_call [.agg #[.int .i64 ((ix x1 x30).kind), .string ((ix x1 x30).text), .int .i64 ((ix x1 x30).n), .int .i64 ((ix x1 x30).at_)]] rfl Tryd.func22 rfl rfl rfl fun w68 hL69 => ?_) gn
      have hp70 : List.Perm ([] : List Ent) (([] : List Ent) ++ ([] : List Ent)) := perm_of_idx [] [] rfl rfl (by kernel_rfl)
      refine Calls.mono (trellisref8_Sound_calls w68 (Fl ([] : List Snap)) (ix x1 x30) (hL69.hFl (Sl := ([] : List Snap)) hp70 (sels [] rfl)) (hL69.into hp70 (Fl ([] : List Snap))) r71 hv72) ?_
      rintro _ w73 ⟨rfl, hM74⟩
      have hL75 := hL69.call hp70 hM74
      refine ⟨_, _, _, rfl, hL75, ?_⟩
      refine wl_v 5 rfl (v_not rfl) gn rfl ?_
      refine w_end 6 rfl ?_
      by_cases hp76 : r71 = true
      · have h := if_pos' hp76 h
        refine g_false (c := trellisref8_Join_c23) rfl _ rfl ((nf hp76)) ?_
        refine g_skip (c := trellisref8_Join_c25) rfl ?_
        refine g_seq (c := trellisref8_Join_c21) rfl ?_
        refine g_seq (c := trellisref8_Join_c26) rfl ?_
        refine g_region (c := trellisref8_Join_c28) rfl rfl ?_
        refine wl_v 0 rfl (v_move rfl) gn rfl ?_
        refine wl_v 1 rfl (v_bin rfl rfl rfl) gn rfl ?_
        refine w_end 2 rfl ?_
        by_cases hp77 : x30 > 0
        · have h := if_pos' hp77 h
          refine g_true (c := trellisref8_Join_c29) rfl _ rfl ((decide_eq_true hp77)) ?_
          refine g_region (c := trellisref8_Join_c30) rfl rfl ?_
          refine wl_v 0 rfl (v_move rfl) gn rfl ?_
          obtain ⟨hb78, h⟩ := h
          refine wl_v 1 rfl (v_catS rfl rfl hb78) gn rfl ?_
          refine wl_v 2 rfl (v_assign rfl) gn rfl ?_
          refine w_end 3 rfl ?_
          refine g_region (c := trellisref8_Join_c27) rfl rfl ?_
          refine wl_v 0 rfl (v_move rfl) gn rfl ?_
          refine wl_v 1 rfl (v_move rfl) gn rfl ?_
          refine wl_v 2 rfl (v_move rfl) gn rfl ?_
          have hr79 := Rw.readF (s := St w []) (hl := hl_api_Word) (h1 := h1_api_Word) h5 hb66
          refine wl_v 3 rfl (v_idxR (s := St w []) slE_22 rfl rfl h5 hb66) gn rfl ?_
          refine wl_v 4 rfl (v_ldA (St w []) ld_27 rfl hr79 rfl (me 1 rfl)) gn rfl ?_
          obtain ⟨r83, hv84, h⟩ := h
          refine wl_s 5 rfl (s_call [.agg #[.int .i64 ((ix x1 x30).kind), .string ((ix x1 x30).text), .int .i64 ((ix x1 x30).n), .int .i64 ((ix x1 x30).at_)]] rfl Tryd.func10 rfl rfl rfl fun w80 hL81 => ?_) gn
          have hp82 : List.Perm ([] : List Ent) (([] : List Ent) ++ ([] : List Ent)) := perm_of_idx [] [] rfl rfl (by kernel_rfl)
          refine Calls.mono (trellisref8_Spell_calls w80 (Fl ([] : List Snap)) (ix x1 x30) (hL81.tb hp82 hG (me 1 rfl)) (hL81.hFl (Sl := ([] : List Snap)) hp82 (sels [] rfl)) (hL81.into hp82 (Fl ([] : List Snap))) r83 hv84) ?_
          rintro _ w85 ⟨rfl, hM86⟩
          have hL87 := hL81.call hp82 hM86
          refine ⟨_, _, _, rfl, hL87, ?_⟩
          obtain ⟨hb88, h⟩ := h
          refine wl_v 6 rfl (v_catS rfl rfl hb88) gn rfl ?_
          refine wl_v 7 rfl (v_assign rfl) gn rfl ?_
          refine w_end 8 rfl ?_
          refine g_inBlock ?_
          refine g_region (c := trellisref8_Join_c18) rfl rfl ?_
          refine wl_v 0 rfl (v_move rfl) gn rfl ?_
          refine wl_v 1 rfl (v_bin rfl rfl rfl) gn rfl ?_
          refine wl_v 2 rfl (v_assign rfl) gn rfl ?_
          refine w_end 3 rfl ?_
          refine g_inLoop ?_
          have ih := Out.inl hO1 h
          exact g_go [0, 1] (ih ()) ⟨rfl, rfl, rfl, trivial⟩ (.slnil) rfl
        · have h := if_neg' hp77 h
          refine g_false (c := trellisref8_Join_c29) rfl _ rfl ((decide_eq_false hp77)) ?_
          refine g_skip (c := trellisref8_Join_c31) rfl ?_
          refine g_region (c := trellisref8_Join_c27) rfl rfl ?_
          refine wl_v 0 rfl (v_move rfl) gn rfl ?_
          refine wl_v 1 rfl (v_move rfl) gn rfl ?_
          refine wl_v 2 rfl (v_move rfl) gn rfl ?_
          have hr89 := Rw.readF (s := St w []) (hl := hl_api_Word) (h1 := h1_api_Word) h5 hb66
          refine wl_v 3 rfl (v_idxR (s := St w []) slE_22 rfl rfl h5 hb66) gn rfl ?_
          refine wl_v 4 rfl (v_ldA (St w []) ld_27 rfl hr89 rfl (me 1 rfl)) gn rfl ?_
          obtain ⟨r93, hv94, h⟩ := h
          refine wl_s 5 rfl (s_call [.agg #[.int .i64 ((ix x1 x30).kind), .string ((ix x1 x30).text), .int .i64 ((ix x1 x30).n), .int .i64 ((ix x1 x30).at_)]] rfl Tryd.func10 rfl rfl rfl fun w90 hL91 => ?_) gn
          have hp92 : List.Perm ([] : List Ent) (([] : List Ent) ++ ([] : List Ent)) := perm_of_idx [] [] rfl rfl (by kernel_rfl)
          refine Calls.mono (trellisref8_Spell_calls w90 (Fl ([] : List Snap)) (ix x1 x30) (hL91.tb hp92 hG (me 1 rfl)) (hL91.hFl (Sl := ([] : List Snap)) hp92 (sels [] rfl)) (hL91.into hp92 (Fl ([] : List Snap))) r93 hv94) ?_
          rintro _ w95 ⟨rfl, hM96⟩
          have hL97 := hL91.call hp92 hM96
          refine ⟨_, _, _, rfl, hL97, ?_⟩
          obtain ⟨hb98, h⟩ := h
          refine wl_v 6 rfl (v_catS rfl rfl hb98) gn rfl ?_
          refine wl_v 7 rfl (v_assign rfl) gn rfl ?_
          refine w_end 8 rfl ?_
          refine g_inBlock ?_
          refine g_region (c := trellisref8_Join_c18) rfl rfl ?_
          refine wl_v 0 rfl (v_move rfl) gn rfl ?_
          refine wl_v 1 rfl (v_bin rfl rfl rfl) gn rfl ?_
          refine wl_v 2 rfl (v_assign rfl) gn rfl ?_
          refine w_end 3 rfl ?_
          refine g_inLoop ?_
          have ih := Out.inl hO1 h
          exact g_go [0, 1] (ih ()) ⟨rfl, rfl, rfl, trivial⟩ (.slnil) rfl
      · have h := if_neg' hp76 h
        refine g_true (c := trellisref8_Join_c23) rfl _ rfl ((nt (bf hp76))) ?_
        refine g_seq (c := trellisref8_Join_c24) rfl ?_
        refine g_region (c := trellisref8_Join_c32) rfl rfl ?_
        refine wl_v 0 rfl (v_assign rfl) gn rfl ?_
        refine w_end 1 rfl ?_
        have h := Out.inr hO1 h
        refine g_retR (c := trellisref8_Join_c33) [.string (⟨#[]⟩ : ByteArray)] rfl Tryd.func13 rfl (.tmp rfl (.nil)) fun wr hLr => ?_
        have hMr : B.Loc w wr [] [St w []] := hLr.pick (rest := []) (perm_of_idx [] [] rfl rfl (by kernel_rfl)) (sels [1] rfl)
        have hMi : ∀ e ∈ ([] : List Ent), e ∈ ([] : List Ent) := sels [] rfl
        show trellisref8_Join_R w F  r (.returned (packV [.string (⟨#[]⟩ : ByteArray)])) wr
        rw [h]
        exact ⟨rfl, hMr⟩
    · have h := if_neg' hp65 h
      refine g_false (c := trellisref8_Join_c14) rfl _ rfl ((decide_eq_false hp65)) ?_
      refine g_exit (c := trellisref8_Join_c16) [.code trellisref8_Join_c6] rfl rfl ?_
      refine g_seq (c := trellisref8_Join_c6) rfl ?_
      refine g_region (c := trellisref8_Join_c34) rfl rfl ?_
      refine wl_v 0 rfl (v_move rfl) gn rfl ?_
      refine wl_v 1 rfl (v_assign rfl) gn rfl ?_
      refine w_end 2 rfl ?_
      have h := Out.inr hO1 h
      refine g_retR (c := trellisref8_Join_c35) [.string x29] rfl Tryd.func13 rfl (.tmp rfl (.nil)) fun wr hLr => ?_
      have hMr : B.Loc w wr [] [St w []] := hLr.pick (rest := []) (perm_of_idx [] [] rfl rfl (by kernel_rfl)) (sels [1] rfl)
      have hMi : ∀ e ∈ ([] : List Ent), e ∈ ([] : List Ent) := sels [] rfl
      show trellisref8_Join_R w F  r (.returned (packV [.string x29])) wr
      rw [h]
      exact ⟨rfl, hMr⟩
  exact g_go [0, 1] (key1 _ h ()) ⟨rfl, rfl, rfl, trivial⟩ (.slnil) rfl
noncomputable abbrev trellislaw8_sameWord_c0 : Code := bodyOf Tryd.f25
noncomputable abbrev trellislaw8_sameWord_c1 : Code := Code.fst trellislaw8_sameWord_c0
noncomputable abbrev trellislaw8_sameWord_c2 : Code := Code.snd trellislaw8_sameWord_c0
noncomputable abbrev trellislaw8_sameWord_c3 : Code := Code.fst trellislaw8_sameWord_c2
noncomputable abbrev trellislaw8_sameWord_c4 : Code := Code.snd trellislaw8_sameWord_c2
abbrev trellislaw8_sameWord_R (w : World) (F : Nat → Prop) (r : Bool) : Ending → World → Prop := fun e w' => e = .returned (.bool r) ∧ B.Loc w w' [] [St w []]
noncomputable abbrev trellislaw8_sameWord_C (w : World) (F : Nat → Prop) (r : Bool) : Cx := ⟨Tryd.prog, 25, Tryd.f25, 31, trellislaw8_sameWord_R w F  r, w⟩
theorem trellislaw8_sameWord_calls (w : World) (F : Nat → Prop) (x1 : api_Word) (x2 : api_Word) (hF : ∀ b, F b → b < w.heap.size ∧ ∀ o ∈ ([] : List (List Nat)), b ∉ o) (hL0 : B.Loc w w [] [Sm w.heap.size F w [], St w []]) (r : Bool) (h : trellislaw8_sameWord x1 x2 r) : Calls Tryd.prog 25 #[.agg #[.int .i64 x1.kind, .string x1.text, .int .i64 x1.n, .int .i64 x1.at_], .agg #[.int .i64 x2.kind, .string x2.text, .int .i64 x2.n, .int .i64 x2.at_]] w (trellislaw8_sameWord_R w F  r) := by
  unfold trellislaw8_sameWord at h
  refine calls_of_Loc (vs := [.agg #[.int .i64 x1.kind, .string x1.text, .int .i64 x1.n, .int .i64 x1.at_], .agg #[.int .i64 x2.kind, .string x2.text, .int .i64 x2.n, .int .i64 x2.at_]]) 31 Tryd.func25 rfl Tryd.ntmps25 rfl hL0 ?_
  show G (trellislaw8_sameWord_C w F r) _ _ _ _
  refine g_seq (c := trellislaw8_sameWord_c0) rfl ?_
  refine g_region (c := trellislaw8_sameWord_c1) rfl rfl ?_
  refine wl_s 0 rfl (s_box [.int .i64 x1.kind, .string x1.text, .int .i64 x1.n, .int .i64 x1.at_] rfl rfl rfl fun gb3 => ?_) gn
  refine wl_s 1 rfl (s_box [.int .i64 x2.kind, .string x2.text, .int .i64 x2.n, .int .i64 x2.at_] rfl rfl rfl fun gb5 => ?_) gn
  refine wl_v 2 rfl (v_assign rfl) gn rfl ?_
  refine w_end 3 rfl ?_
  refine g_seq (c := trellislaw8_sameWord_c2) rfl ?_
  refine g_region (c := trellislaw8_sameWord_c3) rfl rfl ?_
  refine wl_v 0 rfl (v_fldB fo_27_0 rfl) gn rfl ?_
  refine wl_v 1 rfl (v_ldB1 1 ld_25 rfl rfl rfl) gn rfl ?_
  refine wl_v 2 rfl (v_fldB fo_27_0 rfl) gn rfl ?_
  refine wl_v 3 rfl (v_ldB1 0 ld_25 rfl rfl rfl) gn rfl ?_
  refine wl_v 4 rfl (v_bin rfl rfl rfl) gn rfl ?_
  refine wl_v 5 rfl (v_move rfl) gn rfl ?_
  by_cases hp7 : x1.kind = x2.kind
  · have h := if_pos' hp7 h
    refine w_bool 10 rfl ((eqi hp7)) ?_
    refine wl_v 6 rfl (v_fldB fo_27_1 rfl) (gy 10 rfl rfl) rfl ?_
    refine wl_v 7 rfl (v_ldB1 1 ld_9 rfl rfl rfl) (gy 10 rfl rfl) rfl ?_
    refine wl_v 8 rfl (v_fldB fo_27_1 rfl) (gy 10 rfl rfl) rfl ?_
    refine wl_v 9 rfl (v_ldB1 0 ld_9 rfl rfl rfl) (gy 10 rfl rfl) rfl ?_
    refine wl_v 10 rfl (v_eqS rfl rfl) (gy 10 rfl rfl) rfl ?_
    refine wl_v 11 rfl (v_pick (b := true) rfl rfl) gn rfl ?_
    refine wl_v 12 rfl (v_move rfl) gn rfl ?_
    by_cases hp8 : x1.text = x2.text
    · have h := if_pos' hp8 h
      refine w_bool 17 rfl ((seq_t hp8)) ?_
      refine wl_v 13 rfl (v_fldB fo_27_2 rfl) (gy 17 rfl rfl) rfl ?_
      refine wl_v 14 rfl (v_ldB1 1 ld_3 rfl rfl rfl) (gy 17 rfl rfl) rfl ?_
      refine wl_v 15 rfl (v_fldB fo_27_2 rfl) (gy 17 rfl rfl) rfl ?_
      refine wl_v 16 rfl (v_ldB1 0 ld_3 rfl rfl rfl) (gy 17 rfl rfl) rfl ?_
      refine wl_v 17 rfl (v_bin rfl rfl rfl) (gy 17 rfl rfl) rfl ?_
      refine wl_v 18 rfl (v_pick (b := true) rfl rfl) gn rfl ?_
      refine wl_v 19 rfl (v_move rfl) gn rfl ?_
      by_cases hp9 : x1.n = x2.n
      · have h := if_pos' hp9 h
        refine w_bool 24 rfl ((eqi hp9)) ?_
        refine wl_v 20 rfl (v_fldB fo_27_3 rfl) (gy 24 rfl rfl) rfl ?_
        refine wl_v 21 rfl (v_ldB1 1 ld_3 rfl rfl rfl) (gy 24 rfl rfl) rfl ?_
        refine wl_v 22 rfl (v_fldB fo_27_3 rfl) (gy 24 rfl rfl) rfl ?_
        refine wl_v 23 rfl (v_ldB1 0 ld_3 rfl rfl rfl) (gy 24 rfl rfl) rfl ?_
        refine wl_v 24 rfl (v_bin rfl rfl rfl) (gy 24 rfl rfl) rfl ?_
        refine wl_v 25 rfl (v_pick (b := true) rfl rfl) gn rfl ?_
        refine wl_v 26 rfl (v_assign rfl) gn rfl ?_
        refine w_end 27 rfl ?_
        refine g_retR (c := trellislaw8_sameWord_c4) [.bool (x1.at_ == x2.at_)] rfl Tryd.func25 rfl (.tmp rfl (.nil)) fun wr hLr => ?_
        have hMr : B.Loc w wr [] [St w []] := hLr.pick (rest := [.box gb5 27 [.int .i64 x2.kind, .string x2.text, .int .i64 x2.n, .int .i64 x2.at_], .box gb3 27 [.int .i64 x1.kind, .string x1.text, .int .i64 x1.n, .int .i64 x1.at_]]) (perm_of_idx [] [0, 1] rfl rfl (by kernel_rfl)) (sels [1] rfl)
        have hMi : ∀ e ∈ ([] : List Ent), e ∈ ([.box gb5 27 [.int .i64 x2.kind, .string x2.text, .int .i64 x2.n, .int .i64 x2.at_], .box gb3 27 [.int .i64 x1.kind, .string x1.text, .int .i64 x1.n, .int .i64 x1.at_]] : List Ent) := sels [] rfl
        show trellislaw8_sameWord_R w F  r (.returned (packV [.bool (x1.at_ == x2.at_)])) wr
        rw [h]
        exact ⟨rfl, hMr⟩
      · have h := if_neg' hp9 h
        refine w_bool 24 rfl ((nei hp9)) ?_
        refine wl_pass 20 rfl (ps 24 rfl rfl rfl) ?_
        refine wl_pass 21 rfl (ps 24 rfl rfl rfl) ?_
        refine wl_pass 22 rfl (ps 24 rfl rfl rfl) ?_
        refine wl_pass 23 rfl (ps 24 rfl rfl rfl) ?_
        refine wl_pass 24 rfl (ps 24 rfl rfl rfl) ?_
        refine wl_v 25 rfl (v_pick (b := false) rfl rfl) gn rfl ?_
        refine wl_v 26 rfl (v_assign rfl) gn rfl ?_
        refine w_end 27 rfl ?_
        refine g_retR (c := trellislaw8_sameWord_c4) [.bool false] rfl Tryd.func25 rfl (.tmp rfl (.nil)) fun wr hLr => ?_
        have hMr : B.Loc w wr [] [St w []] := hLr.pick (rest := [.box gb5 27 [.int .i64 x2.kind, .string x2.text, .int .i64 x2.n, .int .i64 x2.at_], .box gb3 27 [.int .i64 x1.kind, .string x1.text, .int .i64 x1.n, .int .i64 x1.at_]]) (perm_of_idx [] [0, 1] rfl rfl (by kernel_rfl)) (sels [1] rfl)
        have hMi : ∀ e ∈ ([] : List Ent), e ∈ ([.box gb5 27 [.int .i64 x2.kind, .string x2.text, .int .i64 x2.n, .int .i64 x2.at_], .box gb3 27 [.int .i64 x1.kind, .string x1.text, .int .i64 x1.n, .int .i64 x1.at_]] : List Ent) := sels [] rfl
        show trellislaw8_sameWord_R w F  r (.returned (packV [.bool false])) wr
        rw [h]
        exact ⟨rfl, hMr⟩
    · have h := if_neg' hp8 h
      refine w_bool 17 rfl ((seq_f hp8)) ?_
      refine wl_pass 13 rfl (ps 17 rfl rfl rfl) ?_
      refine wl_pass 14 rfl (ps 17 rfl rfl rfl) ?_
      refine wl_pass 15 rfl (ps 17 rfl rfl rfl) ?_
      refine wl_pass 16 rfl (ps 17 rfl rfl rfl) ?_
      refine wl_pass 17 rfl (ps 17 rfl rfl rfl) ?_
      refine wl_v 18 rfl (v_pick (b := false) rfl rfl) gn rfl ?_
      refine wl_v 19 rfl (v_move rfl) gn rfl ?_
      refine wl_pass 20 rfl (ps 24 rfl rfl rfl) ?_
      refine wl_pass 21 rfl (ps 24 rfl rfl rfl) ?_
      refine wl_pass 22 rfl (ps 24 rfl rfl rfl) ?_
      refine wl_pass 23 rfl (ps 24 rfl rfl rfl) ?_
      refine wl_pass 24 rfl (ps 24 rfl rfl rfl) ?_
      refine wl_v 25 rfl (v_pick (b := false) rfl rfl) gn rfl ?_
      refine wl_v 26 rfl (v_assign rfl) gn rfl ?_
      refine w_end 27 rfl ?_
      refine g_retR (c := trellislaw8_sameWord_c4) [.bool false] rfl Tryd.func25 rfl (.tmp rfl (.nil)) fun wr hLr => ?_
      have hMr : B.Loc w wr [] [St w []] := hLr.pick (rest := [.box gb5 27 [.int .i64 x2.kind, .string x2.text, .int .i64 x2.n, .int .i64 x2.at_], .box gb3 27 [.int .i64 x1.kind, .string x1.text, .int .i64 x1.n, .int .i64 x1.at_]]) (perm_of_idx [] [0, 1] rfl rfl (by kernel_rfl)) (sels [1] rfl)
      have hMi : ∀ e ∈ ([] : List Ent), e ∈ ([.box gb5 27 [.int .i64 x2.kind, .string x2.text, .int .i64 x2.n, .int .i64 x2.at_], .box gb3 27 [.int .i64 x1.kind, .string x1.text, .int .i64 x1.n, .int .i64 x1.at_]] : List Ent) := sels [] rfl
      show trellislaw8_sameWord_R w F  r (.returned (packV [.bool false])) wr
      rw [h]
      exact ⟨rfl, hMr⟩
  · have h := if_neg' hp7 h
    refine w_bool 10 rfl ((nei hp7)) ?_
    refine wl_pass 6 rfl (ps 10 rfl rfl rfl) ?_
    refine wl_pass 7 rfl (ps 10 rfl rfl rfl) ?_
    refine wl_pass 8 rfl (ps 10 rfl rfl rfl) ?_
    refine wl_pass 9 rfl (ps 10 rfl rfl rfl) ?_
    refine wl_pass 10 rfl (ps 10 rfl rfl rfl) ?_
    refine wl_v 11 rfl (v_pick (b := false) rfl rfl) gn rfl ?_
    refine wl_v 12 rfl (v_move rfl) gn rfl ?_
    refine wl_pass 13 rfl (ps 17 rfl rfl rfl) ?_
    refine wl_pass 14 rfl (ps 17 rfl rfl rfl) ?_
    refine wl_pass 15 rfl (ps 17 rfl rfl rfl) ?_
    refine wl_pass 16 rfl (ps 17 rfl rfl rfl) ?_
    refine wl_pass 17 rfl (ps 17 rfl rfl rfl) ?_
    refine wl_v 18 rfl (v_pick (b := false) rfl rfl) gn rfl ?_
    refine wl_v 19 rfl (v_move rfl) gn rfl ?_
    refine wl_pass 20 rfl (ps 24 rfl rfl rfl) ?_
    refine wl_pass 21 rfl (ps 24 rfl rfl rfl) ?_
    refine wl_pass 22 rfl (ps 24 rfl rfl rfl) ?_
    refine wl_pass 23 rfl (ps 24 rfl rfl rfl) ?_
    refine wl_pass 24 rfl (ps 24 rfl rfl rfl) ?_
    refine wl_v 25 rfl (v_pick (b := false) rfl rfl) gn rfl ?_
    refine wl_v 26 rfl (v_assign rfl) gn rfl ?_
    refine w_end 27 rfl ?_
    refine g_retR (c := trellislaw8_sameWord_c4) [.bool false] rfl Tryd.func25 rfl (.tmp rfl (.nil)) fun wr hLr => ?_
    have hMr : B.Loc w wr [] [St w []] := hLr.pick (rest := [.box gb5 27 [.int .i64 x2.kind, .string x2.text, .int .i64 x2.n, .int .i64 x2.at_], .box gb3 27 [.int .i64 x1.kind, .string x1.text, .int .i64 x1.n, .int .i64 x1.at_]]) (perm_of_idx [] [0, 1] rfl rfl (by kernel_rfl)) (sels [1] rfl)
    have hMi : ∀ e ∈ ([] : List Ent), e ∈ ([.box gb5 27 [.int .i64 x2.kind, .string x2.text, .int .i64 x2.n, .int .i64 x2.at_], .box gb3 27 [.int .i64 x1.kind, .string x1.text, .int .i64 x1.n, .int .i64 x1.at_]] : List Ent) := sels [] rfl
    show trellislaw8_sameWord_R w F  r (.returned (packV [.bool false])) wr
    rw [h]
    exact ⟨rfl, hMr⟩
noncomputable abbrev trellislaw8_same_c0 : Code := bodyOf Tryd.f17
noncomputable abbrev trellislaw8_same_c1 : Code := Code.fst trellislaw8_same_c0
noncomputable abbrev trellislaw8_same_c2 : Code := Code.snd trellislaw8_same_c0
noncomputable abbrev trellislaw8_same_c3 : Code := Code.fst trellislaw8_same_c2
noncomputable abbrev trellislaw8_same_c4 : Code := Code.snd trellislaw8_same_c2
noncomputable abbrev trellislaw8_same_c5 : Code := Code.fst trellislaw8_same_c3
noncomputable abbrev trellislaw8_same_c6 : Code := Code.snd trellislaw8_same_c3
noncomputable abbrev trellislaw8_same_c7 : Code := Code.fst trellislaw8_same_c6
noncomputable abbrev trellislaw8_same_c8 : Code := Code.snd trellislaw8_same_c6
noncomputable abbrev trellislaw8_same_c9 : Code := Code.fst trellislaw8_same_c4
noncomputable abbrev trellislaw8_same_c10 : Code := Code.snd trellislaw8_same_c4
noncomputable abbrev trellislaw8_same_c11 : Code := Code.fst trellislaw8_same_c9
noncomputable abbrev trellislaw8_same_c12 : Code := Code.snd trellislaw8_same_c9
noncomputable abbrev trellislaw8_same_c13 : Code := Code.fst trellislaw8_same_c12
noncomputable abbrev trellislaw8_same_c14 : Code := Code.fst trellislaw8_same_c13
noncomputable abbrev trellislaw8_same_c15 : Code := Code.fst trellislaw8_same_c14
noncomputable abbrev trellislaw8_same_c16 : Code := Code.snd trellislaw8_same_c14
noncomputable abbrev trellislaw8_same_c17 : Code := Code.fst trellislaw8_same_c15
noncomputable abbrev trellislaw8_same_c18 : Code := Code.snd trellislaw8_same_c15
noncomputable abbrev trellislaw8_same_c19 : Code := Code.fst trellislaw8_same_c18
noncomputable abbrev trellislaw8_same_c20 : Code := Code.snd trellislaw8_same_c18
noncomputable abbrev trellislaw8_same_c21 : Code := Code.fst trellislaw8_same_c16
noncomputable abbrev trellislaw8_same_c22 : Code := Code.snd trellislaw8_same_c16
noncomputable abbrev trellislaw8_same_c23 : Code := Code.fst trellislaw8_same_c21
noncomputable abbrev trellislaw8_same_c24 : Code := Code.fst trellislaw8_same_c23
noncomputable abbrev trellislaw8_same_c25 : Code := Code.snd trellislaw8_same_c23
noncomputable abbrev trellislaw8_same_c26 : Code := Code.fst trellislaw8_same_c25
noncomputable abbrev trellislaw8_same_c27 : Code := Code.snd trellislaw8_same_c25
noncomputable abbrev trellislaw8_same_c28 : Code := Code.fst trellislaw8_same_c26
noncomputable abbrev trellislaw8_same_c29 : Code := Code.snd trellislaw8_same_c26
noncomputable abbrev trellislaw8_same_c30 : Code := Code.fst trellislaw8_same_c10
noncomputable abbrev trellislaw8_same_c31 : Code := Code.snd trellislaw8_same_c10
noncomputable abbrev trellislaw8_same_c32 : Code := Code.fst trellislaw8_same_c7
noncomputable abbrev trellislaw8_same_c33 : Code := Code.snd trellislaw8_same_c7
abbrev trellislaw8_same_R (w : World) (F : Nat → Prop) (r : Bool) : Ending → World → Prop := fun e w' => e = .returned (.bool r) ∧ B.Loc w w' [] [St w []]
noncomputable abbrev trellislaw8_same_C (w : World) (F : Nat → Prop) (r : Bool) : Cx := ⟨Tryd.prog, 17, Tryd.f17, 27, trellislaw8_same_R w F  r, w⟩
theorem trellislaw8_same_calls (w : World) (F : Nat → Prop) (x1 : List api_Word) (x6 : List api_Word) (A2 : Option Addr) (n3 : Nat) (c4 : Nat) (A7 : Option Addr) (n8 : Nat) (c9 : Nat) (h5 : Rw k_api_Word w (St w []).av A2 n3 c4 x1) (h10 : Rw k_api_Word w (St w []).av A7 n8 c9 x6) (hF : ∀ b, F b → b < w.heap.size ∧ ∀ o ∈ ([] : List (List Nat)), b ∉ o) (hL0 : B.Loc w w [] [Sm w.heap.size F w [], St w []]) (r : Bool) (h : trellislaw8_same x1 x6 r) : Calls Tryd.prog 17 #[.slice A2 n3 c4, .slice A7 n8 c9] w (trellislaw8_same_R w F  r) := by
  unfold trellislaw8_same at h
  refine calls_of_Loc (vs := [.slice A2 n3 c4, .slice A7 n8 c9]) 27 Tryd.func17 rfl Tryd.ntmps17 rfl hL0 ?_
  show G (trellislaw8_same_C w F r) _ _ _ _
  refine g_seq (c := trellislaw8_same_c0) rfl ?_
  refine g_region (c := trellislaw8_same_c1) rfl rfl ?_
  refine wl_v 0 rfl (v_assign rfl) gn rfl ?_
  refine w_end 1 rfl ?_
  refine g_seq (c := trellislaw8_same_c2) rfl ?_
  refine g_seq (c := trellislaw8_same_c3) rfl ?_
  refine g_region (c := trellislaw8_same_c5) rfl rfl ?_
  refine wl_v 0 rfl (v_move rfl) gn rfl ?_
  refine wl_v 1 rfl (v_lenQ un_22 rfl h5.hq) gn rfl ?_
  refine wl_v 2 rfl (v_move rfl) gn rfl ?_
  refine wl_v 3 rfl (v_lenQ un_22 rfl h10.hq) gn rfl ?_
  refine wl_v 4 rfl (v_bin rfl rfl rfl) gn rfl ?_
  refine w_end 5 rfl ?_
  by_cases hp11 : (x1.length : Int) = (x6.length : Int)
  · have h := if_pos' hp11 h
    refine g_false (c := trellislaw8_same_c6) rfl _ rfl ((eqib hp11)) ?_
    refine g_skip (c := trellislaw8_same_c8) rfl ?_
    refine g_seq (c := trellislaw8_same_c4) rfl ?_
    refine g_seq (c := trellislaw8_same_c9) rfl ?_
    refine g_region (c := trellislaw8_same_c11) rfl rfl ?_
    refine wl_v 0 rfl (v_assign rfl) gn rfl ?_
    refine w_end 1 rfl ?_
    refine g_block (c := trellislaw8_same_c12) rfl ?_
    refine g_loop (c := trellislaw8_same_c13) rfl ?_
    have key1 : ∀ s, Rounds (fun (s : Int) o => trellislaw8_same_b1 x1 x6 s o) s r → (fun (s : Int) => ∀ (_ : Unit), G (trellislaw8_same_C w F r) [.code trellislaw8_same_c14, .inLoop trellislaw8_same_c14, .inBlock 0, .code trellislaw8_same_c10] [(0, .slice A2 n3 c4), (1, .slice A7 n8 c9), (5, .int .i64 s)] [] [Sm w.heap.size F w [], St w []]) s := by
      intro s hs
      refine Rounds.ind (mot := (fun (s : Int) => ∀ (_ : Unit), G (trellislaw8_same_C w F r) [.code trellislaw8_same_c14, .inLoop trellislaw8_same_c14, .inBlock 0, .code trellislaw8_same_c10] [(0, .slice A2 n3 c4), (1, .slice A7 n8 c9), (5, .int .i64 s)] [] [Sm w.heap.size F w [], St w []])) ?_ hs
      clear hs s
      intro x55 o1 h hO1
      show ∀ (_ : Unit), G (trellislaw8_same_C w F r) [.code trellislaw8_same_c14, .inLoop trellislaw8_same_c14, .inBlock 0, .code trellislaw8_same_c10] [(0, .slice A2 n3 c4), (1, .slice A7 n8 c9), (5, .int .i64 x55)] [] [Sm w.heap.size F w [], St w []]
      intro _
      have h : trellislaw8_same_b1 x1 x6 x55 o1 := h
      unfold trellislaw8_same_b1 at h
      refine g_seq (c := trellislaw8_same_c14) rfl ?_
      refine g_seq (c := trellislaw8_same_c15) rfl ?_
      refine g_region (c := trellislaw8_same_c17) rfl rfl ?_
      refine wl_v 0 rfl (v_move rfl) gn rfl ?_
      refine wl_v 1 rfl (v_move rfl) gn rfl ?_
      refine wl_v 2 rfl (v_lenQ un_22 rfl h5.hq) gn rfl ?_
      refine wl_v 3 rfl (v_bin rfl rfl rfl) gn rfl ?_
      refine w_end 4 rfl ?_
      by_cases hp98 : x55 < (x1.length : Int)
      · have h := if_pos' hp98 h
        refine g_true (c := trellislaw8_same_c18) rfl _ rfl ((decide_eq_true hp98)) ?_
        refine g_skip (c := trellislaw8_same_c19) rfl ?_
        refine g_seq (c := trellislaw8_same_c16) rfl ?_
        refine g_block (c := trellislaw8_same_c21) rfl ?_
        refine g_seq (c := trellislaw8_same_c23) rfl ?_
        obtain ⟨hb99, h⟩ := h
        obtain ⟨hb101, h⟩ := h
        obtain ⟨r106, hv107, h⟩ := h
        have hns : Region.noSelect (Code.ops trellislaw8_same_c24) = true := by kernel_rfl
        refine g_drawF (c := trellislaw8_same_c24) [] [Sm w.heap.size F w [], St w []] [] 10 rfl rfl mix rfl (.slnil) (sels [0, 1] rfl) ?_
        refine wf_v 0 rfl (v_move rfl) gn rfl hns (by kernel_rfl) (by kernel_rfl) rfl rfl ?_
        refine wf_v 1 rfl (v_move rfl) gn rfl hns (by kernel_rfl) (by kernel_rfl) rfl rfl ?_
        have hr125 := Rw.readF (s := St w []) (hl := hl_api_Word) (h1 := h1_api_Word) h5 hb99
        refine wf_v 2 rfl (v_idxR (s := St w []) slE_22 rfl rfl h5 hb99) gn rfl hns (by kernel_rfl) (by kernel_rfl) rfl rfl ?_
        refine wf_v 3 rfl (v_ldA (St w []) ld_27 rfl hr125 rfl (me 1 rfl)) gn rfl hns (by kernel_rfl) (by kernel_rfl) rfl rfl ?_
        refine wf_v 4 rfl (v_move rfl) gn rfl hns (by kernel_rfl) (by kernel_rfl) rfl rfl ?_
        refine wf_v 5 rfl (v_move rfl) gn rfl hns (by kernel_rfl) (by kernel_rfl) rfl rfl ?_
        have hr126 := Rw.readF (s := St w []) (hl := hl_api_Word) (h1 := h1_api_Word) h10 hb101
        refine wf_v 6 rfl (v_idxR (s := St w []) slE_22 rfl rfl h10 hb101) gn rfl hns (by kernel_rfl) (by kernel_rfl) rfl rfl ?_
        refine wf_v 7 rfl (v_ldA (St w []) ld_27 rfl hr126 rfl (me 1 rfl)) gn rfl hns (by kernel_rfl) (by kernel_rfl) rfl rfl ?_
        refine wf_all [8] (by kernel_rfl) rfl ⟨on_s 8 rfl gn rfl (s_call [.agg #[.int .i64 ((ix x1 x55).kind), .string ((ix x1 x55).text), .int .i64 ((ix x1 x55).n), .int .i64 ((ix x1 x55).at_)], .agg #[.int .i64 ((ix x6 x55).kind), .string ((ix x6 x55).text), .int .i64 ((ix x6 x55).n), .int .i64 ((ix x6 x55).at_)]] rfl Tryd.func25 rfl rfl rfl fun w133 hL134 => ?_), trivial⟩
        have hp135 : List.Perm ([] : List Ent) (([] : List Ent) ++ ([] : List Ent)) := perm_of_idx [] [] rfl rfl (by kernel_rfl)
        refine Calls.mono (trellislaw8_sameWord_calls w133 (Fl ([] : List Snap)) (ix x1 x55) (ix x6 x55) (hL134.hFl (Sl := ([] : List Snap)) hp135 (sels [] rfl)) (hL134.into hp135 (Fl ([] : List Snap))) r106 hv107) ?_
        rintro _ w136 ⟨rfl, hM137⟩
        have hL138 := hL134.call hp135 hM137
        refine ⟨_, _, _, rfl, hL138, ?_⟩
        refine ⟨sels [] rfl, sels [0, 1] rfl, ?_⟩
        refine wf_v 9 rfl (v_not rfl) gn rfl hns (by kernel_rfl) (by kernel_rfl) rfl rfl ?_
        refine wf_end (by kernel_rfl) ?_
        by_cases hp139 : r106 = true
        · have h := if_pos' hp139 h
          refine g_false (c := trellislaw8_same_c25) rfl _ rfl ((nf hp139)) ?_
          refine g_skip (c := trellislaw8_same_c27) rfl ?_
          refine g_inBlock ?_
          refine g_region (c := trellislaw8_same_c22) rfl rfl ?_
          refine wl_v 0 rfl (v_move rfl) gn rfl ?_
          refine wl_v 1 rfl (v_bin rfl rfl rfl) gn rfl ?_
          refine wl_v 2 rfl (v_assign rfl) gn rfl ?_
          refine w_end 3 rfl ?_
          refine g_inLoop ?_
          have ih := Out.inl hO1 h
          exact g_go [0, 1] (ih ()) ⟨rfl, rfl, rfl, trivial⟩ (.slnil) rfl
        · have h := if_neg' hp139 h
          refine g_true (c := trellislaw8_same_c25) rfl _ rfl ((nt (bf hp139))) ?_
          refine g_seq (c := trellislaw8_same_c26) rfl ?_
          refine g_region (c := trellislaw8_same_c28) rfl rfl ?_
          refine wl_v 0 rfl (v_assign rfl) gn rfl ?_
          refine w_end 1 rfl ?_
          have h := Out.inr hO1 h
          refine g_retR (c := trellislaw8_same_c29) [.bool false] rfl Tryd.func17 rfl (.tmp rfl (.nil)) fun wr hLr => ?_
          have hMr : B.Loc w wr [] [St w []] := hLr.pick (rest := []) (perm_of_idx [] [] rfl rfl (by kernel_rfl)) (sels [1] rfl)
          have hMi : ∀ e ∈ ([] : List Ent), e ∈ ([] : List Ent) := sels [] rfl
          show trellislaw8_same_R w F  r (.returned (packV [.bool false])) wr
          rw [h]
          exact ⟨rfl, hMr⟩
      · have h := if_neg' hp98 h
        refine g_false (c := trellislaw8_same_c18) rfl _ rfl ((decide_eq_false hp98)) ?_
        refine g_exit (c := trellislaw8_same_c20) [.code trellislaw8_same_c10] rfl rfl ?_
        refine g_seq (c := trellislaw8_same_c10) rfl ?_
        refine g_region (c := trellislaw8_same_c30) rfl rfl ?_
        refine wl_v 0 rfl (v_assign rfl) gn rfl ?_
        refine w_end 1 rfl ?_
        have h := Out.inr hO1 h
        refine g_retR (c := trellislaw8_same_c31) [.bool true] rfl Tryd.func17 rfl (.tmp rfl (.nil)) fun wr hLr => ?_
        have hMr : B.Loc w wr [] [St w []] := hLr.pick (rest := []) (perm_of_idx [] [] rfl rfl (by kernel_rfl)) (sels [1] rfl)
        have hMi : ∀ e ∈ ([] : List Ent), e ∈ ([] : List Ent) := sels [] rfl
        show trellislaw8_same_R w F  r (.returned (packV [.bool true])) wr
        rw [h]
        exact ⟨rfl, hMr⟩
    exact g_go [0, 1] (key1 _ h ()) ⟨rfl, rfl, rfl, trivial⟩ (.slnil) rfl
  · have h := if_neg' hp11 h
    refine g_true (c := trellislaw8_same_c6) rfl _ rfl ((neib hp11)) ?_
    refine g_seq (c := trellislaw8_same_c7) rfl ?_
    refine g_region (c := trellislaw8_same_c32) rfl rfl ?_
    refine wl_v 0 rfl (v_assign rfl) gn rfl ?_
    refine w_end 1 rfl ?_
    refine g_retR (c := trellislaw8_same_c33) [.bool false] rfl Tryd.func17 rfl (.tmp rfl (.nil)) fun wr hLr => ?_
    have hMr : B.Loc w wr [] [St w []] := hLr.pick (rest := []) (perm_of_idx [] [] rfl rfl (by kernel_rfl)) (sels [1] rfl)
    have hMi : ∀ e ∈ ([] : List Ent), e ∈ ([] : List Ent) := sels [] rfl
    show trellislaw8_same_R w F  r (.returned (packV [.bool false])) wr
    rw [h]
    exact ⟨rfl, hMr⟩
noncomputable abbrev trellislaw8_still_c0 : Code := bodyOf Tryd.f14
noncomputable abbrev trellislaw8_still_c1 : Code := Code.fst trellislaw8_still_c0
noncomputable abbrev trellislaw8_still_c2 : Code := Code.snd trellislaw8_still_c0
noncomputable abbrev trellislaw8_still_c3 : Code := Code.fst trellislaw8_still_c2
noncomputable abbrev trellislaw8_still_c4 : Code := Code.snd trellislaw8_still_c2
noncomputable abbrev trellislaw8_still_c5 : Code := Code.fst trellislaw8_still_c4
noncomputable abbrev trellislaw8_still_c6 : Code := Code.snd trellislaw8_still_c4
noncomputable abbrev trellislaw8_still_c7 : Code := Code.fst trellislaw8_still_c5
noncomputable abbrev trellislaw8_still_c8 : Code := Code.snd trellislaw8_still_c5
noncomputable abbrev trellislaw8_still_c9 : Code := Code.fst trellislaw8_still_c8
noncomputable abbrev trellislaw8_still_c10 : Code := Code.fst trellislaw8_still_c9
noncomputable abbrev trellislaw8_still_c11 : Code := Code.fst trellislaw8_still_c10
noncomputable abbrev trellislaw8_still_c12 : Code := Code.snd trellislaw8_still_c10
noncomputable abbrev trellislaw8_still_c13 : Code := Code.fst trellislaw8_still_c11
noncomputable abbrev trellislaw8_still_c14 : Code := Code.snd trellislaw8_still_c11
noncomputable abbrev trellislaw8_still_c15 : Code := Code.fst trellislaw8_still_c14
noncomputable abbrev trellislaw8_still_c16 : Code := Code.snd trellislaw8_still_c14
noncomputable abbrev trellislaw8_still_c17 : Code := Code.fst trellislaw8_still_c12
noncomputable abbrev trellislaw8_still_c18 : Code := Code.snd trellislaw8_still_c12
noncomputable abbrev trellislaw8_still_c19 : Code := Code.fst trellislaw8_still_c17
noncomputable abbrev trellislaw8_still_c20 : Code := Code.fst trellislaw8_still_c19
noncomputable abbrev trellislaw8_still_c21 : Code := Code.snd trellislaw8_still_c19
noncomputable abbrev trellislaw8_still_c22 : Code := Code.fst trellislaw8_still_c21
noncomputable abbrev trellislaw8_still_c23 : Code := Code.snd trellislaw8_still_c21
noncomputable abbrev trellislaw8_still_c24 : Code := Code.fst trellislaw8_still_c22
noncomputable abbrev trellislaw8_still_c25 : Code := Code.snd trellislaw8_still_c22
noncomputable abbrev trellislaw8_still_c26 : Code := Code.fst trellislaw8_still_c6
noncomputable abbrev trellislaw8_still_c27 : Code := Code.snd trellislaw8_still_c6
abbrev trellislaw8_still_R (w : World) (F : Nat → Prop) (r : Bool) : Ending → World → Prop := fun e w' => e = .returned (.bool r) ∧ B.Loc w w' [] [St w []]
noncomputable abbrev trellislaw8_still_C (w : World) (F : Nat → Prop) (r : Bool) : Cx := ⟨Tryd.prog, 14, Tryd.f14, 31, trellislaw8_still_R w F  r, w⟩
theorem trellislaw8_still_calls (w : World) (F : Nat → Prop) (x1 : List api_Word) (k6 : Nat) (x9 : List api_Word) (A2 : Option Addr) (n3 : Nat) (c4 : Nat) (A10 : Option Addr) (n11 : Nat) (c12 : Nat) (h5 : Rw k_api_Word w (St w []).av A2 n3 c4 x1) (hk7 : k6 ≤ n3) (h13 : Rw k_api_Word w (St w []).av A10 n11 c12 x9) (hF : ∀ b, F b → b < w.heap.size ∧ ∀ o ∈ ([] : List (List Nat)), b ∉ o) (hL0 : B.Loc w w [] [Sm w.heap.size F w [], St w []]) (r : Bool) (h : trellislaw8_still x1 k6 x9 r) : Calls Tryd.prog 14 #[.slice A2 k6 c4, .slice A10 n11 c12] w (trellislaw8_still_R w F  r) := by
  unfold trellislaw8_still at h
  have h8 := Rw.pre h5 hk7
  refine calls_of_Loc (vs := [.slice A2 k6 c4, .slice A10 n11 c12]) 31 Tryd.func14 rfl Tryd.ntmps14 rfl hL0 ?_
  show G (trellislaw8_still_C w F r) _ _ _ _
  refine g_seq (c := trellislaw8_still_c0) rfl ?_
  refine g_region (c := trellislaw8_still_c1) rfl rfl ?_
  refine wl_v 0 rfl (v_assign rfl) gn rfl ?_
  refine w_end 1 rfl ?_
  refine g_seq (c := trellislaw8_still_c2) rfl ?_
  refine g_region (c := trellislaw8_still_c3) rfl rfl ?_
  refine wl_v 0 rfl (v_move rfl) gn rfl ?_
  refine wl_v 1 rfl (v_move rfl) gn rfl ?_
  refine wl_v 2 rfl (v_lenQ un_22 rfl h13.hq) gn rfl ?_
  refine wl_v 3 rfl (v_bin rfl rfl rfl) gn rfl ?_
  obtain ⟨hb14, h⟩ := h
  have hle15 : (w64 ((x9.length : Int) + 20) : Int).toNat ≤ n3 := by have q := hb14; have q1 := h5.hq; omega
  have h16 := Rw.pre h5 hle15
  refine wl_v 4 rfl (v_cutHi (i := w64 ((x9.length : Int) + 20)) slE_22 rfl rfl (by have q := hb14; have q1 := h5.hq; have q2 := h5.hn; omega) h8.hn rfl) gn rfl ?_
  refine wl_v 5 rfl (v_assign rfl) gn rfl ?_
  refine w_end 6 rfl ?_
  refine g_seq (c := trellislaw8_still_c4) rfl ?_
  refine g_seq (c := trellislaw8_still_c5) rfl ?_
  refine g_region (c := trellislaw8_still_c7) rfl rfl ?_
  refine wl_v 0 rfl (v_assign rfl) gn rfl ?_
  refine w_end 1 rfl ?_
  refine g_block (c := trellislaw8_still_c8) rfl ?_
  refine g_loop (c := trellislaw8_still_c9) rfl ?_
  have key1 : ∀ s, Rounds (fun (s : Int) o => trellislaw8_still_b1 x9 x1 k6 s o) s r → (fun (s : Int) => ∀ (_ : Unit), G (trellislaw8_still_C w F r) [.code trellislaw8_still_c10, .inLoop trellislaw8_still_c10, .inBlock 0, .code trellislaw8_still_c6] [(0, .slice A2 k6 c4), (1, .slice A10 n11 c12), (5, .slice A2 ((w64 ((x9.length : Int) + 20) : Int).toNat) c4), (6, .int .i64 s)] [] [Sm w.heap.size F w [], St w []]) s := by
    intro s hs
    refine Rounds.ind (mot := (fun (s : Int) => ∀ (_ : Unit), G (trellislaw8_still_C w F r) [.code trellislaw8_still_c10, .inLoop trellislaw8_still_c10, .inBlock 0, .code trellislaw8_still_c6] [(0, .slice A2 k6 c4), (1, .slice A10 n11 c12), (5, .slice A2 ((w64 ((x9.length : Int) + 20) : Int).toNat) c4), (6, .int .i64 s)] [] [Sm w.heap.size F w [], St w []])) ?_ hs
    clear hs s
    intro x29 o1 h hO1
    show ∀ (_ : Unit), G (trellislaw8_still_C w F r) [.code trellislaw8_still_c10, .inLoop trellislaw8_still_c10, .inBlock 0, .code trellislaw8_still_c6] [(0, .slice A2 k6 c4), (1, .slice A10 n11 c12), (5, .slice A2 ((w64 ((x9.length : Int) + 20) : Int).toNat) c4), (6, .int .i64 x29)] [] [Sm w.heap.size F w [], St w []]
    intro _
    have h : trellislaw8_still_b1 x9 x1 k6 x29 o1 := h
    unfold trellislaw8_still_b1 at h
    refine g_seq (c := trellislaw8_still_c10) rfl ?_
    refine g_seq (c := trellislaw8_still_c11) rfl ?_
    refine g_region (c := trellislaw8_still_c13) rfl rfl ?_
    refine wl_v 0 rfl (v_move rfl) gn rfl ?_
    refine wl_v 1 rfl (v_bin rfl rfl rfl) gn rfl ?_
    refine w_end 2 rfl ?_
    by_cases hp50 : x29 < 20
    · have h := if_pos' hp50 h
      refine g_true (c := trellislaw8_still_c14) rfl _ rfl ((decide_eq_true hp50)) ?_
      refine g_skip (c := trellislaw8_still_c15) rfl ?_
      refine g_seq (c := trellislaw8_still_c12) rfl ?_
      refine g_block (c := trellislaw8_still_c17) rfl ?_
      refine g_seq (c := trellislaw8_still_c19) rfl ?_
      refine g_region (c := trellislaw8_still_c20) rfl rfl ?_
      refine wl_v 0 rfl (v_move rfl) gn rfl ?_
      refine wl_v 1 rfl (v_move rfl) gn rfl ?_
      refine wl_v 2 rfl (v_lenQ un_22 rfl h13.hq) gn rfl ?_
      refine wl_v 3 rfl (v_move rfl) gn rfl ?_
      refine wl_v 4 rfl (v_bin rfl rfl rfl) gn rfl ?_
      obtain ⟨hb51, h⟩ := h
      have hr52 := Rw.readF (s := St w []) (hl := hl_api_Word) (h1 := h1_api_Word) h16 hb51
      refine wl_v 5 rfl (v_idxR (s := St w []) slE_22 rfl rfl h16 hb51) gn rfl ?_
      refine wl_v 6 rfl (v_ldA (St w []) ld_27 rfl hr52 rfl (me 1 rfl)) gn rfl ?_
      refine wl_v 7 rfl (v_move rfl) gn rfl ?_
      refine wl_v 8 rfl (v_bin rfl rfl rfl) gn rfl ?_
      refine wl_v 9 rfl (v_build #[.int .i64 0, .string (⟨#[]⟩ : ByteArray), .int .i64 (w64 (900 + x29)), .int .i64 7] bd_27 rfl (by kernel_rfl)) gn rfl ?_
      obtain ⟨r56, hv57, h⟩ := h
      refine wl_s 10 rfl (s_call [.agg #[.int .i64 ((ix (x1.take ((w64 ((x9.length : Int) + 20) : Int).toNat)) (w64 ((x9.length : Int) + x29))).kind), .string ((ix (x1.take ((w64 ((x9.length : Int) + 20) : Int).toNat)) (w64 ((x9.length : Int) + x29))).text), .int .i64 ((ix (x1.take ((w64 ((x9.length : Int) + 20) : Int).toNat)) (w64 ((x9.length : Int) + x29))).n), .int .i64 ((ix (x1.take ((w64 ((x9.length : Int) + 20) : Int).toNat)) (w64 ((x9.length : Int) + x29))).at_)], .agg #[.int .i64 0, .string (⟨#[]⟩ : ByteArray), .int .i64 (w64 (900 + x29)), .int .i64 7]] rfl Tryd.func25 rfl rfl rfl fun w53 hL54 => ?_) gn
      have hp55 : List.Perm ([] : List Ent) (([] : List Ent) ++ ([] : List Ent)) := perm_of_idx [] [] rfl rfl (by kernel_rfl)
      refine Calls.mono (trellislaw8_sameWord_calls w53 (Fl ([] : List Snap)) (ix (x1.take ((w64 ((x9.length : Int) + 20) : Int).toNat)) (w64 ((x9.length : Int) + x29))) (⟨0, (⟨#[]⟩ : ByteArray), w64 (900 + x29), 7⟩ : api_Word) (hL54.hFl (Sl := ([] : List Snap)) hp55 (sels [] rfl)) (hL54.into hp55 (Fl ([] : List Snap))) r56 hv57) ?_
      rintro _ w58 ⟨rfl, hM59⟩
      have hL60 := hL54.call hp55 hM59
      refine ⟨_, _, _, rfl, hL60, ?_⟩
      refine wl_v 11 rfl (v_not rfl) gn rfl ?_
      refine w_end 12 rfl ?_
      by_cases hp61 : r56 = true
      · have h := if_pos' hp61 h
        refine g_false (c := trellislaw8_still_c21) rfl _ rfl ((nf hp61)) ?_
        refine g_skip (c := trellislaw8_still_c23) rfl ?_
        refine g_inBlock ?_
        refine g_region (c := trellislaw8_still_c18) rfl rfl ?_
        refine wl_v 0 rfl (v_move rfl) gn rfl ?_
        refine wl_v 1 rfl (v_bin rfl rfl rfl) gn rfl ?_
        refine wl_v 2 rfl (v_assign rfl) gn rfl ?_
        refine w_end 3 rfl ?_
        refine g_inLoop ?_
        have ih := Out.inl hO1 h
        exact g_go [0, 1] (ih ()) ⟨rfl, rfl, rfl, rfl, trivial⟩ (.slnil) rfl
      · have h := if_neg' hp61 h
        refine g_true (c := trellislaw8_still_c21) rfl _ rfl ((nt (bf hp61))) ?_
        refine g_seq (c := trellislaw8_still_c22) rfl ?_
        refine g_region (c := trellislaw8_still_c24) rfl rfl ?_
        refine wl_v 0 rfl (v_assign rfl) gn rfl ?_
        refine w_end 1 rfl ?_
        have h := Out.inr hO1 h
        refine g_retR (c := trellislaw8_still_c25) [.bool false] rfl Tryd.func14 rfl (.tmp rfl (.nil)) fun wr hLr => ?_
        have hMr : B.Loc w wr [] [St w []] := hLr.pick (rest := []) (perm_of_idx [] [] rfl rfl (by kernel_rfl)) (sels [1] rfl)
        have hMi : ∀ e ∈ ([] : List Ent), e ∈ ([] : List Ent) := sels [] rfl
        show trellislaw8_still_R w F  r (.returned (packV [.bool false])) wr
        rw [h]
        exact ⟨rfl, hMr⟩
    · have h := if_neg' hp50 h
      refine g_false (c := trellislaw8_still_c14) rfl _ rfl ((decide_eq_false hp50)) ?_
      refine g_exit (c := trellislaw8_still_c16) [.code trellislaw8_still_c6] rfl rfl ?_
      refine g_seq (c := trellislaw8_still_c6) rfl ?_
      refine g_region (c := trellislaw8_still_c26) rfl rfl ?_
      refine wl_v 0 rfl (v_move rfl) gn rfl ?_
      refine wl_v 1 rfl (v_move rfl) gn rfl ?_
      obtain ⟨r65, hv66, h⟩ := h
      refine wl_s 2 rfl (s_call [.slice A2 k6 c4, .slice A10 n11 c12] rfl Tryd.func17 rfl rfl rfl fun w62 hL63 => ?_) gn
      have hp64 : List.Perm ([] : List Ent) (([] : List Ent) ++ ([] : List Ent)) := perm_of_idx [] [] rfl rfl (by kernel_rfl)
      refine Calls.mono (trellislaw8_same_calls w62 (Fl ([] : List Snap)) (x1.take k6) x9 A2 k6 c4 A10 n11 c12 (Rw.mono h8 (hL63.toSt hp64 (me 1 rfl))) (Rw.mono h13 (hL63.toSt hp64 (me 1 rfl))) (hL63.hFl (Sl := ([] : List Snap)) hp64 (sels [] rfl)) (hL63.into hp64 (Fl ([] : List Snap))) r65 hv66) ?_
      rintro _ w67 ⟨rfl, hM68⟩
      have hL69 := hL63.call hp64 hM68
      refine ⟨_, _, _, rfl, hL69, ?_⟩
      refine wl_v 3 rfl (v_assign rfl) gn rfl ?_
      refine w_end 4 rfl ?_
      have h := Out.inr hO1 h
      refine g_retR (c := trellislaw8_still_c27) [.bool r65] rfl Tryd.func14 rfl (.tmp rfl (.nil)) fun wr hLr => ?_
      have hMr : B.Loc w wr [] [St w []] := hLr.pick (rest := []) (perm_of_idx [] [] rfl rfl (by kernel_rfl)) (sels [1] rfl)
      have hMi : ∀ e ∈ ([] : List Ent), e ∈ ([] : List Ent) := sels [] rfl
      show trellislaw8_still_R w F  r (.returned (packV [.bool r65])) wr
      rw [h]
      exact ⟨rfl, hMr⟩
  exact g_go [0, 1] (key1 _ h ()) ⟨rfl, rfl, rfl, rfl, trivial⟩ (.slnil) rfl
noncomputable abbrev trellislaw8_WordsSpell_c0 : Code := bodyOf Tryd.f3
noncomputable abbrev trellislaw8_WordsSpell_c1 : Code := Code.fst trellislaw8_WordsSpell_c0
noncomputable abbrev trellislaw8_WordsSpell_c2 : Code := Code.snd trellislaw8_WordsSpell_c0
noncomputable abbrev trellislaw8_WordsSpell_c3 : Code := Code.fst trellislaw8_WordsSpell_c2
noncomputable abbrev trellislaw8_WordsSpell_c4 : Code := Code.snd trellislaw8_WordsSpell_c2
noncomputable abbrev trellislaw8_WordsSpell_c5 : Code := Code.fst trellislaw8_WordsSpell_c4
noncomputable abbrev trellislaw8_WordsSpell_c6 : Code := Code.snd trellislaw8_WordsSpell_c4
noncomputable abbrev trellislaw8_WordsSpell_c7 : Code := Code.fst trellislaw8_WordsSpell_c5
noncomputable abbrev trellislaw8_WordsSpell_c8 : Code := Code.snd trellislaw8_WordsSpell_c5
noncomputable abbrev trellislaw8_WordsSpell_c9 : Code := Code.fst trellislaw8_WordsSpell_c8
noncomputable abbrev trellislaw8_WordsSpell_c10 : Code := Code.fst trellislaw8_WordsSpell_c9
noncomputable abbrev trellislaw8_WordsSpell_c11 : Code := Code.fst trellislaw8_WordsSpell_c10
noncomputable abbrev trellislaw8_WordsSpell_c12 : Code := Code.snd trellislaw8_WordsSpell_c10
noncomputable abbrev trellislaw8_WordsSpell_c13 : Code := Code.fst trellislaw8_WordsSpell_c11
noncomputable abbrev trellislaw8_WordsSpell_c14 : Code := Code.snd trellislaw8_WordsSpell_c11
noncomputable abbrev trellislaw8_WordsSpell_c15 : Code := Code.fst trellislaw8_WordsSpell_c14
noncomputable abbrev trellislaw8_WordsSpell_c16 : Code := Code.snd trellislaw8_WordsSpell_c14
noncomputable abbrev trellislaw8_WordsSpell_c17 : Code := Code.fst trellislaw8_WordsSpell_c12
noncomputable abbrev trellislaw8_WordsSpell_c18 : Code := Code.snd trellislaw8_WordsSpell_c12
noncomputable abbrev trellislaw8_WordsSpell_c19 : Code := Code.fst trellislaw8_WordsSpell_c17
noncomputable abbrev trellislaw8_WordsSpell_c20 : Code := Code.fst trellislaw8_WordsSpell_c19
noncomputable abbrev trellislaw8_WordsSpell_c21 : Code := Code.snd trellislaw8_WordsSpell_c19
noncomputable abbrev trellislaw8_WordsSpell_c22 : Code := Code.fst trellislaw8_WordsSpell_c21
noncomputable abbrev trellislaw8_WordsSpell_c23 : Code := Code.snd trellislaw8_WordsSpell_c21
noncomputable abbrev trellislaw8_WordsSpell_c24 : Code := Code.fst trellislaw8_WordsSpell_c22
noncomputable abbrev trellislaw8_WordsSpell_c25 : Code := Code.snd trellislaw8_WordsSpell_c22
noncomputable abbrev trellislaw8_WordsSpell_c26 : Code := Code.fst trellislaw8_WordsSpell_c6
noncomputable abbrev trellislaw8_WordsSpell_c27 : Code := Code.snd trellislaw8_WordsSpell_c6
noncomputable abbrev trellislaw8_WordsSpell_c28 : Code := Code.fst trellislaw8_WordsSpell_c27
noncomputable abbrev trellislaw8_WordsSpell_c29 : Code := Code.snd trellislaw8_WordsSpell_c27
noncomputable abbrev trellislaw8_WordsSpell_c30 : Code := Code.fst trellislaw8_WordsSpell_c28
noncomputable abbrev trellislaw8_WordsSpell_c31 : Code := Code.snd trellislaw8_WordsSpell_c28
noncomputable abbrev trellislaw8_WordsSpell_c32 : Code := Code.fst trellislaw8_WordsSpell_c31
noncomputable abbrev trellislaw8_WordsSpell_c33 : Code := Code.snd trellislaw8_WordsSpell_c31
noncomputable abbrev trellislaw8_WordsSpell_c34 : Code := Code.fst trellislaw8_WordsSpell_c32
noncomputable abbrev trellislaw8_WordsSpell_c35 : Code := Code.snd trellislaw8_WordsSpell_c32
noncomputable abbrev trellislaw8_WordsSpell_c36 : Code := Code.fst trellislaw8_WordsSpell_c29
noncomputable abbrev trellislaw8_WordsSpell_c37 : Code := Code.snd trellislaw8_WordsSpell_c29
noncomputable abbrev trellislaw8_WordsSpell_c38 : Code := Code.fst trellislaw8_WordsSpell_c36
noncomputable abbrev trellislaw8_WordsSpell_c39 : Code := Code.snd trellislaw8_WordsSpell_c36
noncomputable abbrev trellislaw8_WordsSpell_c40 : Code := Code.fst trellislaw8_WordsSpell_c39
noncomputable abbrev trellislaw8_WordsSpell_c41 : Code := Code.fst trellislaw8_WordsSpell_c40
noncomputable abbrev trellislaw8_WordsSpell_c42 : Code := Code.fst trellislaw8_WordsSpell_c41
noncomputable abbrev trellislaw8_WordsSpell_c43 : Code := Code.snd trellislaw8_WordsSpell_c41
noncomputable abbrev trellislaw8_WordsSpell_c44 : Code := Code.fst trellislaw8_WordsSpell_c42
noncomputable abbrev trellislaw8_WordsSpell_c45 : Code := Code.snd trellislaw8_WordsSpell_c42
noncomputable abbrev trellislaw8_WordsSpell_c46 : Code := Code.fst trellislaw8_WordsSpell_c45
noncomputable abbrev trellislaw8_WordsSpell_c47 : Code := Code.snd trellislaw8_WordsSpell_c45
noncomputable abbrev trellislaw8_WordsSpell_c48 : Code := Code.fst trellislaw8_WordsSpell_c43
noncomputable abbrev trellislaw8_WordsSpell_c49 : Code := Code.snd trellislaw8_WordsSpell_c43
noncomputable abbrev trellislaw8_WordsSpell_c50 : Code := Code.fst trellislaw8_WordsSpell_c48
noncomputable abbrev trellislaw8_WordsSpell_c51 : Code := Code.fst trellislaw8_WordsSpell_c37
noncomputable abbrev trellislaw8_WordsSpell_c52 : Code := Code.snd trellislaw8_WordsSpell_c37
noncomputable abbrev trellislaw8_WordsSpell_c53 : Code := Code.fst trellislaw8_WordsSpell_c51
noncomputable abbrev trellislaw8_WordsSpell_c54 : Code := Code.snd trellislaw8_WordsSpell_c51
noncomputable abbrev trellislaw8_WordsSpell_c55 : Code := Code.fst trellislaw8_WordsSpell_c54
noncomputable abbrev trellislaw8_WordsSpell_c56 : Code := Code.snd trellislaw8_WordsSpell_c54
noncomputable abbrev trellislaw8_WordsSpell_c57 : Code := Code.fst trellislaw8_WordsSpell_c52
noncomputable abbrev trellislaw8_WordsSpell_c58 : Code := Code.snd trellislaw8_WordsSpell_c52
noncomputable abbrev trellislaw8_WordsSpell_c59 : Code := Code.fst trellislaw8_WordsSpell_c58
noncomputable abbrev trellislaw8_WordsSpell_c60 : Code := Code.snd trellislaw8_WordsSpell_c58
noncomputable abbrev trellislaw8_WordsSpell_c61 : Code := Code.fst trellislaw8_WordsSpell_c60
noncomputable abbrev trellislaw8_WordsSpell_c62 : Code := Code.snd trellislaw8_WordsSpell_c60
abbrev trellislaw8_WordsSpell_R (w : World) (F : Nat → Prop) (r : Bool) : Ending → World → Prop := fun e w' => e = .returned (.bool r) ∧ B.Loc w w' [] [St w []]
noncomputable abbrev trellislaw8_WordsSpell_C (w : World) (F : Nat → Prop) (r : Bool) : Cx := ⟨Tryd.prog, 3, Tryd.f3, 77, trellislaw8_WordsSpell_R w F  r, w⟩
theorem trellislaw8_WordsSpell_calls (w : World) (F : Nat → Prop) (x1 : List api_Word) (A2 : Option Addr) (n3 : Nat) (c4 : Nat) (h5 : Rw k_api_Word w (St w []).av A2 n3 c4 x1) (hG : Tb Tryd.prog (St w [])) (hF : ∀ b, F b → b < w.heap.size ∧ ∀ o ∈ ([] : List (List Nat)), b ∉ o) (hL0 : B.Loc w w [] [Sm w.heap.size F w [], St w []]) (r : Bool) (h : trellislaw8_WordsSpell x1 r) : Calls Tryd.prog 3 #[.slice A2 n3 c4] w (trellislaw8_WordsSpell_R w F  r) := by
  unfold trellislaw8_WordsSpell at h
  refine calls_of_Loc (vs := [.slice A2 n3 c4]) 77 Tryd.func3 rfl Tryd.ntmps3 rfl hL0 ?_
  show G (trellislaw8_WordsSpell_C w F r) _ _ _ _
  refine g_seq (c := trellislaw8_WordsSpell_c0) rfl ?_
  refine g_region (c := trellislaw8_WordsSpell_c1) rfl rfl ?_
  refine wl_v 0 rfl (v_assign rfl) gn rfl ?_
  refine w_end 1 rfl ?_
  refine g_seq (c := trellislaw8_WordsSpell_c2) rfl ?_
  refine g_region (c := trellislaw8_WordsSpell_c3) rfl rfl ?_
  refine wl_v 0 rfl (v_move rfl) gn rfl ?_
  obtain ⟨r9, hv10, h⟩ := h
  refine wl_s 1 rfl (s_call [.slice A2 n3 c4] rfl Tryd.func8 rfl rfl rfl fun w6 hL7 => ?_) gn
  have hp8 : List.Perm ([] : List Ent) (([] : List Ent) ++ ([] : List Ent)) := perm_of_idx [] [] rfl rfl (by kernel_rfl)
  refine Calls.mono (trellislaw8_twin_calls w6 (Fl ([] : List Snap)) x1 A2 n3 c4 (Rw.mono h5 (hL7.toSt hp8 (me 1 rfl))) (hL7.hFl (Sl := ([] : List Snap)) hp8 (sels [] rfl)) (hL7.into hp8 (Fl ([] : List Snap))) r9 hv10) ?_
  rintro _ w16 ⟨A11, n12, c13, rfl, hM17, h14⟩
  have hL18 := hL7.call hp8 hM17
  refine ⟨_, _, _, rfl, hL18, ?_⟩
  refine wl_v 2 rfl (v_assign rfl) gn rfl ?_
  refine w_end 3 rfl ?_
  refine g_seq (c := trellislaw8_WordsSpell_c4) rfl ?_
  refine g_seq (c := trellislaw8_WordsSpell_c5) rfl ?_
  refine g_region (c := trellislaw8_WordsSpell_c7) rfl rfl ?_
  refine wl_v 0 rfl (v_assign rfl) gn rfl ?_
  refine w_end 1 rfl ?_
  refine g_block (c := trellislaw8_WordsSpell_c8) rfl ?_
  refine g_loop (c := trellislaw8_WordsSpell_c9) rfl ?_
  have key1 : ∀ s, Rounds (fun (s : Int) o => trellislaw8_WordsSpell_b1 x1 r9 s o) s r → (fun (s : Int) => ∀ (_ : Unit), G (trellislaw8_WordsSpell_C w F r) [.code trellislaw8_WordsSpell_c10, .inLoop trellislaw8_WordsSpell_c10, .inBlock 0, .code trellislaw8_WordsSpell_c6] [(0, .slice A2 n3 c4), (3, .slice A11 n12 c13), (4, .int .i64 s)] [.own (.slice A11 n12 c13) 27 4 n12 (r9.flatMap enc_api_Word)] [Sm w.heap.size F w [], St w []]) s := by
    intro s hs
    refine Rounds.ind (mot := (fun (s : Int) => ∀ (_ : Unit), G (trellislaw8_WordsSpell_C w F r) [.code trellislaw8_WordsSpell_c10, .inLoop trellislaw8_WordsSpell_c10, .inBlock 0, .code trellislaw8_WordsSpell_c6] [(0, .slice A2 n3 c4), (3, .slice A11 n12 c13), (4, .int .i64 s)] [.own (.slice A11 n12 c13) 27 4 n12 (r9.flatMap enc_api_Word)] [Sm w.heap.size F w [], St w []])) ?_ hs
    clear hs s
    intro x392 o1 h hO1
    show ∀ (_ : Unit), G (trellislaw8_WordsSpell_C w F r) [.code trellislaw8_WordsSpell_c10, .inLoop trellislaw8_WordsSpell_c10, .inBlock 0, .code trellislaw8_WordsSpell_c6] [(0, .slice A2 n3 c4), (3, .slice A11 n12 c13), (4, .int .i64 x392)] [.own (.slice A11 n12 c13) 27 4 n12 (r9.flatMap enc_api_Word)] [Sm w.heap.size F w [], St w []]
    intro _
    have h : trellislaw8_WordsSpell_b1 x1 r9 x392 o1 := h
    unfold trellislaw8_WordsSpell_b1 at h
    refine g_seq (c := trellislaw8_WordsSpell_c10) rfl ?_
    refine g_seq (c := trellislaw8_WordsSpell_c11) rfl ?_
    refine g_region (c := trellislaw8_WordsSpell_c13) rfl rfl ?_
    refine wl_v 0 rfl (v_move rfl) gn rfl ?_
    refine wl_v 1 rfl (v_move rfl) gn rfl ?_
    refine wl_v 2 rfl (v_lenQ un_22 rfl h5.hq) gn rfl ?_
    refine wl_v 3 rfl (v_bin rfl rfl rfl) gn rfl ?_
    refine w_end 4 rfl ?_
    by_cases hp765 : x392 < (x1.length : Int)
    · have h := if_pos' hp765 h
      refine g_true (c := trellislaw8_WordsSpell_c14) rfl _ rfl ((decide_eq_true hp765)) ?_
      refine g_skip (c := trellislaw8_WordsSpell_c15) rfl ?_
      refine g_seq (c := trellislaw8_WordsSpell_c12) rfl ?_
      refine g_block (c := trellislaw8_WordsSpell_c17) rfl ?_
      refine g_seq (c := trellislaw8_WordsSpell_c19) rfl ?_
      obtain ⟨hb766, h⟩ := h
      obtain ⟨r771, hv772, h⟩ := h
      obtain ⟨hb776, h⟩ := h
      obtain ⟨r780, hv781, h⟩ := h
      have hns : Region.noSelect (Code.ops trellislaw8_WordsSpell_c20) = true := by kernel_rfl
      refine g_drawF (c := trellislaw8_WordsSpell_c20) [.own (.slice A11 n12 c13) 27 4 n12 (r9.flatMap enc_api_Word)] [Sm w.heap.size F w [], St w []] [] 11 rfl rfl mix rfl (.cons_cons _ (.slnil)) (sels [0, 1] rfl) ?_
      refine wf_v 0 rfl (v_move rfl) gn rfl hns (by kernel_rfl) (by kernel_rfl) rfl rfl ?_
      refine wf_v 1 rfl (v_move rfl) gn rfl hns (by kernel_rfl) (by kernel_rfl) rfl rfl ?_
      have hr834 := Rw.readF (s := St w []) (hl := hl_api_Word) (h1 := h1_api_Word) h5 hb766
      refine wf_v 2 rfl (v_idxR (s := St w []) slE_22 rfl rfl h5 hb766) gn rfl hns (by kernel_rfl) (by kernel_rfl) rfl rfl ?_
      refine wf_v 3 rfl (v_ldA (St w []) ld_27 rfl hr834 rfl (me 1 rfl)) gn rfl hns (by kernel_rfl) (by kernel_rfl) rfl rfl ?_
      refine wf_v 5 rfl (v_move rfl) gn rfl hns (by kernel_rfl) (by kernel_rfl) rfl rfl ?_
      refine wf_v 6 rfl (v_move rfl) gn rfl hns (by kernel_rfl) (by kernel_rfl) rfl rfl ?_
      refine wf_v 7 rfl (v_idxO slE_22 rfl rfl (Ow.weak hL7.env.size h14) hb776) gn rfl hns (by kernel_rfl) (by kernel_rfl) rfl rfl ?_
      refine wf_v 8 rfl (v_ldO [.int .i64 ((ix r9 x392).kind), .string ((ix r9 x392).text), .int .i64 ((ix r9 x392).n), .int .i64 ((ix r9 x392).at_)] 0 ld_27 rfl rfl (fm_one hl_api_Word hb776) rfl) gn rfl hns (by kernel_rfl) (by kernel_rfl) rfl rfl ?_
      refine wf_all [4] (by kernel_rfl) rfl ⟨on_s 4 rfl gn rfl (s_call [.agg #[.int .i64 ((ix x1 x392).kind), .string ((ix x1 x392).text), .int .i64 ((ix x1 x392).n), .int .i64 ((ix x1 x392).at_)]] rfl Tryd.func9 rfl rfl rfl fun w865 hL866 => ?_), trivial⟩
      have hp867 : List.Perm ([.own (.slice A11 n12 c13) 27 4 n12 (r9.flatMap enc_api_Word)] : List Ent) (([] : List Ent) ++ ([.own (.slice A11 n12 c13) 27 4 n12 (r9.flatMap enc_api_Word)] : List Ent)) := perm_of_idx [] [0] rfl rfl (by kernel_rfl)
      refine Calls.mono (words_Spell_calls w865 (Fl ([] : List Snap)) (ix x1 x392) (hL866.tb hp867 hG (me 1 rfl)) (hL866.hFl (Sl := ([] : List Snap)) hp867 (sels [] rfl)) (hL866.into hp867 (Fl ([] : List Snap))) r771 hv772) ?_
      rintro _ w868 ⟨rfl, hM869⟩
      have hL870 := hL866.call hp867 hM869
      refine ⟨_, _, _, rfl, hL870, ?_⟩
      refine ⟨sels [0] rfl, sels [0, 1] rfl, ?_⟩
      refine wf_all [9] (by kernel_rfl) rfl ⟨on_s 9 rfl gn rfl (s_call [.agg #[.int .i64 ((ix r9 x392).kind), .string ((ix r9 x392).text), .int .i64 ((ix r9 x392).n), .int .i64 ((ix r9 x392).at_)]] rfl Tryd.func10 rfl rfl rfl fun w877 hL878 => ?_), trivial⟩
      have hp879 : List.Perm ([.own (.slice A11 n12 c13) 27 4 n12 (r9.flatMap enc_api_Word)] : List Ent) (([] : List Ent) ++ ([.own (.slice A11 n12 c13) 27 4 n12 (r9.flatMap enc_api_Word)] : List Ent)) := perm_of_idx [] [0] rfl rfl (by kernel_rfl)
      refine Calls.mono (trellisref8_Spell_calls w877 (Fl ([] : List Snap)) (ix r9 x392) (hL878.tb hp879 hG (me 1 rfl)) (hL878.hFl (Sl := ([] : List Snap)) hp879 (sels [] rfl)) (hL878.into hp879 (Fl ([] : List Snap))) r780 hv781) ?_
      rintro _ w880 ⟨rfl, hM881⟩
      have hL882 := hL878.call hp879 hM881
      refine ⟨_, _, _, rfl, hL882, ?_⟩
      refine ⟨sels [0] rfl, sels [0, 1] rfl, ?_⟩
      refine wf_v 10 rfl (v_neS rfl rfl) gn rfl hns (by kernel_rfl) (by kernel_rfl) rfl rfl ?_
      refine wf_end (by kernel_rfl) ?_
      by_cases hp883 : r771 = r780
      · have h := if_pos' hp883 h
        refine g_false (c := trellislaw8_WordsSpell_c21) rfl _ rfl ((nf (seq_t hp883))) ?_
        refine g_skip (c := trellislaw8_WordsSpell_c23) rfl ?_
        refine g_inBlock ?_
        refine g_region (c := trellislaw8_WordsSpell_c18) rfl rfl ?_
        refine wl_v 0 rfl (v_move rfl) gn rfl ?_
        refine wl_v 1 rfl (v_bin rfl rfl rfl) gn rfl ?_
        refine wl_v 2 rfl (v_assign rfl) gn rfl ?_
        refine w_end 3 rfl ?_
        refine g_inLoop ?_
        have ih := Out.inl hO1 h
        exact g_go [0, 1] (ih ()) ⟨rfl, rfl, rfl, trivial⟩ (.cons_cons _ (.slnil)) rfl
      · have h := if_neg' hp883 h
        refine g_true (c := trellislaw8_WordsSpell_c21) rfl _ rfl ((nt (seq_f hp883))) ?_
        refine g_seq (c := trellislaw8_WordsSpell_c22) rfl ?_
        refine g_region (c := trellislaw8_WordsSpell_c24) rfl rfl ?_
        refine wl_v 0 rfl (v_assign rfl) gn rfl ?_
        refine w_end 1 rfl ?_
        have h := Out.inr hO1 h
        refine g_retR (c := trellislaw8_WordsSpell_c25) [.bool false] rfl Tryd.func3 rfl (.tmp rfl (.nil)) fun wr hLr => ?_
        have hMr : B.Loc w wr [] [St w []] := hLr.pick (rest := [.own (.slice A11 n12 c13) 27 4 n12 (r9.flatMap enc_api_Word)]) (perm_of_idx [] [0] rfl rfl (by kernel_rfl)) (sels [1] rfl)
        have hMi : ∀ e ∈ ([] : List Ent), e ∈ ([.own (.slice A11 n12 c13) 27 4 n12 (r9.flatMap enc_api_Word)] : List Ent) := sels [] rfl
        show trellislaw8_WordsSpell_R w F  r (.returned (packV [.bool false])) wr
        rw [h]
        exact ⟨rfl, hMr⟩
    · have h := if_neg' hp765 h
      refine g_false (c := trellislaw8_WordsSpell_c14) rfl _ rfl ((decide_eq_false hp765)) ?_
      refine g_exit (c := trellislaw8_WordsSpell_c16) [.code trellislaw8_WordsSpell_c6] rfl rfl ?_
      refine g_seq (c := trellislaw8_WordsSpell_c6) rfl ?_
      refine g_region (c := trellislaw8_WordsSpell_c26) rfl rfl ?_
      refine wl_v 0 rfl (v_move rfl) gn rfl ?_
      obtain ⟨r887, hv888, h⟩ := h
      refine wl_s 1 rfl (s_call [.slice A2 n3 c4] rfl Tryd.func11 rfl rfl rfl fun w884 hL885 => ?_) gn
      have hp886 : List.Perm ([.own (.slice A11 n12 c13) 27 4 n12 (r9.flatMap enc_api_Word)] : List Ent) (([] : List Ent) ++ ([.own (.slice A11 n12 c13) 27 4 n12 (r9.flatMap enc_api_Word)] : List Ent)) := perm_of_idx [] [0] rfl rfl (by kernel_rfl)
      refine Calls.mono (trellislaw8_lent_calls w884 (Fl ([] : List Snap)) x1 A2 n3 c4 (Rw.mono h5 (hL885.toSt hp886 (me 1 rfl))) (hL885.hFl (Sl := ([] : List Snap)) hp886 (sels [] rfl)) (hL885.into hp886 (Fl ([] : List Snap))) r887 hv888) ?_
      rintro _ w895 ⟨A889, n890, c891, rfl, hM896, h892, hk893⟩
      have hL897 := hL885.call hp886 hM896
      refine ⟨_, _, _, rfl, hL897, ?_⟩
      refine wl_v 2 rfl (v_assign rfl) gn rfl ?_
      refine w_end 3 rfl ?_
      refine g_seq (c := trellislaw8_WordsSpell_c27) rfl ?_
      refine g_seq (c := trellislaw8_WordsSpell_c28) rfl ?_
      have j2 : ∀ (x925 : Bool) (h : trellislaw8_WordsSpell_j2 r887 r9 x925 o1) (hl924 : r887.2 ≤ n890), G (trellislaw8_WordsSpell_C w F r) [.code trellislaw8_WordsSpell_c31, .code trellislaw8_WordsSpell_c29] [(3, .slice A11 n12 c13), (5, .slice A889 r887.2 c891), (40, .bool x925)] [.own (.slice A889 n890 c891) 27 4 n890 (r887.1.flatMap enc_api_Word), .own (.slice A11 n12 c13) 27 4 n12 (r9.flatMap enc_api_Word)] [Sm w.heap.size F w [], St w []] := by
        intro x925 h hl924
        unfold trellislaw8_WordsSpell_j2 at h
        by_cases hp926 : x925 = true
        · have h := if_pos' hp926 h
          refine g_true (c := trellislaw8_WordsSpell_c31) rfl _ rfl (hp926) ?_
          refine g_seq (c := trellislaw8_WordsSpell_c32) rfl ?_
          refine g_region (c := trellislaw8_WordsSpell_c34) rfl rfl ?_
          refine wl_v 0 rfl (v_assign rfl) gn rfl ?_
          refine w_end 1 rfl ?_
          have h := Out.inr hO1 h
          refine g_retR (c := trellislaw8_WordsSpell_c35) [.bool false] rfl Tryd.func3 rfl (.tmp rfl (.nil)) fun wr hLr => ?_
          have hMr : B.Loc w wr [] [St w []] := hLr.pick (rest := [.own (.slice A889 n890 c891) 27 4 n890 (r887.1.flatMap enc_api_Word), .own (.slice A11 n12 c13) 27 4 n12 (r9.flatMap enc_api_Word)]) (perm_of_idx [] [0, 1] rfl rfl (by kernel_rfl)) (sels [1] rfl)
          have hMi : ∀ e ∈ ([] : List Ent), e ∈ ([.own (.slice A889 n890 c891) 27 4 n890 (r887.1.flatMap enc_api_Word), .own (.slice A11 n12 c13) 27 4 n12 (r9.flatMap enc_api_Word)] : List Ent) := sels [] rfl
          show trellislaw8_WordsSpell_R w F  r (.returned (packV [.bool false])) wr
          rw [h]
          exact ⟨rfl, hMr⟩
        · have h := if_neg' hp926 h
          refine g_false (c := trellislaw8_WordsSpell_c31) rfl _ rfl ((bf hp926)) ?_
          refine g_skip (c := trellislaw8_WordsSpell_c33) rfl ?_
          refine g_seq (c := trellislaw8_WordsSpell_c29) rfl ?_
          refine g_seq (c := trellislaw8_WordsSpell_c36) rfl ?_
          refine g_region (c := trellislaw8_WordsSpell_c38) rfl rfl ?_
          refine wl_v 0 rfl (v_assign rfl) gn rfl ?_
          refine w_end 1 rfl ?_
          refine g_block (c := trellislaw8_WordsSpell_c39) rfl ?_
          refine g_loop (c := trellislaw8_WordsSpell_c40) rfl ?_
          have key3 : ∀ s, Rounds (fun (s : (List api_Word) × Int) o => trellislaw8_WordsSpell_b3 r887 r9 s.1 s.2 o) s o1 → (fun (s : (List api_Word) × Int) => ∀ (h990 : Ow w.heap.size A889 n890 c891 s.1) (hl928 : r887.2 ≤ n890), G (trellislaw8_WordsSpell_C w F r) [.code trellislaw8_WordsSpell_c41, .inLoop trellislaw8_WordsSpell_c41, .inBlock 2, .code trellislaw8_WordsSpell_c37] [(3, .slice A11 n12 c13), (5, .slice A889 r887.2 c891), (6, .int .i64 s.2)] [.own (.slice A889 n890 c891) 27 4 n890 (s.1.flatMap enc_api_Word), .own (.slice A11 n12 c13) 27 4 n12 (r9.flatMap enc_api_Word)] [Sm w.heap.size F w [], St w []]) s := by
            intro s hs
            refine Rounds.ind (mot := (fun (s : (List api_Word) × Int) => ∀ (h990 : Ow w.heap.size A889 n890 c891 s.1) (hl928 : r887.2 ≤ n890), G (trellislaw8_WordsSpell_C w F r) [.code trellislaw8_WordsSpell_c41, .inLoop trellislaw8_WordsSpell_c41, .inBlock 2, .code trellislaw8_WordsSpell_c37] [(3, .slice A11 n12 c13), (5, .slice A889 r887.2 c891), (6, .int .i64 s.2)] [.own (.slice A889 n890 c891) 27 4 n890 (s.1.flatMap enc_api_Word), .own (.slice A11 n12 c13) 27 4 n12 (r9.flatMap enc_api_Word)] [Sm w.heap.size F w [], St w []])) ?_ hs
            clear hs s
            intro s o2 h hO2
            obtain ⟨x989, x991⟩ := s
            show ∀ (h990 : Ow w.heap.size A889 n890 c891 x989) (hl928 : r887.2 ≤ n890), G (trellislaw8_WordsSpell_C w F r) [.code trellislaw8_WordsSpell_c41, .inLoop trellislaw8_WordsSpell_c41, .inBlock 2, .code trellislaw8_WordsSpell_c37] [(3, .slice A11 n12 c13), (5, .slice A889 r887.2 c891), (6, .int .i64 x991)] [.own (.slice A889 n890 c891) 27 4 n890 (x989.flatMap enc_api_Word), .own (.slice A11 n12 c13) 27 4 n12 (r9.flatMap enc_api_Word)] [Sm w.heap.size F w [], St w []]
            intro h990 hl928
            have h : trellislaw8_WordsSpell_b3 r887 r9 x989 x991 o2 := h
            unfold trellislaw8_WordsSpell_b3 at h
            refine g_seq (c := trellislaw8_WordsSpell_c41) rfl ?_
            refine g_seq (c := trellislaw8_WordsSpell_c42) rfl ?_
            refine g_region (c := trellislaw8_WordsSpell_c44) rfl rfl ?_
            refine wl_v 0 rfl (v_move rfl) gn rfl ?_
            refine wl_v 1 rfl (v_move rfl) gn rfl ?_
            refine wl_v 2 rfl (v_lenQ un_22 rfl (Ow.cut h990 hl928).hq) gn rfl ?_
            refine wl_v 3 rfl (v_bin rfl rfl rfl) gn rfl ?_
            refine w_end 4 rfl ?_
            by_cases hp1052 : x991 < ((x989.take r887.2).length : Int)
            · have h := if_pos' hp1052 h
              refine g_true (c := trellislaw8_WordsSpell_c45) rfl _ rfl ((decide_eq_true hp1052)) ?_
              refine g_skip (c := trellislaw8_WordsSpell_c46) rfl ?_
              refine g_seq (c := trellislaw8_WordsSpell_c43) rfl ?_
              refine g_block (c := trellislaw8_WordsSpell_c48) rfl ?_
              refine g_region (c := trellislaw8_WordsSpell_c50) rfl rfl ?_
              refine wl_v 0 rfl (v_move rfl) gn rfl ?_
              refine wl_v 1 rfl (v_move rfl) gn rfl ?_
              refine wl_v 2 rfl (v_move rfl) gn rfl ?_
              refine wl_v 3 rfl (v_move rfl) gn rfl ?_
              refine wl_v 4 rfl (v_lenQ un_22 rfl (Ow.weak hL7.env.size h14).hq) gn rfl ?_
              refine wl_v 5 rfl (v_bin rfl rfl rfl) gn rfl ?_
              refine wl_v 6 rfl (v_move rfl) gn rfl ?_
              refine wl_v 7 rfl (v_bin rfl rfl rfl) gn rfl ?_
              obtain ⟨hb1053, h⟩ := h
              refine wl_v 8 rfl (v_idxO slE_22 rfl rfl (Ow.weak hL7.env.size h14) hb1053) gn rfl ?_
              refine wl_v 9 rfl (v_ldO [.int .i64 ((ix r9 (w64 ((w64 ((r9.length : Int) - 1)) - x991))).kind), .string ((ix r9 (w64 ((w64 ((r9.length : Int) - 1)) - x991))).text), .int .i64 ((ix r9 (w64 ((w64 ((r9.length : Int) - 1)) - x991))).n), .int .i64 ((ix r9 (w64 ((w64 ((r9.length : Int) - 1)) - x991))).at_)] 1 ld_27 rfl rfl (fm_one hl_api_Word hb1053) rfl) gn rfl ?_
              obtain ⟨hb1054, h⟩ := h
              have hb1055 : 0 ≤ x991 ∧ x991 < (x989.length : Int) := by have q := hb1054; have q2 := List.length_take_le' r887.2 x989; omega
              refine wl_v 10 rfl (v_idxO slE_22 rfl rfl (Ow.cut h990 hl928) hb1054) gn rfl ?_
              obtain ⟨x1056, hv1057, h⟩ := h
              refine wl_s 11 rfl (s_stF (enc := enc_api_Word) (o := 0) (z := (ix r9 (w64 ((w64 ((r9.length : Int) - 1)) - x991)))) (vs := [.int .i64 ((ix r9 (w64 ((w64 ((r9.length : Int) - 1)) - x991))).kind), .string ((ix r9 (w64 ((w64 ((r9.length : Int) - 1)) - x991))).text), .int .i64 ((ix r9 (w64 ((w64 ((r9.length : Int) - 1)) - x991))).n), .int .i64 ((ix r9 (w64 ((w64 ((r9.length : Int) - 1)) - x991))).at_)]) (i := x991) 0 hl_api_Word sz_27 rfl rfl rfl rfl rfl h990 hb1055 rfl rfl rfl hv1057 fun h1058 => ?_) gn
              refine w_end 12 rfl ?_
              refine g_inBlock ?_
              refine g_region (c := trellislaw8_WordsSpell_c49) rfl rfl ?_
              refine wl_v 0 rfl (v_move rfl) gn rfl ?_
              refine wl_v 1 rfl (v_bin rfl rfl rfl) gn rfl ?_
              refine wl_v 2 rfl (v_assign rfl) gn rfl ?_
              refine w_end 3 rfl ?_
              refine g_inLoop ?_
              have ih := Out.inl hO2 h
              exact g_go [0, 1] (ih h1058 hl928) ⟨rfl, rfl, rfl, trivial⟩ (.cons_cons _ (.cons_cons _ (.slnil))) rfl
            · have h := if_neg' hp1052 h
              refine g_false (c := trellislaw8_WordsSpell_c45) rfl _ rfl ((decide_eq_false hp1052)) ?_
              refine g_exit (c := trellislaw8_WordsSpell_c47) [.code trellislaw8_WordsSpell_c37] rfl rfl ?_
              refine g_seq (c := trellislaw8_WordsSpell_c37) rfl ?_
              refine g_seq (c := trellislaw8_WordsSpell_c51) rfl ?_
              refine g_region (c := trellislaw8_WordsSpell_c53) rfl rfl ?_
              refine wl_v 0 rfl (v_move rfl) gn rfl ?_
              refine wl_v 1 rfl (v_lenQ un_22 rfl (Ow.cut h990 hl928).hq) gn rfl ?_
              refine wl_v 2 rfl (v_bin rfl rfl rfl) gn rfl ?_
              refine w_end 3 rfl ?_
              have j4 : ∀ (x1066 : List api_Word) (h : trellislaw8_WordsSpell_j4 r887 x1066 o2) (h1067 : Ow w.heap.size A889 n890 c891 x1066) (hl1068 : r887.2 ≤ n890), G (trellislaw8_WordsSpell_C w F r) [.code trellislaw8_WordsSpell_c52] [(5, .slice A889 r887.2 c891)] [.own (.slice A889 n890 c891) 27 4 n890 (x1066.flatMap enc_api_Word)] [Sm w.heap.size F w [], St w []] := by
                intro x1066 h h1067 hl1068
                unfold trellislaw8_WordsSpell_j4 at h
                refine g_seq (c := trellislaw8_WordsSpell_c52) rfl ?_
                refine g_region (c := trellislaw8_WordsSpell_c57) rfl rfl ?_
                refine wl_v 0 rfl (v_move rfl) gn rfl ?_
                obtain ⟨r1072, hv1073, h⟩ := h
                refine wl_s 1 rfl (s_call [.slice A889 r887.2 c891] rfl Tryd.func8 rfl rfl rfl fun w1069 hL1070 => ?_) gn
                have hp1071 : List.Perm ([.own (.slice A889 n890 c891) 27 4 n890 (x1066.flatMap enc_api_Word)] : List Ent) (([] : List Ent) ++ ([.own (.slice A889 n890 c891) 27 4 n890 (x1066.flatMap enc_api_Word)] : List Ent)) := perm_of_idx [] [0] rfl rfl (by kernel_rfl)
                refine Calls.mono (trellislaw8_twin_calls w1069 (Fl ([] : List Snap)) (x1066.take r887.2) A889 r887.2 c891 (Rw.w (hL1070.argV (dk := k_api_Word) hp1071 [] rfl 0 rfl rfl h1067 (me 0 rfl) (Cells.flat _) (Vw.prefix hl1068) (Nat.le_trans hl1068 h1067.hn) h1067.hm) (by rw [(Eq.refl (x1066.take r887.2))]; rfl)) (hL1070.hFl (Sl := ([] : List Snap)) hp1071 (sels [] rfl)) (hL1070.into hp1071 (Fl ([] : List Snap))) r1072 hv1073) ?_
                rintro _ w1079 ⟨A1074, n1075, c1076, rfl, hM1080, h1077⟩
                have hL1081 := hL1070.call hp1071 hM1080
                refine ⟨_, _, _, rfl, hL1081, ?_⟩
                refine wl_v 2 rfl (v_assign rfl) gn rfl ?_
                refine w_end 3 rfl ?_
                refine g_seq (c := trellislaw8_WordsSpell_c58) rfl ?_
                refine g_region (c := trellislaw8_WordsSpell_c59) rfl rfl ?_
                refine wl_v 0 rfl (v_move rfl) gn rfl ?_
                obtain ⟨r1085, hv1086, h⟩ := h
                refine wl_s 1 rfl (s_call [.slice A1074 n1075 c1076] rfl Tryd.func13 rfl rfl rfl fun w1082 hL1083 => ?_) gn
                have hp1084 : List.Perm ([.own (.slice A1074 n1075 c1076) 27 4 n1075 (r1072.flatMap enc_api_Word), .own (.slice A889 n890 c891) 27 4 n890 (x1066.flatMap enc_api_Word)] : List Ent) (([] : List Ent) ++ ([.own (.slice A1074 n1075 c1076) 27 4 n1075 (r1072.flatMap enc_api_Word), .own (.slice A889 n890 c891) 27 4 n890 (x1066.flatMap enc_api_Word)] : List Ent)) := perm_of_idx [] [0, 1] rfl rfl (by kernel_rfl)
                refine Calls.mono (trellisref8_Join_calls w1082 (Fl ([] : List Snap)) r1072 A1074 n1075 c1076 (hL1083.argO (dk := k_api_Word) hp1084 [] rfl 0 rfl rfl (Ow.weak hL1070.env.size h1077) (me 0 rfl) (Cells.flat _)) (hL1083.tb hp1084 hG (me 1 rfl)) (hL1083.hFl (Sl := ([] : List Snap)) hp1084 (sels [] rfl)) (hL1083.into hp1084 (Fl ([] : List Snap))) r1085 hv1086) ?_
                rintro _ w1087 ⟨rfl, hM1088⟩
                have hL1089 := hL1083.call hp1084 hM1088
                refine ⟨_, _, _, rfl, hL1089, ?_⟩
                refine wl_v 2 rfl (v_assign rfl) gn rfl ?_
                refine w_end 3 rfl ?_
                refine g_seq (c := trellislaw8_WordsSpell_c60) rfl ?_
                refine g_region (c := trellislaw8_WordsSpell_c61) rfl rfl ?_
                refine wl_v 0 rfl (v_move rfl) gn rfl ?_
                obtain ⟨r1093, hv1094, h⟩ := h
                refine wl_s 1 rfl (s_call [.slice A889 r887.2 c891] rfl Tryd.func12 rfl rfl rfl fun w1090 hL1091 => ?_) gn
                have hp1092 : List.Perm ([.own (.slice A1074 n1075 c1076) 27 4 n1075 (r1072.flatMap enc_api_Word), .own (.slice A889 n890 c891) 27 4 n890 (x1066.flatMap enc_api_Word)] : List Ent) (([] : List Ent) ++ ([.own (.slice A1074 n1075 c1076) 27 4 n1075 (r1072.flatMap enc_api_Word), .own (.slice A889 n890 c891) 27 4 n890 (x1066.flatMap enc_api_Word)] : List Ent)) := perm_of_idx [] [0, 1] rfl rfl (by kernel_rfl)
                refine Calls.mono (words_Join_calls w1090 (Fl ([] : List Snap)) (x1066.take r887.2) A889 r887.2 c891 (Rw.w (hL1091.argV (dk := k_api_Word) hp1092 [] rfl 1 rfl rfl h1067 (me 0 rfl) (Cells.flat _) (Vw.prefix hl1068) (Nat.le_trans hl1068 h1067.hn) h1067.hm) (by rw [(Eq.refl (x1066.take r887.2))]; rfl)) (hL1091.tb hp1092 hG (me 1 rfl)) (hL1091.hFl (Sl := ([] : List Snap)) hp1092 (sels [] rfl)) (hL1091.into hp1092 (Fl ([] : List Snap))) r1093 hv1094) ?_
                rintro _ w1095 ⟨rfl, hM1096⟩
                have hL1097 := hL1091.call hp1092 hM1096
                refine ⟨_, _, _, rfl, hL1097, ?_⟩
                refine wl_v 2 rfl (v_move rfl) gn rfl ?_
                refine wl_v 3 rfl (v_eqS rfl rfl) gn rfl ?_
                refine wl_v 4 rfl (v_move rfl) gn rfl ?_
                by_cases hp1098 : r1093 = r1085
                · have h := if_pos' hp1098 h
                  refine w_bool 72 rfl ((seq_t hp1098)) ?_
                  refine wl_v 5 rfl (v_move rfl) (gy 72 rfl rfl) rfl ?_
                  refine wl_v 6 rfl (v_move rfl) (gy 72 rfl rfl) rfl ?_
                  obtain ⟨r1102, hv1103, h⟩ := h
                  refine wl_s 7 rfl (s_call [.slice A889 r887.2 c891, .slice A1074 n1075 c1076] rfl Tryd.func14 rfl rfl rfl fun w1099 hL1100 => ?_) (gy 72 rfl rfl)
                  have hp1101 : List.Perm ([.own (.slice A1074 n1075 c1076) 27 4 n1075 (r1072.flatMap enc_api_Word), .own (.slice A889 n890 c891) 27 4 n890 (x1066.flatMap enc_api_Word)] : List Ent) (([] : List Ent) ++ ([.own (.slice A1074 n1075 c1076) 27 4 n1075 (r1072.flatMap enc_api_Word), .own (.slice A889 n890 c891) 27 4 n890 (x1066.flatMap enc_api_Word)] : List Ent)) := perm_of_idx [] [0, 1] rfl rfl (by kernel_rfl)
                  refine Calls.mono (trellislaw8_still_calls w1099 (Fl ([] : List Snap)) x1066 r887.2 r1072 A889 n890 c891 A1074 n1075 c1076 (hL1100.argO (dk := k_api_Word) hp1101 [] rfl 1 rfl rfl h1067 (me 0 rfl) (Cells.flat _)) hl1068 (hL1100.argO (dk := k_api_Word) hp1101 [] rfl 0 rfl rfl (Ow.weak hL1070.env.size h1077) (me 0 rfl) (Cells.flat _)) (hL1100.hFl (Sl := ([] : List Snap)) hp1101 (sels [] rfl)) (hL1100.into hp1101 (Fl ([] : List Snap))) r1102 hv1103) ?_
                  rintro _ w1104 ⟨rfl, hM1105⟩
                  have hL1106 := hL1100.call hp1101 hM1105
                  refine ⟨_, _, _, rfl, hL1106, ?_⟩
                  refine wl_v 8 rfl (v_pick (b := true) rfl rfl) gn rfl ?_
                  refine wl_v 9 rfl (v_assign rfl) gn rfl ?_
                  refine w_end 10 rfl ?_
                  have h := Out.inr hO2 h
                  have h := Out.inr hO1 h
                  refine g_retR (c := trellislaw8_WordsSpell_c62) [.bool r1102] rfl Tryd.func3 rfl (.tmp rfl (.nil)) fun wr hLr => ?_
                  have hMr : B.Loc w wr [] [St w []] := hLr.pick (rest := [.own (.slice A1074 n1075 c1076) 27 4 n1075 (r1072.flatMap enc_api_Word), .own (.slice A889 n890 c891) 27 4 n890 (x1066.flatMap enc_api_Word)]) (perm_of_idx [] [0, 1] rfl rfl (by kernel_rfl)) (sels [1] rfl)
                  have hMi : ∀ e ∈ ([] : List Ent), e ∈ ([.own (.slice A1074 n1075 c1076) 27 4 n1075 (r1072.flatMap enc_api_Word), .own (.slice A889 n890 c891) 27 4 n890 (x1066.flatMap enc_api_Word)] : List Ent) := sels [] rfl
                  show trellislaw8_WordsSpell_R w F  r (.returned (packV [.bool r1102])) wr
                  rw [h]
                  exact ⟨rfl, hMr⟩
                · have h := if_neg' hp1098 h
                  refine w_bool 72 rfl ((seq_f hp1098)) ?_
                  refine wl_pass 5 rfl (ps 72 rfl rfl rfl) ?_
                  refine wl_pass 6 rfl (ps 72 rfl rfl rfl) ?_
                  refine wl_pass 7 rfl (ps 72 rfl rfl rfl) ?_
                  refine wl_v 8 rfl (v_pick (b := false) rfl rfl) gn rfl ?_
                  refine wl_v 9 rfl (v_assign rfl) gn rfl ?_
                  refine w_end 10 rfl ?_
                  have h := Out.inr hO2 h
                  have h := Out.inr hO1 h
                  refine g_retR (c := trellislaw8_WordsSpell_c62) [.bool false] rfl Tryd.func3 rfl (.tmp rfl (.nil)) fun wr hLr => ?_
                  have hMr : B.Loc w wr [] [St w []] := hLr.pick (rest := [.own (.slice A1074 n1075 c1076) 27 4 n1075 (r1072.flatMap enc_api_Word), .own (.slice A889 n890 c891) 27 4 n890 (x1066.flatMap enc_api_Word)]) (perm_of_idx [] [0, 1] rfl rfl (by kernel_rfl)) (sels [1] rfl)
                  have hMi : ∀ e ∈ ([] : List Ent), e ∈ ([.own (.slice A1074 n1075 c1076) 27 4 n1075 (r1072.flatMap enc_api_Word), .own (.slice A889 n890 c891) 27 4 n890 (x1066.flatMap enc_api_Word)] : List Ent) := sels [] rfl
                  show trellislaw8_WordsSpell_R w F  r (.returned (packV [.bool false])) wr
                  rw [h]
                  exact ⟨rfl, hMr⟩
              by_cases hp1059 : ((x989.take r887.2).length : Int) = 1
              · have h := if_pos' hp1059 h
                refine g_true (c := trellislaw8_WordsSpell_c54) rfl _ rfl ((eqi hp1059)) ?_
                refine g_region (c := trellislaw8_WordsSpell_c55) rfl rfl ?_
                refine wl_v 0 rfl (v_move rfl) gn rfl ?_
                refine wl_v 1 rfl (v_build #[.int .i64 4, .string (⟨#[]⟩ : ByteArray), .int .i64 7, .int .i64 0] bd_27 rfl (by kernel_rfl)) gn rfl ?_
                obtain ⟨hb1107, h⟩ := h
                have hb1108 : 0 ≤ (0 : Int) ∧ (0 : Int) < (x989.length : Int) := by have q := hb1107; have q2 := List.length_take_le' r887.2 x989; omega
                refine wl_v 2 rfl (v_idxO slE_22 rfl rfl (Ow.cut h990 hl928) hb1107) gn rfl ?_
                obtain ⟨x1109, hv1110, h⟩ := h
                refine wl_s 3 rfl (s_stF (enc := enc_api_Word) (o := 0) (z := (⟨4, (⟨#[]⟩ : ByteArray), 7, 0⟩ : api_Word)) (vs := [.int .i64 4, .string (⟨#[]⟩ : ByteArray), .int .i64 7, .int .i64 0]) (i := 0) 0 hl_api_Word sz_27 rfl rfl rfl rfl rfl h990 hb1108 rfl rfl rfl hv1110 fun h1111 => ?_) gn
                refine w_end 4 rfl ?_
                exact g_go [0, 1] (j4 x1109 h h1111 hl928) ⟨rfl, trivial⟩ (.cons_cons _ (.cons _ (.slnil))) rfl
              · have h := if_neg' hp1059 h
                refine g_false (c := trellislaw8_WordsSpell_c54) rfl _ rfl ((nei hp1059)) ?_
                refine g_skip (c := trellislaw8_WordsSpell_c56) rfl ?_
                exact g_go [0, 1] (j4 x989 h h990 hl928) ⟨rfl, trivial⟩ (.cons_cons _ (.cons _ (.slnil))) rfl
          exact g_go [0, 1] (key3 _ h (Ow.weak hL885.env.size h892) hl924) ⟨rfl, rfl, rfl, trivial⟩ (.cons_cons _ (.cons_cons _ (.slnil))) rfl
      refine g_region (c := trellislaw8_WordsSpell_c30) rfl rfl ?_
      refine wl_v 0 rfl (v_move rfl) gn rfl ?_
      obtain ⟨r1115, hv1116, h⟩ := h
      refine wl_s 1 rfl (s_call [.slice A889 r887.2 c891] rfl Tryd.func12 rfl rfl rfl fun w1112 hL1113 => ?_) gn
      have hp1114 : List.Perm ([.own (.slice A889 n890 c891) 27 4 n890 (r887.1.flatMap enc_api_Word), .own (.slice A11 n12 c13) 27 4 n12 (r9.flatMap enc_api_Word)] : List Ent) (([] : List Ent) ++ ([.own (.slice A889 n890 c891) 27 4 n890 (r887.1.flatMap enc_api_Word), .own (.slice A11 n12 c13) 27 4 n12 (r9.flatMap enc_api_Word)] : List Ent)) := perm_of_idx [] [0, 1] rfl rfl (by kernel_rfl)
      refine Calls.mono (words_Join_calls w1112 (Fl ([] : List Snap)) (r887.1.take r887.2) A889 r887.2 c891 (Rw.w (hL1113.argV (dk := k_api_Word) hp1114 [] rfl 0 rfl rfl (Ow.weak hL885.env.size h892) (me 0 rfl) (Cells.flat _) (Vw.prefix hk893) (Nat.le_trans hk893 (Ow.weak hL885.env.size h892).hn) (Ow.weak hL885.env.size h892).hm) (by rw [(Eq.refl (r887.1.take r887.2))]; rfl)) (hL1113.tb hp1114 hG (me 1 rfl)) (hL1113.hFl (Sl := ([] : List Snap)) hp1114 (sels [] rfl)) (hL1113.into hp1114 (Fl ([] : List Snap))) r1115 hv1116) ?_
      rintro _ w1117 ⟨rfl, hM1118⟩
      have hL1119 := hL1113.call hp1114 hM1118
      refine ⟨_, _, _, rfl, hL1119, ?_⟩
      refine wl_v 2 rfl (v_move rfl) gn rfl ?_
      obtain ⟨r1123, hv1124, h⟩ := h
      refine wl_s 3 rfl (s_call [.slice A11 n12 c13] rfl Tryd.func13 rfl rfl rfl fun w1120 hL1121 => ?_) gn
      have hp1122 : List.Perm ([.own (.slice A889 n890 c891) 27 4 n890 (r887.1.flatMap enc_api_Word), .own (.slice A11 n12 c13) 27 4 n12 (r9.flatMap enc_api_Word)] : List Ent) (([] : List Ent) ++ ([.own (.slice A889 n890 c891) 27 4 n890 (r887.1.flatMap enc_api_Word), .own (.slice A11 n12 c13) 27 4 n12 (r9.flatMap enc_api_Word)] : List Ent)) := perm_of_idx [] [0, 1] rfl rfl (by kernel_rfl)
      refine Calls.mono (trellisref8_Join_calls w1120 (Fl ([] : List Snap)) r9 A11 n12 c13 (hL1121.argO (dk := k_api_Word) hp1122 [] rfl 1 rfl rfl (Ow.weak hL7.env.size h14) (me 0 rfl) (Cells.flat _)) (hL1121.tb hp1122 hG (me 1 rfl)) (hL1121.hFl (Sl := ([] : List Snap)) hp1122 (sels [] rfl)) (hL1121.into hp1122 (Fl ([] : List Snap))) r1123 hv1124) ?_
      rintro _ w1125 ⟨rfl, hM1126⟩
      have hL1127 := hL1121.call hp1122 hM1126
      refine ⟨_, _, _, rfl, hL1127, ?_⟩
      refine wl_v 4 rfl (v_neS rfl rfl) gn rfl ?_
      refine wl_v 5 rfl (v_move rfl) gn rfl ?_
      by_cases hp1128 : r1115 = r1123
      · have h := if_pos' hp1128 h
        refine w_bool 35 rfl ((nf (seq_t hp1128))) ?_
        refine wl_v 6 rfl (v_move rfl) (gy 35 rfl rfl) rfl ?_
        refine wl_v 7 rfl (v_move rfl) (gy 35 rfl rfl) rfl ?_
        obtain ⟨r1132, hv1133, h⟩ := h
        refine wl_s 8 rfl (s_call [.slice A889 r887.2 c891, .slice A2 n3 c4] rfl Tryd.func14 rfl rfl rfl fun w1129 hL1130 => ?_) (gy 35 rfl rfl)
        have hp1131 : List.Perm ([.own (.slice A889 n890 c891) 27 4 n890 (r887.1.flatMap enc_api_Word), .own (.slice A11 n12 c13) 27 4 n12 (r9.flatMap enc_api_Word)] : List Ent) (([] : List Ent) ++ ([.own (.slice A889 n890 c891) 27 4 n890 (r887.1.flatMap enc_api_Word), .own (.slice A11 n12 c13) 27 4 n12 (r9.flatMap enc_api_Word)] : List Ent)) := perm_of_idx [] [0, 1] rfl rfl (by kernel_rfl)
        refine Calls.mono (trellislaw8_still_calls w1129 (Fl ([] : List Snap)) r887.1 r887.2 x1 A889 n890 c891 A2 n3 c4 (hL1130.argO (dk := k_api_Word) hp1131 [] rfl 0 rfl rfl (Ow.weak hL885.env.size h892) (me 0 rfl) (Cells.flat _)) hk893 (Rw.mono h5 (hL1130.toSt hp1131 (me 1 rfl))) (hL1130.hFl (Sl := ([] : List Snap)) hp1131 (sels [] rfl)) (hL1130.into hp1131 (Fl ([] : List Snap))) r1132 hv1133) ?_
        rintro _ w1134 ⟨rfl, hM1135⟩
        have hL1136 := hL1130.call hp1131 hM1135
        refine ⟨_, _, _, rfl, hL1136, ?_⟩
        refine wl_v 9 rfl (v_not rfl) (gy 35 rfl rfl) rfl ?_
        refine wl_v 10 rfl (v_pick (b := false) rfl rfl) gn rfl ?_
        refine w_end 11 rfl ?_
        exact g_go [0, 1] (j2 (!r1132) h hk893) ⟨rfl, rfl, rfl, trivial⟩ (.cons_cons _ (.cons_cons _ (.slnil))) rfl
      · have h := if_neg' hp1128 h
        refine w_bool 35 rfl ((nt (seq_f hp1128))) ?_
        refine wl_pass 6 rfl (ps 35 rfl rfl rfl) ?_
        refine wl_pass 7 rfl (ps 35 rfl rfl rfl) ?_
        refine wl_pass 8 rfl (ps 35 rfl rfl rfl) ?_
        refine wl_pass 9 rfl (ps 35 rfl rfl rfl) ?_
        refine wl_v 10 rfl (v_pick (b := true) rfl rfl) gn rfl ?_
        refine w_end 11 rfl ?_
        exact g_go [0, 1] (j2 true h hk893) ⟨rfl, rfl, rfl, trivial⟩ (.cons_cons _ (.cons_cons _ (.slnil))) rfl
  exact g_go [0, 1] (key1 _ h ()) ⟨rfl, rfl, rfl, trivial⟩ (.cons_cons _ (.slnil)) rfl
noncomputable abbrev words_blank_c0 : Code := bodyOf Tryd.f26
noncomputable abbrev words_blank_c1 : Code := Code.fst words_blank_c0
noncomputable abbrev words_blank_c2 : Code := Code.snd words_blank_c0
noncomputable abbrev words_blank_c3 : Code := Code.fst words_blank_c2
noncomputable abbrev words_blank_c4 : Code := Code.snd words_blank_c2
abbrev words_blank_R (w : World) (F : Nat → Prop) (r : Bool) : Ending → World → Prop := fun e w' => e = .returned (.bool r) ∧ B.Loc w w' [] [St w []]
noncomputable abbrev words_blank_C (w : World) (F : Nat → Prop) (r : Bool) : Cx := ⟨Tryd.prog, 26, Tryd.f26, 17, words_blank_R w F  r, w⟩
theorem words_blank_calls (w : World) (F : Nat → Prop) (x1 : Int) (hF : ∀ b, F b → b < w.heap.size ∧ ∀ o ∈ ([] : List (List Nat)), b ∉ o) (hL0 : B.Loc w w [] [Sm w.heap.size F w [], St w []]) (r : Bool) (h : words_blank x1 r) : Calls Tryd.prog 26 #[.int .u8 x1] w (words_blank_R w F  r) := by
  unfold words_blank at h
  refine calls_of_Loc (vs := [.int .u8 x1]) 17 Tryd.func26 rfl Tryd.ntmps26 rfl hL0 ?_
  show G (words_blank_C w F r) _ _ _ _
  refine g_seq (c := words_blank_c0) rfl ?_
  refine g_region (c := words_blank_c1) rfl rfl ?_
  refine wl_v 0 rfl (v_assign rfl) gn rfl ?_
  refine w_end 1 rfl ?_
  refine g_seq (c := words_blank_c2) rfl ?_
  refine g_region (c := words_blank_c3) rfl rfl ?_
  refine wl_v 0 rfl (v_move rfl) gn rfl ?_
  refine wl_v 1 rfl (v_bin rfl rfl rfl) gn rfl ?_
  refine wl_v 2 rfl (v_move rfl) gn rfl ?_
  by_cases hp2 : x1 = 32
  · have h := if_pos' hp2 h
    refine w_bool 5 rfl ((eqi hp2)) ?_
    refine wl_pass 3 rfl (ps 5 rfl rfl rfl) ?_
    refine wl_pass 4 rfl (ps 5 rfl rfl rfl) ?_
    refine wl_v 5 rfl (v_pick (b := true) rfl rfl) gn rfl ?_
    refine wl_v 6 rfl (v_move rfl) gn rfl ?_
    refine wl_pass 7 rfl (ps 9 rfl rfl rfl) ?_
    refine wl_pass 8 rfl (ps 9 rfl rfl rfl) ?_
    refine wl_v 9 rfl (v_pick (b := true) rfl rfl) gn rfl ?_
    refine wl_v 10 rfl (v_move rfl) gn rfl ?_
    refine wl_pass 11 rfl (ps 13 rfl rfl rfl) ?_
    refine wl_pass 12 rfl (ps 13 rfl rfl rfl) ?_
    refine wl_v 13 rfl (v_pick (b := true) rfl rfl) gn rfl ?_
    refine wl_v 14 rfl (v_assign rfl) gn rfl ?_
    refine w_end 15 rfl ?_
    refine g_retR (c := words_blank_c4) [.bool true] rfl Tryd.func26 rfl (.tmp rfl (.nil)) fun wr hLr => ?_
    have hMr : B.Loc w wr [] [St w []] := hLr.pick (rest := []) (perm_of_idx [] [] rfl rfl (by kernel_rfl)) (sels [1] rfl)
    have hMi : ∀ e ∈ ([] : List Ent), e ∈ ([] : List Ent) := sels [] rfl
    show words_blank_R w F  r (.returned (packV [.bool true])) wr
    rw [h]
    exact ⟨rfl, hMr⟩
  · have h := if_neg' hp2 h
    refine w_bool 5 rfl ((nei hp2)) ?_
    refine wl_v 3 rfl (v_move rfl) (gy 5 rfl rfl) rfl ?_
    refine wl_v 4 rfl (v_bin rfl rfl rfl) (gy 5 rfl rfl) rfl ?_
    refine wl_v 5 rfl (v_pick (b := false) rfl rfl) gn rfl ?_
    refine wl_v 6 rfl (v_move rfl) gn rfl ?_
    by_cases hp3 : x1 = 9
    · have h := if_pos' hp3 h
      refine w_bool 9 rfl ((eqi hp3)) ?_
      refine wl_pass 7 rfl (ps 9 rfl rfl rfl) ?_
      refine wl_pass 8 rfl (ps 9 rfl rfl rfl) ?_
      refine wl_v 9 rfl (v_pick (b := true) rfl rfl) gn rfl ?_
      refine wl_v 10 rfl (v_move rfl) gn rfl ?_
      refine wl_pass 11 rfl (ps 13 rfl rfl rfl) ?_
      refine wl_pass 12 rfl (ps 13 rfl rfl rfl) ?_
      refine wl_v 13 rfl (v_pick (b := true) rfl rfl) gn rfl ?_
      refine wl_v 14 rfl (v_assign rfl) gn rfl ?_
      refine w_end 15 rfl ?_
      refine g_retR (c := words_blank_c4) [.bool true] rfl Tryd.func26 rfl (.tmp rfl (.nil)) fun wr hLr => ?_
      have hMr : B.Loc w wr [] [St w []] := hLr.pick (rest := []) (perm_of_idx [] [] rfl rfl (by kernel_rfl)) (sels [1] rfl)
      have hMi : ∀ e ∈ ([] : List Ent), e ∈ ([] : List Ent) := sels [] rfl
      show words_blank_R w F  r (.returned (packV [.bool true])) wr
      rw [h]
      exact ⟨rfl, hMr⟩
    · have h := if_neg' hp3 h
      refine w_bool 9 rfl ((nei hp3)) ?_
      refine wl_v 7 rfl (v_move rfl) (gy 9 rfl rfl) rfl ?_
      refine wl_v 8 rfl (v_bin rfl rfl rfl) (gy 9 rfl rfl) rfl ?_
      refine wl_v 9 rfl (v_pick (b := false) rfl rfl) gn rfl ?_
      refine wl_v 10 rfl (v_move rfl) gn rfl ?_
      by_cases hp4 : x1 = 13
      · have h := if_pos' hp4 h
        refine w_bool 13 rfl ((eqi hp4)) ?_
        refine wl_pass 11 rfl (ps 13 rfl rfl rfl) ?_
        refine wl_pass 12 rfl (ps 13 rfl rfl rfl) ?_
        refine wl_v 13 rfl (v_pick (b := true) rfl rfl) gn rfl ?_
        refine wl_v 14 rfl (v_assign rfl) gn rfl ?_
        refine w_end 15 rfl ?_
        refine g_retR (c := words_blank_c4) [.bool true] rfl Tryd.func26 rfl (.tmp rfl (.nil)) fun wr hLr => ?_
        have hMr : B.Loc w wr [] [St w []] := hLr.pick (rest := []) (perm_of_idx [] [] rfl rfl (by kernel_rfl)) (sels [1] rfl)
        have hMi : ∀ e ∈ ([] : List Ent), e ∈ ([] : List Ent) := sels [] rfl
        show words_blank_R w F  r (.returned (packV [.bool true])) wr
        rw [h]
        exact ⟨rfl, hMr⟩
      · have h := if_neg' hp4 h
        refine w_bool 13 rfl ((nei hp4)) ?_
        refine wl_v 11 rfl (v_move rfl) (gy 13 rfl rfl) rfl ?_
        refine wl_v 12 rfl (v_bin rfl rfl rfl) (gy 13 rfl rfl) rfl ?_
        refine wl_v 13 rfl (v_pick (b := false) rfl rfl) gn rfl ?_
        refine wl_v 14 rfl (v_assign rfl) gn rfl ?_
        refine w_end 15 rfl ?_
        refine g_retR (c := words_blank_c4) [.bool (x1 == 10)] rfl Tryd.func26 rfl (.tmp rfl (.nil)) fun wr hLr => ?_
        have hMr : B.Loc w wr [] [St w []] := hLr.pick (rest := []) (perm_of_idx [] [] rfl rfl (by kernel_rfl)) (sels [1] rfl)
        have hMi : ∀ e ∈ ([] : List Ent), e ∈ ([] : List Ent) := sels [] rfl
        show words_blank_R w F  r (.returned (packV [.bool (x1 == 10)])) wr
        rw [h]
        exact ⟨rfl, hMr⟩
noncomputable abbrev internal_stringslite_IndexByte_c0 : Code := bodyOf Tryd.f40
noncomputable abbrev internal_stringslite_IndexByte_c1 : Code := Code.fst internal_stringslite_IndexByte_c0
noncomputable abbrev internal_stringslite_IndexByte_c2 : Code := Code.snd internal_stringslite_IndexByte_c0
noncomputable abbrev internal_stringslite_IndexByte_c3 : Code := Code.fst internal_stringslite_IndexByte_c2
noncomputable abbrev internal_stringslite_IndexByte_c4 : Code := Code.snd internal_stringslite_IndexByte_c2
abbrev internal_stringslite_IndexByte_R (w : World) (F : Nat → Prop) (r : Int) : Ending → World → Prop := fun e w' => e = .returned (.int .i64 r) ∧ B.Loc w w' [] [St w []]
noncomputable abbrev internal_stringslite_IndexByte_C (w : World) (F : Nat → Prop) (r : Int) : Cx := ⟨Tryd.prog, 40, Tryd.f40, 8, internal_stringslite_IndexByte_R w F  r, w⟩
theorem internal_stringslite_IndexByte_calls (w : World) (F : Nat → Prop) (x1 : ByteArray) (x2 : Int) (hF : ∀ b, F b → b < w.heap.size ∧ ∀ o ∈ ([] : List (List Nat)), b ∉ o) (hL0 : B.Loc w w [] [Sm w.heap.size F w [], St w []]) (r : Int) (h : internal_stringslite_IndexByte x1 x2 r) : Calls Tryd.prog 40 #[.string x1, .int .u8 x2] w (internal_stringslite_IndexByte_R w F  r) := by
  unfold internal_stringslite_IndexByte at h
  refine calls_of_Loc (vs := [.string x1, .int .u8 x2]) 8 Tryd.func40 rfl Tryd.ntmps40 rfl hL0 ?_
  show G (internal_stringslite_IndexByte_C w F r) _ _ _ _
  refine g_seq (c := internal_stringslite_IndexByte_c0) rfl ?_
  refine g_region (c := internal_stringslite_IndexByte_c1) rfl rfl ?_
  refine wl_v 0 rfl (v_assign rfl) gn rfl ?_
  refine w_end 1 rfl ?_
  refine g_seq (c := internal_stringslite_IndexByte_c2) rfl ?_
  refine g_region (c := internal_stringslite_IndexByte_c3) rfl rfl ?_
  refine wl_v 0 rfl (v_move rfl) gn rfl ?_
  refine wl_v 1 rfl (v_move rfl) gn rfl ?_
  refine wl_v 2 rfl (v_ext [.string x1, .int .u8 x2] rfl Tryd.func46 rfl rfl (by kernel_rfl) (by kernel_rfl) (fun w => x_indexByteS _ _ w)) gn rfl ?_
  refine wl_v 3 rfl (v_assign rfl) gn rfl ?_
  refine w_end 4 rfl ?_
  refine g_retR (c := internal_stringslite_IndexByte_c4) [.int .i64 (idxB x1 x2)] rfl Tryd.func40 rfl (.tmp rfl (.nil)) fun wr hLr => ?_
  have hMr : B.Loc w wr [] [St w []] := hLr.pick (rest := []) (perm_of_idx [] [] rfl rfl (by kernel_rfl)) (sels [1] rfl)
  have hMi : ∀ e ∈ ([] : List Ent), e ∈ ([] : List Ent) := sels [] rfl
  show internal_stringslite_IndexByte_R w F  r (.returned (packV [.int .i64 (idxB x1 x2)])) wr
  rw [h]
  exact ⟨rfl, hMr⟩
noncomputable abbrev strings_IndexByte_c0 : Code := bodyOf Tryd.f29
noncomputable abbrev strings_IndexByte_c1 : Code := Code.fst strings_IndexByte_c0
noncomputable abbrev strings_IndexByte_c2 : Code := Code.snd strings_IndexByte_c0
noncomputable abbrev strings_IndexByte_c3 : Code := Code.fst strings_IndexByte_c2
noncomputable abbrev strings_IndexByte_c4 : Code := Code.snd strings_IndexByte_c2
abbrev strings_IndexByte_R (w : World) (F : Nat → Prop) (r : Int) : Ending → World → Prop := fun e w' => e = .returned (.int .i64 r) ∧ B.Loc w w' [] [St w []]
noncomputable abbrev strings_IndexByte_C (w : World) (F : Nat → Prop) (r : Int) : Cx := ⟨Tryd.prog, 29, Tryd.f29, 8, strings_IndexByte_R w F  r, w⟩
theorem strings_IndexByte_calls (w : World) (F : Nat → Prop) (x1 : ByteArray) (x2 : Int) (hF : ∀ b, F b → b < w.heap.size ∧ ∀ o ∈ ([] : List (List Nat)), b ∉ o) (hL0 : B.Loc w w [] [Sm w.heap.size F w [], St w []]) (r : Int) (h : strings_IndexByte x1 x2 r) : Calls Tryd.prog 29 #[.string x1, .int .u8 x2] w (strings_IndexByte_R w F  r) := by
  unfold strings_IndexByte at h
  refine calls_of_Loc (vs := [.string x1, .int .u8 x2]) 8 Tryd.func29 rfl Tryd.ntmps29 rfl hL0 ?_
  show G (strings_IndexByte_C w F r) _ _ _ _
  refine g_seq (c := strings_IndexByte_c0) rfl ?_
  refine g_region (c := strings_IndexByte_c1) rfl rfl ?_
  refine wl_v 0 rfl (v_assign rfl) gn rfl ?_
  refine w_end 1 rfl ?_
  refine g_seq (c := strings_IndexByte_c2) rfl ?_
  refine g_region (c := strings_IndexByte_c3) rfl rfl ?_
  refine wl_v 0 rfl (v_move rfl) gn rfl ?_
  refine wl_v 1 rfl (v_move rfl) gn rfl ?_
  obtain ⟨r6, hv7, h⟩ := h
  refine wl_s 2 rfl (s_call [.string x1, .int .u8 x2] rfl Tryd.func40 rfl rfl rfl fun w3 hL4 => ?_) gn
  have hp5 : List.Perm ([] : List Ent) (([] : List Ent) ++ ([] : List Ent)) := perm_of_idx [] [] rfl rfl (by kernel_rfl)
  refine Calls.mono (internal_stringslite_IndexByte_calls w3 (Fl ([] : List Snap)) x1 x2 (hL4.hFl (Sl := ([] : List Snap)) hp5 (sels [] rfl)) (hL4.into hp5 (Fl ([] : List Snap))) r6 hv7) ?_
  rintro _ w8 ⟨rfl, hM9⟩
  have hL10 := hL4.call hp5 hM9
  refine ⟨_, _, _, rfl, hL10, ?_⟩
  refine wl_v 3 rfl (v_assign rfl) gn rfl ?_
  refine w_end 4 rfl ?_
  refine g_retR (c := strings_IndexByte_c4) [.int .i64 r6] rfl Tryd.func29 rfl (.tmp rfl (.nil)) fun wr hLr => ?_
  have hMr : B.Loc w wr [] [St w []] := hLr.pick (rest := []) (perm_of_idx [] [] rfl rfl (by kernel_rfl)) (sels [1] rfl)
  have hMi : ∀ e ∈ ([] : List Ent), e ∈ ([] : List Ent) := sels [] rfl
  show strings_IndexByte_R w F  r (.returned (packV [.int .i64 r6])) wr
  rw [h]
  exact ⟨rfl, hMr⟩
noncomputable abbrev words_hex_c0 : Code := bodyOf Tryd.f47
noncomputable abbrev words_hex_c1 : Code := Code.fst words_hex_c0
noncomputable abbrev words_hex_c2 : Code := Code.snd words_hex_c0
noncomputable abbrev words_hex_c3 : Code := Code.fst words_hex_c2
noncomputable abbrev words_hex_c4 : Code := Code.snd words_hex_c2
noncomputable abbrev words_hex_c5 : Code := Code.fst words_hex_c3
noncomputable abbrev words_hex_c6 : Code := Code.fst words_hex_c5
noncomputable abbrev words_hex_c7 : Code := Code.snd words_hex_c5
noncomputable abbrev words_hex_c8 : Code := Code.fst words_hex_c7
noncomputable abbrev words_hex_c9 : Code := Code.snd words_hex_c7
noncomputable abbrev words_hex_c10 : Code := Code.fst words_hex_c8
noncomputable abbrev words_hex_c11 : Code := Code.snd words_hex_c8
noncomputable abbrev words_hex_c12 : Code := Code.fst words_hex_c9
noncomputable abbrev words_hex_c13 : Code := Code.snd words_hex_c9
noncomputable abbrev words_hex_c14 : Code := Code.fst words_hex_c13
noncomputable abbrev words_hex_c15 : Code := Code.snd words_hex_c13
noncomputable abbrev words_hex_c16 : Code := Code.fst words_hex_c14
noncomputable abbrev words_hex_c17 : Code := Code.snd words_hex_c14
noncomputable abbrev words_hex_c18 : Code := Code.fst words_hex_c15
noncomputable abbrev words_hex_c19 : Code := Code.snd words_hex_c15
noncomputable abbrev words_hex_c20 : Code := Code.fst words_hex_c19
noncomputable abbrev words_hex_c21 : Code := Code.snd words_hex_c19
noncomputable abbrev words_hex_c22 : Code := Code.fst words_hex_c20
noncomputable abbrev words_hex_c23 : Code := Code.snd words_hex_c20
noncomputable abbrev words_hex_c24 : Code := Code.fst words_hex_c4
noncomputable abbrev words_hex_c25 : Code := Code.snd words_hex_c4
abbrev words_hex_R (w : World) (F : Nat → Prop) (r : Int × Bool) : Ending → World → Prop := fun e w' => e = .returned (.tuple #[.int .u8 r.1, .bool r.2]) ∧ B.Loc w w' [] [St w []]
noncomputable abbrev words_hex_C (w : World) (F : Nat → Prop) (r : Int × Bool) : Cx := ⟨Tryd.prog, 47, Tryd.f47, 29, words_hex_R w F  r, w⟩
theorem words_hex_calls (w : World) (F : Nat → Prop) (x1 : Int) (hF : ∀ b, F b → b < w.heap.size ∧ ∀ o ∈ ([] : List (List Nat)), b ∉ o) (hL0 : B.Loc w w [] [Sm w.heap.size F w [], St w []]) (r : Int × Bool) (h : words_hex x1 r) : Calls Tryd.prog 47 #[.int .u8 x1] w (words_hex_R w F  r) := by
  unfold words_hex at h
  refine calls_of_Loc (vs := [.int .u8 x1]) 29 Tryd.func47 rfl Tryd.ntmps47 rfl hL0 ?_
  show G (words_hex_C w F r) _ _ _ _
  refine g_seq (c := words_hex_c0) rfl ?_
  refine g_region (c := words_hex_c1) rfl rfl ?_
  refine wl_v 0 rfl (v_assign rfl) gn rfl ?_
  refine wl_v 1 rfl (v_assign rfl) gn rfl ?_
  refine w_end 2 rfl ?_
  refine g_seq (c := words_hex_c2) rfl ?_
  refine g_block (c := words_hex_c3) rfl ?_
  refine g_seq (c := words_hex_c5) rfl ?_
  refine g_region (c := words_hex_c6) rfl rfl ?_
  refine wl_v 0 rfl (v_move rfl) gn rfl ?_
  obtain ⟨r5, hv6, h⟩ := h
  refine wl_s 1 rfl (s_call [.int .u8 x1] rfl Tryd.func28 rfl rfl rfl fun w2 hL3 => ?_) gn
  have hp4 : List.Perm ([] : List Ent) (([] : List Ent) ++ ([] : List Ent)) := perm_of_idx [] [] rfl rfl (by kernel_rfl)
  refine Calls.mono (words_digit_calls w2 (Fl ([] : List Snap)) x1 (hL3.hFl (Sl := ([] : List Snap)) hp4 (sels [] rfl)) (hL3.into hp4 (Fl ([] : List Snap))) r5 hv6) ?_
  rintro _ w7 ⟨rfl, hM8⟩
  have hL9 := hL3.call hp4 hM8
  refine ⟨_, _, _, rfl, hL9, ?_⟩
  refine wl_v 2 rfl (v_assign rfl) gn rfl ?_
  refine w_end 3 rfl ?_
  by_cases hp10 : r5 = true
  · have h := if_pos' hp10 h
    refine g_true (c := words_hex_c7) rfl _ rfl (hp10) ?_
    refine g_seq (c := words_hex_c8) rfl ?_
    refine g_region (c := words_hex_c10) rfl rfl ?_
    refine wl_v 0 rfl (v_move rfl) gn rfl ?_
    refine wl_v 1 rfl (v_bin rfl rfl rfl) gn rfl ?_
    refine wl_v 2 rfl (v_assign rfl) gn rfl ?_
    refine wl_v 3 rfl (v_assign rfl) gn rfl ?_
    refine w_end 4 rfl ?_
    refine g_retR (c := words_hex_c11) [.int .u8 (IntKind.u8.wrap (x1 - 48)), .bool true] rfl Tryd.func47 rfl (.tmp rfl (.tmp rfl (.nil))) fun wr hLr => ?_
    have hMr : B.Loc w wr [] [St w []] := hLr.pick (rest := []) (perm_of_idx [] [] rfl rfl (by kernel_rfl)) (sels [1] rfl)
    have hMi : ∀ e ∈ ([] : List Ent), e ∈ ([] : List Ent) := sels [] rfl
    show words_hex_R w F  r (.returned (packV [.int .u8 (IntKind.u8.wrap (x1 - 48)), .bool true])) wr
    rw [h]
    exact ⟨rfl, hMr⟩
  · have h := if_neg' hp10 h
    refine g_false (c := words_hex_c7) rfl _ rfl ((bf hp10)) ?_
    refine g_seq (c := words_hex_c9) rfl ?_
    have j1 : ∀ (x13 : Bool) (h : words_hex_j1 x1 x13 r) , G (words_hex_C w F r) [.code words_hex_c13, .inBlock 0, .code words_hex_c4] [(0, .int .u8 x1), (9, .bool x13)] [] [Sm w.heap.size F w [], St w []] := by
      intro x13 h
      unfold words_hex_j1 at h
      by_cases hp14 : x13 = true
      · have h := if_pos' hp14 h
        refine g_true (c := words_hex_c13) rfl _ rfl (hp14) ?_
        refine g_seq (c := words_hex_c14) rfl ?_
        refine g_region (c := words_hex_c16) rfl rfl ?_
        refine wl_v 0 rfl (v_move rfl) gn rfl ?_
        refine wl_v 1 rfl (v_bin rfl rfl rfl) gn rfl ?_
        refine wl_v 2 rfl (v_bin rfl rfl rfl) gn rfl ?_
        refine wl_v 3 rfl (v_assign rfl) gn rfl ?_
        refine wl_v 4 rfl (v_assign rfl) gn rfl ?_
        refine w_end 5 rfl ?_
        refine g_retR (c := words_hex_c17) [.int .u8 (IntKind.u8.wrap ((IntKind.u8.wrap (x1 - 97)) + 10)), .bool true] rfl Tryd.func47 rfl (.tmp rfl (.tmp rfl (.nil))) fun wr hLr => ?_
        have hMr : B.Loc w wr [] [St w []] := hLr.pick (rest := []) (perm_of_idx [] [] rfl rfl (by kernel_rfl)) (sels [1] rfl)
        have hMi : ∀ e ∈ ([] : List Ent), e ∈ ([] : List Ent) := sels [] rfl
        show words_hex_R w F  r (.returned (packV [.int .u8 (IntKind.u8.wrap ((IntKind.u8.wrap (x1 - 97)) + 10)), .bool true])) wr
        rw [h]
        exact ⟨rfl, hMr⟩
      · have h := if_neg' hp14 h
        refine g_false (c := words_hex_c13) rfl _ rfl ((bf hp14)) ?_
        refine g_seq (c := words_hex_c15) rfl ?_
        have j2 : ∀ (x17 : Bool) (h : words_hex_j2 x1 x17 r) , G (words_hex_C w F r) [.code words_hex_c19, .inBlock 0, .code words_hex_c4] [(0, .int .u8 x1), (19, .bool x17)] [] [Sm w.heap.size F w [], St w []] := by
          intro x17 h
          unfold words_hex_j2 at h
          by_cases hp18 : x17 = true
          · have h := if_pos' hp18 h
            refine g_true (c := words_hex_c19) rfl _ rfl (hp18) ?_
            refine g_seq (c := words_hex_c20) rfl ?_
            refine g_region (c := words_hex_c22) rfl rfl ?_
            refine wl_v 0 rfl (v_move rfl) gn rfl ?_
            refine wl_v 1 rfl (v_bin rfl rfl rfl) gn rfl ?_
            refine wl_v 2 rfl (v_bin rfl rfl rfl) gn rfl ?_
            refine wl_v 3 rfl (v_assign rfl) gn rfl ?_
            refine wl_v 4 rfl (v_assign rfl) gn rfl ?_
            refine w_end 5 rfl ?_
            refine g_retR (c := words_hex_c23) [.int .u8 (IntKind.u8.wrap ((IntKind.u8.wrap (x1 - 65)) + 10)), .bool true] rfl Tryd.func47 rfl (.tmp rfl (.tmp rfl (.nil))) fun wr hLr => ?_
            have hMr : B.Loc w wr [] [St w []] := hLr.pick (rest := []) (perm_of_idx [] [] rfl rfl (by kernel_rfl)) (sels [1] rfl)
            have hMi : ∀ e ∈ ([] : List Ent), e ∈ ([] : List Ent) := sels [] rfl
            show words_hex_R w F  r (.returned (packV [.int .u8 (IntKind.u8.wrap ((IntKind.u8.wrap (x1 - 65)) + 10)), .bool true])) wr
            rw [h]
            exact ⟨rfl, hMr⟩
          · have h := if_neg' hp18 h
            refine g_false (c := words_hex_c19) rfl _ rfl ((bf hp18)) ?_
            refine g_skip (c := words_hex_c21) rfl ?_
            refine g_inBlock ?_
            refine g_seq (c := words_hex_c4) rfl ?_
            refine g_region (c := words_hex_c24) rfl rfl ?_
            refine wl_v 0 rfl (v_assign rfl) gn rfl ?_
            refine wl_v 1 rfl (v_assign rfl) gn rfl ?_
            refine w_end 2 rfl ?_
            refine g_retR (c := words_hex_c25) [.int .u8 0, .bool false] rfl Tryd.func47 rfl (.tmp rfl (.tmp rfl (.nil))) fun wr hLr => ?_
            have hMr : B.Loc w wr [] [St w []] := hLr.pick (rest := []) (perm_of_idx [] [] rfl rfl (by kernel_rfl)) (sels [1] rfl)
            have hMi : ∀ e ∈ ([] : List Ent), e ∈ ([] : List Ent) := sels [] rfl
            show words_hex_R w F  r (.returned (packV [.int .u8 0, .bool false])) wr
            rw [h]
            exact ⟨rfl, hMr⟩
        refine g_region (c := words_hex_c18) rfl rfl ?_
        refine wl_v 0 rfl (v_move rfl) gn rfl ?_
        refine wl_v 1 rfl (v_bin rfl rfl rfl) gn rfl ?_
        refine wl_v 2 rfl (v_move rfl) gn rfl ?_
        by_cases hp19 : x1 ≥ 65
        · have h := if_pos' hp19 h
          refine w_bool 22 rfl ((decide_eq_true hp19)) ?_
          refine wl_v 3 rfl (v_move rfl) (gy 22 rfl rfl) rfl ?_
          refine wl_v 4 rfl (v_bin rfl rfl rfl) (gy 22 rfl rfl) rfl ?_
          refine wl_v 5 rfl (v_pick (b := true) rfl rfl) gn rfl ?_
          refine wl_v 6 rfl (v_assign rfl) gn rfl ?_
          refine w_end 7 rfl ?_
          exact g_go [0, 1] (j2 (decide (x1 ≤ 70)) h) ⟨rfl, rfl, trivial⟩ (.slnil) rfl
        · have h := if_neg' hp19 h
          refine w_bool 22 rfl ((decide_eq_false hp19)) ?_
          refine wl_pass 3 rfl (ps 22 rfl rfl rfl) ?_
          refine wl_pass 4 rfl (ps 22 rfl rfl rfl) ?_
          refine wl_v 5 rfl (v_pick (b := false) rfl rfl) gn rfl ?_
          refine wl_v 6 rfl (v_assign rfl) gn rfl ?_
          refine w_end 7 rfl ?_
          exact g_go [0, 1] (j2 false h) ⟨rfl, rfl, trivial⟩ (.slnil) rfl
    refine g_region (c := words_hex_c12) rfl rfl ?_
    refine wl_v 0 rfl (v_move rfl) gn rfl ?_
    refine wl_v 1 rfl (v_bin rfl rfl rfl) gn rfl ?_
    refine wl_v 2 rfl (v_move rfl) gn rfl ?_
    by_cases hp20 : x1 ≥ 97
    · have h := if_pos' hp20 h
      refine w_bool 12 rfl ((decide_eq_true hp20)) ?_
      refine wl_v 3 rfl (v_move rfl) (gy 12 rfl rfl) rfl ?_
      refine wl_v 4 rfl (v_bin rfl rfl rfl) (gy 12 rfl rfl) rfl ?_
      refine wl_v 5 rfl (v_pick (b := true) rfl rfl) gn rfl ?_
      refine wl_v 6 rfl (v_assign rfl) gn rfl ?_
      refine w_end 7 rfl ?_
      exact g_go [0, 1] (j1 (decide (x1 ≤ 102)) h) ⟨rfl, rfl, trivial⟩ (.slnil) rfl
    · have h := if_neg' hp20 h
      refine w_bool 12 rfl ((decide_eq_false hp20)) ?_
      refine wl_pass 3 rfl (ps 12 rfl rfl rfl) ?_
      refine wl_pass 4 rfl (ps 12 rfl rfl rfl) ?_
      refine wl_v 5 rfl (v_pick (b := false) rfl rfl) gn rfl ?_
      refine wl_v 6 rfl (v_assign rfl) gn rfl ?_
      refine w_end 7 rfl ?_
      exact g_go [0, 1] (j1 false h) ⟨rfl, rfl, trivial⟩ (.slnil) rfl
noncomputable abbrev words_escape_c0 : Code := bodyOf Tryd.f41
noncomputable abbrev words_escape_c1 : Code := Code.fst words_escape_c0
noncomputable abbrev words_escape_c2 : Code := Code.snd words_escape_c0
noncomputable abbrev words_escape_c3 : Code := Code.fst words_escape_c2
noncomputable abbrev words_escape_c4 : Code := Code.snd words_escape_c2
noncomputable abbrev words_escape_c5 : Code := Code.fst words_escape_c3
noncomputable abbrev words_escape_c6 : Code := Code.snd words_escape_c3
noncomputable abbrev words_escape_c7 : Code := Code.fst words_escape_c6
noncomputable abbrev words_escape_c8 : Code := Code.snd words_escape_c6
noncomputable abbrev words_escape_c9 : Code := Code.fst words_escape_c7
noncomputable abbrev words_escape_c10 : Code := Code.snd words_escape_c7
noncomputable abbrev words_escape_c11 : Code := Code.fst words_escape_c4
noncomputable abbrev words_escape_c12 : Code := Code.snd words_escape_c4
noncomputable abbrev words_escape_c13 : Code := Code.fst words_escape_c11
noncomputable abbrev words_escape_c14 : Code := Code.snd words_escape_c11
noncomputable abbrev words_escape_c15 : Code := Code.fst words_escape_c14
noncomputable abbrev words_escape_c16 : Code := Code.fst words_escape_c15
noncomputable abbrev words_escape_c17 : Code := Code.snd words_escape_c15
noncomputable abbrev words_escape_c18 : Code := Code.fst words_escape_c16
noncomputable abbrev words_escape_c19 : Code := Code.snd words_escape_c16
noncomputable abbrev words_escape_c20 : Code := Code.fst words_escape_c19
noncomputable abbrev words_escape_c21 : Code := Code.snd words_escape_c19
noncomputable abbrev words_escape_c22 : Code := Code.fst words_escape_c17
noncomputable abbrev words_escape_c23 : Code := Code.snd words_escape_c17
noncomputable abbrev words_escape_c24 : Code := Code.fst words_escape_c22
noncomputable abbrev words_escape_c25 : Code := Code.snd words_escape_c22
noncomputable abbrev words_escape_c26 : Code := Code.fst words_escape_c23
noncomputable abbrev words_escape_c27 : Code := Code.snd words_escape_c23
noncomputable abbrev words_escape_c28 : Code := Code.fst words_escape_c27
noncomputable abbrev words_escape_c29 : Code := Code.snd words_escape_c27
noncomputable abbrev words_escape_c30 : Code := Code.fst words_escape_c28
noncomputable abbrev words_escape_c31 : Code := Code.snd words_escape_c28
noncomputable abbrev words_escape_c32 : Code := Code.fst words_escape_c29
noncomputable abbrev words_escape_c33 : Code := Code.snd words_escape_c29
noncomputable abbrev words_escape_c34 : Code := Code.fst words_escape_c33
noncomputable abbrev words_escape_c35 : Code := Code.snd words_escape_c33
noncomputable abbrev words_escape_c36 : Code := Code.fst words_escape_c34
noncomputable abbrev words_escape_c37 : Code := Code.snd words_escape_c34
noncomputable abbrev words_escape_c38 : Code := Code.fst words_escape_c35
noncomputable abbrev words_escape_c39 : Code := Code.snd words_escape_c35
noncomputable abbrev words_escape_c40 : Code := Code.fst words_escape_c39
noncomputable abbrev words_escape_c41 : Code := Code.snd words_escape_c39
noncomputable abbrev words_escape_c42 : Code := Code.fst words_escape_c40
noncomputable abbrev words_escape_c43 : Code := Code.snd words_escape_c40
noncomputable abbrev words_escape_c44 : Code := Code.fst words_escape_c41
noncomputable abbrev words_escape_c45 : Code := Code.snd words_escape_c41
noncomputable abbrev words_escape_c46 : Code := Code.fst words_escape_c45
noncomputable abbrev words_escape_c47 : Code := Code.snd words_escape_c45
noncomputable abbrev words_escape_c48 : Code := Code.fst words_escape_c46
noncomputable abbrev words_escape_c49 : Code := Code.snd words_escape_c46
noncomputable abbrev words_escape_c50 : Code := Code.fst words_escape_c49
noncomputable abbrev words_escape_c51 : Code := Code.snd words_escape_c49
noncomputable abbrev words_escape_c52 : Code := Code.fst words_escape_c50
noncomputable abbrev words_escape_c53 : Code := Code.snd words_escape_c50
noncomputable abbrev words_escape_c54 : Code := Code.fst words_escape_c53
noncomputable abbrev words_escape_c55 : Code := Code.snd words_escape_c53
noncomputable abbrev words_escape_c56 : Code := Code.fst words_escape_c55
noncomputable abbrev words_escape_c57 : Code := Code.snd words_escape_c55
noncomputable abbrev words_escape_c58 : Code := Code.fst words_escape_c57
noncomputable abbrev words_escape_c59 : Code := Code.snd words_escape_c57
noncomputable abbrev words_escape_c60 : Code := Code.fst words_escape_c58
noncomputable abbrev words_escape_c61 : Code := Code.snd words_escape_c58
noncomputable abbrev words_escape_c62 : Code := Code.fst words_escape_c12
noncomputable abbrev words_escape_c63 : Code := Code.snd words_escape_c12
abbrev words_escape_R (w : World) (F : Nat → Prop) (r : Int × Int) : Ending → World → Prop := fun e w' => e = .returned (.tuple #[.int .u8 r.1, .int .i64 r.2]) ∧ B.Loc w w' [] [St w []]
noncomputable abbrev words_escape_C (w : World) (F : Nat → Prop) (r : Int × Int) : Cx := ⟨Tryd.prog, 41, Tryd.f41, 63, words_escape_R w F  r, w⟩
theorem words_escape_calls (w : World) (F : Nat → Prop) (x1 : ByteArray) (x2 : Int) (hF : ∀ b, F b → b < w.heap.size ∧ ∀ o ∈ ([] : List (List Nat)), b ∉ o) (hL0 : B.Loc w w [] [Sm w.heap.size F w [], St w []]) (r : Int × Int) (h : words_escape x1 x2 r) : Calls Tryd.prog 41 #[.string x1, .int .i64 x2] w (words_escape_R w F  r) := by
  unfold words_escape at h
  refine calls_of_Loc (vs := [.string x1, .int .i64 x2]) 63 Tryd.func41 rfl Tryd.ntmps41 rfl hL0 ?_
  show G (words_escape_C w F r) _ _ _ _
  refine g_seq (c := words_escape_c0) rfl ?_
  refine g_region (c := words_escape_c1) rfl rfl ?_
  refine wl_v 0 rfl (v_assign rfl) gn rfl ?_
  refine wl_v 1 rfl (v_assign rfl) gn rfl ?_
  refine w_end 2 rfl ?_
  refine g_seq (c := words_escape_c2) rfl ?_
  refine g_seq (c := words_escape_c3) rfl ?_
  refine g_region (c := words_escape_c5) rfl rfl ?_
  refine wl_v 0 rfl (v_move rfl) gn rfl ?_
  refine wl_v 1 rfl (v_bin rfl rfl rfl) gn rfl ?_
  refine wl_v 2 rfl (v_move rfl) gn rfl ?_
  refine wl_v 3 rfl (v_lenS un_9 rfl) gn rfl ?_
  refine wl_v 4 rfl (v_bin rfl rfl rfl) gn rfl ?_
  refine w_end 5 rfl ?_
  by_cases hp3 : w64 (x2 + 1) ≥ (x1.size : Int)
  · have h := if_pos' hp3 h
    refine g_true (c := words_escape_c6) rfl _ rfl ((decide_eq_true hp3)) ?_
    refine g_seq (c := words_escape_c7) rfl ?_
    refine g_region (c := words_escape_c9) rfl rfl ?_
    refine wl_v 0 rfl (v_assign rfl) gn rfl ?_
    refine wl_v 1 rfl (v_assign rfl) gn rfl ?_
    refine w_end 2 rfl ?_
    refine g_retR (c := words_escape_c10) [.int .u8 0, .int .i64 0] rfl Tryd.func41 rfl (.tmp rfl (.tmp rfl (.nil))) fun wr hLr => ?_
    have hMr : B.Loc w wr [] [St w []] := hLr.pick (rest := []) (perm_of_idx [] [] rfl rfl (by kernel_rfl)) (sels [1] rfl)
    have hMi : ∀ e ∈ ([] : List Ent), e ∈ ([] : List Ent) := sels [] rfl
    show words_escape_R w F  r (.returned (packV [.int .u8 0, .int .i64 0])) wr
    rw [h]
    exact ⟨rfl, hMr⟩
  · have h := if_neg' hp3 h
    refine g_false (c := words_escape_c6) rfl _ rfl ((decide_eq_false hp3)) ?_
    refine g_skip (c := words_escape_c8) rfl ?_
    refine g_seq (c := words_escape_c4) rfl ?_
    refine g_seq (c := words_escape_c11) rfl ?_
    refine g_region (c := words_escape_c13) rfl rfl ?_
    refine wl_v 0 rfl (v_move rfl) gn rfl ?_
    refine wl_v 1 rfl (v_move rfl) gn rfl ?_
    refine wl_v 2 rfl (v_bin rfl rfl rfl) gn rfl ?_
    obtain ⟨hb4, h⟩ := h
    refine wl_v 3 rfl (v_indexS un_9 rfl rfl hb4) gn rfl ?_
    refine w_end 4 rfl ?_
    refine g_block (c := words_escape_c14) rfl ?_
    refine g_seq (c := words_escape_c15) rfl ?_
    refine g_seq (c := words_escape_c16) rfl ?_
    refine g_region (c := words_escape_c18) rfl rfl ?_
    refine wl_v 0 rfl (v_bin rfl rfl rfl) gn rfl ?_
    refine wl_v 1 rfl (v_assign rfl) gn rfl ?_
    refine w_end 2 rfl ?_
    have j1 : ∀ (x7 : Bool) (h : words_escape_j1 x1 x2 x7 r) , G (words_escape_C w F r) [.code words_escape_c17, .inBlock 0, .code words_escape_c12] [(0, .string x1), (1, .int .i64 x2), (18, .int .u8 (bt x1 (w64 (x2 + 1)))), (19, .bool x7)] [] [Sm w.heap.size F w [], St w []] := by
      intro x7 h
      unfold words_escape_j1 at h
      by_cases hp8 : x7 = true
      · have h := if_pos' hp8 h
        refine g_true (c := words_escape_c17) rfl _ rfl (hp8) ?_
        refine g_seq (c := words_escape_c22) rfl ?_
        refine g_region (c := words_escape_c24) rfl rfl ?_
        refine wl_v 0 rfl (v_move rfl) gn rfl ?_
        refine wl_v 1 rfl (v_move rfl) gn rfl ?_
        refine wl_v 2 rfl (v_bin rfl rfl rfl) gn rfl ?_
        refine wl_v 3 rfl (v_indexS un_9 rfl rfl hb4) gn rfl ?_
        refine wl_v 4 rfl (v_assign rfl) gn rfl ?_
        refine wl_v 5 rfl (v_assign rfl) gn rfl ?_
        refine w_end 6 rfl ?_
        refine g_retR (c := words_escape_c25) [.int .u8 (bt x1 (w64 (x2 + 1))), .int .i64 2] rfl Tryd.func41 rfl (.tmp rfl (.tmp rfl (.nil))) fun wr hLr => ?_
        have hMr : B.Loc w wr [] [St w []] := hLr.pick (rest := []) (perm_of_idx [] [] rfl rfl (by kernel_rfl)) (sels [1] rfl)
        have hMi : ∀ e ∈ ([] : List Ent), e ∈ ([] : List Ent) := sels [] rfl
        show words_escape_R w F  r (.returned (packV [.int .u8 (bt x1 (w64 (x2 + 1))), .int .i64 2])) wr
        rw [h]
        exact ⟨rfl, hMr⟩
      · have h := if_neg' hp8 h
        refine g_false (c := words_escape_c17) rfl _ rfl ((bf hp8)) ?_
        refine g_seq (c := words_escape_c23) rfl ?_
        refine g_region (c := words_escape_c26) rfl rfl ?_
        refine wl_v 0 rfl (v_bin rfl rfl rfl) gn rfl ?_
        refine wl_v 1 rfl (v_assign rfl) gn rfl ?_
        refine w_end 2 rfl ?_
        by_cases hp9 : bt x1 (w64 (x2 + 1)) = 110
        · have h := if_pos' hp9 h
          refine g_true (c := words_escape_c27) rfl _ rfl ((eqi hp9)) ?_
          refine g_seq (c := words_escape_c28) rfl ?_
          refine g_region (c := words_escape_c30) rfl rfl ?_
          refine wl_v 0 rfl (v_assign rfl) gn rfl ?_
          refine wl_v 1 rfl (v_assign rfl) gn rfl ?_
          refine w_end 2 rfl ?_
          refine g_retR (c := words_escape_c31) [.int .u8 10, .int .i64 2] rfl Tryd.func41 rfl (.tmp rfl (.tmp rfl (.nil))) fun wr hLr => ?_
          have hMr : B.Loc w wr [] [St w []] := hLr.pick (rest := []) (perm_of_idx [] [] rfl rfl (by kernel_rfl)) (sels [1] rfl)
          have hMi : ∀ e ∈ ([] : List Ent), e ∈ ([] : List Ent) := sels [] rfl
          show words_escape_R w F  r (.returned (packV [.int .u8 10, .int .i64 2])) wr
          rw [h]
          exact ⟨rfl, hMr⟩
        · have h := if_neg' hp9 h
          refine g_false (c := words_escape_c27) rfl _ rfl ((nei hp9)) ?_
          refine g_seq (c := words_escape_c29) rfl ?_
          refine g_region (c := words_escape_c32) rfl rfl ?_
          refine wl_v 0 rfl (v_bin rfl rfl rfl) gn rfl ?_
          refine wl_v 1 rfl (v_assign rfl) gn rfl ?_
          refine w_end 2 rfl ?_
          by_cases hp10 : bt x1 (w64 (x2 + 1)) = 116
          · have h := if_pos' hp10 h
            refine g_true (c := words_escape_c33) rfl _ rfl ((eqi hp10)) ?_
            refine g_seq (c := words_escape_c34) rfl ?_
            refine g_region (c := words_escape_c36) rfl rfl ?_
            refine wl_v 0 rfl (v_assign rfl) gn rfl ?_
            refine wl_v 1 rfl (v_assign rfl) gn rfl ?_
            refine w_end 2 rfl ?_
            refine g_retR (c := words_escape_c37) [.int .u8 9, .int .i64 2] rfl Tryd.func41 rfl (.tmp rfl (.tmp rfl (.nil))) fun wr hLr => ?_
            have hMr : B.Loc w wr [] [St w []] := hLr.pick (rest := []) (perm_of_idx [] [] rfl rfl (by kernel_rfl)) (sels [1] rfl)
            have hMi : ∀ e ∈ ([] : List Ent), e ∈ ([] : List Ent) := sels [] rfl
            show words_escape_R w F  r (.returned (packV [.int .u8 9, .int .i64 2])) wr
            rw [h]
            exact ⟨rfl, hMr⟩
          · have h := if_neg' hp10 h
            refine g_false (c := words_escape_c33) rfl _ rfl ((nei hp10)) ?_
            refine g_seq (c := words_escape_c35) rfl ?_
            refine g_region (c := words_escape_c38) rfl rfl ?_
            refine wl_v 0 rfl (v_bin rfl rfl rfl) gn rfl ?_
            refine wl_v 1 rfl (v_assign rfl) gn rfl ?_
            refine w_end 2 rfl ?_
            by_cases hp11 : bt x1 (w64 (x2 + 1)) = 114
            · have h := if_pos' hp11 h
              refine g_true (c := words_escape_c39) rfl _ rfl ((eqi hp11)) ?_
              refine g_seq (c := words_escape_c40) rfl ?_
              refine g_region (c := words_escape_c42) rfl rfl ?_
              refine wl_v 0 rfl (v_assign rfl) gn rfl ?_
              refine wl_v 1 rfl (v_assign rfl) gn rfl ?_
              refine w_end 2 rfl ?_
              refine g_retR (c := words_escape_c43) [.int .u8 13, .int .i64 2] rfl Tryd.func41 rfl (.tmp rfl (.tmp rfl (.nil))) fun wr hLr => ?_
              have hMr : B.Loc w wr [] [St w []] := hLr.pick (rest := []) (perm_of_idx [] [] rfl rfl (by kernel_rfl)) (sels [1] rfl)
              have hMi : ∀ e ∈ ([] : List Ent), e ∈ ([] : List Ent) := sels [] rfl
              show words_escape_R w F  r (.returned (packV [.int .u8 13, .int .i64 2])) wr
              rw [h]
              exact ⟨rfl, hMr⟩
            · have h := if_neg' hp11 h
              refine g_false (c := words_escape_c39) rfl _ rfl ((nei hp11)) ?_
              refine g_seq (c := words_escape_c41) rfl ?_
              refine g_region (c := words_escape_c44) rfl rfl ?_
              refine wl_v 0 rfl (v_bin rfl rfl rfl) gn rfl ?_
              refine wl_v 1 rfl (v_assign rfl) gn rfl ?_
              refine w_end 2 rfl ?_
              by_cases hp12 : bt x1 (w64 (x2 + 1)) = 120
              · have h := if_pos' hp12 h
                refine g_true (c := words_escape_c45) rfl _ rfl ((eqi hp12)) ?_
                refine g_seq (c := words_escape_c46) rfl ?_
                refine g_region (c := words_escape_c48) rfl rfl ?_
                refine wl_v 0 rfl (v_move rfl) gn rfl ?_
                refine wl_v 1 rfl (v_bin rfl rfl rfl) gn rfl ?_
                refine wl_v 2 rfl (v_move rfl) gn rfl ?_
                refine wl_v 3 rfl (v_lenS un_9 rfl) gn rfl ?_
                refine wl_v 4 rfl (v_bin rfl rfl rfl) gn rfl ?_
                refine w_end 5 rfl ?_
                by_cases hp13 : w64 (x2 + 3) < (x1.size : Int)
                · have h := if_pos' hp13 h
                  refine g_true (c := words_escape_c49) rfl _ rfl ((decide_eq_true hp13)) ?_
                  refine g_seq (c := words_escape_c50) rfl ?_
                  refine g_region (c := words_escape_c52) rfl rfl ?_
                  refine wl_v 0 rfl (v_move rfl) gn rfl ?_
                  refine wl_v 1 rfl (v_move rfl) gn rfl ?_
                  refine wl_v 2 rfl (v_bin rfl rfl rfl) gn rfl ?_
                  obtain ⟨hb14, h⟩ := h
                  refine wl_v 3 rfl (v_indexS un_9 rfl rfl hb14) gn rfl ?_
                  obtain ⟨r18, hv19, h⟩ := h
                  refine wl_s 4 rfl (s_call [.int .u8 (bt x1 (w64 (x2 + 2)))] rfl Tryd.func47 rfl rfl rfl fun w15 hL16 => ?_) gn
                  have hp17 : List.Perm ([] : List Ent) (([] : List Ent) ++ ([] : List Ent)) := perm_of_idx [] [] rfl rfl (by kernel_rfl)
                  refine Calls.mono (words_hex_calls w15 (Fl ([] : List Snap)) (bt x1 (w64 (x2 + 2))) (hL16.hFl (Sl := ([] : List Snap)) hp17 (sels [] rfl)) (hL16.into hp17 (Fl ([] : List Snap))) r18 hv19) ?_
                  rintro _ w20 ⟨rfl, hM21⟩
                  have hL22 := hL16.call hp17 hM21
                  refine ⟨_, _, _, rfl, hL22, ?_⟩
                  refine wl_v 5 rfl (v_move rfl) gn rfl ?_
                  refine wl_v 6 rfl (v_extract rfl rfl) gn rfl ?_
                  refine wl_v 7 rfl (v_extract rfl rfl) gn rfl ?_
                  refine wl_v 8 rfl (v_assign rfl) gn rfl ?_
                  refine wl_v 9 rfl (v_assign rfl) gn rfl ?_
                  refine w_end 10 rfl ?_
                  refine g_seq (c := words_escape_c53) rfl ?_
                  refine g_region (c := words_escape_c54) rfl rfl ?_
                  refine wl_v 0 rfl (v_move rfl) gn rfl ?_
                  refine wl_v 1 rfl (v_move rfl) gn rfl ?_
                  refine wl_v 2 rfl (v_bin rfl rfl rfl) gn rfl ?_
                  obtain ⟨hb23, h⟩ := h
                  refine wl_v 3 rfl (v_indexS un_9 rfl rfl hb23) gn rfl ?_
                  obtain ⟨r27, hv28, h⟩ := h
                  refine wl_s 4 rfl (s_call [.int .u8 (bt x1 (w64 (x2 + 3)))] rfl Tryd.func47 rfl rfl rfl fun w24 hL25 => ?_) gn
                  have hp26 : List.Perm ([] : List Ent) (([] : List Ent) ++ ([] : List Ent)) := perm_of_idx [] [] rfl rfl (by kernel_rfl)
                  refine Calls.mono (words_hex_calls w24 (Fl ([] : List Snap)) (bt x1 (w64 (x2 + 3))) (hL25.hFl (Sl := ([] : List Snap)) hp26 (sels [] rfl)) (hL25.into hp26 (Fl ([] : List Snap))) r27 hv28) ?_
                  rintro _ w29 ⟨rfl, hM30⟩
                  have hL31 := hL25.call hp26 hM30
                  refine ⟨_, _, _, rfl, hL31, ?_⟩
                  refine wl_v 5 rfl (v_move rfl) gn rfl ?_
                  refine wl_v 6 rfl (v_extract rfl rfl) gn rfl ?_
                  refine wl_v 7 rfl (v_extract rfl rfl) gn rfl ?_
                  refine wl_v 8 rfl (v_assign rfl) gn rfl ?_
                  refine wl_v 9 rfl (v_assign rfl) gn rfl ?_
                  refine w_end 10 rfl ?_
                  refine g_seq (c := words_escape_c55) rfl ?_
                  have j2 : ∀ (x34 : Bool) (h : words_escape_j2 r18 r27 x34 r) , G (words_escape_C w F r) [.code words_escape_c57, .inBlock 0, .code words_escape_c12] [(6, .int .u8 r18.1), (8, .int .u8 r27.1), (58, .bool x34)] [] [Sm w.heap.size F w [], St w []] := by
                    intro x34 h
                    unfold words_escape_j2 at h
                    by_cases hp35 : x34 = true
                    · have h := if_pos' hp35 h
                      refine g_true (c := words_escape_c57) rfl _ rfl (hp35) ?_
                      refine g_seq (c := words_escape_c58) rfl ?_
                      refine g_region (c := words_escape_c60) rfl rfl ?_
                      refine wl_v 0 rfl (v_move rfl) gn rfl ?_
                      refine wl_v 1 rfl (v_bin rfl rfl rfl) gn rfl ?_
                      refine wl_v 2 rfl (v_move rfl) gn rfl ?_
                      refine wl_v 3 rfl (v_bin rfl rfl rfl) gn rfl ?_
                      refine wl_v 4 rfl (v_assign rfl) gn rfl ?_
                      refine wl_v 5 rfl (v_assign rfl) gn rfl ?_
                      refine w_end 6 rfl ?_
                      refine g_retR (c := words_escape_c61) [.int .u8 (IntKind.u8.wrap ((IntKind.u8.wrap (16 * r18.1)) + r27.1)), .int .i64 4] rfl Tryd.func41 rfl (.tmp rfl (.tmp rfl (.nil))) fun wr hLr => ?_
                      have hMr : B.Loc w wr [] [St w []] := hLr.pick (rest := []) (perm_of_idx [] [] rfl rfl (by kernel_rfl)) (sels [1] rfl)
                      have hMi : ∀ e ∈ ([] : List Ent), e ∈ ([] : List Ent) := sels [] rfl
                      show words_escape_R w F  r (.returned (packV [.int .u8 (IntKind.u8.wrap ((IntKind.u8.wrap (16 * r18.1)) + r27.1)), .int .i64 4])) wr
                      rw [h]
                      exact ⟨rfl, hMr⟩
                    · have h := if_neg' hp35 h
                      refine g_false (c := words_escape_c57) rfl _ rfl ((bf hp35)) ?_
                      refine g_skip (c := words_escape_c59) rfl ?_
                      refine g_inBlock ?_
                      refine g_seq (c := words_escape_c12) rfl ?_
                      refine g_region (c := words_escape_c62) rfl rfl ?_
                      refine wl_v 0 rfl (v_assign rfl) gn rfl ?_
                      refine wl_v 1 rfl (v_assign rfl) gn rfl ?_
                      refine w_end 2 rfl ?_
                      refine g_retR (c := words_escape_c63) [.int .u8 0, .int .i64 0] rfl Tryd.func41 rfl (.tmp rfl (.tmp rfl (.nil))) fun wr hLr => ?_
                      have hMr : B.Loc w wr [] [St w []] := hLr.pick (rest := []) (perm_of_idx [] [] rfl rfl (by kernel_rfl)) (sels [1] rfl)
                      have hMi : ∀ e ∈ ([] : List Ent), e ∈ ([] : List Ent) := sels [] rfl
                      show words_escape_R w F  r (.returned (packV [.int .u8 0, .int .i64 0])) wr
                      rw [h]
                      exact ⟨rfl, hMr⟩
                  refine g_region (c := words_escape_c56) rfl rfl ?_
                  refine wl_v 0 rfl (v_move rfl) gn rfl ?_
                  refine wl_v 1 rfl (v_move rfl) gn rfl ?_
                  by_cases hp36 : r18.2 = true
                  · have h := if_pos' hp36 h
                    refine w_bool 56 rfl (hp36) ?_
                    refine wl_v 2 rfl (v_move rfl) (gy 56 rfl rfl) rfl ?_
                    refine wl_v 3 rfl (v_pick (b := true) rfl rfl) gn rfl ?_
                    refine w_end 4 rfl ?_
                    exact g_go [0, 1] (j2 r27.2 h) ⟨rfl, rfl, rfl, trivial⟩ (.slnil) rfl
                  · have h := if_neg' hp36 h
                    refine w_bool 56 rfl ((bf hp36)) ?_
                    refine wl_pass 2 rfl (ps 56 rfl rfl rfl) ?_
                    refine wl_v 3 rfl (v_pick (b := false) rfl rfl) gn rfl ?_
                    refine w_end 4 rfl ?_
                    exact g_go [0, 1] (j2 false h) ⟨rfl, rfl, rfl, trivial⟩ (.slnil) rfl
                · have h := if_neg' hp13 h
                  refine g_false (c := words_escape_c49) rfl _ rfl ((decide_eq_false hp13)) ?_
                  refine g_skip (c := words_escape_c51) rfl ?_
                  refine g_inBlock ?_
                  refine g_seq (c := words_escape_c12) rfl ?_
                  refine g_region (c := words_escape_c62) rfl rfl ?_
                  refine wl_v 0 rfl (v_assign rfl) gn rfl ?_
                  refine wl_v 1 rfl (v_assign rfl) gn rfl ?_
                  refine w_end 2 rfl ?_
                  refine g_retR (c := words_escape_c63) [.int .u8 0, .int .i64 0] rfl Tryd.func41 rfl (.tmp rfl (.tmp rfl (.nil))) fun wr hLr => ?_
                  have hMr : B.Loc w wr [] [St w []] := hLr.pick (rest := []) (perm_of_idx [] [] rfl rfl (by kernel_rfl)) (sels [1] rfl)
                  have hMi : ∀ e ∈ ([] : List Ent), e ∈ ([] : List Ent) := sels [] rfl
                  show words_escape_R w F  r (.returned (packV [.int .u8 0, .int .i64 0])) wr
                  rw [h]
                  exact ⟨rfl, hMr⟩
              · have h := if_neg' hp12 h
                refine g_false (c := words_escape_c45) rfl _ rfl ((nei hp12)) ?_
                refine g_skip (c := words_escape_c47) rfl ?_
                refine g_inBlock ?_
                refine g_seq (c := words_escape_c12) rfl ?_
                refine g_region (c := words_escape_c62) rfl rfl ?_
                refine wl_v 0 rfl (v_assign rfl) gn rfl ?_
                refine wl_v 1 rfl (v_assign rfl) gn rfl ?_
                refine w_end 2 rfl ?_
                refine g_retR (c := words_escape_c63) [.int .u8 0, .int .i64 0] rfl Tryd.func41 rfl (.tmp rfl (.tmp rfl (.nil))) fun wr hLr => ?_
                have hMr : B.Loc w wr [] [St w []] := hLr.pick (rest := []) (perm_of_idx [] [] rfl rfl (by kernel_rfl)) (sels [1] rfl)
                have hMi : ∀ e ∈ ([] : List Ent), e ∈ ([] : List Ent) := sels [] rfl
                show words_escape_R w F  r (.returned (packV [.int .u8 0, .int .i64 0])) wr
                rw [h]
                exact ⟨rfl, hMr⟩
    by_cases hp5 : bt x1 (w64 (x2 + 1)) = 34
    · have h := if_pos' hp5 h
      refine g_true (c := words_escape_c19) rfl _ rfl ((eqi hp5)) ?_
      refine g_skip (c := words_escape_c20) rfl ?_
      exact g_go [0, 1] (j1 ((bt x1 (w64 (x2 + 1))) == 34) h) ⟨rfl, rfl, rfl, rfl, trivial⟩ (.slnil) rfl
    · have h := if_neg' hp5 h
      refine g_false (c := words_escape_c19) rfl _ rfl ((nei hp5)) ?_
      refine g_region (c := words_escape_c21) rfl rfl ?_
      refine wl_v 0 rfl (v_bin rfl rfl rfl) gn rfl ?_
      refine wl_v 1 rfl (v_assign rfl) gn rfl ?_
      refine w_end 2 rfl ?_
      exact g_go [0, 1] (j1 ((bt x1 (w64 (x2 + 1))) == 92) h) ⟨rfl, rfl, rfl, rfl, trivial⟩ (.slnil) rfl
noncomputable abbrev words_quoted_c0 : Code := bodyOf Tryd.f30
noncomputable abbrev words_quoted_c1 : Code := Code.fst words_quoted_c0
noncomputable abbrev words_quoted_c2 : Code := Code.snd words_quoted_c0
noncomputable abbrev words_quoted_c3 : Code := Code.fst words_quoted_c2
noncomputable abbrev words_quoted_c4 : Code := Code.fst words_quoted_c3
noncomputable abbrev words_quoted_c5 : Code := Code.snd words_quoted_c3
noncomputable abbrev words_quoted_c6 : Code := Code.fst words_quoted_c5
noncomputable abbrev words_quoted_c7 : Code := Code.snd words_quoted_c5
noncomputable abbrev words_quoted_c8 : Code := Code.fst words_quoted_c7
noncomputable abbrev words_quoted_c9 : Code := Code.snd words_quoted_c7
noncomputable abbrev words_quoted_c10 : Code := Code.fst words_quoted_c9
noncomputable abbrev words_quoted_c11 : Code := Code.snd words_quoted_c9
noncomputable abbrev words_quoted_c12 : Code := Code.fst words_quoted_c10
noncomputable abbrev words_quoted_c13 : Code := Code.snd words_quoted_c10
noncomputable abbrev words_quoted_c14 : Code := Code.fst words_quoted_c13
noncomputable abbrev words_quoted_c15 : Code := Code.snd words_quoted_c13
noncomputable abbrev words_quoted_c16 : Code := Code.fst words_quoted_c14
noncomputable abbrev words_quoted_c17 : Code := Code.snd words_quoted_c14
noncomputable abbrev words_quoted_c18 : Code := Code.fst words_quoted_c11
noncomputable abbrev words_quoted_c19 : Code := Code.snd words_quoted_c11
noncomputable abbrev words_quoted_c20 : Code := Code.fst words_quoted_c18
noncomputable abbrev words_quoted_c21 : Code := Code.snd words_quoted_c18
noncomputable abbrev words_quoted_c22 : Code := Code.fst words_quoted_c21
noncomputable abbrev words_quoted_c23 : Code := Code.snd words_quoted_c21
noncomputable abbrev words_quoted_c24 : Code := Code.fst words_quoted_c23
noncomputable abbrev words_quoted_c25 : Code := Code.fst words_quoted_c24
noncomputable abbrev words_quoted_c26 : Code := Code.snd words_quoted_c24
noncomputable abbrev words_quoted_c27 : Code := Code.fst words_quoted_c26
noncomputable abbrev words_quoted_c28 : Code := Code.snd words_quoted_c26
noncomputable abbrev words_quoted_c29 : Code := Code.fst words_quoted_c27
noncomputable abbrev words_quoted_c30 : Code := Code.snd words_quoted_c27
noncomputable abbrev words_quoted_c31 : Code := Code.fst words_quoted_c28
noncomputable abbrev words_quoted_c32 : Code := Code.snd words_quoted_c28
noncomputable abbrev words_quoted_c33 : Code := Code.fst words_quoted_c32
noncomputable abbrev words_quoted_c34 : Code := Code.snd words_quoted_c32
noncomputable abbrev words_quoted_c35 : Code := Code.fst words_quoted_c33
noncomputable abbrev words_quoted_c36 : Code := Code.snd words_quoted_c33
noncomputable abbrev words_quoted_c37 : Code := Code.fst words_quoted_c36
noncomputable abbrev words_quoted_c38 : Code := Code.snd words_quoted_c36
noncomputable abbrev words_quoted_c39 : Code := Code.fst words_quoted_c37
noncomputable abbrev words_quoted_c40 : Code := Code.snd words_quoted_c37
noncomputable abbrev words_quoted_c41 : Code := Code.fst words_quoted_c40
noncomputable abbrev words_quoted_c42 : Code := Code.snd words_quoted_c40
noncomputable abbrev words_quoted_c43 : Code := Code.fst words_quoted_c41
noncomputable abbrev words_quoted_c44 : Code := Code.snd words_quoted_c41
noncomputable abbrev words_quoted_c45 : Code := Code.fst words_quoted_c38
noncomputable abbrev words_quoted_c46 : Code := Code.snd words_quoted_c38
noncomputable abbrev words_quoted_c47 : Code := Code.fst words_quoted_c34
noncomputable abbrev words_quoted_c48 : Code := Code.snd words_quoted_c34
abbrev words_quoted_R (w : World) (F : Nat → Prop) (r : (List Int) × Int × Int) : Ending → World → Prop := fun e w' => ∃ A0 : Option Addr, ∃ n0 : Nat, ∃ c0 : Nat, e = .returned (.tuple #[.slice A0 n0 c0, .int .i64 r.2.1, .int .i64 r.2.2]) ∧ B.Loc w w' [.own (.slice A0 n0 c0) 5 1 n0 (r.1.flatMap (eI .u8))] [St w []] ∧ Ow w.heap.size A0 n0 c0 r.1
noncomputable abbrev words_quoted_C (w : World) (F : Nat → Prop) (r : (List Int) × Int × Int) : Cx := ⟨Tryd.prog, 30, Tryd.f30, 58, words_quoted_R w F  r, w⟩
theorem words_quoted_calls (w : World) (F : Nat → Prop) (x1 : ByteArray) (x2 : Int) (hF : ∀ b, F b → b < w.heap.size ∧ ∀ o ∈ ([] : List (List Nat)), b ∉ o) (hL0 : B.Loc w w [] [Sm w.heap.size F w [], St w []]) (r : (List Int) × Int × Int) (h : words_quoted x1 x2 r) : Calls Tryd.prog 30 #[.string x1, .int .i64 x2] w (words_quoted_R w F  r) := by
  unfold words_quoted at h
  refine calls_of_Loc (vs := [.string x1, .int .i64 x2]) 58 Tryd.func30 rfl Tryd.ntmps30 rfl hL0 ?_
  show G (words_quoted_C w F r) _ _ _ _
  refine g_seq (c := words_quoted_c0) rfl ?_
  refine g_region (c := words_quoted_c1) rfl rfl ?_
  refine wl_v 0 rfl (v_assign rfl) gn rfl ?_
  refine wl_v 1 rfl (v_assign rfl) gn rfl ?_
  refine wl_v 2 rfl (v_assign rfl) gn rfl ?_
  refine w_end 3 rfl ?_
  refine g_scope (c := words_quoted_c2) rfl ?_
  refine g_seq (c := words_quoted_c3) rfl ?_
  refine g_region (c := words_quoted_c4) rfl rfl ?_
  refine wl_v 0 rfl (v_assign rfl) gn rfl ?_
  refine w_end 1 rfl ?_
  refine g_seq (c := words_quoted_c5) rfl ?_
  refine g_region (c := words_quoted_c6) rfl rfl ?_
  refine wl_v 0 rfl (v_move rfl) gn rfl ?_
  refine wl_v 1 rfl (v_bin rfl rfl rfl) gn rfl ?_
  refine wl_v 2 rfl (v_assign rfl) gn rfl ?_
  refine w_end 3 rfl ?_
  refine g_seq (c := words_quoted_c7) rfl ?_
  refine g_label (c := words_quoted_c8) rfl ?_
  have key1 : ∀ s, Rounds (fun (s : (List Int) × Int) o => words_quoted_b1 x1 x2 s.1 s.2 o) s r → (fun (s : (List Int) × Int) => ∀ (A44 : Option Addr) (n45 : Nat) (c46 : Nat) (h47 : Ow w.heap.size A44 n45 c46 s.1), G (words_quoted_C w F r) [.code words_quoted_c9, .inScope words_quoted_c3] [(0, .string x1), (1, .int .i64 x2), (7, .slice A44 n45 c46), (8, .int .i64 s.2)] [.own (.slice A44 n45 c46) 5 1 n45 (s.1.flatMap (eI .u8))] [Sm w.heap.size F w [], St w []]) s := by
    intro s hs
    refine Rounds.ind (mot := (fun (s : (List Int) × Int) => ∀ (A44 : Option Addr) (n45 : Nat) (c46 : Nat) (h47 : Ow w.heap.size A44 n45 c46 s.1), G (words_quoted_C w F r) [.code words_quoted_c9, .inScope words_quoted_c3] [(0, .string x1), (1, .int .i64 x2), (7, .slice A44 n45 c46), (8, .int .i64 s.2)] [.own (.slice A44 n45 c46) 5 1 n45 (s.1.flatMap (eI .u8))] [Sm w.heap.size F w [], St w []])) ?_ hs
    clear hs s
    intro s o1 h hO1
    obtain ⟨x43, x48⟩ := s
    show ∀ (A44 : Option Addr) (n45 : Nat) (c46 : Nat) (h47 : Ow w.heap.size A44 n45 c46 x43), G (words_quoted_C w F r) [.code words_quoted_c9, .inScope words_quoted_c3] [(0, .string x1), (1, .int .i64 x2), (7, .slice A44 n45 c46), (8, .int .i64 x48)] [.own (.slice A44 n45 c46) 5 1 n45 (x43.flatMap (eI .u8))] [Sm w.heap.size F w [], St w []]
    intro A44 n45 c46 h47
    have h : words_quoted_b1 x1 x2 x43 x48 o1 := h
    unfold words_quoted_b1 at h
    refine g_seq (c := words_quoted_c9) rfl ?_
    refine g_seq (c := words_quoted_c10) rfl ?_
    have j2 : ∀ (x89 : Bool) (h : words_quoted_j2 x2 x48 x1 x43 x89 o1) , G (words_quoted_C w F r) [.code words_quoted_c13, .code words_quoted_c11, .inScope words_quoted_c3] [(0, .string x1), (1, .int .i64 x2), (7, .slice A44 n45 c46), (8, .int .i64 x48), (23, .bool x89)] [.own (.slice A44 n45 c46) 5 1 n45 (x43.flatMap (eI .u8))] [Sm w.heap.size F w [], St w []] := by
      intro x89 h
      unfold words_quoted_j2 at h
      by_cases hp90 : x89 = true
      · have h := if_pos' hp90 h
        refine g_true (c := words_quoted_c13) rfl _ rfl (hp90) ?_
        refine g_seq (c := words_quoted_c14) rfl ?_
        refine g_region (c := words_quoted_c16) rfl rfl ?_
        refine wl_v 0 rfl (v_move rfl) gn rfl ?_
        refine wl_v 1 rfl (v_assign rfl) gn rfl ?_
        refine wl_v 2 rfl (v_assign rfl) gn rfl ?_
        refine wl_v 3 rfl (v_assign rfl) gn rfl ?_
        refine w_end 4 rfl ?_
        refine g_nil 5 1 ?_
        have h := Out.inr hO1 h
        refine g_retR (c := words_quoted_c17) [.slice none 0 0, .int .i64 82, .int .i64 x2] rfl Tryd.func30 rfl (.tmp rfl (.tmp rfl (.tmp rfl (.nil)))) fun wr hLr => ?_
        have hMr : B.Loc w wr [.own (.slice none 0 0) 5 1 0 (([] : List Int).flatMap (eI .u8))] [St w []] := hLr.pick (rest := [.own (.slice A44 n45 c46) 5 1 n45 (x43.flatMap (eI .u8))]) (perm_of_idx [0] [1] rfl rfl (by kernel_rfl)) (sels [1] rfl)
        have hMi : ∀ e ∈ ([.own (.slice none 0 0) 5 1 0 (([] : List Int).flatMap (eI .u8))] : List Ent), e ∈ ([.own (.slice none 0 0) 5 1 0 (([] : List Int).flatMap (eI .u8)), .own (.slice A44 n45 c46) 5 1 n45 (x43.flatMap (eI .u8))] : List Ent) := sels [0] rfl
        show words_quoted_R w F  r (.returned (packV [.slice none 0 0, .int .i64 82, .int .i64 x2])) wr
        rw [h]
        exact ⟨none, 0, 0, rfl, hMr, (Ow.nil (z := w.heap.size))⟩
      · have h := if_neg' hp90 h
        refine g_false (c := words_quoted_c13) rfl _ rfl ((bf hp90)) ?_
        refine g_skip (c := words_quoted_c15) rfl ?_
        refine g_seq (c := words_quoted_c11) rfl ?_
        refine g_seq (c := words_quoted_c18) rfl ?_
        refine g_region (c := words_quoted_c20) rfl rfl ?_
        refine wl_v 0 rfl (v_move rfl) gn rfl ?_
        refine wl_v 1 rfl (v_move rfl) gn rfl ?_
        obtain ⟨hb91, h⟩ := h
        refine wl_v 2 rfl (v_indexS un_9 rfl rfl hb91) gn rfl ?_
        refine wl_v 3 rfl (v_assign rfl) gn rfl ?_
        refine w_end 4 rfl ?_
        refine g_seq (c := words_quoted_c21) rfl ?_
        refine g_region (c := words_quoted_c22) rfl rfl ?_
        refine wl_v 0 rfl (v_move rfl) gn rfl ?_
        refine w_end 1 rfl ?_
        refine g_block (c := words_quoted_c23) rfl ?_
        refine g_seq (c := words_quoted_c24) rfl ?_
        refine g_region (c := words_quoted_c25) rfl rfl ?_
        refine wl_v 0 rfl (v_bin rfl rfl rfl) gn rfl ?_
        refine wl_v 1 rfl (v_assign rfl) gn rfl ?_
        refine w_end 2 rfl ?_
        by_cases hp92 : bt x1 x48 = 34
        · have h := if_pos' hp92 h
          refine g_true (c := words_quoted_c26) rfl _ rfl ((eqi hp92)) ?_
          refine g_seq (c := words_quoted_c27) rfl ?_
          refine g_region (c := words_quoted_c29) rfl rfl ?_
          refine wl_v 0 rfl (v_move rfl) gn rfl ?_
          refine wl_v 1 rfl (v_move rfl) gn rfl ?_
          refine wl_v 2 rfl (v_bin rfl rfl rfl) gn rfl ?_
          refine wl_v 3 rfl (v_assign rfl) gn rfl ?_
          refine wl_v 4 rfl (v_assign rfl) gn rfl ?_
          refine wl_v 5 rfl (v_assign rfl) gn rfl ?_
          refine w_end 6 rfl ?_
          have h := Out.inr hO1 h
          refine g_retR (c := words_quoted_c30) [.slice A44 n45 c46, .int .i64 0, .int .i64 (w64 (x48 + 1))] rfl Tryd.func30 rfl (.tmp rfl (.tmp rfl (.tmp rfl (.nil)))) fun wr hLr => ?_
          have hMr : B.Loc w wr [.own (.slice A44 n45 c46) 5 1 n45 (x43.flatMap (eI .u8))] [St w []] := hLr.pick (rest := []) (perm_of_idx [0] [] rfl rfl (by kernel_rfl)) (sels [1] rfl)
          have hMi : ∀ e ∈ ([.own (.slice A44 n45 c46) 5 1 n45 (x43.flatMap (eI .u8))] : List Ent), e ∈ ([.own (.slice A44 n45 c46) 5 1 n45 (x43.flatMap (eI .u8))] : List Ent) := sels [0] rfl
          show words_quoted_R w F  r (.returned (packV [.slice A44 n45 c46, .int .i64 0, .int .i64 (w64 (x48 + 1))])) wr
          rw [h]
          exact ⟨A44, n45, c46, rfl, hMr, h47⟩
        · have h := if_neg' hp92 h
          refine g_false (c := words_quoted_c26) rfl _ rfl ((nei hp92)) ?_
          refine g_seq (c := words_quoted_c28) rfl ?_
          refine g_region (c := words_quoted_c31) rfl rfl ?_
          refine wl_v 0 rfl (v_bin rfl rfl rfl) gn rfl ?_
          refine wl_v 1 rfl (v_assign rfl) gn rfl ?_
          refine w_end 2 rfl ?_
          by_cases hp93 : bt x1 x48 = 92
          · have h := if_pos' hp93 h
            refine g_true (c := words_quoted_c32) rfl _ rfl ((eqi hp93)) ?_
            refine g_seq (c := words_quoted_c33) rfl ?_
            refine g_region (c := words_quoted_c35) rfl rfl ?_
            refine wl_v 0 rfl (v_move rfl) gn rfl ?_
            refine wl_v 1 rfl (v_move rfl) gn rfl ?_
            obtain ⟨r97, hv98, h⟩ := h
            refine wl_s 2 rfl (s_call [.string x1, .int .i64 x48] rfl Tryd.func41 rfl rfl rfl fun w94 hL95 => ?_) gn
            have hp96 : List.Perm ([.own (.slice A44 n45 c46) 5 1 n45 (x43.flatMap (eI .u8))] : List Ent) (([] : List Ent) ++ ([.own (.slice A44 n45 c46) 5 1 n45 (x43.flatMap (eI .u8))] : List Ent)) := perm_of_idx [] [0] rfl rfl (by kernel_rfl)
            refine Calls.mono (words_escape_calls w94 (Fl ([] : List Snap)) x1 x48 (hL95.hFl (Sl := ([] : List Snap)) hp96 (sels [] rfl)) (hL95.into hp96 (Fl ([] : List Snap))) r97 hv98) ?_
            rintro _ w99 ⟨rfl, hM100⟩
            have hL101 := hL95.call hp96 hM100
            refine ⟨_, _, _, rfl, hL101, ?_⟩
            refine wl_v 3 rfl (v_move rfl) gn rfl ?_
            refine wl_v 4 rfl (v_extract rfl rfl) gn rfl ?_
            refine wl_v 5 rfl (v_extract rfl rfl) gn rfl ?_
            refine wl_v 6 rfl (v_assign rfl) gn rfl ?_
            refine wl_v 7 rfl (v_assign rfl) gn rfl ?_
            refine w_end 8 rfl ?_
            refine g_seq (c := words_quoted_c36) rfl ?_
            refine g_seq (c := words_quoted_c37) rfl ?_
            refine g_region (c := words_quoted_c39) rfl rfl ?_
            refine wl_v 0 rfl (v_move rfl) gn rfl ?_
            refine wl_v 1 rfl (v_bin rfl rfl rfl) gn rfl ?_
            refine w_end 2 rfl ?_
            by_cases hp102 : r97.2 = 0
            · have h := if_pos' hp102 h
              refine g_true (c := words_quoted_c40) rfl _ rfl ((eqi hp102)) ?_
              refine g_seq (c := words_quoted_c41) rfl ?_
              refine g_region (c := words_quoted_c43) rfl rfl ?_
              refine wl_v 0 rfl (v_move rfl) gn rfl ?_
              refine wl_v 1 rfl (v_assign rfl) gn rfl ?_
              refine wl_v 2 rfl (v_assign rfl) gn rfl ?_
              refine wl_v 3 rfl (v_assign rfl) gn rfl ?_
              refine w_end 4 rfl ?_
              refine g_nil 5 1 ?_
              have h := Out.inr hO1 h
              refine g_retR (c := words_quoted_c44) [.slice none 0 0, .int .i64 82, .int .i64 x48] rfl Tryd.func30 rfl (.tmp rfl (.tmp rfl (.tmp rfl (.nil)))) fun wr hLr => ?_
              have hMr : B.Loc w wr [.own (.slice none 0 0) 5 1 0 (([] : List Int).flatMap (eI .u8))] [St w []] := hLr.pick (rest := [.own (.slice A44 n45 c46) 5 1 n45 (x43.flatMap (eI .u8))]) (perm_of_idx [0] [1] rfl rfl (by kernel_rfl)) (sels [1] rfl)
              have hMi : ∀ e ∈ ([.own (.slice none 0 0) 5 1 0 (([] : List Int).flatMap (eI .u8))] : List Ent), e ∈ ([.own (.slice none 0 0) 5 1 0 (([] : List Int).flatMap (eI .u8)), .own (.slice A44 n45 c46) 5 1 n45 (x43.flatMap (eI .u8))] : List Ent) := sels [0] rfl
              show words_quoted_R w F  r (.returned (packV [.slice none 0 0, .int .i64 82, .int .i64 x48])) wr
              rw [h]
              exact ⟨none, 0, 0, rfl, hMr, (Ow.nil (z := w.heap.size))⟩
            · have h := if_neg' hp102 h
              refine g_false (c := words_quoted_c40) rfl _ rfl ((nei hp102)) ?_
              refine g_skip (c := words_quoted_c42) rfl ?_
              refine g_seq (c := words_quoted_c38) rfl ?_
              refine g_region (c := words_quoted_c45) rfl rfl ?_
              refine wl_v 0 rfl (v_move rfl) gn rfl ?_
              refine wl_v 1 rfl (v_move rfl) gn rfl ?_
              refine wl_s 2 rfl (s_litO (xs := ([r97.1] : List Int)) [.int .u8 r97.1] bs_44_1 rfl (by kernel_rfl) rfl rfl rfl rfl fun gb104 h105 => ?_) gn
              obtain ⟨x109, hv110, h⟩ := h
              obtain ⟨hb111, h⟩ := h
              refine wl_s 3 rfl (s_app (zs := x109) (cells' := x109.flatMap (eI .u8)) 1 ap_44 rfl rfl rfl h47 (Nat.le_refl _) (Src.ownF (hl := (hlI .u8)) (h1 := (hone_int .u8)) 0 rfl h105) (by rw [hv110, List.flatMap_append] <;> rfl) (app_len hv110 h105.hq) hb111 rfl rfl fun A106 c107 h108 => ?_) gn
              refine wl_v 4 rfl (v_assign rfl) gn rfl ?_
              refine w_end 5 rfl ?_
              refine g_region (c := words_quoted_c46) rfl rfl ?_
              refine wl_v 0 rfl (v_move rfl) gn rfl ?_
              refine wl_v 1 rfl (v_move rfl) gn rfl ?_
              refine wl_v 2 rfl (v_bin rfl rfl rfl) gn rfl ?_
              refine wl_v 3 rfl (v_assign rfl) gn rfl ?_
              refine w_end 4 rfl ?_
              refine g_inBlock ?_
              refine g_goto (c := words_quoted_c19) [.code (.seq .skip words_quoted_c9), .inScope words_quoted_c3] rfl rfl ?_
              refine g_seq rfl ?_
              refine g_skip rfl ?_
              have ih := Out.inl hO1 h
              exact g_go [0, 1] (ih A106 (n45 + 1) c107 h108) ⟨rfl, rfl, rfl, rfl, trivial⟩ (.cons _ (.cons_cons _ (.slnil))) rfl
          · have h := if_neg' hp93 h
            refine g_false (c := words_quoted_c32) rfl _ rfl ((nei hp93)) ?_
            refine g_seq (c := words_quoted_c34) rfl ?_
            refine g_region (c := words_quoted_c47) rfl rfl ?_
            refine wl_v 0 rfl (v_move rfl) gn rfl ?_
            refine wl_v 1 rfl (v_move rfl) gn rfl ?_
            refine wl_s 2 rfl (s_litO (xs := ([bt x1 x48] : List Int)) [.int .u8 (bt x1 x48)] bs_44_1 rfl (by kernel_rfl) rfl rfl rfl rfl fun gb113 h114 => ?_) gn
            obtain ⟨x118, hv119, h⟩ := h
            obtain ⟨hb120, h⟩ := h
            refine wl_s 3 rfl (s_app (zs := x118) (cells' := x118.flatMap (eI .u8)) 1 ap_44 rfl rfl rfl h47 (Nat.le_refl _) (Src.ownF (hl := (hlI .u8)) (h1 := (hone_int .u8)) 0 rfl h114) (by rw [hv119, List.flatMap_append] <;> rfl) (app_len hv119 h114.hq) hb120 rfl rfl fun A115 c116 h117 => ?_) gn
            refine wl_v 4 rfl (v_assign rfl) gn rfl ?_
            refine w_end 5 rfl ?_
            refine g_region (c := words_quoted_c48) rfl rfl ?_
            refine wl_v 0 rfl (v_move rfl) gn rfl ?_
            refine wl_v 1 rfl (v_bin rfl rfl rfl) gn rfl ?_
            refine wl_v 2 rfl (v_assign rfl) gn rfl ?_
            refine w_end 3 rfl ?_
            refine g_inBlock ?_
            refine g_goto (c := words_quoted_c19) [.code (.seq .skip words_quoted_c9), .inScope words_quoted_c3] rfl rfl ?_
            refine g_seq rfl ?_
            refine g_skip rfl ?_
            have ih := Out.inl hO1 h
            exact g_go [0, 1] (ih A115 (n45 + 1) c116 h117) ⟨rfl, rfl, rfl, rfl, trivial⟩ (.cons _ (.cons_cons _ (.slnil))) rfl
    refine g_region (c := words_quoted_c12) rfl rfl ?_
    refine wl_v 0 rfl (v_move rfl) gn rfl ?_
    refine wl_v 1 rfl (v_move rfl) gn rfl ?_
    refine wl_v 2 rfl (v_lenS un_9 rfl) gn rfl ?_
    refine wl_v 3 rfl (v_bin rfl rfl rfl) gn rfl ?_
    refine wl_v 4 rfl (v_move rfl) gn rfl ?_
    by_cases hp121 : x48 = (x1.size : Int)
    · have h := if_pos' hp121 h
      refine w_bool 18 rfl ((eqi hp121)) ?_
      refine wl_pass 5 rfl (ps 18 rfl rfl rfl) ?_
      refine wl_pass 6 rfl (ps 18 rfl rfl rfl) ?_
      refine wl_pass 7 rfl (ps 18 rfl rfl rfl) ?_
      refine wl_pass 8 rfl (ps 18 rfl rfl rfl) ?_
      refine wl_v 9 rfl (v_pick (b := true) rfl rfl) gn rfl ?_
      refine w_end 10 rfl ?_
      exact g_go [0, 1] (j2 true h) ⟨rfl, rfl, rfl, rfl, rfl, trivial⟩ (.cons_cons _ (.slnil)) rfl
    · have h := if_neg' hp121 h
      refine w_bool 18 rfl ((nei hp121)) ?_
      refine wl_v 5 rfl (v_move rfl) (gy 18 rfl rfl) rfl ?_
      refine wl_v 6 rfl (v_move rfl) (gy 18 rfl rfl) rfl ?_
      obtain ⟨hb122, h⟩ := h
      refine wl_v 7 rfl (v_indexS un_9 rfl rfl hb122) (gy 18 rfl rfl) rfl ?_
      refine wl_v 8 rfl (v_bin rfl rfl rfl) (gy 18 rfl rfl) rfl ?_
      refine wl_v 9 rfl (v_pick (b := false) rfl rfl) gn rfl ?_
      refine w_end 10 rfl ?_
      exact g_go [0, 1] (j2 ((bt x1 x48) == 10) h) ⟨rfl, rfl, rfl, rfl, rfl, trivial⟩ (.cons_cons _ (.slnil)) rfl
  refine g_nil 5 1 ?_
  exact g_go [0, 1] (key1 _ h none 0 0 (Ow.nil (z := w.heap.size))) ⟨rfl, rfl, rfl, rfl, trivial⟩ (.cons_cons _ (.slnil)) rfl
end Go.Proofs.YtkaejoffnkhbpaaDoor.K
