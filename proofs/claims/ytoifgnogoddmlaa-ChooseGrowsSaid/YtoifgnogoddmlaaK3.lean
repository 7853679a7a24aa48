/- What the machine's calls do, function by function, printed by my own tool. Condition of each: its relation holds of the answer, and what is handed in lies in memory as told. -/
import Derived.Test.YtoifgnogoddmlaaK2
set_option linter.unusedVariables false
set_option maxRecDepth 100000
set_option maxHeartbeats 4000000
namespace Go.Proofs.Ytoifgnogoddmlaa.K
open Go.Proofs.Ytoifgnogoddmlaa.B Go.Proofs.Ytoifgnogoddmlaa.R Go.RowKit
noncomputable abbrev trellisref32_Way_c0 : Code := bodyOf Try.f40
noncomputable abbrev trellisref32_Way_c1 : Code := Code.fst trellisref32_Way_c0
noncomputable abbrev trellisref32_Way_c2 : Code := Code.snd trellisref32_Way_c0
noncomputable abbrev trellisref32_Way_c3 : Code := Code.fst trellisref32_Way_c2
noncomputable abbrev trellisref32_Way_c4 : Code := Code.snd trellisref32_Way_c2
noncomputable abbrev trellisref32_Way_c5 : Code := Code.fst trellisref32_Way_c4
noncomputable abbrev trellisref32_Way_c6 : Code := Code.snd trellisref32_Way_c4
noncomputable abbrev trellisref32_Way_c7 : Code := Code.fst trellisref32_Way_c6
noncomputable abbrev trellisref32_Way_c8 : Code := Code.snd trellisref32_Way_c6
noncomputable abbrev trellisref32_Way_c9 : Code := Code.fst trellisref32_Way_c7
noncomputable abbrev trellisref32_Way_c10 : Code := Code.fst trellisref32_Way_c9
noncomputable abbrev trellisref32_Way_c11 : Code := Code.fst trellisref32_Way_c10
noncomputable abbrev trellisref32_Way_c12 : Code := Code.snd trellisref32_Way_c10
noncomputable abbrev trellisref32_Way_c13 : Code := Code.fst trellisref32_Way_c11
noncomputable abbrev trellisref32_Way_c14 : Code := Code.snd trellisref32_Way_c11
noncomputable abbrev trellisref32_Way_c15 : Code := Code.fst trellisref32_Way_c14
noncomputable abbrev trellisref32_Way_c16 : Code := Code.snd trellisref32_Way_c14
noncomputable abbrev trellisref32_Way_c17 : Code := Code.fst trellisref32_Way_c12
noncomputable abbrev trellisref32_Way_c18 : Code := Code.fst trellisref32_Way_c17
noncomputable abbrev trellisref32_Way_c19 : Code := Code.snd trellisref32_Way_c17
noncomputable abbrev trellisref32_Way_c20 : Code := Code.fst trellisref32_Way_c8
noncomputable abbrev trellisref32_Way_c21 : Code := Code.snd trellisref32_Way_c8
abbrev trellisref32_Way_R (w : World) (F : Nat → Prop) (r : List Int) : Ending → World → Prop := fun e w' => ∃ A0 : Option Addr, ∃ n0 : Nat, ∃ c0 : Nat, e = .returned (.slice A0 n0 c0) ∧ B.Loc w w' [.own (.slice A0 n0 c0) 3 1 n0 (r.flatMap (eI .i64))] [St w []] ∧ Ow w.heap.size A0 n0 c0 r
noncomputable abbrev trellisref32_Way_C (w : World) (F : Nat → Prop) (r : List Int) : Cx := ⟨Try.prog, 40, Try.f40, 25, trellisref32_Way_R w F  r, w⟩
theorem trellisref32_Way_calls (w : World) (F : Nat → Prop) (x1 : List api_Node) (x6 : api_Range) (A2 : Option Addr) (n3 : Nat) (c4 : Nat) (h5 : Rw k_api_Node w (St w []).av A2 n3 c4 x1) (hF : ∀ b, F b → b < w.heap.size ∧ ∀ o ∈ ([] : List (List Nat)), b ∉ o) (hL0 : B.Loc w w [] [Sm w.heap.size F w [], St w []]) (r : List Int) (h : trellisref32_Way x1 x6 r) : Calls Try.prog 40 #[.slice A2 n3 c4, .agg #[.int .i64 x6.from_, .int .i64 x6.to]] w (trellisref32_Way_R w F  r) := by
  unfold trellisref32_Way at h
  refine calls_of_Loc (vs := [.slice A2 n3 c4, .agg #[.int .i64 x6.from_, .int .i64 x6.to]]) 25 Try.func40 rfl Try.ntmps40 rfl hL0 ?_
  show G (trellisref32_Way_C w F r) _ _ _ _
  refine g_seq (c := trellisref32_Way_c0) rfl ?_
  refine g_region (c := trellisref32_Way_c1) rfl rfl ?_
  refine wl_s 0 rfl (s_box [.int .i64 x6.from_, .int .i64 x6.to] rfl rfl rfl fun gb7 => ?_) gn
  refine wl_v 1 rfl (v_assign rfl) gn rfl ?_
  refine w_end 2 rfl ?_
  refine g_seq (c := trellisref32_Way_c2) rfl ?_
  refine g_region (c := trellisref32_Way_c3) rfl rfl ?_
  refine wl_v 0 rfl (v_assign rfl) gn rfl ?_
  refine w_end 1 rfl ?_
  refine g_seq (c := trellisref32_Way_c4) rfl ?_
  obtain ⟨r12, hv13, h⟩ := h
  obtain ⟨r25, hv26, h⟩ := h
  have hns : Region.noSelect (Code.ops trellisref32_Way_c5) = true := by kernel_rfl
  refine g_drawF (c := trellisref32_Way_c5) [.box gb7 24 [.int .i64 x6.from_, .int .i64 x6.to]] [Sm w.heap.size F w [], St w []] [] 6 rfl rfl mix rfl (.cons_cons _ (.slnil)) (sels [0, 1] rfl) ?_
  refine wf_v 0 rfl (v_move rfl) gn rfl hns (by kernel_rfl) (by kernel_rfl) rfl rfl ?_
  refine wf_v 1 rfl (v_move rfl) gn rfl hns (by kernel_rfl) (by kernel_rfl) rfl rfl ?_
  refine wf_v 3 rfl (v_ldB [.int .i64 x6.from_, .int .i64 x6.to] 0 ld_24 rfl rfl rfl rfl) gn rfl hns (by kernel_rfl) (by kernel_rfl) rfl rfl ?_
  refine wf_all [2] (by kernel_rfl) rfl ⟨on_s 2 rfl gn rfl (s_call [.slice A2 n3 c4, .int .i64 (-1)] rfl Try.func53 rfl rfl rfl fun w92 hL93 => ?_), trivial⟩
  have hp94 : List.Perm ([.box gb7 24 [.int .i64 x6.from_, .int .i64 x6.to]] : List Ent) (([] : List Ent) ++ ([.box gb7 24 [.int .i64 x6.from_, .int .i64 x6.to]] : List Ent)) := perm_of_idx [] [0] rfl rfl (by kernel_rfl)
  refine Calls.mono (trellisref32_Row_calls w92 (Fl ([] : List Snap)) x1 (-1) A2 n3 c4 (Rw.mono h5 (hL93.toSt hp94 (me 1 rfl))) (hL93.hFl (Sl := ([] : List Snap)) hp94 (sels [] rfl)) (hL93.into hp94 (Fl ([] : List Snap))) r12 hv13) ?_
  rintro _ w99 ⟨A95, n96, c97, rfl, hM100, h98⟩
  have hL101 := hL93.call hp94 hM100
  refine ⟨_, _, _, rfl, hL101, ?_⟩
  refine ⟨sels [1] rfl, sels [0, 1] rfl, ?_⟩
  refine wf_all [4] (by kernel_rfl) rfl ⟨on_s 4 rfl gn rfl (s_call [.slice A2 n3 c4, .slice A95 n96 c97, .agg #[.int .i64 x6.from_, .int .i64 x6.to]] rfl Try.func52 rfl rfl rfl fun w108 hL109 => ?_), trivial⟩
  have hp110 : List.Perm ([.own (.slice A95 n96 c97) 3 1 n96 (r12.flatMap (eI .i64)), .box gb7 24 [.int .i64 x6.from_, .int .i64 x6.to]] : List Ent) (([] : List Ent) ++ ([.own (.slice A95 n96 c97) 3 1 n96 (r12.flatMap (eI .i64)), .box gb7 24 [.int .i64 x6.from_, .int .i64 x6.to]] : List Ent)) := perm_of_idx [] [0, 1] rfl rfl (by kernel_rfl)
  refine Calls.mono (trellisref32_first_calls w108 (Fl ([] : List Snap)) x1 r12 x6 A2 n3 c4 A95 n96 c97 (Rw.mono h5 (hL109.toSt hp110 (me 1 rfl))) (hL109.argO (dk := (kInt .i64)) hp110 [] rfl 0 rfl rfl (Ow.weak hL93.env.size h98) (me 0 rfl) (Cells.flat _)) (hL109.hFl (Sl := ([] : List Snap)) hp110 (sels [] rfl)) (hL109.into hp110 (Fl ([] : List Snap))) r25 hv26) ?_
  rintro _ w111 ⟨rfl, hM112⟩
  have hL113 := hL109.call hp110 hM112
  refine ⟨_, _, _, rfl, hL113, ?_⟩
  refine ⟨sels [1] rfl, sels [0, 1] rfl, ?_⟩
  refine wf_v 5 rfl (v_assign rfl) gn rfl hns (by kernel_rfl) (by kernel_rfl) rfl rfl ?_
  refine wf_end (by kernel_rfl) ?_
  refine g_seq (c := trellisref32_Way_c6) rfl ?_
  refine g_block (c := trellisref32_Way_c7) rfl ?_
  refine g_loop (c := trellisref32_Way_c9) rfl ?_
  have key1 : ∀ s, Rounds (fun (s : (List Int) × Int) o => trellisref32_Way_b1 x1 x6 s.1 s.2 o) s r → (fun (s : (List Int) × Int) => ∀ (A232 : Option Addr) (n233 : Nat) (c234 : Nat) (h235 : Ow w.heap.size A232 n233 c234 s.1), G (trellisref32_Way_C w F r) [.code trellisref32_Way_c10, .inLoop trellisref32_Way_c10, .inBlock 0, .code trellisref32_Way_c8] [(0, .slice A2 n3 c4), (3, .pointer (some ⟨gb7, 0, none⟩)), (5, .slice A232 n233 c234), (6, .int .i64 s.2)] [.own (.slice A232 n233 c234) 3 1 n233 (s.1.flatMap (eI .i64)), .box gb7 24 [.int .i64 x6.from_, .int .i64 x6.to]] [Sm w.heap.size F w [], St w []]) s := by
    intro s hs
    refine Rounds.ind (mot := (fun (s : (List Int) × Int) => ∀ (A232 : Option Addr) (n233 : Nat) (c234 : Nat) (h235 : Ow w.heap.size A232 n233 c234 s.1), G (trellisref32_Way_C w F r) [.code trellisref32_Way_c10, .inLoop trellisref32_Way_c10, .inBlock 0, .code trellisref32_Way_c8] [(0, .slice A2 n3 c4), (3, .pointer (some ⟨gb7, 0, none⟩)), (5, .slice A232 n233 c234), (6, .int .i64 s.2)] [.own (.slice A232 n233 c234) 3 1 n233 (s.1.flatMap (eI .i64)), .box gb7 24 [.int .i64 x6.from_, .int .i64 x6.to]] [Sm w.heap.size F w [], St w []])) ?_ hs
    clear hs s
    intro s o1 h hO1
    obtain ⟨x231, x236⟩ := s
    show ∀ (A232 : Option Addr) (n233 : Nat) (c234 : Nat) (h235 : Ow w.heap.size A232 n233 c234 x231), G (trellisref32_Way_C w F r) [.code trellisref32_Way_c10, .inLoop trellisref32_Way_c10, .inBlock 0, .code trellisref32_Way_c8] [(0, .slice A2 n3 c4), (3, .pointer (some ⟨gb7, 0, none⟩)), (5, .slice A232 n233 c234), (6, .int .i64 x236)] [.own (.slice A232 n233 c234) 3 1 n233 (x231.flatMap (eI .i64)), .box gb7 24 [.int .i64 x6.from_, .int .i64 x6.to]] [Sm w.heap.size F w [], St w []]
    intro A232 n233 c234 h235
    have h : trellisref32_Way_b1 x1 x6 x231 x236 o1 := h
    unfold trellisref32_Way_b1 at h
    refine g_seq (c := trellisref32_Way_c10) rfl ?_
    refine g_seq (c := trellisref32_Way_c11) rfl ?_
    refine g_region (c := trellisref32_Way_c13) rfl rfl ?_
    refine wl_v 0 rfl (v_move rfl) gn rfl ?_
    refine wl_v 1 rfl (v_bin rfl rfl rfl) gn rfl ?_
    refine w_end 2 rfl ?_
    by_cases hp352 : x236 ≥ 0
    · have h := if_pos' hp352 h
      refine g_true (c := trellisref32_Way_c14) rfl _ rfl ((decide_eq_true hp352)) ?_
      refine g_skip (c := trellisref32_Way_c15) rfl ?_
      refine g_block (c := trellisref32_Way_c12) rfl ?_
      refine g_seq (c := trellisref32_Way_c17) rfl ?_
      refine g_region (c := trellisref32_Way_c18) rfl rfl ?_
      refine wl_v 0 rfl (v_move rfl) gn rfl ?_
      refine wl_v 1 rfl (v_move rfl) gn rfl ?_
      refine wl_s 2 rfl (s_litO (xs := ([x236] : List Int)) [.int .i64 x236] bs_45_1 rfl (by kernel_rfl) rfl rfl rfl rfl fun gb354 h355 => ?_) gn
      obtain ⟨x359, hv360, h⟩ := h
      obtain ⟨hb361, h⟩ := h
      refine wl_s 3 rfl (s_app (zs := x359) (cells' := x359.flatMap (eI .i64)) 1 ap_45 rfl rfl rfl h235 (Nat.le_refl _) (Src.ownF (hl := (hlI .i64)) (h1 := (hone_int .i64)) 0 rfl h355) (by rw [hv360, List.flatMap_append] <;> rfl) (app_len hv360 h355.hq) hb361 rfl rfl fun A356 c357 h358 => ?_) gn
      refine wl_v 4 rfl (v_assign rfl) gn rfl ?_
      refine w_end 5 rfl ?_
      obtain ⟨r365, hv366, h⟩ := h
      obtain ⟨r378, hv379, h⟩ := h
      have hns : Region.noSelect (Code.ops trellisref32_Way_c19) = true := by kernel_rfl
      refine g_drawF (c := trellisref32_Way_c19) [.own (.slice (some ⟨gb354, 0, none⟩) 1 1) 3 1 1 (([x236] : List Int).flatMap (eI .i64)), .own (.slice A356 (n233 + 1) c357) 3 1 (n233 + 1) (x359.flatMap (eI .i64)), .box gb7 24 [.int .i64 x6.from_, .int .i64 x6.to]] [Sm w.heap.size F w [], St w []] [] 7 rfl rfl mix rfl (.cons_cons _ (.cons_cons _ (.cons_cons _ (.slnil)))) (sels [0, 1] rfl) ?_
      refine wf_v 0 rfl (v_move rfl) gn rfl hns (by kernel_rfl) (by kernel_rfl) rfl rfl ?_
      refine wf_v 1 rfl (v_move rfl) gn rfl hns (by kernel_rfl) (by kernel_rfl) rfl rfl ?_
      refine wf_v 2 rfl (v_move rfl) gn rfl hns (by kernel_rfl) (by kernel_rfl) rfl rfl ?_
      refine wf_v 4 rfl (v_ldB [.int .i64 x6.from_, .int .i64 x6.to] 2 ld_24 rfl rfl rfl rfl) gn rfl hns (by kernel_rfl) (by kernel_rfl) rfl rfl ?_
      refine wf_all [3] (by kernel_rfl) rfl ⟨on_s 3 rfl gn rfl (s_call [.slice A2 n3 c4, .int .i64 x236] rfl Try.func53 rfl rfl rfl fun w445 hL446 => ?_), trivial⟩
      have hp447 : List.Perm ([.own (.slice (some ⟨gb354, 0, none⟩) 1 1) 3 1 1 (([x236] : List Int).flatMap (eI .i64)), .own (.slice A356 (n233 + 1) c357) 3 1 (n233 + 1) (x359.flatMap (eI .i64)), .box gb7 24 [.int .i64 x6.from_, .int .i64 x6.to]] : List Ent) (([] : List Ent) ++ ([.own (.slice (some ⟨gb354, 0, none⟩) 1 1) 3 1 1 (([x236] : List Int).flatMap (eI .i64)), .own (.slice A356 (n233 + 1) c357) 3 1 (n233 + 1) (x359.flatMap (eI .i64)), .box gb7 24 [.int .i64 x6.from_, .int .i64 x6.to]] : List Ent)) := perm_of_idx [] [0, 1, 2] rfl rfl (by kernel_rfl)
      refine Calls.mono (trellisref32_Row_calls w445 (Fl ([] : List Snap)) x1 x236 A2 n3 c4 (Rw.mono h5 (hL446.toSt hp447 (me 1 rfl))) (hL446.hFl (Sl := ([] : List Snap)) hp447 (sels [] rfl)) (hL446.into hp447 (Fl ([] : List Snap))) r365 hv366) ?_
      rintro _ w452 ⟨A448, n449, c450, rfl, hM453, h451⟩
      have hL454 := hL446.call hp447 hM453
      refine ⟨_, _, _, rfl, hL454, ?_⟩
      refine ⟨sels [1, 2, 3] rfl, sels [0, 1] rfl, ?_⟩
      refine wf_all [5] (by kernel_rfl) rfl ⟨on_s 5 rfl gn rfl (s_call [.slice A2 n3 c4, .slice A448 n449 c450, .agg #[.int .i64 x6.from_, .int .i64 x6.to]] rfl Try.func52 rfl rfl rfl fun w461 hL462 => ?_), trivial⟩
      have hp463 : List.Perm ([.own (.slice A448 n449 c450) 3 1 n449 (r365.flatMap (eI .i64)), .own (.slice (some ⟨gb354, 0, none⟩) 1 1) 3 1 1 (([x236] : List Int).flatMap (eI .i64)), .own (.slice A356 (n233 + 1) c357) 3 1 (n233 + 1) (x359.flatMap (eI .i64)), .box gb7 24 [.int .i64 x6.from_, .int .i64 x6.to]] : List Ent) (([] : List Ent) ++ ([.own (.slice A448 n449 c450) 3 1 n449 (r365.flatMap (eI .i64)), .own (.slice (some ⟨gb354, 0, none⟩) 1 1) 3 1 1 (([x236] : List Int).flatMap (eI .i64)), .own (.slice A356 (n233 + 1) c357) 3 1 (n233 + 1) (x359.flatMap (eI .i64)), .box gb7 24 [.int .i64 x6.from_, .int .i64 x6.to]] : List Ent)) := perm_of_idx [] [0, 1, 2, 3] rfl rfl (by kernel_rfl)
      refine Calls.mono (trellisref32_first_calls w461 (Fl ([] : List Snap)) x1 r365 x6 A2 n3 c4 A448 n449 c450 (Rw.mono h5 (hL462.toSt hp463 (me 1 rfl))) (hL462.argO (dk := (kInt .i64)) hp463 [] rfl 0 rfl rfl (Ow.weak hL446.env.size h451) (me 0 rfl) (Cells.flat _)) (hL462.hFl (Sl := ([] : List Snap)) hp463 (sels [] rfl)) (hL462.into hp463 (Fl ([] : List Snap))) r378 hv379) ?_
      rintro _ w464 ⟨rfl, hM465⟩
      have hL466 := hL462.call hp463 hM465
      refine ⟨_, _, _, rfl, hL466, ?_⟩
      refine ⟨sels [1, 2, 3] rfl, sels [0, 1] rfl, ?_⟩
      refine wf_v 6 rfl (v_assign rfl) gn rfl hns (by kernel_rfl) (by kernel_rfl) rfl rfl ?_
      refine wf_end (by kernel_rfl) ?_
      refine g_inBlock ?_
      refine g_inLoop ?_
      have ih := Out.inl hO1 h
      exact g_go [0, 1] (ih A356 (n233 + 1) c357 h358) ⟨rfl, rfl, rfl, rfl, trivial⟩ (.cons _ (.cons _ (.cons_cons _ (.cons_cons _ (.slnil))))) rfl
    · have h := if_neg' hp352 h
      refine g_false (c := trellisref32_Way_c14) rfl _ rfl ((decide_eq_false hp352)) ?_
      refine g_exit (c := trellisref32_Way_c16) [.code trellisref32_Way_c8] rfl rfl ?_
      refine g_seq (c := trellisref32_Way_c8) rfl ?_
      refine g_region (c := trellisref32_Way_c20) rfl rfl ?_
      refine wl_v 0 rfl (v_move rfl) gn rfl ?_
      refine wl_v 1 rfl (v_assign rfl) gn rfl ?_
      refine w_end 2 rfl ?_
      have h := Out.inr hO1 h
      refine g_retR (c := trellisref32_Way_c21) [.slice A232 n233 c234] rfl Try.func40 rfl (.tmp rfl (.nil)) fun wr hLr => ?_
      have hMr : B.Loc w wr [.own (.slice A232 n233 c234) 3 1 n233 (x231.flatMap (eI .i64))] [St w []] := hLr.pick (rest := [.box gb7 24 [.int .i64 x6.from_, .int .i64 x6.to]]) (perm_of_idx [0] [1] rfl rfl (by kernel_rfl)) (sels [1] rfl)
      have hMi : ∀ e ∈ ([.own (.slice A232 n233 c234) 3 1 n233 (x231.flatMap (eI .i64))] : List Ent), e ∈ ([.own (.slice A232 n233 c234) 3 1 n233 (x231.flatMap (eI .i64)), .box gb7 24 [.int .i64 x6.from_, .int .i64 x6.to]] : List Ent) := sels [0] rfl
      show trellisref32_Way_R w F  r (.returned (packV [.slice A232 n233 c234])) wr
      rw [h]
      exact ⟨A232, n233, c234, rfl, hMr, h235⟩
  refine g_nil 3 1 ?_
  exact g_go [0, 1] (key1 _ h none 0 0 (Ow.nil (z := w.heap.size))) ⟨rfl, rfl, rfl, rfl, trivial⟩ (.cons_cons _ (.cons _ (.cons_cons _ (.slnil)))) rfl
noncomputable abbrev trellisref32_Grow_c0 : Code := bodyOf Try.f17
noncomputable abbrev trellisref32_Grow_c1 : Code := Code.fst trellisref32_Grow_c0
noncomputable abbrev trellisref32_Grow_c2 : Code := Code.snd trellisref32_Grow_c0
noncomputable abbrev trellisref32_Grow_c3 : Code := Code.fst trellisref32_Grow_c2
noncomputable abbrev trellisref32_Grow_c4 : Code := Code.snd trellisref32_Grow_c2
noncomputable abbrev trellisref32_Grow_c5 : Code := Code.fst trellisref32_Grow_c4
noncomputable abbrev trellisref32_Grow_c6 : Code := Code.snd trellisref32_Grow_c4
noncomputable abbrev trellisref32_Grow_c7 : Code := Code.fst trellisref32_Grow_c6
noncomputable abbrev trellisref32_Grow_c8 : Code := Code.snd trellisref32_Grow_c6
noncomputable abbrev trellisref32_Grow_c9 : Code := Code.fst trellisref32_Grow_c7
noncomputable abbrev trellisref32_Grow_c10 : Code := Code.snd trellisref32_Grow_c7
noncomputable abbrev trellisref32_Grow_c11 : Code := Code.fst trellisref32_Grow_c10
noncomputable abbrev trellisref32_Grow_c12 : Code := Code.fst trellisref32_Grow_c11
noncomputable abbrev trellisref32_Grow_c13 : Code := Code.fst trellisref32_Grow_c12
noncomputable abbrev trellisref32_Grow_c14 : Code := Code.snd trellisref32_Grow_c12
noncomputable abbrev trellisref32_Grow_c15 : Code := Code.fst trellisref32_Grow_c13
noncomputable abbrev trellisref32_Grow_c16 : Code := Code.snd trellisref32_Grow_c13
noncomputable abbrev trellisref32_Grow_c17 : Code := Code.fst trellisref32_Grow_c16
noncomputable abbrev trellisref32_Grow_c18 : Code := Code.snd trellisref32_Grow_c16
noncomputable abbrev trellisref32_Grow_c19 : Code := Code.fst trellisref32_Grow_c14
noncomputable abbrev trellisref32_Grow_c20 : Code := Code.snd trellisref32_Grow_c14
noncomputable abbrev trellisref32_Grow_c21 : Code := Code.fst trellisref32_Grow_c19
noncomputable abbrev trellisref32_Grow_c22 : Code := Code.fst trellisref32_Grow_c21
noncomputable abbrev trellisref32_Grow_c23 : Code := Code.snd trellisref32_Grow_c21
noncomputable abbrev trellisref32_Grow_c24 : Code := Code.fst trellisref32_Grow_c23
noncomputable abbrev trellisref32_Grow_c25 : Code := Code.snd trellisref32_Grow_c23
noncomputable abbrev trellisref32_Grow_c26 : Code := Code.fst trellisref32_Grow_c25
noncomputable abbrev trellisref32_Grow_c27 : Code := Code.snd trellisref32_Grow_c25
noncomputable abbrev trellisref32_Grow_c28 : Code := Code.fst trellisref32_Grow_c8
noncomputable abbrev trellisref32_Grow_c29 : Code := Code.snd trellisref32_Grow_c8
abbrev trellisref32_Grow_R (w : World) (F : Nat → Prop) (r : api_Range) : Ending → World → Prop := fun e w' => e = .returned (.agg #[.int .i64 r.from_, .int .i64 r.to]) ∧ B.Loc w w' [] [St w []]
noncomputable abbrev trellisref32_Grow_C (w : World) (F : Nat → Prop) (r : api_Range) : Cx := ⟨Try.prog, 17, Try.f17, 48, trellisref32_Grow_R w F  r, w⟩
theorem trellisref32_Grow_calls (w : World) (F : Nat → Prop) (x1 : List api_Node) (x6 : api_Range) (A2 : Option Addr) (n3 : Nat) (c4 : Nat) (h5 : Rw k_api_Node w (St w []).av A2 n3 c4 x1) (hF : ∀ b, F b → b < w.heap.size ∧ ∀ o ∈ ([] : List (List Nat)), b ∉ o) (hL0 : B.Loc w w [] [Sm w.heap.size F w [], St w []]) (r : api_Range) (h : trellisref32_Grow x1 x6 r) : Calls Try.prog 17 #[.slice A2 n3 c4, .agg #[.int .i64 x6.from_, .int .i64 x6.to]] w (trellisref32_Grow_R w F  r) := by
  unfold trellisref32_Grow at h
  refine calls_of_Loc (vs := [.slice A2 n3 c4, .agg #[.int .i64 x6.from_, .int .i64 x6.to]]) 48 Try.func17 rfl Try.ntmps17 rfl hL0 ?_
  show G (trellisref32_Grow_C w F r) _ _ _ _
  refine g_seq (c := trellisref32_Grow_c0) rfl ?_
  refine g_region (c := trellisref32_Grow_c1) rfl rfl ?_
  refine wl_s 0 rfl (s_box [.int .i64 x6.from_, .int .i64 x6.to] rfl rfl rfl fun gb7 => ?_) gn
  refine wl_s 1 rfl (s_alloc [.int .i64 0, .int .i64 0] zr_24 rfl fun gb9 => ?_) gn
  refine w_end 2 rfl ?_
  refine g_seq (c := trellisref32_Grow_c2) rfl ?_
  refine g_region (c := trellisref32_Grow_c3) rfl rfl ?_
  refine wl_v 0 rfl (v_ldB [.int .i64 x6.from_, .int .i64 x6.to] 1 ld_24 rfl rfl rfl rfl) gn rfl ?_
  obtain ⟨r14, hv15, h⟩ := h
  refine wl_s 1 rfl (s_call [.agg #[.int .i64 x6.from_, .int .i64 x6.to]] rfl Try.func39 rfl rfl rfl fun w11 hL12 => ?_) gn
  have hp13 : List.Perm ([.box gb9 24 [.int .i64 0, .int .i64 0], .box gb7 24 [.int .i64 x6.from_, .int .i64 x6.to]] : List Ent) (([] : List Ent) ++ ([.box gb9 24 [.int .i64 0, .int .i64 0], .box gb7 24 [.int .i64 x6.from_, .int .i64 x6.to]] : List Ent)) := perm_of_idx [] [0, 1] rfl rfl (by kernel_rfl)
  refine Calls.mono (trellisref32_taken_calls w11 (Fl ([] : List Snap)) x6 (hL12.hFl (Sl := ([] : List Snap)) hp13 (sels [] rfl)) (hL12.into hp13 (Fl ([] : List Snap))) r14 hv15) ?_
  rintro _ w16 ⟨rfl, hM17⟩
  have hL18 := hL12.call hp13 hM17
  refine ⟨_, _, _, rfl, hL18, ?_⟩
  refine wl_s 2 rfl (s_alloc [.int .i64 0, .int .i64 0] zr_24 rfl fun gb19 => ?_) gn
  refine wl_s 3 rfl (s_stB (vs := [.int .i64 r14.from_, .int .i64 r14.to]) (cs' := [.int .i64 r14.from_, .int .i64 r14.to]) (M' := [.box gb19 24 [.int .i64 r14.from_, .int .i64 r14.to], .box gb9 24 [.int .i64 0, .int .i64 0], .box gb7 24 [.int .i64 x6.from_, .int .i64 x6.to]]) 0 sz_24 rfl rfl rfl rfl rfl rfl rfl rfl rfl ?_) gn
  refine w_end 4 rfl ?_
  refine g_seq (c := trellisref32_Grow_c4) rfl ?_
  refine g_region (c := trellisref32_Grow_c5) rfl rfl ?_
  refine wl_v 0 rfl (v_move rfl) gn rfl ?_
  refine wl_v 1 rfl (v_ldB [.int .i64 x6.from_, .int .i64 x6.to] 2 ld_24 rfl rfl rfl rfl) gn rfl ?_
  obtain ⟨r24, hv25, h⟩ := h
  refine wl_s 2 rfl (s_call [.agg #[.int .i64 x6.from_, .int .i64 x6.to]] rfl Try.func39 rfl rfl rfl fun w21 hL22 => ?_) gn
  have hp23 : List.Perm ([.box gb19 24 [.int .i64 r14.from_, .int .i64 r14.to], .box gb9 24 [.int .i64 0, .int .i64 0], .box gb7 24 [.int .i64 x6.from_, .int .i64 x6.to]] : List Ent) (([] : List Ent) ++ ([.box gb19 24 [.int .i64 r14.from_, .int .i64 r14.to], .box gb9 24 [.int .i64 0, .int .i64 0], .box gb7 24 [.int .i64 x6.from_, .int .i64 x6.to]] : List Ent)) := perm_of_idx [] [0, 1, 2] rfl rfl (by kernel_rfl)
  refine Calls.mono (trellisref32_taken_calls w21 (Fl ([] : List Snap)) x6 (hL22.hFl (Sl := ([] : List Snap)) hp23 (sels [] rfl)) (hL22.into hp23 (Fl ([] : List Snap))) r24 hv25) ?_
  rintro _ w26 ⟨rfl, hM27⟩
  have hL28 := hL22.call hp23 hM27
  refine ⟨_, _, _, rfl, hL28, ?_⟩
  obtain ⟨r32, hv33, h⟩ := h
  refine wl_s 3 rfl (s_call [.slice A2 n3 c4, .agg #[.int .i64 r24.from_, .int .i64 r24.to]] rfl Try.func40 rfl rfl rfl fun w29 hL30 => ?_) gn
  have hp31 : List.Perm ([.box gb19 24 [.int .i64 r14.from_, .int .i64 r14.to], .box gb9 24 [.int .i64 0, .int .i64 0], .box gb7 24 [.int .i64 x6.from_, .int .i64 x6.to]] : List Ent) (([] : List Ent) ++ ([.box gb19 24 [.int .i64 r14.from_, .int .i64 r14.to], .box gb9 24 [.int .i64 0, .int .i64 0], .box gb7 24 [.int .i64 x6.from_, .int .i64 x6.to]] : List Ent)) := perm_of_idx [] [0, 1, 2] rfl rfl (by kernel_rfl)
  refine Calls.mono (trellisref32_Way_calls w29 (Fl ([] : List Snap)) x1 r24 A2 n3 c4 (Rw.mono h5 (hL30.toSt hp31 (me 1 rfl))) (hL30.hFl (Sl := ([] : List Snap)) hp31 (sels [] rfl)) (hL30.into hp31 (Fl ([] : List Snap))) r32 hv33) ?_
  rintro _ w39 ⟨A34, n35, c36, rfl, hM40, h37⟩
  have hL41 := hL30.call hp31 hM40
  refine ⟨_, _, _, rfl, hL41, ?_⟩
  refine wl_v 4 rfl (v_assign rfl) gn rfl ?_
  refine w_end 5 rfl ?_
  refine g_seq (c := trellisref32_Grow_c6) rfl ?_
  refine g_seq (c := trellisref32_Grow_c7) rfl ?_
  refine g_region (c := trellisref32_Grow_c9) rfl rfl ?_
  refine wl_v 0 rfl (v_assign rfl) gn rfl ?_
  refine w_end 1 rfl ?_
  refine g_block (c := trellisref32_Grow_c10) rfl ?_
  refine g_loop (c := trellisref32_Grow_c11) rfl ?_
  have key1 : ∀ s, Rounds (fun (s : Int × Int × Int) o => trellisref32_Grow_b1 r32 x1 x6 s.1 s.2.1 s.2.2 o) s r → (fun (s : Int × Int × Int) => ∀ (_ : Unit), G (trellisref32_Grow_C w F r) [.code trellisref32_Grow_c12, .inLoop trellisref32_Grow_c12, .inBlock 0, .code trellisref32_Grow_c8] [(0, .slice A2 n3 c4), (3, .pointer (some ⟨gb7, 0, none⟩)), (4, .pointer (some ⟨gb9, 0, none⟩)), (5, .pointer (some ⟨gb19, 0, none⟩)), (6, .slice A34 n35 c36), (7, .int .i64 s.1)] [.own (.slice A34 n35 c36) 3 1 n35 (r32.flatMap (eI .i64)), .box gb19 24 [.int .i64 s.2.1, .int .i64 s.2.2], .box gb9 24 [.int .i64 0, .int .i64 0], .box gb7 24 [.int .i64 x6.from_, .int .i64 x6.to]] [Sm w.heap.size F w [], St w []]) s := by
    intro s hs
    refine Rounds.ind (mot := (fun (s : Int × Int × Int) => ∀ (_ : Unit), G (trellisref32_Grow_C w F r) [.code trellisref32_Grow_c12, .inLoop trellisref32_Grow_c12, .inBlock 0, .code trellisref32_Grow_c8] [(0, .slice A2 n3 c4), (3, .pointer (some ⟨gb7, 0, none⟩)), (4, .pointer (some ⟨gb9, 0, none⟩)), (5, .pointer (some ⟨gb19, 0, none⟩)), (6, .slice A34 n35 c36), (7, .int .i64 s.1)] [.own (.slice A34 n35 c36) 3 1 n35 (r32.flatMap (eI .i64)), .box gb19 24 [.int .i64 s.2.1, .int .i64 s.2.2], .box gb9 24 [.int .i64 0, .int .i64 0], .box gb7 24 [.int .i64 x6.from_, .int .i64 x6.to]] [Sm w.heap.size F w [], St w []])) ?_ hs
    clear hs s
    intro s o1 h hO1
    obtain ⟨x139, x140, x141⟩ := s
    show ∀ (_ : Unit), G (trellisref32_Grow_C w F r) [.code trellisref32_Grow_c12, .inLoop trellisref32_Grow_c12, .inBlock 0, .code trellisref32_Grow_c8] [(0, .slice A2 n3 c4), (3, .pointer (some ⟨gb7, 0, none⟩)), (4, .pointer (some ⟨gb9, 0, none⟩)), (5, .pointer (some ⟨gb19, 0, none⟩)), (6, .slice A34 n35 c36), (7, .int .i64 x139)] [.own (.slice A34 n35 c36) 3 1 n35 (r32.flatMap (eI .i64)), .box gb19 24 [.int .i64 x140, .int .i64 x141], .box gb9 24 [.int .i64 0, .int .i64 0], .box gb7 24 [.int .i64 x6.from_, .int .i64 x6.to]] [Sm w.heap.size F w [], St w []]
    intro _
    have h : trellisref32_Grow_b1 r32 x1 x6 x139 x140 x141 o1 := h
    unfold trellisref32_Grow_b1 at h
    refine g_seq (c := trellisref32_Grow_c12) rfl ?_
    refine g_seq (c := trellisref32_Grow_c13) rfl ?_
    refine g_region (c := trellisref32_Grow_c15) rfl rfl ?_
    refine wl_v 0 rfl (v_move rfl) gn rfl ?_
    refine wl_v 1 rfl (v_move rfl) gn rfl ?_
    refine wl_v 2 rfl (v_lenQ un_45 rfl (Ow.weak hL30.env.size h37).hq) gn rfl ?_
    refine wl_v 3 rfl (v_bin rfl rfl rfl) gn rfl ?_
    refine w_end 4 rfl ?_
    by_cases hp238 : x139 < (r32.length : Int)
    · have h := if_pos' hp238 h
      refine g_true (c := trellisref32_Grow_c16) rfl _ rfl ((decide_eq_true hp238)) ?_
      refine g_skip (c := trellisref32_Grow_c17) rfl ?_
      refine g_seq (c := trellisref32_Grow_c14) rfl ?_
      refine g_block (c := trellisref32_Grow_c19) rfl ?_
      refine g_seq (c := trellisref32_Grow_c21) rfl ?_
      refine g_region (c := trellisref32_Grow_c22) rfl rfl ?_
      refine wl_v 0 rfl (v_move rfl) gn rfl ?_
      refine wl_v 1 rfl (v_move rfl) gn rfl ?_
      refine wl_v 2 rfl (v_move rfl) gn rfl ?_
      obtain ⟨hb239, h⟩ := h
      refine wl_v 3 rfl (v_idxO slE_45 rfl rfl (Ow.weak hL30.env.size h37) hb239) gn rfl ?_
      refine wl_v 4 rfl (v_ldO1 (.int .i64 (ix r32 x139)) 0 ld_3 rfl rfl (fm_get0 (hlI .i64) hb239 rfl)) gn rfl ?_
      obtain ⟨hb240, h⟩ := h
      have hr241 := Rw.readF (s := St w []) (hl := hl_api_Node) (h1 := h1_api_Node) h5 hb240
      refine wl_v 5 rfl (v_idxR (s := St w []) slE_22 rfl rfl h5 hb240) gn rfl ?_
      refine wl_v 6 rfl (v_ldA (St w []) ld_39 rfl hr241 rfl (me 1 rfl)) gn rfl ?_
      refine wl_s 7 rfl (s_alloc [.string (⟨#[]⟩ : ByteArray), .bool false, .string (⟨#[]⟩ : ByteArray), .int .i64 0, .int .i64 0, .int .i64 0, .int .i64 0] zr_39 rfl fun gb242 => ?_) gn
      refine wl_s 8 rfl (s_stB (vs := [.string ((ix x1 (ix r32 x139)).name), .bool ((ix x1 (ix r32 x139)).named), .string ((ix x1 (ix r32 x139)).field), .int .i64 ((ix x1 (ix r32 x139)).from_), .int .i64 ((ix x1 (ix r32 x139)).to), .int .i64 ((ix x1 (ix r32 x139)).kids), .int .i64 ((ix x1 (ix r32 x139)).leaf)]) (cs' := [.string ((ix x1 (ix r32 x139)).name), .bool ((ix x1 (ix r32 x139)).named), .string ((ix x1 (ix r32 x139)).field), .int .i64 ((ix x1 (ix r32 x139)).from_), .int .i64 ((ix x1 (ix r32 x139)).to), .int .i64 ((ix x1 (ix r32 x139)).kids), .int .i64 ((ix x1 (ix r32 x139)).leaf)]) (M' := [.box gb242 39 [.string ((ix x1 (ix r32 x139)).name), .bool ((ix x1 (ix r32 x139)).named), .string ((ix x1 (ix r32 x139)).field), .int .i64 ((ix x1 (ix r32 x139)).from_), .int .i64 ((ix x1 (ix r32 x139)).to), .int .i64 ((ix x1 (ix r32 x139)).kids), .int .i64 ((ix x1 (ix r32 x139)).leaf)], .own (.slice A34 n35 c36) 3 1 n35 (r32.flatMap (eI .i64)), .box gb19 24 [.int .i64 x140, .int .i64 x141], .box gb9 24 [.int .i64 0, .int .i64 0], .box gb7 24 [.int .i64 x6.from_, .int .i64 x6.to]]) 0 sz_39 rfl rfl rfl rfl rfl rfl rfl rfl rfl ?_) gn
      refine w_end 9 rfl ?_
      refine g_seq (c := trellisref32_Grow_c23) rfl ?_
      obtain ⟨r247, hv248, h⟩ := h
      by_cases hp252 : (ix x1 (ix r32 x139)).from_ = r247.from_
      · have h := if_pos' hp252 h
        obtain ⟨r256, hv257, h⟩ := h
        have hns : Region.noSelect (Code.ops trellisref32_Grow_c24) = true := by kernel_rfl
        refine g_drawF (c := trellisref32_Grow_c24) [.box gb242 39 [.string ((ix x1 (ix r32 x139)).name), .bool ((ix x1 (ix r32 x139)).named), .string ((ix x1 (ix r32 x139)).field), .int .i64 ((ix x1 (ix r32 x139)).from_), .int .i64 ((ix x1 (ix r32 x139)).to), .int .i64 ((ix x1 (ix r32 x139)).kids), .int .i64 ((ix x1 (ix r32 x139)).leaf)], .own (.slice A34 n35 c36) 3 1 n35 (r32.flatMap (eI .i64)), .box gb19 24 [.int .i64 x140, .int .i64 x141], .box gb9 24 [.int .i64 0, .int .i64 0], .box gb7 24 [.int .i64 x6.from_, .int .i64 x6.to]] [Sm w.heap.size F w [], St w []] [] 14 rfl rfl mix rfl (.cons_cons _ (.cons_cons _ (.cons_cons _ (.cons_cons _ (.cons_cons _ (.slnil)))))) (sels [0, 1] rfl) ?_
        refine wf_v 0 rfl (v_fldB fo_39_3 rfl) gn rfl hns (by kernel_rfl) (by kernel_rfl) rfl rfl ?_
        refine wf_v 1 rfl (v_ldB1 0 ld_3 rfl rfl rfl) gn rfl hns (by kernel_rfl) (by kernel_rfl) rfl rfl ?_
        refine wf_v 2 rfl (v_ldB [.int .i64 x6.from_, .int .i64 x6.to] 4 ld_24 rfl rfl rfl rfl) gn rfl hns (by kernel_rfl) (by kernel_rfl) rfl rfl ?_
        refine wf_all [3] (by kernel_rfl) rfl ⟨on_s 3 rfl gn rfl (s_call [.agg #[.int .i64 x6.from_, .int .i64 x6.to]] rfl Try.func39 rfl rfl rfl fun w291 hL292 => ?_), trivial⟩
        have hp293 : List.Perm ([.box gb242 39 [.string ((ix x1 (ix r32 x139)).name), .bool ((ix x1 (ix r32 x139)).named), .string ((ix x1 (ix r32 x139)).field), .int .i64 ((ix x1 (ix r32 x139)).from_), .int .i64 ((ix x1 (ix r32 x139)).to), .int .i64 ((ix x1 (ix r32 x139)).kids), .int .i64 ((ix x1 (ix r32 x139)).leaf)], .own (.slice A34 n35 c36) 3 1 n35 (r32.flatMap (eI .i64)), .box gb19 24 [.int .i64 x140, .int .i64 x141], .box gb9 24 [.int .i64 0, .int .i64 0], .box gb7 24 [.int .i64 x6.from_, .int .i64 x6.to]] : List Ent) (([] : List Ent) ++ ([.box gb242 39 [.string ((ix x1 (ix r32 x139)).name), .bool ((ix x1 (ix r32 x139)).named), .string ((ix x1 (ix r32 x139)).field), .int .i64 ((ix x1 (ix r32 x139)).from_), .int .i64 ((ix x1 (ix r32 x139)).to), .int .i64 ((ix x1 (ix r32 x139)).kids), .int .i64 ((ix x1 (ix r32 x139)).leaf)], .own (.slice A34 n35 c36) 3 1 n35 (r32.flatMap (eI .i64)), .box gb19 24 [.int .i64 x140, .int .i64 x141], .box gb9 24 [.int .i64 0, .int .i64 0], .box gb7 24 [.int .i64 x6.from_, .int .i64 x6.to]] : List Ent)) := perm_of_idx [] [0, 1, 2, 3, 4] rfl rfl (by kernel_rfl)
        refine Calls.mono (trellisref32_taken_calls w291 (Fl ([] : List Snap)) x6 (hL292.hFl (Sl := ([] : List Snap)) hp293 (sels [] rfl)) (hL292.into hp293 (Fl ([] : List Snap))) r247 hv248) ?_
        rintro _ w294 ⟨rfl, hM295⟩
        have hL296 := hL292.call hp293 hM295
        refine ⟨_, _, _, rfl, hL296, ?_⟩
        refine ⟨sels [0, 1, 2, 3, 4] rfl, sels [0, 1] rfl, ?_⟩
        refine wf_v 4 rfl (v_field1 fd_24_0 rfl rfl) gn rfl hns (by kernel_rfl) (by kernel_rfl) rfl rfl ?_
        refine wf_v 5 rfl (v_bin rfl rfl rfl) gn rfl hns (by kernel_rfl) (by kernel_rfl) rfl rfl ?_
        refine wf_v 6 rfl (v_move rfl) gn rfl hns (by kernel_rfl) (by kernel_rfl) rfl rfl ?_
        refine wf_bool 34 rfl ((eqib hp252)) ?_
        refine wf_v 7 rfl (v_fldB fo_39_4 rfl) (gy 34 rfl rfl) rfl hns (by kernel_rfl) (by kernel_rfl) rfl rfl ?_
        refine wf_v 8 rfl (v_ldB1 0 ld_3 rfl rfl rfl) (gy 34 rfl rfl) rfl hns (by kernel_rfl) (by kernel_rfl) rfl rfl ?_
        refine wf_v 9 rfl (v_ldB [.int .i64 x6.from_, .int .i64 x6.to] 4 ld_24 rfl rfl rfl rfl) (gy 34 rfl rfl) rfl hns (by kernel_rfl) (by kernel_rfl) rfl rfl ?_
        refine wf_all [10] (by kernel_rfl) rfl ⟨on_s 10 rfl (gy 34 rfl rfl) rfl (s_call [.agg #[.int .i64 x6.from_, .int .i64 x6.to]] rfl Try.func39 rfl rfl rfl fun w303 hL304 => ?_), trivial⟩
        have hp305 : List.Perm ([.box gb242 39 [.string ((ix x1 (ix r32 x139)).name), .bool ((ix x1 (ix r32 x139)).named), .string ((ix x1 (ix r32 x139)).field), .int .i64 ((ix x1 (ix r32 x139)).from_), .int .i64 ((ix x1 (ix r32 x139)).to), .int .i64 ((ix x1 (ix r32 x139)).kids), .int .i64 ((ix x1 (ix r32 x139)).leaf)], .own (.slice A34 n35 c36) 3 1 n35 (r32.flatMap (eI .i64)), .box gb19 24 [.int .i64 x140, .int .i64 x141], .box gb9 24 [.int .i64 0, .int .i64 0], .box gb7 24 [.int .i64 x6.from_, .int .i64 x6.to]] : List Ent) (([] : List Ent) ++ ([.box gb242 39 [.string ((ix x1 (ix r32 x139)).name), .bool ((ix x1 (ix r32 x139)).named), .string ((ix x1 (ix r32 x139)).field), .int .i64 ((ix x1 (ix r32 x139)).from_), .int .i64 ((ix x1 (ix r32 x139)).to), .int .i64 ((ix x1 (ix r32 x139)).kids), .int .i64 ((ix x1 (ix r32 x139)).leaf)], .own (.slice A34 n35 c36) 3 1 n35 (r32.flatMap (eI .i64)), .box gb19 24 [.int .i64 x140, .int .i64 x141], .box gb9 24 [.int .i64 0, .int .i64 0], .box gb7 24 [.int .i64 x6.from_, .int .i64 x6.to]] : List Ent)) := perm_of_idx [] [0, 1, 2, 3, 4] rfl rfl (by kernel_rfl)
        refine Calls.mono (trellisref32_taken_calls w303 (Fl ([] : List Snap)) x6 (hL304.hFl (Sl := ([] : List Snap)) hp305 (sels [] rfl)) (hL304.into hp305 (Fl ([] : List Snap))) r256 hv257) ?_
        rintro _ w306 ⟨rfl, hM307⟩
        have hL308 := hL304.call hp305 hM307
        refine ⟨_, _, _, rfl, hL308, ?_⟩
        refine ⟨sels [0, 1, 2, 3, 4] rfl, sels [0, 1] rfl, ?_⟩
        refine wf_v 11 rfl (v_field1 fd_24_1 rfl rfl) (gy 34 rfl rfl) rfl hns (by kernel_rfl) (by kernel_rfl) rfl rfl ?_
        refine wf_v 12 rfl (v_bin rfl rfl rfl) (gy 34 rfl rfl) rfl hns (by kernel_rfl) (by kernel_rfl) rfl rfl ?_
        refine wf_v 13 rfl (v_pick (b := false) rfl rfl) gn rfl hns (by kernel_rfl) (by kernel_rfl) rfl rfl ?_
        refine wf_end (by kernel_rfl) ?_
        by_cases hp309 : (ix x1 (ix r32 x139)).to = r256.to
        · have h := if_pos' hp309 h
          refine g_false (c := trellisref32_Grow_c25) rfl _ rfl ((eqib hp309)) ?_
          refine g_skip (c := trellisref32_Grow_c27) rfl ?_
          refine g_inBlock ?_
          refine g_region (c := trellisref32_Grow_c20) rfl rfl ?_
          refine wl_v 0 rfl (v_move rfl) gn rfl ?_
          refine wl_v 1 rfl (v_bin rfl rfl rfl) gn rfl ?_
          refine wl_v 2 rfl (v_assign rfl) gn rfl ?_
          refine w_end 3 rfl ?_
          refine g_inLoop ?_
          have ih := Out.inl hO1 h
          exact g_go [0, 1] (ih ()) ⟨rfl, rfl, rfl, rfl, rfl, rfl, trivial⟩ (.cons _ (.cons_cons _ (.cons_cons _ (.cons_cons _ (.cons_cons _ (.slnil)))))) rfl
        · have h := if_neg' hp309 h
          refine g_true (c := trellisref32_Grow_c25) rfl _ rfl ((neib hp309)) ?_
          refine g_region (c := trellisref32_Grow_c26) rfl rfl ?_
          refine wl_v 0 rfl (v_fldB fo_39_3 rfl) gn rfl ?_
          refine wl_v 1 rfl (v_ldB1 0 ld_3 rfl rfl rfl) gn rfl ?_
          refine wl_v 2 rfl (v_fldB fo_39_4 rfl) gn rfl ?_
          refine wl_v 3 rfl (v_ldB1 0 ld_3 rfl rfl rfl) gn rfl ?_
          refine wl_v 4 rfl (v_build #[.int .i64 ((ix x1 (ix r32 x139)).from_), .int .i64 ((ix x1 (ix r32 x139)).to)] bd_24 rfl (by kernel_rfl)) gn rfl ?_
          refine wl_s 5 rfl (s_stB (vs := [.int .i64 ((ix x1 (ix r32 x139)).from_), .int .i64 ((ix x1 (ix r32 x139)).to)]) (cs' := [.int .i64 ((ix x1 (ix r32 x139)).from_), .int .i64 ((ix x1 (ix r32 x139)).to)]) (M' := [.box gb242 39 [.string ((ix x1 (ix r32 x139)).name), .bool ((ix x1 (ix r32 x139)).named), .string ((ix x1 (ix r32 x139)).field), .int .i64 ((ix x1 (ix r32 x139)).from_), .int .i64 ((ix x1 (ix r32 x139)).to), .int .i64 ((ix x1 (ix r32 x139)).kids), .int .i64 ((ix x1 (ix r32 x139)).leaf)], .own (.slice A34 n35 c36) 3 1 n35 (r32.flatMap (eI .i64)), .box gb19 24 [.int .i64 ((ix x1 (ix r32 x139)).from_), .int .i64 ((ix x1 (ix r32 x139)).to)], .box gb9 24 [.int .i64 0, .int .i64 0], .box gb7 24 [.int .i64 x6.from_, .int .i64 x6.to]]) 2 sz_24 rfl rfl rfl rfl rfl rfl rfl rfl rfl ?_) gn
          refine w_end 6 rfl ?_
          refine g_inBlock ?_
          refine g_region (c := trellisref32_Grow_c20) rfl rfl ?_
          refine wl_v 0 rfl (v_move rfl) gn rfl ?_
          refine wl_v 1 rfl (v_bin rfl rfl rfl) gn rfl ?_
          refine wl_v 2 rfl (v_assign rfl) gn rfl ?_
          refine w_end 3 rfl ?_
          refine g_inLoop ?_
          have ih := Out.inl hO1 h
          exact g_go [0, 1] (ih ()) ⟨rfl, rfl, rfl, rfl, rfl, rfl, trivial⟩ (.cons _ (.cons_cons _ (.cons_cons _ (.cons_cons _ (.cons_cons _ (.slnil)))))) rfl
      · have h := if_neg' hp252 h
        have hns : Region.noSelect (Code.ops trellisref32_Grow_c24) = true := by kernel_rfl
        refine g_drawF (c := trellisref32_Grow_c24) [.box gb242 39 [.string ((ix x1 (ix r32 x139)).name), .bool ((ix x1 (ix r32 x139)).named), .string ((ix x1 (ix r32 x139)).field), .int .i64 ((ix x1 (ix r32 x139)).from_), .int .i64 ((ix x1 (ix r32 x139)).to), .int .i64 ((ix x1 (ix r32 x139)).kids), .int .i64 ((ix x1 (ix r32 x139)).leaf)], .own (.slice A34 n35 c36) 3 1 n35 (r32.flatMap (eI .i64)), .box gb19 24 [.int .i64 x140, .int .i64 x141], .box gb9 24 [.int .i64 0, .int .i64 0], .box gb7 24 [.int .i64 x6.from_, .int .i64 x6.to]] [Sm w.heap.size F w [], St w []] [] 14 rfl rfl mix rfl (.cons_cons _ (.cons_cons _ (.cons_cons _ (.cons_cons _ (.cons_cons _ (.slnil)))))) (sels [0, 1] rfl) ?_
        refine wf_v 0 rfl (v_fldB fo_39_3 rfl) gn rfl hns (by kernel_rfl) (by kernel_rfl) rfl rfl ?_
        refine wf_v 1 rfl (v_ldB1 0 ld_3 rfl rfl rfl) gn rfl hns (by kernel_rfl) (by kernel_rfl) rfl rfl ?_
        refine wf_v 2 rfl (v_ldB [.int .i64 x6.from_, .int .i64 x6.to] 4 ld_24 rfl rfl rfl rfl) gn rfl hns (by kernel_rfl) (by kernel_rfl) rfl rfl ?_
        refine wf_all [3] (by kernel_rfl) rfl ⟨on_s 3 rfl gn rfl (s_call [.agg #[.int .i64 x6.from_, .int .i64 x6.to]] rfl Try.func39 rfl rfl rfl fun w328 hL329 => ?_), trivial⟩
        have hp330 : List.Perm ([.box gb242 39 [.string ((ix x1 (ix r32 x139)).name), .bool ((ix x1 (ix r32 x139)).named), .string ((ix x1 (ix r32 x139)).field), .int .i64 ((ix x1 (ix r32 x139)).from_), .int .i64 ((ix x1 (ix r32 x139)).to), .int .i64 ((ix x1 (ix r32 x139)).kids), .int .i64 ((ix x1 (ix r32 x139)).leaf)], .own (.slice A34 n35 c36) 3 1 n35 (r32.flatMap (eI .i64)), .box gb19 24 [.int .i64 x140, .int .i64 x141], .box gb9 24 [.int .i64 0, .int .i64 0], .box gb7 24 [.int .i64 x6.from_, .int .i64 x6.to]] : List Ent) (([] : List Ent) ++ ([.box gb242 39 [.string ((ix x1 (ix r32 x139)).name), .bool ((ix x1 (ix r32 x139)).named), .string ((ix x1 (ix r32 x139)).field), .int .i64 ((ix x1 (ix r32 x139)).from_), .int .i64 ((ix x1 (ix r32 x139)).to), .int .i64 ((ix x1 (ix r32 x139)).kids), .int .i64 ((ix x1 (ix r32 x139)).leaf)], .own (.slice A34 n35 c36) 3 1 n35 (r32.flatMap (eI .i64)), .box gb19 24 [.int .i64 x140, .int .i64 x141], .box gb9 24 [.int .i64 0, .int .i64 0], .box gb7 24 [.int .i64 x6.from_, .int .i64 x6.to]] : List Ent)) := perm_of_idx [] [0, 1, 2, 3, 4] rfl rfl (by kernel_rfl)
        refine Calls.mono (trellisref32_taken_calls w328 (Fl ([] : List Snap)) x6 (hL329.hFl (Sl := ([] : List Snap)) hp330 (sels [] rfl)) (hL329.into hp330 (Fl ([] : List Snap))) r247 hv248) ?_
        rintro _ w331 ⟨rfl, hM332⟩
        have hL333 := hL329.call hp330 hM332
        refine ⟨_, _, _, rfl, hL333, ?_⟩
        refine ⟨sels [0, 1, 2, 3, 4] rfl, sels [0, 1] rfl, ?_⟩
        refine wf_v 4 rfl (v_field1 fd_24_0 rfl rfl) gn rfl hns (by kernel_rfl) (by kernel_rfl) rfl rfl ?_
        refine wf_v 5 rfl (v_bin rfl rfl rfl) gn rfl hns (by kernel_rfl) (by kernel_rfl) rfl rfl ?_
        refine wf_v 6 rfl (v_move rfl) gn rfl hns (by kernel_rfl) (by kernel_rfl) rfl rfl ?_
        refine wf_bool 34 rfl ((neib hp252)) ?_
        refine wf_pass 7 rfl (ps 34 rfl rfl rfl) hns (by kernel_rfl) (by kernel_rfl) rfl rfl ?_
        refine wf_pass 8 rfl (ps 34 rfl rfl rfl) hns (by kernel_rfl) (by kernel_rfl) rfl rfl ?_
        refine wf_pass 9 rfl (ps 34 rfl rfl rfl) hns (by kernel_rfl) (by kernel_rfl) rfl rfl ?_
        refine wf_pass 10 rfl (ps 34 rfl rfl rfl) hns (by kernel_rfl) (by kernel_rfl) rfl rfl ?_
        refine wf_pass 11 rfl (ps 34 rfl rfl rfl) hns (by kernel_rfl) (by kernel_rfl) rfl rfl ?_
        refine wf_pass 12 rfl (ps 34 rfl rfl rfl) hns (by kernel_rfl) (by kernel_rfl) rfl rfl ?_
        refine wf_v 13 rfl (v_pick (b := true) rfl rfl) gn rfl hns (by kernel_rfl) (by kernel_rfl) rfl rfl ?_
        refine wf_end (by kernel_rfl) ?_
        refine g_true (c := trellisref32_Grow_c25) rfl _ rfl (rfl) ?_
        refine g_region (c := trellisref32_Grow_c26) rfl rfl ?_
        refine wl_v 0 rfl (v_fldB fo_39_3 rfl) gn rfl ?_
        refine wl_v 1 rfl (v_ldB1 0 ld_3 rfl rfl rfl) gn rfl ?_
        refine wl_v 2 rfl (v_fldB fo_39_4 rfl) gn rfl ?_
        refine wl_v 3 rfl (v_ldB1 0 ld_3 rfl rfl rfl) gn rfl ?_
        refine wl_v 4 rfl (v_build #[.int .i64 ((ix x1 (ix r32 x139)).from_), .int .i64 ((ix x1 (ix r32 x139)).to)] bd_24 rfl (by kernel_rfl)) gn rfl ?_
        refine wl_s 5 rfl (s_stB (vs := [.int .i64 ((ix x1 (ix r32 x139)).from_), .int .i64 ((ix x1 (ix r32 x139)).to)]) (cs' := [.int .i64 ((ix x1 (ix r32 x139)).from_), .int .i64 ((ix x1 (ix r32 x139)).to)]) (M' := [.box gb242 39 [.string ((ix x1 (ix r32 x139)).name), .bool ((ix x1 (ix r32 x139)).named), .string ((ix x1 (ix r32 x139)).field), .int .i64 ((ix x1 (ix r32 x139)).from_), .int .i64 ((ix x1 (ix r32 x139)).to), .int .i64 ((ix x1 (ix r32 x139)).kids), .int .i64 ((ix x1 (ix r32 x139)).leaf)], .own (.slice A34 n35 c36) 3 1 n35 (r32.flatMap (eI .i64)), .box gb19 24 [.int .i64 ((ix x1 (ix r32 x139)).from_), .int .i64 ((ix x1 (ix r32 x139)).to)], .box gb9 24 [.int .i64 0, .int .i64 0], .box gb7 24 [.int .i64 x6.from_, .int .i64 x6.to]]) 2 sz_24 rfl rfl rfl rfl rfl rfl rfl rfl rfl ?_) gn
        refine w_end 6 rfl ?_
        refine g_inBlock ?_
        refine g_region (c := trellisref32_Grow_c20) rfl rfl ?_
        refine wl_v 0 rfl (v_move rfl) gn rfl ?_
        refine wl_v 1 rfl (v_bin rfl rfl rfl) gn rfl ?_
        refine wl_v 2 rfl (v_assign rfl) gn rfl ?_
        refine w_end 3 rfl ?_
        refine g_inLoop ?_
        have ih := Out.inl hO1 h
        exact g_go [0, 1] (ih ()) ⟨rfl, rfl, rfl, rfl, rfl, rfl, trivial⟩ (.cons _ (.cons_cons _ (.cons_cons _ (.cons_cons _ (.cons_cons _ (.slnil)))))) rfl
    · have h := if_neg' hp238 h
      refine g_false (c := trellisref32_Grow_c16) rfl _ rfl ((decide_eq_false hp238)) ?_
      refine g_exit (c := trellisref32_Grow_c18) [.code trellisref32_Grow_c8] rfl rfl ?_
      refine g_seq (c := trellisref32_Grow_c8) rfl ?_
      refine g_region (c := trellisref32_Grow_c28) rfl rfl ?_
      refine wl_v 0 rfl (v_ldB [.int .i64 x140, .int .i64 x141] 1 ld_24 rfl rfl rfl rfl) gn rfl ?_
      refine wl_s 1 rfl (s_stB (vs := [.int .i64 x140, .int .i64 x141]) (cs' := [.int .i64 x140, .int .i64 x141]) (M' := [.own (.slice A34 n35 c36) 3 1 n35 (r32.flatMap (eI .i64)), .box gb19 24 [.int .i64 x140, .int .i64 x141], .box gb9 24 [.int .i64 x140, .int .i64 x141], .box gb7 24 [.int .i64 x6.from_, .int .i64 x6.to]]) 2 sz_24 rfl rfl rfl rfl rfl rfl rfl rfl rfl ?_) gn
      refine w_end 2 rfl ?_
      have h := Out.inr hO1 h
      refine g_retR (c := trellisref32_Grow_c29) [.agg #[.int .i64 x140, .int .i64 x141]] rfl Try.func17 rfl (.cell (cs := [.int .i64 x140, .int .i64 x141]) (us := [.int .i64 x140, .int .i64 x141]) 2 rfl ld_24 rfl rfl rfl (.nil)) fun wr hLr => ?_
      have hMr : B.Loc w wr [] [St w []] := hLr.pick (rest := [.own (.slice A34 n35 c36) 3 1 n35 (r32.flatMap (eI .i64)), .box gb19 24 [.int .i64 x140, .int .i64 x141], .box gb9 24 [.int .i64 x140, .int .i64 x141], .box gb7 24 [.int .i64 x6.from_, .int .i64 x6.to]]) (perm_of_idx [] [0, 1, 2, 3] rfl rfl (by kernel_rfl)) (sels [1] rfl)
      have hMi : ∀ e ∈ ([] : List Ent), e ∈ ([.own (.slice A34 n35 c36) 3 1 n35 (r32.flatMap (eI .i64)), .box gb19 24 [.int .i64 x140, .int .i64 x141], .box gb9 24 [.int .i64 x140, .int .i64 x141], .box gb7 24 [.int .i64 x6.from_, .int .i64 x6.to]] : List Ent) := sels [] rfl
      show trellisref32_Grow_R w F  r (.returned (packV [.agg #[.int .i64 x140, .int .i64 x141]])) wr
      rw [h]
      exact ⟨rfl, hMr⟩
  exact g_go [0, 1] (key1 _ h ()) ⟨rfl, rfl, rfl, rfl, rfl, rfl, trivial⟩ (.cons_cons _ (.cons_cons _ (.cons_cons _ (.cons_cons _ (.slnil))))) rfl
noncomputable abbrev trellisref32_Steps_c0 : Code := bodyOf Try.f15
noncomputable abbrev trellisref32_Steps_c1 : Code := Code.fst trellisref32_Steps_c0
noncomputable abbrev trellisref32_Steps_c2 : Code := Code.snd trellisref32_Steps_c0
noncomputable abbrev trellisref32_Steps_c3 : Code := Code.fst trellisref32_Steps_c2
noncomputable abbrev trellisref32_Steps_c4 : Code := Code.snd trellisref32_Steps_c2
noncomputable abbrev trellisref32_Steps_c5 : Code := Code.fst trellisref32_Steps_c4
noncomputable abbrev trellisref32_Steps_c6 : Code := Code.fst trellisref32_Steps_c5
noncomputable abbrev trellisref32_Steps_c7 : Code := Code.fst trellisref32_Steps_c6
noncomputable abbrev trellisref32_Steps_c8 : Code := Code.fst trellisref32_Steps_c7
noncomputable abbrev trellisref32_Steps_c9 : Code := Code.snd trellisref32_Steps_c7
noncomputable abbrev trellisref32_Steps_c10 : Code := Code.fst trellisref32_Steps_c9
noncomputable abbrev trellisref32_Steps_c11 : Code := Code.snd trellisref32_Steps_c9
noncomputable abbrev trellisref32_Steps_c12 : Code := Code.fst trellisref32_Steps_c11
noncomputable abbrev trellisref32_Steps_c13 : Code := Code.snd trellisref32_Steps_c11
noncomputable abbrev trellisref32_Steps_c14 : Code := Code.fst trellisref32_Steps_c12
noncomputable abbrev trellisref32_Steps_c15 : Code := Code.snd trellisref32_Steps_c12
noncomputable abbrev trellisref32_Steps_c16 : Code := Code.fst trellisref32_Steps_c15
noncomputable abbrev trellisref32_Steps_c17 : Code := Code.snd trellisref32_Steps_c15
noncomputable abbrev trellisref32_Steps_c18 : Code := Code.fst trellisref32_Steps_c16
noncomputable abbrev trellisref32_Steps_c19 : Code := Code.snd trellisref32_Steps_c16
abbrev trellisref32_Steps_R (w : World) (F : Nat → Prop) (r : List api_Range) : Ending → World → Prop := fun e w' => ∃ A0 : Option Addr, ∃ n0 : Nat, ∃ c0 : Nat, e = .returned (.slice A0 n0 c0) ∧ B.Loc w w' [.own (.slice A0 n0 c0) 24 2 n0 (r.flatMap enc_api_Range)] [St w []] ∧ Ow w.heap.size A0 n0 c0 r
noncomputable abbrev trellisref32_Steps_C (w : World) (F : Nat → Prop) (r : List api_Range) : Cx := ⟨Try.prog, 15, Try.f15, 28, trellisref32_Steps_R w F  r, w⟩
theorem trellisref32_Steps_calls (w : World) (F : Nat → Prop) (x1 : List api_Node) (x6 : api_Range) (A2 : Option Addr) (n3 : Nat) (c4 : Nat) (h5 : Rw k_api_Node w (St w []).av A2 n3 c4 x1) (hF : ∀ b, F b → b < w.heap.size ∧ ∀ o ∈ ([] : List (List Nat)), b ∉ o) (hL0 : B.Loc w w [] [Sm w.heap.size F w [], St w []]) (r : List api_Range) (h : trellisref32_Steps x1 x6 r) : Calls Try.prog 15 #[.slice A2 n3 c4, .agg #[.int .i64 x6.from_, .int .i64 x6.to]] w (trellisref32_Steps_R w F  r) := by
  unfold trellisref32_Steps at h
  refine calls_of_Loc (vs := [.slice A2 n3 c4, .agg #[.int .i64 x6.from_, .int .i64 x6.to]]) 28 Try.func15 rfl Try.ntmps15 rfl hL0 ?_
  show G (trellisref32_Steps_C w F r) _ _ _ _
  refine g_seq (c := trellisref32_Steps_c0) rfl ?_
  refine g_region (c := trellisref32_Steps_c1) rfl rfl ?_
  refine wl_s 0 rfl (s_box [.int .i64 x6.from_, .int .i64 x6.to] rfl rfl rfl fun gb7 => ?_) gn
  refine wl_v 1 rfl (v_assign rfl) gn rfl ?_
  refine w_end 2 rfl ?_
  refine g_seq (c := trellisref32_Steps_c2) rfl ?_
  refine g_region (c := trellisref32_Steps_c3) rfl rfl ?_
  refine wl_v 0 rfl (v_ldB [.int .i64 x6.from_, .int .i64 x6.to] 0 ld_24 rfl rfl rfl rfl) gn rfl ?_
  obtain ⟨r12, hv13, h⟩ := h
  refine wl_s 1 rfl (s_call [.agg #[.int .i64 x6.from_, .int .i64 x6.to]] rfl Try.func39 rfl rfl rfl fun w9 hL10 => ?_) gn
  have hp11 : List.Perm ([.box gb7 24 [.int .i64 x6.from_, .int .i64 x6.to]] : List Ent) (([] : List Ent) ++ ([.box gb7 24 [.int .i64 x6.from_, .int .i64 x6.to]] : List Ent)) := perm_of_idx [] [0] rfl rfl (by kernel_rfl)
  refine Calls.mono (trellisref32_taken_calls w9 (Fl ([] : List Snap)) x6 (hL10.hFl (Sl := ([] : List Snap)) hp11 (sels [] rfl)) (hL10.into hp11 (Fl ([] : List Snap))) r12 hv13) ?_
  rintro _ w14 ⟨rfl, hM15⟩
  have hL16 := hL10.call hp11 hM15
  refine ⟨_, _, _, rfl, hL16, ?_⟩
  refine wl_s 2 rfl (s_litO (xs := ([r12] : List api_Range)) [.int .i64 r12.from_, .int .i64 r12.to] bs_29_1 rfl (by kernel_rfl) rfl rfl rfl rfl fun gb18 h19 => ?_) gn
  refine wl_v 3 rfl (v_assign rfl) gn rfl ?_
  refine w_end 4 rfl ?_
  refine g_block (c := trellisref32_Steps_c4) rfl ?_
  refine g_loop (c := trellisref32_Steps_c5) rfl ?_
  have key1 : ∀ s, Rounds (fun (s : (List api_Range)) o => trellisref32_Steps_b1 x1 s o) s r → (fun (s : (List api_Range)) => ∀ (A45 : Option Addr) (n46 : Nat) (c47 : Nat) (h48 : Ow w.heap.size A45 n46 c47 s), G (trellisref32_Steps_C w F r) [.code trellisref32_Steps_c6, .inLoop trellisref32_Steps_c6, .inBlock 0] [(0, .slice A2 n3 c4), (5, .slice A45 n46 c47)] [.own (.slice A45 n46 c47) 24 2 n46 (s.flatMap enc_api_Range)] [Sm w.heap.size F w [], St w []]) s := by
    intro s hs
    refine Rounds.ind (mot := (fun (s : (List api_Range)) => ∀ (A45 : Option Addr) (n46 : Nat) (c47 : Nat) (h48 : Ow w.heap.size A45 n46 c47 s), G (trellisref32_Steps_C w F r) [.code trellisref32_Steps_c6, .inLoop trellisref32_Steps_c6, .inBlock 0] [(0, .slice A2 n3 c4), (5, .slice A45 n46 c47)] [.own (.slice A45 n46 c47) 24 2 n46 (s.flatMap enc_api_Range)] [Sm w.heap.size F w [], St w []])) ?_ hs
    clear hs s
    intro x44 o1 h hO1
    show ∀ (A45 : Option Addr) (n46 : Nat) (c47 : Nat) (h48 : Ow w.heap.size A45 n46 c47 x44), G (trellisref32_Steps_C w F r) [.code trellisref32_Steps_c6, .inLoop trellisref32_Steps_c6, .inBlock 0] [(0, .slice A2 n3 c4), (5, .slice A45 n46 c47)] [.own (.slice A45 n46 c47) 24 2 n46 (x44.flatMap enc_api_Range)] [Sm w.heap.size F w [], St w []]
    intro A45 n46 c47 h48
    have h : trellisref32_Steps_b1 x1 x44 o1 := h
    unfold trellisref32_Steps_b1 at h
    refine g_block (c := trellisref32_Steps_c6) rfl ?_
    refine g_seq (c := trellisref32_Steps_c7) rfl ?_
    refine g_region (c := trellisref32_Steps_c8) rfl rfl ?_
    refine wl_v 0 rfl (v_move rfl) gn rfl ?_
    refine wl_v 1 rfl (v_move rfl) gn rfl ?_
    refine wl_v 2 rfl (v_lenQ un_29 rfl h48.hq) gn rfl ?_
    refine wl_v 3 rfl (v_bin rfl rfl rfl) gn rfl ?_
    obtain ⟨hb72, h⟩ := h
    refine wl_v 4 rfl (v_idxO slE_29 rfl rfl h48 hb72) gn rfl ?_
    refine wl_v 5 rfl (v_ldO [.int .i64 ((ix x44 (w64 ((x44.length : Int) - 1))).from_), .int .i64 ((ix x44 (w64 ((x44.length : Int) - 1))).to)] 0 ld_24 rfl rfl (fm_one hl_api_Range hb72) rfl) gn rfl ?_
    refine wl_s 6 rfl (s_alloc [.int .i64 0, .int .i64 0] zr_24 rfl fun gb73 => ?_) gn
    refine wl_s 7 rfl (s_stB (vs := [.int .i64 ((ix x44 (w64 ((x44.length : Int) - 1))).from_), .int .i64 ((ix x44 (w64 ((x44.length : Int) - 1))).to)]) (cs' := [.int .i64 ((ix x44 (w64 ((x44.length : Int) - 1))).from_), .int .i64 ((ix x44 (w64 ((x44.length : Int) - 1))).to)]) (M' := [.box gb73 24 [.int .i64 ((ix x44 (w64 ((x44.length : Int) - 1))).from_), .int .i64 ((ix x44 (w64 ((x44.length : Int) - 1))).to)], .own (.slice A45 n46 c47) 24 2 n46 (x44.flatMap enc_api_Range)]) 0 sz_24 rfl rfl rfl rfl rfl rfl rfl rfl rfl ?_) gn
    refine w_end 8 rfl ?_
    refine g_seq (c := trellisref32_Steps_c9) rfl ?_
    refine g_region (c := trellisref32_Steps_c10) rfl rfl ?_
    refine wl_v 0 rfl (v_move rfl) gn rfl ?_
    refine wl_v 1 rfl (v_ldB [.int .i64 ((ix x44 (w64 ((x44.length : Int) - 1))).from_), .int .i64 ((ix x44 (w64 ((x44.length : Int) - 1))).to)] 0 ld_24 rfl rfl rfl rfl) gn rfl ?_
    obtain ⟨r78, hv79, h⟩ := h
    refine wl_s 2 rfl (s_call [.slice A2 n3 c4, .agg #[.int .i64 ((ix x44 (w64 ((x44.length : Int) - 1))).from_), .int .i64 ((ix x44 (w64 ((x44.length : Int) - 1))).to)]] rfl Try.func17 rfl rfl rfl fun w75 hL76 => ?_) gn
    have hp77 : List.Perm ([.box gb73 24 [.int .i64 ((ix x44 (w64 ((x44.length : Int) - 1))).from_), .int .i64 ((ix x44 (w64 ((x44.length : Int) - 1))).to)], .own (.slice A45 n46 c47) 24 2 n46 (x44.flatMap enc_api_Range)] : List Ent) (([] : List Ent) ++ ([.box gb73 24 [.int .i64 ((ix x44 (w64 ((x44.length : Int) - 1))).from_), .int .i64 ((ix x44 (w64 ((x44.length : Int) - 1))).to)], .own (.slice A45 n46 c47) 24 2 n46 (x44.flatMap enc_api_Range)] : List Ent)) := perm_of_idx [] [0, 1] rfl rfl (by kernel_rfl)
    refine Calls.mono (trellisref32_Grow_calls w75 (Fl ([] : List Snap)) x1 (ix x44 (w64 ((x44.length : Int) - 1))) A2 n3 c4 (Rw.mono h5 (hL76.toSt hp77 (me 1 rfl))) (hL76.hFl (Sl := ([] : List Snap)) hp77 (sels [] rfl)) (hL76.into hp77 (Fl ([] : List Snap))) r78 hv79) ?_
    rintro _ w80 ⟨rfl, hM81⟩
    have hL82 := hL76.call hp77 hM81
    refine ⟨_, _, _, rfl, hL82, ?_⟩
    refine wl_s 3 rfl (s_alloc [.int .i64 0, .int .i64 0] zr_24 rfl fun gb83 => ?_) gn
    refine wl_s 4 rfl (s_stB (vs := [.int .i64 r78.from_, .int .i64 r78.to]) (cs' := [.int .i64 r78.from_, .int .i64 r78.to]) (M' := [.box gb83 24 [.int .i64 r78.from_, .int .i64 r78.to], .box gb73 24 [.int .i64 ((ix x44 (w64 ((x44.length : Int) - 1))).from_), .int .i64 ((ix x44 (w64 ((x44.length : Int) - 1))).to)], .own (.slice A45 n46 c47) 24 2 n46 (x44.flatMap enc_api_Range)]) 0 sz_24 rfl rfl rfl rfl rfl rfl rfl rfl rfl ?_) gn
    refine w_end 5 rfl ?_
    refine g_seq (c := trellisref32_Steps_c11) rfl ?_
    refine g_seq (c := trellisref32_Steps_c12) rfl ?_
    refine g_region (c := trellisref32_Steps_c14) rfl rfl ?_
    refine wl_v 0 rfl (v_ldB [.int .i64 r78.from_, .int .i64 r78.to] 0 ld_24 rfl rfl rfl rfl) gn rfl ?_
    refine wl_v 1 rfl (v_ldB [.int .i64 ((ix x44 (w64 ((x44.length : Int) - 1))).from_), .int .i64 ((ix x44 (w64 ((x44.length : Int) - 1))).to)] 1 ld_24 rfl rfl rfl rfl) gn rfl ?_
    refine wl_v 2 rfl (v_eqSt eq_24 rfl rfl (eqd_api_Range r78 (ix x44 (w64 ((x44.length : Int) - 1))))) gn rfl ?_
    refine w_end 3 rfl ?_
    by_cases hp85 : r78 = ix x44 (w64 ((x44.length : Int) - 1))
    · have h := if_pos' hp85 h
      refine g_true (c := trellisref32_Steps_c15) rfl _ rfl ((decide_eq_true hp85)) ?_
      refine g_seq (c := trellisref32_Steps_c16) rfl ?_
      refine g_region (c := trellisref32_Steps_c18) rfl rfl ?_
      refine wl_v 0 rfl (v_move rfl) gn rfl ?_
      refine wl_v 1 rfl (v_assign rfl) gn rfl ?_
      refine w_end 2 rfl ?_
      have h := Out.inr hO1 h
      refine g_retR (c := trellisref32_Steps_c19) [.slice A45 n46 c47] rfl Try.func15 rfl (.tmp rfl (.nil)) fun wr hLr => ?_
      have hMr : B.Loc w wr [.own (.slice A45 n46 c47) 24 2 n46 (x44.flatMap enc_api_Range)] [St w []] := hLr.pick (rest := [.box gb83 24 [.int .i64 r78.from_, .int .i64 r78.to], .box gb73 24 [.int .i64 ((ix x44 (w64 ((x44.length : Int) - 1))).from_), .int .i64 ((ix x44 (w64 ((x44.length : Int) - 1))).to)]]) (perm_of_idx [2] [0, 1] rfl rfl (by kernel_rfl)) (sels [1] rfl)
      have hMi : ∀ e ∈ ([.own (.slice A45 n46 c47) 24 2 n46 (x44.flatMap enc_api_Range)] : List Ent), e ∈ ([.box gb83 24 [.int .i64 r78.from_, .int .i64 r78.to], .box gb73 24 [.int .i64 ((ix x44 (w64 ((x44.length : Int) - 1))).from_), .int .i64 ((ix x44 (w64 ((x44.length : Int) - 1))).to)], .own (.slice A45 n46 c47) 24 2 n46 (x44.flatMap enc_api_Range)] : List Ent) := sels [2] rfl
      show trellisref32_Steps_R w F  r (.returned (packV [.slice A45 n46 c47])) wr
      rw [h]
      exact ⟨A45, n46, c47, rfl, hMr, h48⟩
    · have h := if_neg' hp85 h
      refine g_false (c := trellisref32_Steps_c15) rfl _ rfl ((decide_eq_false hp85)) ?_
      refine g_skip (c := trellisref32_Steps_c17) rfl ?_
      refine g_region (c := trellisref32_Steps_c13) rfl rfl ?_
      refine wl_v 0 rfl (v_move rfl) gn rfl ?_
      refine wl_v 1 rfl (v_ldB [.int .i64 r78.from_, .int .i64 r78.to] 0 ld_24 rfl rfl rfl rfl) gn rfl ?_
      refine wl_s 2 rfl (s_litO (xs := ([r78] : List api_Range)) [.int .i64 r78.from_, .int .i64 r78.to] bs_29_1 rfl (by kernel_rfl) rfl rfl rfl rfl fun gb87 h88 => ?_) gn
      obtain ⟨x92, hv93, h⟩ := h
      obtain ⟨hb94, h⟩ := h
      refine wl_s 3 rfl (s_app (zs := x92) (cells' := x92.flatMap enc_api_Range) 3 ap_29 rfl rfl rfl h48 (Nat.le_refl _) (Src.ownF (hl := hl_api_Range) (h1 := h1_api_Range) 0 rfl h88) (by rw [hv93, List.flatMap_append] <;> rfl) (app_len hv93 h88.hq) hb94 rfl rfl fun A89 c90 h91 => ?_) gn
      refine wl_v 4 rfl (v_assign rfl) gn rfl ?_
      refine w_end 5 rfl ?_
      refine g_inBlock ?_
      refine g_inLoop ?_
      have ih := Out.inl hO1 h
      exact g_go [0, 1] (ih A89 (n46 + 1) c90 h91) ⟨rfl, rfl, trivial⟩ (.cons _ (.cons _ (.cons _ (.cons_cons _ (.slnil))))) rfl
  exact g_go [0, 1] (key1 _ h (some ⟨gb18, 0, none⟩) 1 1 h19) ⟨rfl, rfl, trivial⟩ (.cons_cons _ (.cons _ (.slnil))) rfl
noncomputable abbrev trellisref32_Cover_c0 : Code := bodyOf Try.f16
noncomputable abbrev trellisref32_Cover_c1 : Code := Code.fst trellisref32_Cover_c0
noncomputable abbrev trellisref32_Cover_c2 : Code := Code.snd trellisref32_Cover_c0
noncomputable abbrev trellisref32_Cover_c3 : Code := Code.fst trellisref32_Cover_c2
noncomputable abbrev trellisref32_Cover_c4 : Code := Code.snd trellisref32_Cover_c2
noncomputable abbrev trellisref32_Cover_c5 : Code := Code.fst trellisref32_Cover_c4
noncomputable abbrev trellisref32_Cover_c6 : Code := Code.snd trellisref32_Cover_c4
noncomputable abbrev trellisref32_Cover_c7 : Code := Code.fst trellisref32_Cover_c5
noncomputable abbrev trellisref32_Cover_c8 : Code := Code.snd trellisref32_Cover_c5
noncomputable abbrev trellisref32_Cover_c9 : Code := Code.fst trellisref32_Cover_c8
noncomputable abbrev trellisref32_Cover_c10 : Code := Code.snd trellisref32_Cover_c8
noncomputable abbrev trellisref32_Cover_c11 : Code := Code.fst trellisref32_Cover_c9
noncomputable abbrev trellisref32_Cover_c12 : Code := Code.snd trellisref32_Cover_c9
noncomputable abbrev trellisref32_Cover_c13 : Code := Code.fst trellisref32_Cover_c6
noncomputable abbrev trellisref32_Cover_c14 : Code := Code.snd trellisref32_Cover_c6
abbrev trellisref32_Cover_R (w : World) (F : Nat → Prop) (r : Int) : Ending → World → Prop := fun e w' => e = .returned (.int .i64 r) ∧ B.Loc w w' [] [St w []]
noncomputable abbrev trellisref32_Cover_C (w : World) (F : Nat → Prop) (r : Int) : Cx := ⟨Try.prog, 16, Try.f16, 19, trellisref32_Cover_R w F  r, w⟩
theorem trellisref32_Cover_calls (w : World) (F : Nat → Prop) (x1 : List api_Node) (x6 : api_Range) (A2 : Option Addr) (n3 : Nat) (c4 : Nat) (h5 : Rw k_api_Node w (St w []).av A2 n3 c4 x1) (hF : ∀ b, F b → b < w.heap.size ∧ ∀ o ∈ ([] : List (List Nat)), b ∉ o) (hL0 : B.Loc w w [] [Sm w.heap.size F w [], St w []]) (r : Int) (h : trellisref32_Cover x1 x6 r) : Calls Try.prog 16 #[.slice A2 n3 c4, .agg #[.int .i64 x6.from_, .int .i64 x6.to]] w (trellisref32_Cover_R w F  r) := by
  unfold trellisref32_Cover at h
  refine calls_of_Loc (vs := [.slice A2 n3 c4, .agg #[.int .i64 x6.from_, .int .i64 x6.to]]) 19 Try.func16 rfl Try.ntmps16 rfl hL0 ?_
  show G (trellisref32_Cover_C w F r) _ _ _ _
  refine g_seq (c := trellisref32_Cover_c0) rfl ?_
  refine g_region (c := trellisref32_Cover_c1) rfl rfl ?_
  refine wl_s 0 rfl (s_box [.int .i64 x6.from_, .int .i64 x6.to] rfl rfl rfl fun gb7 => ?_) gn
  refine wl_v 1 rfl (v_assign rfl) gn rfl ?_
  refine w_end 2 rfl ?_
  refine g_seq (c := trellisref32_Cover_c2) rfl ?_
  refine g_region (c := trellisref32_Cover_c3) rfl rfl ?_
  refine wl_v 0 rfl (v_move rfl) gn rfl ?_
  refine wl_v 1 rfl (v_ldB [.int .i64 x6.from_, .int .i64 x6.to] 0 ld_24 rfl rfl rfl rfl) gn rfl ?_
  obtain ⟨r12, hv13, h⟩ := h
  refine wl_s 2 rfl (s_call [.agg #[.int .i64 x6.from_, .int .i64 x6.to]] rfl Try.func39 rfl rfl rfl fun w9 hL10 => ?_) gn
  have hp11 : List.Perm ([.box gb7 24 [.int .i64 x6.from_, .int .i64 x6.to]] : List Ent) (([] : List Ent) ++ ([.box gb7 24 [.int .i64 x6.from_, .int .i64 x6.to]] : List Ent)) := perm_of_idx [] [0] rfl rfl (by kernel_rfl)
  refine Calls.mono (trellisref32_taken_calls w9 (Fl ([] : List Snap)) x6 (hL10.hFl (Sl := ([] : List Snap)) hp11 (sels [] rfl)) (hL10.into hp11 (Fl ([] : List Snap))) r12 hv13) ?_
  rintro _ w14 ⟨rfl, hM15⟩
  have hL16 := hL10.call hp11 hM15
  refine ⟨_, _, _, rfl, hL16, ?_⟩
  obtain ⟨r20, hv21, h⟩ := h
  refine wl_s 3 rfl (s_call [.slice A2 n3 c4, .agg #[.int .i64 r12.from_, .int .i64 r12.to]] rfl Try.func40 rfl rfl rfl fun w17 hL18 => ?_) gn
  have hp19 : List.Perm ([.box gb7 24 [.int .i64 x6.from_, .int .i64 x6.to]] : List Ent) (([] : List Ent) ++ ([.box gb7 24 [.int .i64 x6.from_, .int .i64 x6.to]] : List Ent)) := perm_of_idx [] [0] rfl rfl (by kernel_rfl)
  refine Calls.mono (trellisref32_Way_calls w17 (Fl ([] : List Snap)) x1 r12 A2 n3 c4 (Rw.mono h5 (hL18.toSt hp19 (me 1 rfl))) (hL18.hFl (Sl := ([] : List Snap)) hp19 (sels [] rfl)) (hL18.into hp19 (Fl ([] : List Snap))) r20 hv21) ?_
  rintro _ w27 ⟨A22, n23, c24, rfl, hM28, h25⟩
  have hL29 := hL18.call hp19 hM28
  refine ⟨_, _, _, rfl, hL29, ?_⟩
  refine wl_v 4 rfl (v_assign rfl) gn rfl ?_
  refine w_end 5 rfl ?_
  refine g_seq (c := trellisref32_Cover_c4) rfl ?_
  refine g_seq (c := trellisref32_Cover_c5) rfl ?_
  refine g_region (c := trellisref32_Cover_c7) rfl rfl ?_
  refine wl_v 0 rfl (v_move rfl) gn rfl ?_
  refine wl_v 1 rfl (v_lenQ un_45 rfl (Ow.weak hL18.env.size h25).hq) gn rfl ?_
  refine wl_v 2 rfl (v_bin rfl rfl rfl) gn rfl ?_
  refine w_end 3 rfl ?_
  by_cases hp30 : (r20.length : Int) = 0
  · have h := if_pos' hp30 h
    refine g_true (c := trellisref32_Cover_c8) rfl _ rfl ((eqi hp30)) ?_
    refine g_seq (c := trellisref32_Cover_c9) rfl ?_
    refine g_region (c := trellisref32_Cover_c11) rfl rfl ?_
    refine wl_v 0 rfl (v_assign rfl) gn rfl ?_
    refine w_end 1 rfl ?_
    refine g_retR (c := trellisref32_Cover_c12) [.int .i64 (-1)] rfl Try.func16 rfl (.tmp rfl (.nil)) fun wr hLr => ?_
    have hMr : B.Loc w wr [] [St w []] := hLr.pick (rest := [.own (.slice A22 n23 c24) 3 1 n23 (r20.flatMap (eI .i64)), .box gb7 24 [.int .i64 x6.from_, .int .i64 x6.to]]) (perm_of_idx [] [0, 1] rfl rfl (by kernel_rfl)) (sels [1] rfl)
    have hMi : ∀ e ∈ ([] : List Ent), e ∈ ([.own (.slice A22 n23 c24) 3 1 n23 (r20.flatMap (eI .i64)), .box gb7 24 [.int .i64 x6.from_, .int .i64 x6.to]] : List Ent) := sels [] rfl
    show trellisref32_Cover_R w F  r (.returned (packV [.int .i64 (-1)])) wr
    rw [h]
    exact ⟨rfl, hMr⟩
  · have h := if_neg' hp30 h
    refine g_false (c := trellisref32_Cover_c8) rfl _ rfl ((nei hp30)) ?_
    refine g_skip (c := trellisref32_Cover_c10) rfl ?_
    refine g_seq (c := trellisref32_Cover_c6) rfl ?_
    refine g_region (c := trellisref32_Cover_c13) rfl rfl ?_
    refine wl_v 0 rfl (v_move rfl) gn rfl ?_
    refine wl_v 1 rfl (v_move rfl) gn rfl ?_
    refine wl_v 2 rfl (v_lenQ un_45 rfl (Ow.weak hL18.env.size h25).hq) gn rfl ?_
    refine wl_v 3 rfl (v_bin rfl rfl rfl) gn rfl ?_
    obtain ⟨hb31, h⟩ := h
    refine wl_v 4 rfl (v_idxO slE_45 rfl rfl (Ow.weak hL18.env.size h25) hb31) gn rfl ?_
    refine wl_v 5 rfl (v_ldO1 (.int .i64 (ix r20 (w64 ((r20.length : Int) - 1)))) 0 ld_3 rfl rfl (fm_get0 (hlI .i64) hb31 rfl)) gn rfl ?_
    refine wl_v 6 rfl (v_assign rfl) gn rfl ?_
    refine w_end 7 rfl ?_
    refine g_retR (c := trellisref32_Cover_c14) [.int .i64 (ix r20 (w64 ((r20.length : Int) - 1)))] rfl Try.func16 rfl (.tmp rfl (.nil)) fun wr hLr => ?_
    have hMr : B.Loc w wr [] [St w []] := hLr.pick (rest := [.own (.slice A22 n23 c24) 3 1 n23 (r20.flatMap (eI .i64)), .box gb7 24 [.int .i64 x6.from_, .int .i64 x6.to]]) (perm_of_idx [] [0, 1] rfl rfl (by kernel_rfl)) (sels [1] rfl)
    have hMi : ∀ e ∈ ([] : List Ent), e ∈ ([.own (.slice A22 n23 c24) 3 1 n23 (r20.flatMap (eI .i64)), .box gb7 24 [.int .i64 x6.from_, .int .i64 x6.to]] : List Ent) := sels [] rfl
    show trellisref32_Cover_R w F  r (.returned (packV [.int .i64 (ix r20 (w64 ((r20.length : Int) - 1)))])) wr
    rw [h]
    exact ⟨rfl, hMr⟩
noncomputable abbrev trellislaw32_sameRanges_c0 : Code := bodyOf Try.f18
noncomputable abbrev trellislaw32_sameRanges_c1 : Code := Code.fst trellislaw32_sameRanges_c0
noncomputable abbrev trellislaw32_sameRanges_c2 : Code := Code.snd trellislaw32_sameRanges_c0
noncomputable abbrev trellislaw32_sameRanges_c3 : Code := Code.fst trellislaw32_sameRanges_c2
noncomputable abbrev trellislaw32_sameRanges_c4 : Code := Code.snd trellislaw32_sameRanges_c2
noncomputable abbrev trellislaw32_sameRanges_c5 : Code := Code.fst trellislaw32_sameRanges_c3
noncomputable abbrev trellislaw32_sameRanges_c6 : Code := Code.snd trellislaw32_sameRanges_c3
noncomputable abbrev trellislaw32_sameRanges_c7 : Code := Code.fst trellislaw32_sameRanges_c6
noncomputable abbrev trellislaw32_sameRanges_c8 : Code := Code.snd trellislaw32_sameRanges_c6
noncomputable abbrev trellislaw32_sameRanges_c9 : Code := Code.fst trellislaw32_sameRanges_c4
noncomputable abbrev trellislaw32_sameRanges_c10 : Code := Code.snd trellislaw32_sameRanges_c4
noncomputable abbrev trellislaw32_sameRanges_c11 : Code := Code.fst trellislaw32_sameRanges_c9
noncomputable abbrev trellislaw32_sameRanges_c12 : Code := Code.snd trellislaw32_sameRanges_c9
noncomputable abbrev trellislaw32_sameRanges_c13 : Code := Code.fst trellislaw32_sameRanges_c12
noncomputable abbrev trellislaw32_sameRanges_c14 : Code := Code.fst trellislaw32_sameRanges_c13
noncomputable abbrev trellislaw32_sameRanges_c15 : Code := Code.fst trellislaw32_sameRanges_c14
noncomputable abbrev trellislaw32_sameRanges_c16 : Code := Code.snd trellislaw32_sameRanges_c14
noncomputable abbrev trellislaw32_sameRanges_c17 : Code := Code.fst trellislaw32_sameRanges_c15
noncomputable abbrev trellislaw32_sameRanges_c18 : Code := Code.snd trellislaw32_sameRanges_c15
noncomputable abbrev trellislaw32_sameRanges_c19 : Code := Code.fst trellislaw32_sameRanges_c18
noncomputable abbrev trellislaw32_sameRanges_c20 : Code := Code.snd trellislaw32_sameRanges_c18
noncomputable abbrev trellislaw32_sameRanges_c21 : Code := Code.fst trellislaw32_sameRanges_c16
noncomputable abbrev trellislaw32_sameRanges_c22 : Code := Code.snd trellislaw32_sameRanges_c16
noncomputable abbrev trellislaw32_sameRanges_c23 : Code := Code.fst trellislaw32_sameRanges_c21
noncomputable abbrev trellislaw32_sameRanges_c24 : Code := Code.fst trellislaw32_sameRanges_c23
noncomputable abbrev trellislaw32_sameRanges_c25 : Code := Code.snd trellislaw32_sameRanges_c23
noncomputable abbrev trellislaw32_sameRanges_c26 : Code := Code.fst trellislaw32_sameRanges_c25
noncomputable abbrev trellislaw32_sameRanges_c27 : Code := Code.snd trellislaw32_sameRanges_c25
noncomputable abbrev trellislaw32_sameRanges_c28 : Code := Code.fst trellislaw32_sameRanges_c26
noncomputable abbrev trellislaw32_sameRanges_c29 : Code := Code.snd trellislaw32_sameRanges_c26
noncomputable abbrev trellislaw32_sameRanges_c30 : Code := Code.fst trellislaw32_sameRanges_c10
noncomputable abbrev trellislaw32_sameRanges_c31 : Code := Code.snd trellislaw32_sameRanges_c10
noncomputable abbrev trellislaw32_sameRanges_c32 : Code := Code.fst trellislaw32_sameRanges_c7
noncomputable abbrev trellislaw32_sameRanges_c33 : Code := Code.snd trellislaw32_sameRanges_c7
abbrev trellislaw32_sameRanges_R (w : World) (F : Nat → Prop) (r : Bool) : Ending → World → Prop := fun e w' => e = .returned (.bool r) ∧ B.Loc w w' [] [St w []]
noncomputable abbrev trellislaw32_sameRanges_C (w : World) (F : Nat → Prop) (r : Bool) : Cx := ⟨Try.prog, 18, Try.f18, 26, trellislaw32_sameRanges_R w F  r, w⟩
theorem trellislaw32_sameRanges_calls (w : World) (F : Nat → Prop) (x1 : List api_Range) (x6 : List api_Range) (A2 : Option Addr) (n3 : Nat) (c4 : Nat) (A7 : Option Addr) (n8 : Nat) (c9 : Nat) (h5 : Rw k_api_Range w (St w []).av A2 n3 c4 x1) (h10 : Rw k_api_Range w (St w []).av A7 n8 c9 x6) (hF : ∀ b, F b → b < w.heap.size ∧ ∀ o ∈ ([] : List (List Nat)), b ∉ o) (hL0 : B.Loc w w [] [Sm w.heap.size F w [], St w []]) (r : Bool) (h : trellislaw32_sameRanges x1 x6 r) : Calls Try.prog 18 #[.slice A2 n3 c4, .slice A7 n8 c9] w (trellislaw32_sameRanges_R w F  r) := by
  unfold trellislaw32_sameRanges at h
  refine calls_of_Loc (vs := [.slice A2 n3 c4, .slice A7 n8 c9]) 26 Try.func18 rfl Try.ntmps18 rfl hL0 ?_
  show G (trellislaw32_sameRanges_C w F r) _ _ _ _
  refine g_seq (c := trellislaw32_sameRanges_c0) rfl ?_
  refine g_region (c := trellislaw32_sameRanges_c1) rfl rfl ?_
  refine wl_v 0 rfl (v_assign rfl) gn rfl ?_
  refine w_end 1 rfl ?_
  refine g_seq (c := trellislaw32_sameRanges_c2) rfl ?_
  refine g_seq (c := trellislaw32_sameRanges_c3) rfl ?_
  refine g_region (c := trellislaw32_sameRanges_c5) rfl rfl ?_
  refine wl_v 0 rfl (v_move rfl) gn rfl ?_
  refine wl_v 1 rfl (v_lenQ un_29 rfl h5.hq) gn rfl ?_
  refine wl_v 2 rfl (v_move rfl) gn rfl ?_
  refine wl_v 3 rfl (v_lenQ un_29 rfl h10.hq) gn rfl ?_
  refine wl_v 4 rfl (v_bin rfl rfl rfl) gn rfl ?_
  refine w_end 5 rfl ?_
  by_cases hp11 : (x1.length : Int) = (x6.length : Int)
  · have h := if_pos' hp11 h
    refine g_false (c := trellislaw32_sameRanges_c6) rfl _ rfl ((eqib hp11)) ?_
    refine g_skip (c := trellislaw32_sameRanges_c8) rfl ?_
    refine g_seq (c := trellislaw32_sameRanges_c4) rfl ?_
    refine g_seq (c := trellislaw32_sameRanges_c9) rfl ?_
    refine g_region (c := trellislaw32_sameRanges_c11) rfl rfl ?_
    refine wl_v 0 rfl (v_assign rfl) gn rfl ?_
    refine w_end 1 rfl ?_
    refine g_block (c := trellislaw32_sameRanges_c12) rfl ?_
    refine g_loop (c := trellislaw32_sameRanges_c13) rfl ?_
    have key1 : ∀ s, Rounds (fun (s : Int) o => trellislaw32_sameRanges_b1 x1 x6 s o) s r → (fun (s : Int) => ∀ (_ : Unit), G (trellislaw32_sameRanges_C w F r) [.code trellislaw32_sameRanges_c14, .inLoop trellislaw32_sameRanges_c14, .inBlock 0, .code trellislaw32_sameRanges_c10] [(0, .slice A2 n3 c4), (1, .slice A7 n8 c9), (5, .int .i64 s)] [] [Sm w.heap.size F w [], St w []]) s := by
      intro s hs
      refine Rounds.ind (mot := (fun (s : Int) => ∀ (_ : Unit), G (trellislaw32_sameRanges_C w F r) [.code trellislaw32_sameRanges_c14, .inLoop trellislaw32_sameRanges_c14, .inBlock 0, .code trellislaw32_sameRanges_c10] [(0, .slice A2 n3 c4), (1, .slice A7 n8 c9), (5, .int .i64 s)] [] [Sm w.heap.size F w [], St w []])) ?_ hs
      clear hs s
      intro x23 o1 h hO1
      show ∀ (_ : Unit), G (trellislaw32_sameRanges_C w F r) [.code trellislaw32_sameRanges_c14, .inLoop trellislaw32_sameRanges_c14, .inBlock 0, .code trellislaw32_sameRanges_c10] [(0, .slice A2 n3 c4), (1, .slice A7 n8 c9), (5, .int .i64 x23)] [] [Sm w.heap.size F w [], St w []]
      intro _
      have h : trellislaw32_sameRanges_b1 x1 x6 x23 o1 := h
      unfold trellislaw32_sameRanges_b1 at h
      refine g_seq (c := trellislaw32_sameRanges_c14) rfl ?_
      refine g_seq (c := trellislaw32_sameRanges_c15) rfl ?_
      refine g_region (c := trellislaw32_sameRanges_c17) rfl rfl ?_
      refine wl_v 0 rfl (v_move rfl) gn rfl ?_
      refine wl_v 1 rfl (v_move rfl) gn rfl ?_
      refine wl_v 2 rfl (v_lenQ un_29 rfl h5.hq) gn rfl ?_
      refine wl_v 3 rfl (v_bin rfl rfl rfl) gn rfl ?_
      refine w_end 4 rfl ?_
      by_cases hp34 : x23 < (x1.length : Int)
      · have h := if_pos' hp34 h
        refine g_true (c := trellislaw32_sameRanges_c18) rfl _ rfl ((decide_eq_true hp34)) ?_
        refine g_skip (c := trellislaw32_sameRanges_c19) rfl ?_
        refine g_seq (c := trellislaw32_sameRanges_c16) rfl ?_
        refine g_block (c := trellislaw32_sameRanges_c21) rfl ?_
        refine g_seq (c := trellislaw32_sameRanges_c23) rfl ?_
        obtain ⟨hb35, h⟩ := h
        obtain ⟨hb37, h⟩ := h
        have hns : Region.noSelect (Code.ops trellislaw32_sameRanges_c24) = true := by kernel_rfl
        refine g_drawF (c := trellislaw32_sameRanges_c24) [] [Sm w.heap.size F w [], St w []] [] 9 rfl rfl mix rfl (.slnil) (sels [0, 1] rfl) ?_
        refine wf_v 0 rfl (v_move rfl) gn rfl hns (by kernel_rfl) (by kernel_rfl) rfl rfl ?_
        refine wf_v 1 rfl (v_move rfl) gn rfl hns (by kernel_rfl) (by kernel_rfl) rfl rfl ?_
        have hr41 := Rw.readF (s := St w []) (hl := hl_api_Range) (h1 := h1_api_Range) h5 hb35
        refine wf_v 2 rfl (v_idxR (s := St w []) slE_29 rfl rfl h5 hb35) gn rfl hns (by kernel_rfl) (by kernel_rfl) rfl rfl ?_
        refine wf_v 3 rfl (v_ldA (St w []) ld_24 rfl hr41 rfl (me 1 rfl)) gn rfl hns (by kernel_rfl) (by kernel_rfl) rfl rfl ?_
        refine wf_v 4 rfl (v_move rfl) gn rfl hns (by kernel_rfl) (by kernel_rfl) rfl rfl ?_
        refine wf_v 5 rfl (v_move rfl) gn rfl hns (by kernel_rfl) (by kernel_rfl) rfl rfl ?_
        have hr42 := Rw.readF (s := St w []) (hl := hl_api_Range) (h1 := h1_api_Range) h10 hb37
        refine wf_v 6 rfl (v_idxR (s := St w []) slE_29 rfl rfl h10 hb37) gn rfl hns (by kernel_rfl) (by kernel_rfl) rfl rfl ?_
        refine wf_v 7 rfl (v_ldA (St w []) ld_24 rfl hr42 rfl (me 1 rfl)) gn rfl hns (by kernel_rfl) (by kernel_rfl) rfl rfl ?_
        refine wf_v 8 rfl (v_neSt eq_24 rfl rfl (eqd_api_Range (ix x1 x23) (ix x6 x23))) gn rfl hns (by kernel_rfl) (by kernel_rfl) rfl rfl ?_
        refine wf_end (by kernel_rfl) ?_
        by_cases hp43 : ix x1 x23 = ix x6 x23
        · have h := if_pos' hp43 h
          refine g_false (c := trellislaw32_sameRanges_c25) rfl _ rfl ((nf (decide_eq_true hp43))) ?_
          refine g_skip (c := trellislaw32_sameRanges_c27) rfl ?_
          refine g_inBlock ?_
          refine g_region (c := trellislaw32_sameRanges_c22) rfl rfl ?_
          refine wl_v 0 rfl (v_move rfl) gn rfl ?_
          refine wl_v 1 rfl (v_bin rfl rfl rfl) gn rfl ?_
          refine wl_v 2 rfl (v_assign rfl) gn rfl ?_
          refine w_end 3 rfl ?_
          refine g_inLoop ?_
          have ih := Out.inl hO1 h
          exact g_go [0, 1] (ih ()) ⟨rfl, rfl, rfl, trivial⟩ (.slnil) rfl
        · have h := if_neg' hp43 h
          refine g_true (c := trellislaw32_sameRanges_c25) rfl _ rfl ((nt (decide_eq_false hp43))) ?_
          refine g_seq (c := trellislaw32_sameRanges_c26) rfl ?_
          refine g_region (c := trellislaw32_sameRanges_c28) rfl rfl ?_
          refine wl_v 0 rfl (v_assign rfl) gn rfl ?_
          refine w_end 1 rfl ?_
          have h := Out.inr hO1 h
          refine g_retR (c := trellislaw32_sameRanges_c29) [.bool false] rfl Try.func18 rfl (.tmp rfl (.nil)) fun wr hLr => ?_
          have hMr : B.Loc w wr [] [St w []] := hLr.pick (rest := []) (perm_of_idx [] [] rfl rfl (by kernel_rfl)) (sels [1] rfl)
          have hMi : ∀ e ∈ ([] : List Ent), e ∈ ([] : List Ent) := sels [] rfl
          show trellislaw32_sameRanges_R w F  r (.returned (packV [.bool false])) wr
          rw [h]
          exact ⟨rfl, hMr⟩
      · have h := if_neg' hp34 h
        refine g_false (c := trellislaw32_sameRanges_c18) rfl _ rfl ((decide_eq_false hp34)) ?_
        refine g_exit (c := trellislaw32_sameRanges_c20) [.code trellislaw32_sameRanges_c10] rfl rfl ?_
        refine g_seq (c := trellislaw32_sameRanges_c10) rfl ?_
        refine g_region (c := trellislaw32_sameRanges_c30) rfl rfl ?_
        refine wl_v 0 rfl (v_assign rfl) gn rfl ?_
        refine w_end 1 rfl ?_
        have h := Out.inr hO1 h
        refine g_retR (c := trellislaw32_sameRanges_c31) [.bool true] rfl Try.func18 rfl (.tmp rfl (.nil)) fun wr hLr => ?_
        have hMr : B.Loc w wr [] [St w []] := hLr.pick (rest := []) (perm_of_idx [] [] rfl rfl (by kernel_rfl)) (sels [1] rfl)
        have hMi : ∀ e ∈ ([] : List Ent), e ∈ ([] : List Ent) := sels [] rfl
        show trellislaw32_sameRanges_R w F  r (.returned (packV [.bool true])) wr
        rw [h]
        exact ⟨rfl, hMr⟩
    exact g_go [0, 1] (key1 _ h ()) ⟨rfl, rfl, rfl, trivial⟩ (.slnil) rfl
  · have h := if_neg' hp11 h
    refine g_true (c := trellislaw32_sameRanges_c6) rfl _ rfl ((neib hp11)) ?_
    refine g_seq (c := trellislaw32_sameRanges_c7) rfl ?_
    refine g_region (c := trellislaw32_sameRanges_c32) rfl rfl ?_
    refine wl_v 0 rfl (v_assign rfl) gn rfl ?_
    refine w_end 1 rfl ?_
    refine g_retR (c := trellislaw32_sameRanges_c33) [.bool false] rfl Try.func18 rfl (.tmp rfl (.nil)) fun wr hLr => ?_
    have hMr : B.Loc w wr [] [St w []] := hLr.pick (rest := []) (perm_of_idx [] [] rfl rfl (by kernel_rfl)) (sels [1] rfl)
    have hMi : ∀ e ∈ ([] : List Ent), e ∈ ([] : List Ent) := sels [] rfl
    show trellislaw32_sameRanges_R w F  r (.returned (packV [.bool false])) wr
    rw [h]
    exact ⟨rfl, hMr⟩
noncomputable abbrev trellislaw32_same_c0 : Code := bodyOf Try.f24
noncomputable abbrev trellislaw32_same_c1 : Code := Code.fst trellislaw32_same_c0
noncomputable abbrev trellislaw32_same_c2 : Code := Code.snd trellislaw32_same_c0
noncomputable abbrev trellislaw32_same_c3 : Code := Code.fst trellislaw32_same_c2
noncomputable abbrev trellislaw32_same_c4 : Code := Code.snd trellislaw32_same_c2
noncomputable abbrev trellislaw32_same_c5 : Code := Code.fst trellislaw32_same_c3
noncomputable abbrev trellislaw32_same_c6 : Code := Code.snd trellislaw32_same_c3
noncomputable abbrev trellislaw32_same_c7 : Code := Code.fst trellislaw32_same_c6
noncomputable abbrev trellislaw32_same_c8 : Code := Code.snd trellislaw32_same_c6
noncomputable abbrev trellislaw32_same_c9 : Code := Code.fst trellislaw32_same_c4
noncomputable abbrev trellislaw32_same_c10 : Code := Code.snd trellislaw32_same_c4
noncomputable abbrev trellislaw32_same_c11 : Code := Code.fst trellislaw32_same_c9
noncomputable abbrev trellislaw32_same_c12 : Code := Code.snd trellislaw32_same_c9
noncomputable abbrev trellislaw32_same_c13 : Code := Code.fst trellislaw32_same_c12
noncomputable abbrev trellislaw32_same_c14 : Code := Code.fst trellislaw32_same_c13
noncomputable abbrev trellislaw32_same_c15 : Code := Code.fst trellislaw32_same_c14
noncomputable abbrev trellislaw32_same_c16 : Code := Code.snd trellislaw32_same_c14
noncomputable abbrev trellislaw32_same_c17 : Code := Code.fst trellislaw32_same_c15
noncomputable abbrev trellislaw32_same_c18 : Code := Code.snd trellislaw32_same_c15
noncomputable abbrev trellislaw32_same_c19 : Code := Code.fst trellislaw32_same_c18
noncomputable abbrev trellislaw32_same_c20 : Code := Code.snd trellislaw32_same_c18
noncomputable abbrev trellislaw32_same_c21 : Code := Code.fst trellislaw32_same_c16
noncomputable abbrev trellislaw32_same_c22 : Code := Code.snd trellislaw32_same_c16
noncomputable abbrev trellislaw32_same_c23 : Code := Code.fst trellislaw32_same_c21
noncomputable abbrev trellislaw32_same_c24 : Code := Code.fst trellislaw32_same_c23
noncomputable abbrev trellislaw32_same_c25 : Code := Code.snd trellislaw32_same_c23
noncomputable abbrev trellislaw32_same_c26 : Code := Code.fst trellislaw32_same_c25
noncomputable abbrev trellislaw32_same_c27 : Code := Code.snd trellislaw32_same_c25
noncomputable abbrev trellislaw32_same_c28 : Code := Code.fst trellislaw32_same_c26
noncomputable abbrev trellislaw32_same_c29 : Code := Code.snd trellislaw32_same_c26
noncomputable abbrev trellislaw32_same_c30 : Code := Code.fst trellislaw32_same_c10
noncomputable abbrev trellislaw32_same_c31 : Code := Code.snd trellislaw32_same_c10
noncomputable abbrev trellislaw32_same_c32 : Code := Code.fst trellislaw32_same_c7
noncomputable abbrev trellislaw32_same_c33 : Code := Code.snd trellislaw32_same_c7
abbrev trellislaw32_same_R (w : World) (F : Nat → Prop) (r : Bool) : Ending → World → Prop := fun e w' => e = .returned (.bool r) ∧ B.Loc w w' [] [St w []]
noncomputable abbrev trellislaw32_same_C (w : World) (F : Nat → Prop) (r : Bool) : Cx := ⟨Try.prog, 24, Try.f24, 26, trellislaw32_same_R w F  r, w⟩
theorem trellislaw32_same_calls (w : World) (F : Nat → Prop) (x1 : List api_Node) (x6 : List api_Node) (A2 : Option Addr) (n3 : Nat) (c4 : Nat) (A7 : Option Addr) (n8 : Nat) (c9 : Nat) (h5 : Rw k_api_Node w (St w []).av A2 n3 c4 x1) (h10 : Rw k_api_Node w (St w []).av A7 n8 c9 x6) (hF : ∀ b, F b → b < w.heap.size ∧ ∀ o ∈ ([] : List (List Nat)), b ∉ o) (hL0 : B.Loc w w [] [Sm w.heap.size F w [], St w []]) (r : Bool) (h : trellislaw32_same x1 x6 r) : Calls Try.prog 24 #[.slice A2 n3 c4, .slice A7 n8 c9] w (trellislaw32_same_R w F  r) := by
  unfold trellislaw32_same at h
  refine calls_of_Loc (vs := [.slice A2 n3 c4, .slice A7 n8 c9]) 26 Try.func24 rfl Try.ntmps24 rfl hL0 ?_
  show G (trellislaw32_same_C w F r) _ _ _ _
  refine g_seq (c := trellislaw32_same_c0) rfl ?_
  refine g_region (c := trellislaw32_same_c1) rfl rfl ?_
  refine wl_v 0 rfl (v_assign rfl) gn rfl ?_
  refine w_end 1 rfl ?_
  refine g_seq (c := trellislaw32_same_c2) rfl ?_
  refine g_seq (c := trellislaw32_same_c3) rfl ?_
  refine g_region (c := trellislaw32_same_c5) rfl rfl ?_
  refine wl_v 0 rfl (v_move rfl) gn rfl ?_
  refine wl_v 1 rfl (v_lenQ un_22 rfl h5.hq) gn rfl ?_
  refine wl_v 2 rfl (v_move rfl) gn rfl ?_
  refine wl_v 3 rfl (v_lenQ un_22 rfl h10.hq) gn rfl ?_
  refine wl_v 4 rfl (v_bin rfl rfl rfl) gn rfl ?_
  refine w_end 5 rfl ?_
  by_cases hp11 : (x1.length : Int) = (x6.length : Int)
  · have h := if_pos' hp11 h
    refine g_false (c := trellislaw32_same_c6) rfl _ rfl ((eqib hp11)) ?_
    refine g_skip (c := trellislaw32_same_c8) rfl ?_
    refine g_seq (c := trellislaw32_same_c4) rfl ?_
    refine g_seq (c := trellislaw32_same_c9) rfl ?_
    refine g_region (c := trellislaw32_same_c11) rfl rfl ?_
    refine wl_v 0 rfl (v_assign rfl) gn rfl ?_
    refine w_end 1 rfl ?_
    refine g_block (c := trellislaw32_same_c12) rfl ?_
    refine g_loop (c := trellislaw32_same_c13) rfl ?_
    have key1 : ∀ s, Rounds (fun (s : Int) o => trellislaw32_same_b1 x1 x6 s o) s r → (fun (s : Int) => ∀ (_ : Unit), G (trellislaw32_same_C w F r) [.code trellislaw32_same_c14, .inLoop trellislaw32_same_c14, .inBlock 0, .code trellislaw32_same_c10] [(0, .slice A2 n3 c4), (1, .slice A7 n8 c9), (5, .int .i64 s)] [] [Sm w.heap.size F w [], St w []]) s := by
      intro s hs
      refine Rounds.ind (mot := (fun (s : Int) => ∀ (_ : Unit), G (trellislaw32_same_C w F r) [.code trellislaw32_same_c14, .inLoop trellislaw32_same_c14, .inBlock 0, .code trellislaw32_same_c10] [(0, .slice A2 n3 c4), (1, .slice A7 n8 c9), (5, .int .i64 s)] [] [Sm w.heap.size F w [], St w []])) ?_ hs
      clear hs s
      intro x23 o1 h hO1
      show ∀ (_ : Unit), G (trellislaw32_same_C w F r) [.code trellislaw32_same_c14, .inLoop trellislaw32_same_c14, .inBlock 0, .code trellislaw32_same_c10] [(0, .slice A2 n3 c4), (1, .slice A7 n8 c9), (5, .int .i64 x23)] [] [Sm w.heap.size F w [], St w []]
      intro _
      have h : trellislaw32_same_b1 x1 x6 x23 o1 := h
      unfold trellislaw32_same_b1 at h
      refine g_seq (c := trellislaw32_same_c14) rfl ?_
      refine g_seq (c := trellislaw32_same_c15) rfl ?_
      refine g_region (c := trellislaw32_same_c17) rfl rfl ?_
      refine wl_v 0 rfl (v_move rfl) gn rfl ?_
      refine wl_v 1 rfl (v_move rfl) gn rfl ?_
      refine wl_v 2 rfl (v_lenQ un_22 rfl h5.hq) gn rfl ?_
      refine wl_v 3 rfl (v_bin rfl rfl rfl) gn rfl ?_
      refine w_end 4 rfl ?_
      by_cases hp34 : x23 < (x1.length : Int)
      · have h := if_pos' hp34 h
        refine g_true (c := trellislaw32_same_c18) rfl _ rfl ((decide_eq_true hp34)) ?_
        refine g_skip (c := trellislaw32_same_c19) rfl ?_
        refine g_seq (c := trellislaw32_same_c16) rfl ?_
        refine g_block (c := trellislaw32_same_c21) rfl ?_
        refine g_seq (c := trellislaw32_same_c23) rfl ?_
        obtain ⟨hb35, h⟩ := h
        obtain ⟨hb37, h⟩ := h
        have hns : Region.noSelect (Code.ops trellislaw32_same_c24) = true := by kernel_rfl
        refine g_drawF (c := trellislaw32_same_c24) [] [Sm w.heap.size F w [], St w []] [] 9 rfl rfl mix rfl (.slnil) (sels [0, 1] rfl) ?_
        refine wf_v 0 rfl (v_move rfl) gn rfl hns (by kernel_rfl) (by kernel_rfl) rfl rfl ?_
        refine wf_v 1 rfl (v_move rfl) gn rfl hns (by kernel_rfl) (by kernel_rfl) rfl rfl ?_
        have hr41 := Rw.readF (s := St w []) (hl := hl_api_Node) (h1 := h1_api_Node) h5 hb35
        refine wf_v 2 rfl (v_idxR (s := St w []) slE_22 rfl rfl h5 hb35) gn rfl hns (by kernel_rfl) (by kernel_rfl) rfl rfl ?_
        refine wf_v 3 rfl (v_ldA (St w []) ld_39 rfl hr41 rfl (me 1 rfl)) gn rfl hns (by kernel_rfl) (by kernel_rfl) rfl rfl ?_
        refine wf_v 4 rfl (v_move rfl) gn rfl hns (by kernel_rfl) (by kernel_rfl) rfl rfl ?_
        refine wf_v 5 rfl (v_move rfl) gn rfl hns (by kernel_rfl) (by kernel_rfl) rfl rfl ?_
        have hr42 := Rw.readF (s := St w []) (hl := hl_api_Node) (h1 := h1_api_Node) h10 hb37
        refine wf_v 6 rfl (v_idxR (s := St w []) slE_22 rfl rfl h10 hb37) gn rfl hns (by kernel_rfl) (by kernel_rfl) rfl rfl ?_
        refine wf_v 7 rfl (v_ldA (St w []) ld_39 rfl hr42 rfl (me 1 rfl)) gn rfl hns (by kernel_rfl) (by kernel_rfl) rfl rfl ?_
        refine wf_v 8 rfl (v_neSt eq_39 rfl rfl (eqd_api_Node (ix x1 x23) (ix x6 x23))) gn rfl hns (by kernel_rfl) (by kernel_rfl) rfl rfl ?_
        refine wf_end (by kernel_rfl) ?_
        by_cases hp43 : ix x1 x23 = ix x6 x23
        · have h := if_pos' hp43 h
          refine g_false (c := trellislaw32_same_c25) rfl _ rfl ((nf (decide_eq_true hp43))) ?_
          refine g_skip (c := trellislaw32_same_c27) rfl ?_
          refine g_inBlock ?_
          refine g_region (c := trellislaw32_same_c22) rfl rfl ?_
          refine wl_v 0 rfl (v_move rfl) gn rfl ?_
          refine wl_v 1 rfl (v_bin rfl rfl rfl) gn rfl ?_
          refine wl_v 2 rfl (v_assign rfl) gn rfl ?_
          refine w_end 3 rfl ?_
          refine g_inLoop ?_
          have ih := Out.inl hO1 h
          exact g_go [0, 1] (ih ()) ⟨rfl, rfl, rfl, trivial⟩ (.slnil) rfl
        · have h := if_neg' hp43 h
          refine g_true (c := trellislaw32_same_c25) rfl _ rfl ((nt (decide_eq_false hp43))) ?_
          refine g_seq (c := trellislaw32_same_c26) rfl ?_
          refine g_region (c := trellislaw32_same_c28) rfl rfl ?_
          refine wl_v 0 rfl (v_assign rfl) gn rfl ?_
          refine w_end 1 rfl ?_
          have h := Out.inr hO1 h
          refine g_retR (c := trellislaw32_same_c29) [.bool false] rfl Try.func24 rfl (.tmp rfl (.nil)) fun wr hLr => ?_
          have hMr : B.Loc w wr [] [St w []] := hLr.pick (rest := []) (perm_of_idx [] [] rfl rfl (by kernel_rfl)) (sels [1] rfl)
          have hMi : ∀ e ∈ ([] : List Ent), e ∈ ([] : List Ent) := sels [] rfl
          show trellislaw32_same_R w F  r (.returned (packV [.bool false])) wr
          rw [h]
          exact ⟨rfl, hMr⟩
      · have h := if_neg' hp34 h
        refine g_false (c := trellislaw32_same_c18) rfl _ rfl ((decide_eq_false hp34)) ?_
        refine g_exit (c := trellislaw32_same_c20) [.code trellislaw32_same_c10] rfl rfl ?_
        refine g_seq (c := trellislaw32_same_c10) rfl ?_
        refine g_region (c := trellislaw32_same_c30) rfl rfl ?_
        refine wl_v 0 rfl (v_assign rfl) gn rfl ?_
        refine w_end 1 rfl ?_
        have h := Out.inr hO1 h
        refine g_retR (c := trellislaw32_same_c31) [.bool true] rfl Try.func24 rfl (.tmp rfl (.nil)) fun wr hLr => ?_
        have hMr : B.Loc w wr [] [St w []] := hLr.pick (rest := []) (perm_of_idx [] [] rfl rfl (by kernel_rfl)) (sels [1] rfl)
        have hMi : ∀ e ∈ ([] : List Ent), e ∈ ([] : List Ent) := sels [] rfl
        show trellislaw32_same_R w F  r (.returned (packV [.bool true])) wr
        rw [h]
        exact ⟨rfl, hMr⟩
    exact g_go [0, 1] (key1 _ h ()) ⟨rfl, rfl, rfl, trivial⟩ (.slnil) rfl
  · have h := if_neg' hp11 h
    refine g_true (c := trellislaw32_same_c6) rfl _ rfl ((neib hp11)) ?_
    refine g_seq (c := trellislaw32_same_c7) rfl ?_
    refine g_region (c := trellislaw32_same_c32) rfl rfl ?_
    refine wl_v 0 rfl (v_assign rfl) gn rfl ?_
    refine w_end 1 rfl ?_
    refine g_retR (c := trellislaw32_same_c33) [.bool false] rfl Try.func24 rfl (.tmp rfl (.nil)) fun wr hLr => ?_
    have hMr : B.Loc w wr [] [St w []] := hLr.pick (rest := []) (perm_of_idx [] [] rfl rfl (by kernel_rfl)) (sels [1] rfl)
    have hMi : ∀ e ∈ ([] : List Ent), e ∈ ([] : List Ent) := sels [] rfl
    show trellislaw32_same_R w F  r (.returned (packV [.bool false])) wr
    rw [h]
    exact ⟨rfl, hMr⟩
noncomputable abbrev trellislaw32_still_c0 : Code := bodyOf Try.f19
noncomputable abbrev trellislaw32_still_c1 : Code := Code.fst trellislaw32_still_c0
noncomputable abbrev trellislaw32_still_c2 : Code := Code.snd trellislaw32_still_c0
noncomputable abbrev trellislaw32_still_c3 : Code := Code.fst trellislaw32_still_c2
noncomputable abbrev trellislaw32_still_c4 : Code := Code.snd trellislaw32_still_c2
noncomputable abbrev trellislaw32_still_c5 : Code := Code.fst trellislaw32_still_c4
noncomputable abbrev trellislaw32_still_c6 : Code := Code.snd trellislaw32_still_c4
noncomputable abbrev trellislaw32_still_c7 : Code := Code.fst trellislaw32_still_c5
noncomputable abbrev trellislaw32_still_c8 : Code := Code.snd trellislaw32_still_c5
noncomputable abbrev trellislaw32_still_c9 : Code := Code.fst trellislaw32_still_c8
noncomputable abbrev trellislaw32_still_c10 : Code := Code.fst trellislaw32_still_c9
noncomputable abbrev trellislaw32_still_c11 : Code := Code.fst trellislaw32_still_c10
noncomputable abbrev trellislaw32_still_c12 : Code := Code.snd trellislaw32_still_c10
noncomputable abbrev trellislaw32_still_c13 : Code := Code.fst trellislaw32_still_c11
noncomputable abbrev trellislaw32_still_c14 : Code := Code.snd trellislaw32_still_c11
noncomputable abbrev trellislaw32_still_c15 : Code := Code.fst trellislaw32_still_c14
noncomputable abbrev trellislaw32_still_c16 : Code := Code.snd trellislaw32_still_c14
noncomputable abbrev trellislaw32_still_c17 : Code := Code.fst trellislaw32_still_c12
noncomputable abbrev trellislaw32_still_c18 : Code := Code.snd trellislaw32_still_c12
noncomputable abbrev trellislaw32_still_c19 : Code := Code.fst trellislaw32_still_c17
noncomputable abbrev trellislaw32_still_c20 : Code := Code.fst trellislaw32_still_c19
noncomputable abbrev trellislaw32_still_c21 : Code := Code.snd trellislaw32_still_c19
noncomputable abbrev trellislaw32_still_c22 : Code := Code.fst trellislaw32_still_c21
noncomputable abbrev trellislaw32_still_c23 : Code := Code.snd trellislaw32_still_c21
noncomputable abbrev trellislaw32_still_c24 : Code := Code.fst trellislaw32_still_c22
noncomputable abbrev trellislaw32_still_c25 : Code := Code.snd trellislaw32_still_c22
noncomputable abbrev trellislaw32_still_c26 : Code := Code.fst trellislaw32_still_c6
noncomputable abbrev trellislaw32_still_c27 : Code := Code.snd trellislaw32_still_c6
abbrev trellislaw32_still_R (w : World) (F : Nat → Prop) (r : Bool) : Ending → World → Prop := fun e w' => e = .returned (.bool r) ∧ B.Loc w w' [] [St w []]
noncomputable abbrev trellislaw32_still_C (w : World) (F : Nat → Prop) (r : Bool) : Cx := ⟨Try.prog, 19, Try.f19, 30, trellislaw32_still_R w F  r, w⟩
theorem trellislaw32_still_calls (w : World) (F : Nat → Prop) (x1 : List api_Node) (k6 : Nat) (x9 : List api_Node) (A2 : Option Addr) (n3 : Nat) (c4 : Nat) (A10 : Option Addr) (n11 : Nat) (c12 : Nat) (h5 : Rw k_api_Node w (St w []).av A2 n3 c4 x1) (hk7 : k6 ≤ n3) (h13 : Rw k_api_Node w (St w []).av A10 n11 c12 x9) (hF : ∀ b, F b → b < w.heap.size ∧ ∀ o ∈ ([] : List (List Nat)), b ∉ o) (hL0 : B.Loc w w [] [Sm w.heap.size F w [], St w []]) (r : Bool) (h : trellislaw32_still x1 k6 x9 r) : Calls Try.prog 19 #[.slice A2 k6 c4, .slice A10 n11 c12] w (trellislaw32_still_R w F  r) := by
  unfold trellislaw32_still at h
  have h8 := Rw.pre h5 hk7
  refine calls_of_Loc (vs := [.slice A2 k6 c4, .slice A10 n11 c12]) 30 Try.func19 rfl Try.ntmps19 rfl hL0 ?_
  show G (trellislaw32_still_C w F r) _ _ _ _
  refine g_seq (c := trellislaw32_still_c0) rfl ?_
  refine g_region (c := trellislaw32_still_c1) rfl rfl ?_
  refine wl_v 0 rfl (v_assign rfl) gn rfl ?_
  refine w_end 1 rfl ?_
  refine g_seq (c := trellislaw32_still_c2) rfl ?_
  refine g_region (c := trellislaw32_still_c3) rfl rfl ?_
  refine wl_v 0 rfl (v_move rfl) gn rfl ?_
  refine wl_v 1 rfl (v_move rfl) gn rfl ?_
  refine wl_v 2 rfl (v_lenQ un_22 rfl h13.hq) gn rfl ?_
  refine wl_v 3 rfl (v_bin rfl rfl rfl) gn rfl ?_
  obtain ⟨hb14, h⟩ := h
  have hle15 : (w64 ((x9.length : Int) + 20) : Int).toNat ≤ n3 := by have q := hb14; have q1 := h5.hq; omega
  have h16 := Rw.pre h5 hle15
  refine wl_v 4 rfl (v_cutHi (i := w64 ((x9.length : Int) + 20)) slE_22 rfl rfl (by have q := hb14; have q1 := h5.hq; have q2 := h5.hn; omega) h8.hn rfl) gn rfl ?_
  refine wl_v 5 rfl (v_assign rfl) gn rfl ?_
  refine w_end 6 rfl ?_
  refine g_seq (c := trellislaw32_still_c4) rfl ?_
  refine g_seq (c := trellislaw32_still_c5) rfl ?_
  refine g_region (c := trellislaw32_still_c7) rfl rfl ?_
  refine wl_v 0 rfl (v_assign rfl) gn rfl ?_
  refine w_end 1 rfl ?_
  refine g_block (c := trellislaw32_still_c8) rfl ?_
  refine g_loop (c := trellislaw32_still_c9) rfl ?_
  have key1 : ∀ s, Rounds (fun (s : Int) o => trellislaw32_still_b1 x9 x1 k6 s o) s r → (fun (s : Int) => ∀ (_ : Unit), G (trellislaw32_still_C w F r) [.code trellislaw32_still_c10, .inLoop trellislaw32_still_c10, .inBlock 0, .code trellislaw32_still_c6] [(0, .slice A2 k6 c4), (1, .slice A10 n11 c12), (5, .slice A2 ((w64 ((x9.length : Int) + 20) : Int).toNat) c4), (6, .int .i64 s)] [] [Sm w.heap.size F w [], St w []]) s := by
    intro s hs
    refine Rounds.ind (mot := (fun (s : Int) => ∀ (_ : Unit), G (trellislaw32_still_C w F r) [.code trellislaw32_still_c10, .inLoop trellislaw32_still_c10, .inBlock 0, .code trellislaw32_still_c6] [(0, .slice A2 k6 c4), (1, .slice A10 n11 c12), (5, .slice A2 ((w64 ((x9.length : Int) + 20) : Int).toNat) c4), (6, .int .i64 s)] [] [Sm w.heap.size F w [], St w []])) ?_ hs
    clear hs s
    intro x21 o1 h hO1
    show ∀ (_ : Unit), G (trellislaw32_still_C w F r) [.code trellislaw32_still_c10, .inLoop trellislaw32_still_c10, .inBlock 0, .code trellislaw32_still_c6] [(0, .slice A2 k6 c4), (1, .slice A10 n11 c12), (5, .slice A2 ((w64 ((x9.length : Int) + 20) : Int).toNat) c4), (6, .int .i64 x21)] [] [Sm w.heap.size F w [], St w []]
    intro _
    have h : trellislaw32_still_b1 x9 x1 k6 x21 o1 := h
    unfold trellislaw32_still_b1 at h
    refine g_seq (c := trellislaw32_still_c10) rfl ?_
    refine g_seq (c := trellislaw32_still_c11) rfl ?_
    refine g_region (c := trellislaw32_still_c13) rfl rfl ?_
    refine wl_v 0 rfl (v_move rfl) gn rfl ?_
    refine wl_v 1 rfl (v_bin rfl rfl rfl) gn rfl ?_
    refine w_end 2 rfl ?_
    by_cases hp34 : x21 < 20
    · have h := if_pos' hp34 h
      refine g_true (c := trellislaw32_still_c14) rfl _ rfl ((decide_eq_true hp34)) ?_
      refine g_skip (c := trellislaw32_still_c15) rfl ?_
      refine g_seq (c := trellislaw32_still_c12) rfl ?_
      refine g_block (c := trellislaw32_still_c17) rfl ?_
      refine g_seq (c := trellislaw32_still_c19) rfl ?_
      refine g_region (c := trellislaw32_still_c20) rfl rfl ?_
      refine wl_v 0 rfl (v_move rfl) gn rfl ?_
      refine wl_v 1 rfl (v_move rfl) gn rfl ?_
      refine wl_v 2 rfl (v_lenQ un_22 rfl h13.hq) gn rfl ?_
      refine wl_v 3 rfl (v_move rfl) gn rfl ?_
      refine wl_v 4 rfl (v_bin rfl rfl rfl) gn rfl ?_
      obtain ⟨hb35, h⟩ := h
      have hr36 := Rw.readF (s := St w []) (hl := hl_api_Node) (h1 := h1_api_Node) h16 hb35
      refine wl_v 5 rfl (v_idxR (s := St w []) slE_22 rfl rfl h16 hb35) gn rfl ?_
      refine wl_v 6 rfl (v_ldA (St w []) ld_39 rfl hr36 rfl (me 1 rfl)) gn rfl ?_
      refine wl_v 7 rfl (v_move rfl) gn rfl ?_
      refine wl_v 8 rfl (v_bin rfl rfl rfl) gn rfl ?_
      refine wl_v 9 rfl (v_build #[.string (⟨#[109, 97, 114, 107]⟩ : ByteArray), .bool false, .string (⟨#[]⟩ : ByteArray), .int .i64 (w64 (900 + x21)), .int .i64 0, .int .i64 0, .int .i64 0] bd_39 rfl (by kernel_rfl)) gn rfl ?_
      refine wl_v 10 rfl (v_neSt eq_39 rfl rfl (eqd_api_Node (ix (x1.take ((w64 ((x9.length : Int) + 20) : Int).toNat)) (w64 ((x9.length : Int) + x21))) (⟨(⟨#[109, 97, 114, 107]⟩ : ByteArray), false, (⟨#[]⟩ : ByteArray), w64 (900 + x21), 0, 0, 0⟩ : api_Node))) gn rfl ?_
      refine w_end 11 rfl ?_
      by_cases hp37 : ix (x1.take ((w64 ((x9.length : Int) + 20) : Int).toNat)) (w64 ((x9.length : Int) + x21)) = (⟨(⟨#[109, 97, 114, 107]⟩ : ByteArray), false, (⟨#[]⟩ : ByteArray), w64 (900 + x21), 0, 0, 0⟩ : api_Node)
      · have h := if_pos' hp37 h
        refine g_false (c := trellislaw32_still_c21) rfl _ rfl ((nf (decide_eq_true hp37))) ?_
        refine g_skip (c := trellislaw32_still_c23) rfl ?_
        refine g_inBlock ?_
        refine g_region (c := trellislaw32_still_c18) rfl rfl ?_
        refine wl_v 0 rfl (v_move rfl) gn rfl ?_
        refine wl_v 1 rfl (v_bin rfl rfl rfl) gn rfl ?_
        refine wl_v 2 rfl (v_assign rfl) gn rfl ?_
        refine w_end 3 rfl ?_
        refine g_inLoop ?_
        have ih := Out.inl hO1 h
        exact g_go [0, 1] (ih ()) ⟨rfl, rfl, rfl, rfl, trivial⟩ (.slnil) rfl
      · have h := if_neg' hp37 h
        refine g_true (c := trellislaw32_still_c21) rfl _ rfl ((nt (decide_eq_false hp37))) ?_
        refine g_seq (c := trellislaw32_still_c22) rfl ?_
        refine g_region (c := trellislaw32_still_c24) rfl rfl ?_
        refine wl_v 0 rfl (v_assign rfl) gn rfl ?_
        refine w_end 1 rfl ?_
        have h := Out.inr hO1 h
        refine g_retR (c := trellislaw32_still_c25) [.bool false] rfl Try.func19 rfl (.tmp rfl (.nil)) fun wr hLr => ?_
        have hMr : B.Loc w wr [] [St w []] := hLr.pick (rest := []) (perm_of_idx [] [] rfl rfl (by kernel_rfl)) (sels [1] rfl)
        have hMi : ∀ e ∈ ([] : List Ent), e ∈ ([] : List Ent) := sels [] rfl
        show trellislaw32_still_R w F  r (.returned (packV [.bool false])) wr
        rw [h]
        exact ⟨rfl, hMr⟩
    · have h := if_neg' hp34 h
      refine g_false (c := trellislaw32_still_c14) rfl _ rfl ((decide_eq_false hp34)) ?_
      refine g_exit (c := trellislaw32_still_c16) [.code trellislaw32_still_c6] rfl rfl ?_
      refine g_seq (c := trellislaw32_still_c6) rfl ?_
      refine g_region (c := trellislaw32_still_c26) rfl rfl ?_
      refine wl_v 0 rfl (v_move rfl) gn rfl ?_
      refine wl_v 1 rfl (v_move rfl) gn rfl ?_
      obtain ⟨r41, hv42, h⟩ := h
      refine wl_s 2 rfl (s_call [.slice A2 k6 c4, .slice A10 n11 c12] rfl Try.func24 rfl rfl rfl fun w38 hL39 => ?_) gn
      have hp40 : List.Perm ([] : List Ent) (([] : List Ent) ++ ([] : List Ent)) := perm_of_idx [] [] rfl rfl (by kernel_rfl)
      refine Calls.mono (trellislaw32_same_calls w38 (Fl ([] : List Snap)) (x1.take k6) x9 A2 k6 c4 A10 n11 c12 (Rw.mono h8 (hL39.toSt hp40 (me 1 rfl))) (Rw.mono h13 (hL39.toSt hp40 (me 1 rfl))) (hL39.hFl (Sl := ([] : List Snap)) hp40 (sels [] rfl)) (hL39.into hp40 (Fl ([] : List Snap))) r41 hv42) ?_
      rintro _ w43 ⟨rfl, hM44⟩
      have hL45 := hL39.call hp40 hM44
      refine ⟨_, _, _, rfl, hL45, ?_⟩
      refine wl_v 3 rfl (v_assign rfl) gn rfl ?_
      refine w_end 4 rfl ?_
      have h := Out.inr hO1 h
      refine g_retR (c := trellislaw32_still_c27) [.bool r41] rfl Try.func19 rfl (.tmp rfl (.nil)) fun wr hLr => ?_
      have hMr : B.Loc w wr [] [St w []] := hLr.pick (rest := []) (perm_of_idx [] [] rfl rfl (by kernel_rfl)) (sels [1] rfl)
      have hMi : ∀ e ∈ ([] : List Ent), e ∈ ([] : List Ent) := sels [] rfl
      show trellislaw32_still_R w F  r (.returned (packV [.bool r41])) wr
      rw [h]
      exact ⟨rfl, hMr⟩
  exact g_go [0, 1] (key1 _ h ()) ⟨rfl, rfl, rfl, rfl, trivial⟩ (.slnil) rfl
noncomputable abbrev trellislaw32_over_c0 : Code := bodyOf Try.f20
noncomputable abbrev trellislaw32_over_c1 : Code := Code.fst trellislaw32_over_c0
noncomputable abbrev trellislaw32_over_c2 : Code := Code.snd trellislaw32_over_c0
noncomputable abbrev trellislaw32_over_c3 : Code := Code.fst trellislaw32_over_c2
noncomputable abbrev trellislaw32_over_c4 : Code := Code.fst trellislaw32_over_c3
noncomputable abbrev trellislaw32_over_c5 : Code := Code.fst trellislaw32_over_c4
noncomputable abbrev trellislaw32_over_c6 : Code := Code.snd trellislaw32_over_c4
noncomputable abbrev trellislaw32_over_c7 : Code := Code.fst trellislaw32_over_c5
noncomputable abbrev trellislaw32_over_c8 : Code := Code.snd trellislaw32_over_c5
noncomputable abbrev trellislaw32_over_c9 : Code := Code.fst trellislaw32_over_c8
noncomputable abbrev trellislaw32_over_c10 : Code := Code.snd trellislaw32_over_c8
noncomputable abbrev trellislaw32_over_c11 : Code := Code.fst trellislaw32_over_c6
noncomputable abbrev trellislaw32_over_c12 : Code := Code.snd trellislaw32_over_c6
noncomputable abbrev trellislaw32_over_c13 : Code := Code.fst trellislaw32_over_c11
noncomputable abbrev trellislaw32_over_c14 : Code := Code.fst trellislaw32_over_c13
noncomputable abbrev trellislaw32_over_c15 : Code := Code.snd trellislaw32_over_c13
noncomputable abbrev trellislaw32_over_c16 : Code := Code.fst trellislaw32_over_c15
noncomputable abbrev trellislaw32_over_c17 : Code := Code.snd trellislaw32_over_c15
abbrev trellislaw32_over_R (w : World) (F : Nat → Prop) (A2 : Option Addr) (n3 : Nat) (c4 : Nat) (z6 : Nat) (r : List api_Node) : Ending → World → Prop := fun e w' => e = .returned (.tuple #[]) ∧ B.Loc w w' [.own (.slice A2 n3 c4) 39 7 n3 (r.flatMap enc_api_Node)] [St w [(Value.slice A2 n3 c4).ownBlock.toList]] ∧ Ow z6 A2 n3 c4 r
noncomputable abbrev trellislaw32_over_C (w : World) (F : Nat → Prop) (A2 : Option Addr) (n3 : Nat) (c4 : Nat) (z6 : Nat) (r : List api_Node) : Cx := ⟨Try.prog, 20, Try.f20, 42, trellislaw32_over_R w F A2 n3 c4 z6 r, w⟩
theorem trellislaw32_over_calls (w : World) (F : Nat → Prop) (x1 : List api_Node) (k8 : Nat) (z6 : Nat) (A2 : Option Addr) (n3 : Nat) (c4 : Nat) (hz7 : z6 ≤ w.heap.size) (h5 : Ow z6 A2 n3 c4 x1) (hk9 : k8 ≤ n3) (hF : ∀ b, F b → b < w.heap.size ∧ ∀ o ∈ ([(Value.slice A2 n3 c4).ownBlock.toList] : List (List Nat)), b ∉ o) (hL0 : B.Loc w w [.own (.slice A2 n3 c4) 39 7 n3 (x1.flatMap enc_api_Node)] [Sm w.heap.size F w [(Value.slice A2 n3 c4).ownBlock.toList], St w [(Value.slice A2 n3 c4).ownBlock.toList]]) (r : List api_Node) (h : trellislaw32_over x1 k8 r) : Calls Try.prog 20 #[.slice A2 k8 c4] w (trellislaw32_over_R w F A2 n3 c4 z6 r) := by
  unfold trellislaw32_over at h
  refine calls_of_Loc (vs := [.slice A2 k8 c4]) 42 Try.func20 rfl Try.ntmps20 rfl hL0 ?_
  show G (trellislaw32_over_C w F A2 n3 c4 z6 r) _ _ _ _
  refine g_seq (c := trellislaw32_over_c0) rfl ?_
  refine g_region (c := trellislaw32_over_c1) rfl rfl ?_
  refine wl_v 0 rfl (v_assign rfl) gn rfl ?_
  refine w_end 1 rfl ?_
  refine g_block (c := trellislaw32_over_c2) rfl ?_
  refine g_loop (c := trellislaw32_over_c3) rfl ?_
  have key1 : ∀ s, Rounds (fun (s : (List api_Node) × Int) o => trellislaw32_over_b1 k8 s.1 s.2 o) s r → (fun (s : (List api_Node) × Int) => ∀ (h35 : Ow z6 A2 n3 c4 s.1) (hl11 : k8 ≤ n3), G (trellislaw32_over_C w F A2 n3 c4 z6 r) [.code trellislaw32_over_c4, .inLoop trellislaw32_over_c4, .inBlock 0] [(0, .slice A2 k8 c4), (2, .int .i64 s.2)] [.own (.slice A2 n3 c4) 39 7 n3 (s.1.flatMap enc_api_Node)] [Sm w.heap.size F w [(Value.slice A2 n3 c4).ownBlock.toList], St w [(Value.slice A2 n3 c4).ownBlock.toList]]) s := by
    intro s hs
    refine Rounds.ind (mot := (fun (s : (List api_Node) × Int) => ∀ (h35 : Ow z6 A2 n3 c4 s.1) (hl11 : k8 ≤ n3), G (trellislaw32_over_C w F A2 n3 c4 z6 r) [.code trellislaw32_over_c4, .inLoop trellislaw32_over_c4, .inBlock 0] [(0, .slice A2 k8 c4), (2, .int .i64 s.2)] [.own (.slice A2 n3 c4) 39 7 n3 (s.1.flatMap enc_api_Node)] [Sm w.heap.size F w [(Value.slice A2 n3 c4).ownBlock.toList], St w [(Value.slice A2 n3 c4).ownBlock.toList]])) ?_ hs
    clear hs s
    intro s o1 h hO1
    obtain ⟨x34, x36⟩ := s
    show ∀ (h35 : Ow z6 A2 n3 c4 x34) (hl11 : k8 ≤ n3), G (trellislaw32_over_C w F A2 n3 c4 z6 r) [.code trellislaw32_over_c4, .inLoop trellislaw32_over_c4, .inBlock 0] [(0, .slice A2 k8 c4), (2, .int .i64 x36)] [.own (.slice A2 n3 c4) 39 7 n3 (x34.flatMap enc_api_Node)] [Sm w.heap.size F w [(Value.slice A2 n3 c4).ownBlock.toList], St w [(Value.slice A2 n3 c4).ownBlock.toList]]
    intro h35 hl11
    have h : trellislaw32_over_b1 k8 x34 x36 o1 := h
    unfold trellislaw32_over_b1 at h
    refine g_seq (c := trellislaw32_over_c4) rfl ?_
    refine g_seq (c := trellislaw32_over_c5) rfl ?_
    refine g_region (c := trellislaw32_over_c7) rfl rfl ?_
    refine wl_v 0 rfl (v_move rfl) gn rfl ?_
    refine wl_v 1 rfl (v_move rfl) gn rfl ?_
    refine wl_v 2 rfl (v_lenQ un_22 rfl (Ow.cut h35 hl11).hq) gn rfl ?_
    refine wl_v 3 rfl (v_bin rfl rfl rfl) gn rfl ?_
    refine w_end 4 rfl ?_
    by_cases hp59 : x36 < ((x34.take k8).length : Int)
    · have h := if_pos' hp59 h
      refine g_true (c := trellislaw32_over_c8) rfl _ rfl ((decide_eq_true hp59)) ?_
      refine g_skip (c := trellislaw32_over_c9) rfl ?_
      refine g_seq (c := trellislaw32_over_c6) rfl ?_
      refine g_block (c := trellislaw32_over_c11) rfl ?_
      refine g_seq (c := trellislaw32_over_c13) rfl ?_
      refine g_region (c := trellislaw32_over_c14) rfl rfl ?_
      refine wl_v 0 rfl (v_move rfl) gn rfl ?_
      refine wl_v 1 rfl (v_move rfl) gn rfl ?_
      refine wl_v 2 rfl (v_move rfl) gn rfl ?_
      refine wl_v 3 rfl (v_move rfl) gn rfl ?_
      refine wl_v 4 rfl (v_lenQ un_22 rfl (Ow.cut h35 hl11).hq) gn rfl ?_
      refine wl_v 5 rfl (v_bin rfl rfl rfl) gn rfl ?_
      obtain ⟨hb60, h⟩ := h
      have hb61 : 0 ≤ w64 (((x34.take k8).length : Int) - 1) ∧ w64 (((x34.take k8).length : Int) - 1) < (x34.length : Int) := by have q := hb60; have q2 := List.length_take_le' k8 x34; omega
      refine wl_v 6 rfl (v_idxO slE_22 rfl rfl (Ow.cut h35 hl11) hb60) gn rfl ?_
      refine wl_v 7 rfl (v_fldA fo_39_0 rfl) gn rfl ?_
      refine wl_v 8 rfl (v_ldO1 (.string ((ix x34 (w64 (((x34.take k8).length : Int) - 1))).name)) 0 ld_9 rfl rfl (fm_get hl_api_Node hb61 rfl)) gn rfl ?_
      obtain ⟨hb62, h⟩ := h
      have hb63 : 0 ≤ x36 ∧ x36 < (x34.length : Int) := by have q := hb62; have q2 := List.length_take_le' k8 x34; omega
      refine wl_v 9 rfl (v_idxO slE_22 rfl rfl (Ow.cut h35 hl11) hb62) gn rfl ?_
      refine wl_v 10 rfl (v_fldA fo_39_0 rfl) gn rfl ?_
      obtain ⟨x64, hv65, h⟩ := h
      refine wl_s 11 rfl (s_stF (enc := enc_api_Node) (o := 0) (z := ({ (ix x34 x36) with name := (ix x34 (w64 (((x34.take k8).length : Int) - 1))).name })) (vs := [.string ((ix x34 (w64 (((x34.take k8).length : Int) - 1))).name)]) (i := x36) 0 hl_api_Node sz_9 rfl rfl rfl rfl rfl h35 hb63 rfl rfl rfl hv65 fun h66 => ?_) gn
      refine w_end 12 rfl ?_
      refine g_seq (c := trellislaw32_over_c15) rfl ?_
      refine g_region (c := trellislaw32_over_c16) rfl rfl ?_
      refine wl_v 0 rfl (v_move rfl) gn rfl ?_
      refine wl_v 1 rfl (v_move rfl) gn rfl ?_
      refine wl_v 2 rfl (v_move rfl) gn rfl ?_
      refine wl_v 3 rfl (v_move rfl) gn rfl ?_
      refine wl_v 4 rfl (v_lenQ un_22 rfl (Ow.cut h66 hl11).hq) gn rfl ?_
      refine wl_v 5 rfl (v_bin rfl rfl rfl) gn rfl ?_
      obtain ⟨hb67, h⟩ := h
      have hb68 : 0 ≤ w64 (((x64.take k8).length : Int) - 1) ∧ w64 (((x64.take k8).length : Int) - 1) < (x64.length : Int) := by have q := hb67; have q2 := List.length_take_le' k8 x64; omega
      refine wl_v 6 rfl (v_idxO slE_22 rfl rfl (Ow.cut h66 hl11) hb67) gn rfl ?_
      refine wl_v 7 rfl (v_fldA fo_39_3 rfl) gn rfl ?_
      refine wl_v 8 rfl (v_ldO1 (.int .i64 ((ix x64 (w64 (((x64.take k8).length : Int) - 1))).from_)) 0 ld_3 rfl rfl (fm_get hl_api_Node hb68 rfl)) gn rfl ?_
      obtain ⟨hb69, h⟩ := h
      have hb70 : 0 ≤ x36 ∧ x36 < (x64.length : Int) := by have q := hb69; have q2 := List.length_take_le' k8 x64; omega
      refine wl_v 9 rfl (v_idxO slE_22 rfl rfl (Ow.cut h66 hl11) hb69) gn rfl ?_
      refine wl_v 10 rfl (v_fldA fo_39_3 rfl) gn rfl ?_
      obtain ⟨x71, hv72, h⟩ := h
      refine wl_s 11 rfl (s_stF (enc := enc_api_Node) (o := 3) (z := ({ (ix x64 x36) with from_ := (ix x64 (w64 (((x64.take k8).length : Int) - 1))).from_ })) (vs := [.int .i64 ((ix x64 (w64 (((x64.take k8).length : Int) - 1))).from_)]) (i := x36) 0 hl_api_Node sz_3 rfl rfl rfl rfl rfl h66 hb70 rfl rfl rfl hv72 fun h73 => ?_) gn
      refine w_end 12 rfl ?_
      refine g_region (c := trellislaw32_over_c17) rfl rfl ?_
      refine wl_v 0 rfl (v_move rfl) gn rfl ?_
      refine wl_v 1 rfl (v_move rfl) gn rfl ?_
      refine wl_v 2 rfl (v_move rfl) gn rfl ?_
      refine wl_v 3 rfl (v_move rfl) gn rfl ?_
      refine wl_v 4 rfl (v_lenQ un_22 rfl (Ow.cut h73 hl11).hq) gn rfl ?_
      refine wl_v 5 rfl (v_bin rfl rfl rfl) gn rfl ?_
      obtain ⟨hb74, h⟩ := h
      have hb75 : 0 ≤ w64 (((x71.take k8).length : Int) - 1) ∧ w64 (((x71.take k8).length : Int) - 1) < (x71.length : Int) := by have q := hb74; have q2 := List.length_take_le' k8 x71; omega
      refine wl_v 6 rfl (v_idxO slE_22 rfl rfl (Ow.cut h73 hl11) hb74) gn rfl ?_
      refine wl_v 7 rfl (v_fldA fo_39_4 rfl) gn rfl ?_
      refine wl_v 8 rfl (v_ldO1 (.int .i64 ((ix x71 (w64 (((x71.take k8).length : Int) - 1))).to)) 0 ld_3 rfl rfl (fm_get hl_api_Node hb75 rfl)) gn rfl ?_
      obtain ⟨hb76, h⟩ := h
      have hb77 : 0 ≤ x36 ∧ x36 < (x71.length : Int) := by have q := hb76; have q2 := List.length_take_le' k8 x71; omega
      refine wl_v 9 rfl (v_idxO slE_22 rfl rfl (Ow.cut h73 hl11) hb76) gn rfl ?_
      refine wl_v 10 rfl (v_fldA fo_39_4 rfl) gn rfl ?_
      obtain ⟨x78, hv79, h⟩ := h
      refine wl_s 11 rfl (s_stF (enc := enc_api_Node) (o := 4) (z := ({ (ix x71 x36) with to := (ix x71 (w64 (((x71.take k8).length : Int) - 1))).to })) (vs := [.int .i64 ((ix x71 (w64 (((x71.take k8).length : Int) - 1))).to)]) (i := x36) 0 hl_api_Node sz_3 rfl rfl rfl rfl rfl h73 hb77 rfl rfl rfl hv79 fun h80 => ?_) gn
      refine w_end 12 rfl ?_
      refine g_inBlock ?_
      refine g_region (c := trellislaw32_over_c12) rfl rfl ?_
      refine wl_v 0 rfl (v_move rfl) gn rfl ?_
      refine wl_v 1 rfl (v_bin rfl rfl rfl) gn rfl ?_
      refine wl_v 2 rfl (v_assign rfl) gn rfl ?_
      refine w_end 3 rfl ?_
      refine g_inLoop ?_
      have ih := Out.inl hO1 h
      exact g_go [0, 1] (ih h80 hl11) ⟨rfl, rfl, trivial⟩ (.cons_cons _ (.slnil)) rfl
    · have h := if_neg' hp59 h
      refine g_false (c := trellislaw32_over_c8) rfl _ rfl ((decide_eq_false hp59)) ?_
      refine g_exit (c := trellislaw32_over_c10) [] rfl rfl ?_
      have h := Out.inr hO1 h
      refine g_endR [] Try.func20 rfl (.nil) fun wr hLr => ?_
      have hMr : B.Loc w wr [.own (.slice A2 n3 c4) 39 7 n3 (x34.flatMap enc_api_Node)] [St w [(Value.slice A2 n3 c4).ownBlock.toList]] := hLr.pick (rest := []) (perm_of_idx [0] [] rfl rfl (by kernel_rfl)) (sels [1] rfl)
      have hMi : ∀ e ∈ ([.own (.slice A2 n3 c4) 39 7 n3 (x34.flatMap enc_api_Node)] : List Ent), e ∈ ([.own (.slice A2 n3 c4) 39 7 n3 (x34.flatMap enc_api_Node)] : List Ent) := sels [0] rfl
      show trellislaw32_over_R w F A2 n3 c4 z6 r (.returned (packV [])) wr
      rw [h]
      exact ⟨rfl, hMr, h35⟩
  exact g_go [0, 1] (key1 _ h h5 hk9) ⟨rfl, rfl, trivial⟩ (.cons_cons _ (.slnil)) rfl
noncomputable abbrev trellislaw32_grows_c0 : Code := bodyOf Try.f21
noncomputable abbrev trellislaw32_grows_c1 : Code := Code.fst trellislaw32_grows_c0
noncomputable abbrev trellislaw32_grows_c2 : Code := Code.snd trellislaw32_grows_c0
noncomputable abbrev trellislaw32_grows_c3 : Code := Code.fst trellislaw32_grows_c2
noncomputable abbrev trellislaw32_grows_c4 : Code := Code.snd trellislaw32_grows_c2
noncomputable abbrev trellislaw32_grows_c5 : Code := Code.fst trellislaw32_grows_c4
noncomputable abbrev trellislaw32_grows_c6 : Code := Code.snd trellislaw32_grows_c4
noncomputable abbrev trellislaw32_grows_c7 : Code := Code.fst trellislaw32_grows_c6
noncomputable abbrev trellislaw32_grows_c8 : Code := Code.snd trellislaw32_grows_c6
noncomputable abbrev trellislaw32_grows_c9 : Code := Code.fst trellislaw32_grows_c8
noncomputable abbrev trellislaw32_grows_c10 : Code := Code.snd trellislaw32_grows_c8
noncomputable abbrev trellislaw32_grows_c11 : Code := Code.fst trellislaw32_grows_c10
noncomputable abbrev trellislaw32_grows_c12 : Code := Code.snd trellislaw32_grows_c10
abbrev trellislaw32_grows_R (w : World) (F : Nat → Prop) (r : Bool) : Ending → World → Prop := fun e w' => e = .returned (.bool r) ∧ B.Loc w w' [] [St w []]
noncomputable abbrev trellislaw32_grows_C (w : World) (F : Nat → Prop) (r : Bool) : Cx := ⟨Try.prog, 21, Try.f21, 44, trellislaw32_grows_R w F  r, w⟩
theorem trellislaw32_grows_calls (w : World) (F : Nat → Prop) (x1 : List api_Node) (k6 : Nat) (x9 : api_Range) (A2 : Option Addr) (n3 : Nat) (c4 : Nat) (h5 : Rw k_api_Node w (St w []).av A2 n3 c4 x1) (hk7 : k6 ≤ n3) (hF : ∀ b, F b → b < w.heap.size ∧ ∀ o ∈ ([] : List (List Nat)), b ∉ o) (hL0 : B.Loc w w [] [Sm w.heap.size F w [], St w []]) (r : Bool) (h : trellislaw32_grows x1 k6 x9 r) : Calls Try.prog 21 #[.slice A2 k6 c4, .agg #[.int .i64 x9.from_, .int .i64 x9.to]] w (trellislaw32_grows_R w F  r) := by
  unfold trellislaw32_grows at h
  have h8 := Rw.pre h5 hk7
  refine calls_of_Loc (vs := [.slice A2 k6 c4, .agg #[.int .i64 x9.from_, .int .i64 x9.to]]) 44 Try.func21 rfl Try.ntmps21 rfl hL0 ?_
  show G (trellislaw32_grows_C w F r) _ _ _ _
  refine g_seq (c := trellislaw32_grows_c0) rfl ?_
  refine g_region (c := trellislaw32_grows_c1) rfl rfl ?_
  refine wl_s 0 rfl (s_box [.int .i64 x9.from_, .int .i64 x9.to] rfl rfl rfl fun gb10 => ?_) gn
  refine wl_v 1 rfl (v_assign rfl) gn rfl ?_
  refine w_end 2 rfl ?_
  refine g_seq (c := trellislaw32_grows_c2) rfl ?_
  refine g_region (c := trellislaw32_grows_c3) rfl rfl ?_
  refine wl_v 0 rfl (v_move rfl) gn rfl ?_
  obtain ⟨r15, hv16, h⟩ := h
  refine wl_s 1 rfl (s_call [.slice A2 k6 c4] rfl Try.func10 rfl rfl rfl fun w12 hL13 => ?_) gn
  have hp14 : List.Perm ([.box gb10 24 [.int .i64 x9.from_, .int .i64 x9.to]] : List Ent) (([] : List Ent) ++ ([.box gb10 24 [.int .i64 x9.from_, .int .i64 x9.to]] : List Ent)) := perm_of_idx [] [0] rfl rfl (by kernel_rfl)
  refine Calls.mono (trellislaw32_twin_calls w12 (Fl ([] : List Snap)) (x1.take k6) A2 k6 c4 (Rw.mono h8 (hL13.toSt hp14 (me 1 rfl))) (hL13.hFl (Sl := ([] : List Snap)) hp14 (sels [] rfl)) (hL13.into hp14 (Fl ([] : List Snap))) r15 hv16) ?_
  rintro _ w22 ⟨A17, n18, c19, rfl, hM23, h20⟩
  have hL24 := hL13.call hp14 hM23
  refine ⟨_, _, _, rfl, hL24, ?_⟩
  refine wl_v 2 rfl (v_assign rfl) gn rfl ?_
  refine w_end 3 rfl ?_
  refine g_seq (c := trellislaw32_grows_c4) rfl ?_
  refine g_region (c := trellislaw32_grows_c5) rfl rfl ?_
  refine wl_v 0 rfl (v_move rfl) gn rfl ?_
  refine wl_v 1 rfl (v_ldB [.int .i64 x9.from_, .int .i64 x9.to] 1 ld_24 rfl rfl rfl rfl) gn rfl ?_
  obtain ⟨r28, hv29, h⟩ := h
  refine wl_s 2 rfl (s_call [.slice A17 n18 c19, .agg #[.int .i64 x9.from_, .int .i64 x9.to]] rfl Try.func16 rfl rfl rfl fun w25 hL26 => ?_) gn
  have hp27 : List.Perm ([.own (.slice A17 n18 c19) 39 7 n18 (r15.flatMap enc_api_Node), .box gb10 24 [.int .i64 x9.from_, .int .i64 x9.to]] : List Ent) (([] : List Ent) ++ ([.own (.slice A17 n18 c19) 39 7 n18 (r15.flatMap enc_api_Node), .box gb10 24 [.int .i64 x9.from_, .int .i64 x9.to]] : List Ent)) := perm_of_idx [] [0, 1] rfl rfl (by kernel_rfl)
  refine Calls.mono (trellisref32_Cover_calls w25 (Fl ([] : List Snap)) r15 x9 A17 n18 c19 (hL26.argO (dk := k_api_Node) hp27 [] rfl 0 rfl rfl (Ow.weak hL13.env.size h20) (me 0 rfl) (Cells.flat _)) (hL26.hFl (Sl := ([] : List Snap)) hp27 (sels [] rfl)) (hL26.into hp27 (Fl ([] : List Snap))) r28 hv29) ?_
  rintro _ w30 ⟨rfl, hM31⟩
  have hL32 := hL26.call hp27 hM31
  refine ⟨_, _, _, rfl, hL32, ?_⟩
  refine wl_v 3 rfl (v_assign rfl) gn rfl ?_
  refine w_end 4 rfl ?_
  refine g_seq (c := trellislaw32_grows_c6) rfl ?_
  refine g_region (c := trellislaw32_grows_c7) rfl rfl ?_
  refine wl_v 0 rfl (v_move rfl) gn rfl ?_
  refine wl_v 1 rfl (v_ldB [.int .i64 x9.from_, .int .i64 x9.to] 1 ld_24 rfl rfl rfl rfl) gn rfl ?_
  obtain ⟨r36, hv37, h⟩ := h
  refine wl_s 2 rfl (s_call [.slice A17 n18 c19, .agg #[.int .i64 x9.from_, .int .i64 x9.to]] rfl Try.func17 rfl rfl rfl fun w33 hL34 => ?_) gn
  have hp35 : List.Perm ([.own (.slice A17 n18 c19) 39 7 n18 (r15.flatMap enc_api_Node), .box gb10 24 [.int .i64 x9.from_, .int .i64 x9.to]] : List Ent) (([] : List Ent) ++ ([.own (.slice A17 n18 c19) 39 7 n18 (r15.flatMap enc_api_Node), .box gb10 24 [.int .i64 x9.from_, .int .i64 x9.to]] : List Ent)) := perm_of_idx [] [0, 1] rfl rfl (by kernel_rfl)
  refine Calls.mono (trellisref32_Grow_calls w33 (Fl ([] : List Snap)) r15 x9 A17 n18 c19 (hL34.argO (dk := k_api_Node) hp35 [] rfl 0 rfl rfl (Ow.weak hL13.env.size h20) (me 0 rfl) (Cells.flat _)) (hL34.hFl (Sl := ([] : List Snap)) hp35 (sels [] rfl)) (hL34.into hp35 (Fl ([] : List Snap))) r36 hv37) ?_
  rintro _ w38 ⟨rfl, hM39⟩
  have hL40 := hL34.call hp35 hM39
  refine ⟨_, _, _, rfl, hL40, ?_⟩
  refine wl_s 3 rfl (s_alloc [.int .i64 0, .int .i64 0] zr_24 rfl fun gb41 => ?_) gn
  refine wl_s 4 rfl (s_stB (vs := [.int .i64 r36.from_, .int .i64 r36.to]) (cs' := [.int .i64 r36.from_, .int .i64 r36.to]) (M' := [.box gb41 24 [.int .i64 r36.from_, .int .i64 r36.to], .own (.slice A17 n18 c19) 39 7 n18 (r15.flatMap enc_api_Node), .box gb10 24 [.int .i64 x9.from_, .int .i64 x9.to]]) 0 sz_24 rfl rfl rfl rfl rfl rfl rfl rfl rfl ?_) gn
  refine w_end 5 rfl ?_
  refine g_seq (c := trellislaw32_grows_c8) rfl ?_
  refine g_region (c := trellislaw32_grows_c9) rfl rfl ?_
  refine wl_v 0 rfl (v_move rfl) gn rfl ?_
  refine wl_v 1 rfl (v_ldB [.int .i64 x9.from_, .int .i64 x9.to] 2 ld_24 rfl rfl rfl rfl) gn rfl ?_
  obtain ⟨r46, hv47, h⟩ := h
  refine wl_s 2 rfl (s_call [.slice A17 n18 c19, .agg #[.int .i64 x9.from_, .int .i64 x9.to]] rfl Try.func15 rfl rfl rfl fun w43 hL44 => ?_) gn
  have hp45 : List.Perm ([.box gb41 24 [.int .i64 r36.from_, .int .i64 r36.to], .own (.slice A17 n18 c19) 39 7 n18 (r15.flatMap enc_api_Node), .box gb10 24 [.int .i64 x9.from_, .int .i64 x9.to]] : List Ent) (([] : List Ent) ++ ([.box gb41 24 [.int .i64 r36.from_, .int .i64 r36.to], .own (.slice A17 n18 c19) 39 7 n18 (r15.flatMap enc_api_Node), .box gb10 24 [.int .i64 x9.from_, .int .i64 x9.to]] : List Ent)) := perm_of_idx [] [0, 1, 2] rfl rfl (by kernel_rfl)
  refine Calls.mono (trellisref32_Steps_calls w43 (Fl ([] : List Snap)) r15 x9 A17 n18 c19 (hL44.argO (dk := k_api_Node) hp45 [] rfl 1 rfl rfl (Ow.weak hL13.env.size h20) (me 0 rfl) (Cells.flat _)) (hL44.hFl (Sl := ([] : List Snap)) hp45 (sels [] rfl)) (hL44.into hp45 (Fl ([] : List Snap))) r46 hv47) ?_
  rintro _ w53 ⟨A48, n49, c50, rfl, hM54, h51⟩
  have hL55 := hL44.call hp45 hM54
  refine ⟨_, _, _, rfl, hL55, ?_⟩
  refine wl_v 3 rfl (v_assign rfl) gn rfl ?_
  refine w_end 4 rfl ?_
  refine g_seq (c := trellislaw32_grows_c10) rfl ?_
  obtain ⟨r59, hv60, h⟩ := h
  by_cases hp64 : r59 = r28
  · have h := if_pos' hp64 h
    obtain ⟨r68, hv69, h⟩ := h
    by_cases hp73 : r68 = r36
    · have h := if_pos' hp73 h
      obtain ⟨r77, hv78, h⟩ := h
      obtain ⟨r90, hv91, h⟩ := h
      by_cases hp95 : r90 = true
      · have h := if_pos' hp95 h
        obtain ⟨r99, hv100, h⟩ := h
        have hns : Region.noSelect (Code.ops trellislaw32_grows_c11) = true := by kernel_rfl
        refine g_drawF (c := trellislaw32_grows_c11) [.own (.slice A48 n49 c50) 24 2 n49 (r46.flatMap enc_api_Range), .box gb41 24 [.int .i64 r36.from_, .int .i64 r36.to], .own (.slice A17 n18 c19) 39 7 n18 (r15.flatMap enc_api_Node), .box gb10 24 [.int .i64 x9.from_, .int .i64 x9.to]] [Sm w.heap.size F w [], St w []] [] 25 rfl rfl mix rfl (.cons_cons _ (.cons_cons _ (.cons_cons _ (.cons_cons _ (.slnil))))) (sels [0, 1] rfl) ?_
        refine wf_v 0 rfl (v_move rfl) gn rfl hns (by kernel_rfl) (by kernel_rfl) rfl rfl ?_
        refine wf_v 1 rfl (v_ldB [.int .i64 x9.from_, .int .i64 x9.to] 3 ld_24 rfl rfl rfl rfl) gn rfl hns (by kernel_rfl) (by kernel_rfl) rfl rfl ?_
        refine wf_v 3 rfl (v_move rfl) gn rfl hns (by kernel_rfl) (by kernel_rfl) rfl rfl ?_
        refine wf_all [2] (by kernel_rfl) rfl ⟨on_s 2 rfl gn rfl (s_call [.slice A2 k6 c4, .agg #[.int .i64 x9.from_, .int .i64 x9.to]] rfl Try.func12 rfl rfl rfl fun w206 hL207 => ?_), trivial⟩
        have hp208 : List.Perm ([.own (.slice A48 n49 c50) 24 2 n49 (r46.flatMap enc_api_Range), .box gb41 24 [.int .i64 r36.from_, .int .i64 r36.to], .own (.slice A17 n18 c19) 39 7 n18 (r15.flatMap enc_api_Node), .box gb10 24 [.int .i64 x9.from_, .int .i64 x9.to]] : List Ent) (([] : List Ent) ++ ([.own (.slice A48 n49 c50) 24 2 n49 (r46.flatMap enc_api_Range), .box gb41 24 [.int .i64 r36.from_, .int .i64 r36.to], .own (.slice A17 n18 c19) 39 7 n18 (r15.flatMap enc_api_Node), .box gb10 24 [.int .i64 x9.from_, .int .i64 x9.to]] : List Ent)) := perm_of_idx [] [0, 1, 2, 3] rfl rfl (by kernel_rfl)
        refine Calls.mono (choose_Cover_calls w206 (Fl ([] : List Snap)) (x1.take k6) x9 A2 k6 c4 (Rw.mono h8 (hL207.toSt hp208 (me 1 rfl))) (hL207.hFl (Sl := ([] : List Snap)) hp208 (sels [] rfl)) (hL207.into hp208 (Fl ([] : List Snap))) r59 hv60) ?_
        rintro _ w209 ⟨rfl, hM210⟩
        have hL211 := hL207.call hp208 hM210
        refine ⟨_, _, _, rfl, hL211, ?_⟩
        refine ⟨sels [0, 1, 2, 3] rfl, sels [0, 1] rfl, ?_⟩
        refine wf_v 4 rfl (v_bin rfl rfl rfl) gn rfl hns (by kernel_rfl) (by kernel_rfl) rfl rfl ?_
        refine wf_v 5 rfl (v_move rfl) gn rfl hns (by kernel_rfl) (by kernel_rfl) rfl rfl ?_
        refine wf_bool 25 rfl ((eqi hp64)) ?_
        refine wf_v 6 rfl (v_move rfl) (gy 25 rfl rfl) rfl hns (by kernel_rfl) (by kernel_rfl) rfl rfl ?_
        refine wf_v 7 rfl (v_ldB [.int .i64 x9.from_, .int .i64 x9.to] 3 ld_24 rfl rfl rfl rfl) (gy 25 rfl rfl) rfl hns (by kernel_rfl) (by kernel_rfl) rfl rfl ?_
        refine wf_v 9 rfl (v_ldB [.int .i64 r36.from_, .int .i64 r36.to] 1 ld_24 rfl rfl rfl rfl) (gy 25 rfl rfl) rfl hns (by kernel_rfl) (by kernel_rfl) rfl rfl ?_
        refine wf_all [8] (by kernel_rfl) rfl ⟨on_s 8 rfl (gy 25 rfl rfl) rfl (s_call [.slice A2 k6 c4, .agg #[.int .i64 x9.from_, .int .i64 x9.to]] rfl Try.func13 rfl rfl rfl fun w224 hL225 => ?_), trivial⟩
        have hp226 : List.Perm ([.own (.slice A48 n49 c50) 24 2 n49 (r46.flatMap enc_api_Range), .box gb41 24 [.int .i64 r36.from_, .int .i64 r36.to], .own (.slice A17 n18 c19) 39 7 n18 (r15.flatMap enc_api_Node), .box gb10 24 [.int .i64 x9.from_, .int .i64 x9.to]] : List Ent) (([] : List Ent) ++ ([.own (.slice A48 n49 c50) 24 2 n49 (r46.flatMap enc_api_Range), .box gb41 24 [.int .i64 r36.from_, .int .i64 r36.to], .own (.slice A17 n18 c19) 39 7 n18 (r15.flatMap enc_api_Node), .box gb10 24 [.int .i64 x9.from_, .int .i64 x9.to]] : List Ent)) := perm_of_idx [] [0, 1, 2, 3] rfl rfl (by kernel_rfl)
        refine Calls.mono (choose_Grow_calls w224 (Fl ([] : List Snap)) (x1.take k6) x9 A2 k6 c4 (Rw.mono h8 (hL225.toSt hp226 (me 1 rfl))) (hL225.hFl (Sl := ([] : List Snap)) hp226 (sels [] rfl)) (hL225.into hp226 (Fl ([] : List Snap))) r68 hv69) ?_
        rintro _ w227 ⟨rfl, hM228⟩
        have hL229 := hL225.call hp226 hM228
        refine ⟨_, _, _, rfl, hL229, ?_⟩
        refine ⟨sels [0, 1, 2, 3] rfl, sels [0, 1] rfl, ?_⟩
        refine wf_v 10 rfl (v_eqSt eq_24 rfl rfl (eqd_api_Range r68 r36)) (gy 25 rfl rfl) rfl hns (by kernel_rfl) (by kernel_rfl) rfl rfl ?_
        refine wf_v 11 rfl (v_pick (b := true) rfl rfl) gn rfl hns (by kernel_rfl) (by kernel_rfl) rfl rfl ?_
        refine wf_v 12 rfl (v_move rfl) gn rfl hns (by kernel_rfl) (by kernel_rfl) rfl rfl ?_
        refine wf_bool 32 rfl ((decide_eq_true hp73)) ?_
        refine wf_v 13 rfl (v_move rfl) (gy 32 rfl rfl) rfl hns (by kernel_rfl) (by kernel_rfl) rfl rfl ?_
        refine wf_v 14 rfl (v_ldB [.int .i64 x9.from_, .int .i64 x9.to] 3 ld_24 rfl rfl rfl rfl) (gy 32 rfl rfl) rfl hns (by kernel_rfl) (by kernel_rfl) rfl rfl ?_
        refine wf_v 16 rfl (v_move rfl) (gy 32 rfl rfl) rfl hns (by kernel_rfl) (by kernel_rfl) rfl rfl ?_
        refine wf_all [15] (by kernel_rfl) rfl ⟨on_s 15 rfl (gy 32 rfl rfl) rfl (s_call [.slice A2 k6 c4, .agg #[.int .i64 x9.from_, .int .i64 x9.to]] rfl Try.func14 rfl rfl rfl fun w250 hL251 => ?_), trivial⟩
        have hp252 : List.Perm ([.own (.slice A48 n49 c50) 24 2 n49 (r46.flatMap enc_api_Range), .box gb41 24 [.int .i64 r36.from_, .int .i64 r36.to], .own (.slice A17 n18 c19) 39 7 n18 (r15.flatMap enc_api_Node), .box gb10 24 [.int .i64 x9.from_, .int .i64 x9.to]] : List Ent) (([] : List Ent) ++ ([.own (.slice A48 n49 c50) 24 2 n49 (r46.flatMap enc_api_Range), .box gb41 24 [.int .i64 r36.from_, .int .i64 r36.to], .own (.slice A17 n18 c19) 39 7 n18 (r15.flatMap enc_api_Node), .box gb10 24 [.int .i64 x9.from_, .int .i64 x9.to]] : List Ent)) := perm_of_idx [] [0, 1, 2, 3] rfl rfl (by kernel_rfl)
        refine Calls.mono (choose_Steps_calls w250 (Fl ([] : List Snap)) (x1.take k6) x9 A2 k6 c4 (Rw.mono h8 (hL251.toSt hp252 (me 1 rfl))) (hL251.hFl (Sl := ([] : List Snap)) hp252 (sels [] rfl)) (hL251.into hp252 (Fl ([] : List Snap))) r77 hv78) ?_
        rintro _ w257 ⟨A253, n254, c255, rfl, hM258, h256⟩
        have hL259 := hL251.call hp252 hM258
        refine ⟨_, _, _, rfl, hL259, ?_⟩
        refine ⟨sels [1, 2, 3, 4] rfl, sels [0, 1] rfl, ?_⟩
        refine wf_all [17] (by kernel_rfl) rfl ⟨on_s 17 rfl (gy 32 rfl rfl) rfl (s_call [.slice A253 n254 c255, .slice A48 n49 c50] rfl Try.func18 rfl rfl rfl fun w266 hL267 => ?_), trivial⟩
        have hp268 : List.Perm ([.own (.slice A253 n254 c255) 24 2 n254 (r77.flatMap enc_api_Range), .own (.slice A48 n49 c50) 24 2 n49 (r46.flatMap enc_api_Range), .box gb41 24 [.int .i64 r36.from_, .int .i64 r36.to], .own (.slice A17 n18 c19) 39 7 n18 (r15.flatMap enc_api_Node), .box gb10 24 [.int .i64 x9.from_, .int .i64 x9.to]] : List Ent) (([] : List Ent) ++ ([.own (.slice A253 n254 c255) 24 2 n254 (r77.flatMap enc_api_Range), .own (.slice A48 n49 c50) 24 2 n49 (r46.flatMap enc_api_Range), .box gb41 24 [.int .i64 r36.from_, .int .i64 r36.to], .own (.slice A17 n18 c19) 39 7 n18 (r15.flatMap enc_api_Node), .box gb10 24 [.int .i64 x9.from_, .int .i64 x9.to]] : List Ent)) := perm_of_idx [] [0, 1, 2, 3, 4] rfl rfl (by kernel_rfl)
        refine Calls.mono (trellislaw32_sameRanges_calls w266 (Fl ([] : List Snap)) r77 r46 A253 n254 c255 A48 n49 c50 (hL267.argO (dk := k_api_Range) hp268 [] rfl 0 rfl rfl (Ow.weak hL251.env.size h256) (me 0 rfl) (Cells.flat _)) (hL267.argO (dk := k_api_Range) hp268 [] rfl 1 rfl rfl (Ow.weak hL44.env.size h51) (me 0 rfl) (Cells.flat _)) (hL267.hFl (Sl := ([] : List Snap)) hp268 (sels [] rfl)) (hL267.into hp268 (Fl ([] : List Snap))) r90 hv91) ?_
        rintro _ w269 ⟨rfl, hM270⟩
        have hL271 := hL267.call hp268 hM270
        refine ⟨_, _, _, rfl, hL271, ?_⟩
        refine ⟨sels [1, 2, 3, 4] rfl, sels [0, 1] rfl, ?_⟩
        refine wf_v 18 rfl (v_pick (b := true) rfl rfl) gn rfl hns (by kernel_rfl) (by kernel_rfl) rfl rfl ?_
        refine wf_v 19 rfl (v_move rfl) gn rfl hns (by kernel_rfl) (by kernel_rfl) rfl rfl ?_
        refine wf_bool 39 rfl (hp95) ?_
        refine wf_v 20 rfl (v_move rfl) (gy 39 rfl rfl) rfl hns (by kernel_rfl) (by kernel_rfl) rfl rfl ?_
        refine wf_v 21 rfl (v_move rfl) (gy 39 rfl rfl) rfl hns (by kernel_rfl) (by kernel_rfl) rfl rfl ?_
        refine wf_all [22] (by kernel_rfl) rfl ⟨on_s 22 rfl (gy 39 rfl rfl) rfl (s_call [.slice A2 k6 c4, .slice A17 n18 c19] rfl Try.func19 rfl rfl rfl fun w278 hL279 => ?_), trivial⟩
        have hp280 : List.Perm ([.own (.slice A253 n254 c255) 24 2 n254 (r77.flatMap enc_api_Range), .own (.slice A48 n49 c50) 24 2 n49 (r46.flatMap enc_api_Range), .box gb41 24 [.int .i64 r36.from_, .int .i64 r36.to], .own (.slice A17 n18 c19) 39 7 n18 (r15.flatMap enc_api_Node), .box gb10 24 [.int .i64 x9.from_, .int .i64 x9.to]] : List Ent) (([] : List Ent) ++ ([.own (.slice A253 n254 c255) 24 2 n254 (r77.flatMap enc_api_Range), .own (.slice A48 n49 c50) 24 2 n49 (r46.flatMap enc_api_Range), .box gb41 24 [.int .i64 r36.from_, .int .i64 r36.to], .own (.slice A17 n18 c19) 39 7 n18 (r15.flatMap enc_api_Node), .box gb10 24 [.int .i64 x9.from_, .int .i64 x9.to]] : List Ent)) := perm_of_idx [] [0, 1, 2, 3, 4] rfl rfl (by kernel_rfl)
        refine Calls.mono (trellislaw32_still_calls w278 (Fl ([] : List Snap)) x1 k6 r15 A2 n3 c4 A17 n18 c19 (Rw.mono h5 (hL279.toSt hp280 (me 1 rfl))) hk7 (hL279.argO (dk := k_api_Node) hp280 [] rfl 3 rfl rfl (Ow.weak hL13.env.size h20) (me 0 rfl) (Cells.flat _)) (hL279.hFl (Sl := ([] : List Snap)) hp280 (sels [] rfl)) (hL279.into hp280 (Fl ([] : List Snap))) r99 hv100) ?_
        rintro _ w281 ⟨rfl, hM282⟩
        have hL283 := hL279.call hp280 hM282
        refine ⟨_, _, _, rfl, hL283, ?_⟩
        refine ⟨sels [1, 2, 3, 4] rfl, sels [0, 1] rfl, ?_⟩
        refine wf_v 23 rfl (v_pick (b := true) rfl rfl) gn rfl hns (by kernel_rfl) (by kernel_rfl) rfl rfl ?_
        refine wf_v 24 rfl (v_assign rfl) gn rfl hns (by kernel_rfl) (by kernel_rfl) rfl rfl ?_
        refine wf_end (by kernel_rfl) ?_
        refine g_retR (c := trellislaw32_grows_c12) [.bool r99] rfl Try.func21 rfl (.tmp rfl (.nil)) fun wr hLr => ?_
        have hMr : B.Loc w wr [] [St w []] := hLr.pick (rest := [.own (.slice A253 n254 c255) 24 2 n254 (r77.flatMap enc_api_Range), .own (.slice A48 n49 c50) 24 2 n49 (r46.flatMap enc_api_Range), .box gb41 24 [.int .i64 r36.from_, .int .i64 r36.to], .own (.slice A17 n18 c19) 39 7 n18 (r15.flatMap enc_api_Node), .box gb10 24 [.int .i64 x9.from_, .int .i64 x9.to]]) (perm_of_idx [] [0, 1, 2, 3, 4] rfl rfl (by kernel_rfl)) (sels [1] rfl)
        have hMi : ∀ e ∈ ([] : List Ent), e ∈ ([.own (.slice A253 n254 c255) 24 2 n254 (r77.flatMap enc_api_Range), .own (.slice A48 n49 c50) 24 2 n49 (r46.flatMap enc_api_Range), .box gb41 24 [.int .i64 r36.from_, .int .i64 r36.to], .own (.slice A17 n18 c19) 39 7 n18 (r15.flatMap enc_api_Node), .box gb10 24 [.int .i64 x9.from_, .int .i64 x9.to]] : List Ent) := sels [] rfl
        show trellislaw32_grows_R w F  r (.returned (packV [.bool r99])) wr
        rw [h]
        exact ⟨rfl, hMr⟩
      · have h := if_neg' hp95 h
        have hns : Region.noSelect (Code.ops trellislaw32_grows_c11) = true := by kernel_rfl
        refine g_drawF (c := trellislaw32_grows_c11) [.own (.slice A48 n49 c50) 24 2 n49 (r46.flatMap enc_api_Range), .box gb41 24 [.int .i64 r36.from_, .int .i64 r36.to], .own (.slice A17 n18 c19) 39 7 n18 (r15.flatMap enc_api_Node), .box gb10 24 [.int .i64 x9.from_, .int .i64 x9.to]] [Sm w.heap.size F w [], St w []] [] 25 rfl rfl mix rfl (.cons_cons _ (.cons_cons _ (.cons_cons _ (.cons_cons _ (.slnil))))) (sels [0, 1] rfl) ?_
        refine wf_v 0 rfl (v_move rfl) gn rfl hns (by kernel_rfl) (by kernel_rfl) rfl rfl ?_
        refine wf_v 1 rfl (v_ldB [.int .i64 x9.from_, .int .i64 x9.to] 3 ld_24 rfl rfl rfl rfl) gn rfl hns (by kernel_rfl) (by kernel_rfl) rfl rfl ?_
        refine wf_v 3 rfl (v_move rfl) gn rfl hns (by kernel_rfl) (by kernel_rfl) rfl rfl ?_
        refine wf_all [2] (by kernel_rfl) rfl ⟨on_s 2 rfl gn rfl (s_call [.slice A2 k6 c4, .agg #[.int .i64 x9.from_, .int .i64 x9.to]] rfl Try.func12 rfl rfl rfl fun w374 hL375 => ?_), trivial⟩
        have hp376 : List.Perm ([.own (.slice A48 n49 c50) 24 2 n49 (r46.flatMap enc_api_Range), .box gb41 24 [.int .i64 r36.from_, .int .i64 r36.to], .own (.slice A17 n18 c19) 39 7 n18 (r15.flatMap enc_api_Node), .box gb10 24 [.int .i64 x9.from_, .int .i64 x9.to]] : List Ent) (([] : List Ent) ++ ([.own (.slice A48 n49 c50) 24 2 n49 (r46.flatMap enc_api_Range), .box gb41 24 [.int .i64 r36.from_, .int .i64 r36.to], .own (.slice A17 n18 c19) 39 7 n18 (r15.flatMap enc_api_Node), .box gb10 24 [.int .i64 x9.from_, .int .i64 x9.to]] : List Ent)) := perm_of_idx [] [0, 1, 2, 3] rfl rfl (by kernel_rfl)
        refine Calls.mono (choose_Cover_calls w374 (Fl ([] : List Snap)) (x1.take k6) x9 A2 k6 c4 (Rw.mono h8 (hL375.toSt hp376 (me 1 rfl))) (hL375.hFl (Sl := ([] : List Snap)) hp376 (sels [] rfl)) (hL375.into hp376 (Fl ([] : List Snap))) r59 hv60) ?_
        rintro _ w377 ⟨rfl, hM378⟩
        have hL379 := hL375.call hp376 hM378
        refine ⟨_, _, _, rfl, hL379, ?_⟩
        refine ⟨sels [0, 1, 2, 3] rfl, sels [0, 1] rfl, ?_⟩
        refine wf_v 4 rfl (v_bin rfl rfl rfl) gn rfl hns (by kernel_rfl) (by kernel_rfl) rfl rfl ?_
        refine wf_v 5 rfl (v_move rfl) gn rfl hns (by kernel_rfl) (by kernel_rfl) rfl rfl ?_
        refine wf_bool 25 rfl ((eqi hp64)) ?_
        refine wf_v 6 rfl (v_move rfl) (gy 25 rfl rfl) rfl hns (by kernel_rfl) (by kernel_rfl) rfl rfl ?_
        refine wf_v 7 rfl (v_ldB [.int .i64 x9.from_, .int .i64 x9.to] 3 ld_24 rfl rfl rfl rfl) (gy 25 rfl rfl) rfl hns (by kernel_rfl) (by kernel_rfl) rfl rfl ?_
        refine wf_v 9 rfl (v_ldB [.int .i64 r36.from_, .int .i64 r36.to] 1 ld_24 rfl rfl rfl rfl) (gy 25 rfl rfl) rfl hns (by kernel_rfl) (by kernel_rfl) rfl rfl ?_
        refine wf_all [8] (by kernel_rfl) rfl ⟨on_s 8 rfl (gy 25 rfl rfl) rfl (s_call [.slice A2 k6 c4, .agg #[.int .i64 x9.from_, .int .i64 x9.to]] rfl Try.func13 rfl rfl rfl fun w392 hL393 => ?_), trivial⟩
        have hp394 : List.Perm ([.own (.slice A48 n49 c50) 24 2 n49 (r46.flatMap enc_api_Range), .box gb41 24 [.int .i64 r36.from_, .int .i64 r36.to], .own (.slice A17 n18 c19) 39 7 n18 (r15.flatMap enc_api_Node), .box gb10 24 [.int .i64 x9.from_, .int .i64 x9.to]] : List Ent) (([] : List Ent) ++ ([.own (.slice A48 n49 c50) 24 2 n49 (r46.flatMap enc_api_Range), .box gb41 24 [.int .i64 r36.from_, .int .i64 r36.to], .own (.slice A17 n18 c19) 39 7 n18 (r15.flatMap enc_api_Node), .box gb10 24 [.int .i64 x9.from_, .int .i64 x9.to]] : List Ent)) := perm_of_idx [] [0, 1, 2, 3] rfl rfl (by kernel_rfl)
        refine Calls.mono (choose_Grow_calls w392 (Fl ([] : List Snap)) (x1.take k6) x9 A2 k6 c4 (Rw.mono h8 (hL393.toSt hp394 (me 1 rfl))) (hL393.hFl (Sl := ([] : List Snap)) hp394 (sels [] rfl)) (hL393.into hp394 (Fl ([] : List Snap))) r68 hv69) ?_
        rintro _ w395 ⟨rfl, hM396⟩
        have hL397 := hL393.call hp394 hM396
        refine ⟨_, _, _, rfl, hL397, ?_⟩
        refine ⟨sels [0, 1, 2, 3] rfl, sels [0, 1] rfl, ?_⟩
        refine wf_v 10 rfl (v_eqSt eq_24 rfl rfl (eqd_api_Range r68 r36)) (gy 25 rfl rfl) rfl hns (by kernel_rfl) (by kernel_rfl) rfl rfl ?_
        refine wf_v 11 rfl (v_pick (b := true) rfl rfl) gn rfl hns (by kernel_rfl) (by kernel_rfl) rfl rfl ?_
        refine wf_v 12 rfl (v_move rfl) gn rfl hns (by kernel_rfl) (by kernel_rfl) rfl rfl ?_
        refine wf_bool 32 rfl ((decide_eq_true hp73)) ?_
        refine wf_v 13 rfl (v_move rfl) (gy 32 rfl rfl) rfl hns (by kernel_rfl) (by kernel_rfl) rfl rfl ?_
        refine wf_v 14 rfl (v_ldB [.int .i64 x9.from_, .int .i64 x9.to] 3 ld_24 rfl rfl rfl rfl) (gy 32 rfl rfl) rfl hns (by kernel_rfl) (by kernel_rfl) rfl rfl ?_
        refine wf_v 16 rfl (v_move rfl) (gy 32 rfl rfl) rfl hns (by kernel_rfl) (by kernel_rfl) rfl rfl ?_
        refine wf_all [15] (by kernel_rfl) rfl ⟨on_s 15 rfl (gy 32 rfl rfl) rfl (s_call [.slice A2 k6 c4, .agg #[.int .i64 x9.from_, .int .i64 x9.to]] rfl Try.func14 rfl rfl rfl fun w418 hL419 => ?_), trivial⟩
        have hp420 : List.Perm ([.own (.slice A48 n49 c50) 24 2 n49 (r46.flatMap enc_api_Range), .box gb41 24 [.int .i64 r36.from_, .int .i64 r36.to], .own (.slice A17 n18 c19) 39 7 n18 (r15.flatMap enc_api_Node), .box gb10 24 [.int .i64 x9.from_, .int .i64 x9.to]] : List Ent) (([] : List Ent) ++ ([.own (.slice A48 n49 c50) 24 2 n49 (r46.flatMap enc_api_Range), .box gb41 24 [.int .i64 r36.from_, .int .i64 r36.to], .own (.slice A17 n18 c19) 39 7 n18 (r15.flatMap enc_api_Node), .box gb10 24 [.int .i64 x9.from_, .int .i64 x9.to]] : List Ent)) := perm_of_idx [] [0, 1, 2, 3] rfl rfl (by kernel_rfl)
        refine Calls.mono (choose_Steps_calls w418 (Fl ([] : List Snap)) (x1.take k6) x9 A2 k6 c4 (Rw.mono h8 (hL419.toSt hp420 (me 1 rfl))) (hL419.hFl (Sl := ([] : List Snap)) hp420 (sels [] rfl)) (hL419.into hp420 (Fl ([] : List Snap))) r77 hv78) ?_
        rintro _ w425 ⟨A421, n422, c423, rfl, hM426, h424⟩
        have hL427 := hL419.call hp420 hM426
        refine ⟨_, _, _, rfl, hL427, ?_⟩
        refine ⟨sels [1, 2, 3, 4] rfl, sels [0, 1] rfl, ?_⟩
        refine wf_all [17] (by kernel_rfl) rfl ⟨on_s 17 rfl (gy 32 rfl rfl) rfl (s_call [.slice A421 n422 c423, .slice A48 n49 c50] rfl Try.func18 rfl rfl rfl fun w434 hL435 => ?_), trivial⟩
        have hp436 : List.Perm ([.own (.slice A421 n422 c423) 24 2 n422 (r77.flatMap enc_api_Range), .own (.slice A48 n49 c50) 24 2 n49 (r46.flatMap enc_api_Range), .box gb41 24 [.int .i64 r36.from_, .int .i64 r36.to], .own (.slice A17 n18 c19) 39 7 n18 (r15.flatMap enc_api_Node), .box gb10 24 [.int .i64 x9.from_, .int .i64 x9.to]] : List Ent) (([] : List Ent) ++ ([.own (.slice A421 n422 c423) 24 2 n422 (r77.flatMap enc_api_Range), .own (.slice A48 n49 c50) 24 2 n49 (r46.flatMap enc_api_Range), .box gb41 24 [.int .i64 r36.from_, .int .i64 r36.to], .own (.slice A17 n18 c19) 39 7 n18 (r15.flatMap enc_api_Node), .box gb10 24 [.int .i64 x9.from_, .int .i64 x9.to]] : List Ent)) := perm_of_idx [] [0, 1, 2, 3, 4] rfl rfl (by kernel_rfl)
        refine Calls.mono (trellislaw32_sameRanges_calls w434 (Fl ([] : List Snap)) r77 r46 A421 n422 c423 A48 n49 c50 (hL435.argO (dk := k_api_Range) hp436 [] rfl 0 rfl rfl (Ow.weak hL419.env.size h424) (me 0 rfl) (Cells.flat _)) (hL435.argO (dk := k_api_Range) hp436 [] rfl 1 rfl rfl (Ow.weak hL44.env.size h51) (me 0 rfl) (Cells.flat _)) (hL435.hFl (Sl := ([] : List Snap)) hp436 (sels [] rfl)) (hL435.into hp436 (Fl ([] : List Snap))) r90 hv91) ?_
        rintro _ w437 ⟨rfl, hM438⟩
        have hL439 := hL435.call hp436 hM438
        refine ⟨_, _, _, rfl, hL439, ?_⟩
        refine ⟨sels [1, 2, 3, 4] rfl, sels [0, 1] rfl, ?_⟩
        refine wf_v 18 rfl (v_pick (b := true) rfl rfl) gn rfl hns (by kernel_rfl) (by kernel_rfl) rfl rfl ?_
        refine wf_v 19 rfl (v_move rfl) gn rfl hns (by kernel_rfl) (by kernel_rfl) rfl rfl ?_
        refine wf_bool 39 rfl ((bf hp95)) ?_
        refine wf_pass 20 rfl (ps 39 rfl rfl rfl) hns (by kernel_rfl) (by kernel_rfl) rfl rfl ?_
        refine wf_pass 21 rfl (ps 39 rfl rfl rfl) hns (by kernel_rfl) (by kernel_rfl) rfl rfl ?_
        refine wf_pass 22 rfl (ps 39 rfl rfl rfl) hns (by kernel_rfl) (by kernel_rfl) rfl rfl ?_
        refine wf_v 23 rfl (v_pick (b := false) rfl rfl) gn rfl hns (by kernel_rfl) (by kernel_rfl) rfl rfl ?_
        refine wf_v 24 rfl (v_assign rfl) gn rfl hns (by kernel_rfl) (by kernel_rfl) rfl rfl ?_
        refine wf_end (by kernel_rfl) ?_
        refine g_retR (c := trellislaw32_grows_c12) [.bool false] rfl Try.func21 rfl (.tmp rfl (.nil)) fun wr hLr => ?_
        have hMr : B.Loc w wr [] [St w []] := hLr.pick (rest := [.own (.slice A421 n422 c423) 24 2 n422 (r77.flatMap enc_api_Range), .own (.slice A48 n49 c50) 24 2 n49 (r46.flatMap enc_api_Range), .box gb41 24 [.int .i64 r36.from_, .int .i64 r36.to], .own (.slice A17 n18 c19) 39 7 n18 (r15.flatMap enc_api_Node), .box gb10 24 [.int .i64 x9.from_, .int .i64 x9.to]]) (perm_of_idx [] [0, 1, 2, 3, 4] rfl rfl (by kernel_rfl)) (sels [1] rfl)
        have hMi : ∀ e ∈ ([] : List Ent), e ∈ ([.own (.slice A421 n422 c423) 24 2 n422 (r77.flatMap enc_api_Range), .own (.slice A48 n49 c50) 24 2 n49 (r46.flatMap enc_api_Range), .box gb41 24 [.int .i64 r36.from_, .int .i64 r36.to], .own (.slice A17 n18 c19) 39 7 n18 (r15.flatMap enc_api_Node), .box gb10 24 [.int .i64 x9.from_, .int .i64 x9.to]] : List Ent) := sels [] rfl
        show trellislaw32_grows_R w F  r (.returned (packV [.bool false])) wr
        rw [h]
        exact ⟨rfl, hMr⟩
    · have h := if_neg' hp73 h
      have hns : Region.noSelect (Code.ops trellislaw32_grows_c11) = true := by kernel_rfl
      refine g_drawF (c := trellislaw32_grows_c11) [.own (.slice A48 n49 c50) 24 2 n49 (r46.flatMap enc_api_Range), .box gb41 24 [.int .i64 r36.from_, .int .i64 r36.to], .own (.slice A17 n18 c19) 39 7 n18 (r15.flatMap enc_api_Node), .box gb10 24 [.int .i64 x9.from_, .int .i64 x9.to]] [Sm w.heap.size F w [], St w []] [] 25 rfl rfl mix rfl (.cons_cons _ (.cons_cons _ (.cons_cons _ (.cons_cons _ (.slnil))))) (sels [0, 1] rfl) ?_
      refine wf_v 0 rfl (v_move rfl) gn rfl hns (by kernel_rfl) (by kernel_rfl) rfl rfl ?_
      refine wf_v 1 rfl (v_ldB [.int .i64 x9.from_, .int .i64 x9.to] 3 ld_24 rfl rfl rfl rfl) gn rfl hns (by kernel_rfl) (by kernel_rfl) rfl rfl ?_
      refine wf_v 3 rfl (v_move rfl) gn rfl hns (by kernel_rfl) (by kernel_rfl) rfl rfl ?_
      refine wf_all [2] (by kernel_rfl) rfl ⟨on_s 2 rfl gn rfl (s_call [.slice A2 k6 c4, .agg #[.int .i64 x9.from_, .int .i64 x9.to]] rfl Try.func12 rfl rfl rfl fun w488 hL489 => ?_), trivial⟩
      have hp490 : List.Perm ([.own (.slice A48 n49 c50) 24 2 n49 (r46.flatMap enc_api_Range), .box gb41 24 [.int .i64 r36.from_, .int .i64 r36.to], .own (.slice A17 n18 c19) 39 7 n18 (r15.flatMap enc_api_Node), .box gb10 24 [.int .i64 x9.from_, .int .i64 x9.to]] : List Ent) (([] : List Ent) ++ ([.own (.slice A48 n49 c50) 24 2 n49 (r46.flatMap enc_api_Range), .box gb41 24 [.int .i64 r36.from_, .int .i64 r36.to], .own (.slice A17 n18 c19) 39 7 n18 (r15.flatMap enc_api_Node), .box gb10 24 [.int .i64 x9.from_, .int .i64 x9.to]] : List Ent)) := perm_of_idx [] [0, 1, 2, 3] rfl rfl (by kernel_rfl)
      refine Calls.mono (choose_Cover_calls w488 (Fl ([] : List Snap)) (x1.take k6) x9 A2 k6 c4 (Rw.mono h8 (hL489.toSt hp490 (me 1 rfl))) (hL489.hFl (Sl := ([] : List Snap)) hp490 (sels [] rfl)) (hL489.into hp490 (Fl ([] : List Snap))) r59 hv60) ?_
      rintro _ w491 ⟨rfl, hM492⟩
      have hL493 := hL489.call hp490 hM492
      refine ⟨_, _, _, rfl, hL493, ?_⟩
      refine ⟨sels [0, 1, 2, 3] rfl, sels [0, 1] rfl, ?_⟩
      refine wf_v 4 rfl (v_bin rfl rfl rfl) gn rfl hns (by kernel_rfl) (by kernel_rfl) rfl rfl ?_
      refine wf_v 5 rfl (v_move rfl) gn rfl hns (by kernel_rfl) (by kernel_rfl) rfl rfl ?_
      refine wf_bool 25 rfl ((eqi hp64)) ?_
      refine wf_v 6 rfl (v_move rfl) (gy 25 rfl rfl) rfl hns (by kernel_rfl) (by kernel_rfl) rfl rfl ?_
      refine wf_v 7 rfl (v_ldB [.int .i64 x9.from_, .int .i64 x9.to] 3 ld_24 rfl rfl rfl rfl) (gy 25 rfl rfl) rfl hns (by kernel_rfl) (by kernel_rfl) rfl rfl ?_
      refine wf_v 9 rfl (v_ldB [.int .i64 r36.from_, .int .i64 r36.to] 1 ld_24 rfl rfl rfl rfl) (gy 25 rfl rfl) rfl hns (by kernel_rfl) (by kernel_rfl) rfl rfl ?_
      refine wf_all [8] (by kernel_rfl) rfl ⟨on_s 8 rfl (gy 25 rfl rfl) rfl (s_call [.slice A2 k6 c4, .agg #[.int .i64 x9.from_, .int .i64 x9.to]] rfl Try.func13 rfl rfl rfl fun w506 hL507 => ?_), trivial⟩
      have hp508 : List.Perm ([.own (.slice A48 n49 c50) 24 2 n49 (r46.flatMap enc_api_Range), .box gb41 24 [.int .i64 r36.from_, .int .i64 r36.to], .own (.slice A17 n18 c19) 39 7 n18 (r15.flatMap enc_api_Node), .box gb10 24 [.int .i64 x9.from_, .int .i64 x9.to]] : List Ent) (([] : List Ent) ++ ([.own (.slice A48 n49 c50) 24 2 n49 (r46.flatMap enc_api_Range), .box gb41 24 [.int .i64 r36.from_, .int .i64 r36.to], .own (.slice A17 n18 c19) 39 7 n18 (r15.flatMap enc_api_Node), .box gb10 24 [.int .i64 x9.from_, .int .i64 x9.to]] : List Ent)) := perm_of_idx [] [0, 1, 2, 3] rfl rfl (by kernel_rfl)
      refine Calls.mono (choose_Grow_calls w506 (Fl ([] : List Snap)) (x1.take k6) x9 A2 k6 c4 (Rw.mono h8 (hL507.toSt hp508 (me 1 rfl))) (hL507.hFl (Sl := ([] : List Snap)) hp508 (sels [] rfl)) (hL507.into hp508 (Fl ([] : List Snap))) r68 hv69) ?_
      rintro _ w509 ⟨rfl, hM510⟩
      have hL511 := hL507.call hp508 hM510
      refine ⟨_, _, _, rfl, hL511, ?_⟩
      refine ⟨sels [0, 1, 2, 3] rfl, sels [0, 1] rfl, ?_⟩
      refine wf_v 10 rfl (v_eqSt eq_24 rfl rfl (eqd_api_Range r68 r36)) (gy 25 rfl rfl) rfl hns (by kernel_rfl) (by kernel_rfl) rfl rfl ?_
      refine wf_v 11 rfl (v_pick (b := true) rfl rfl) gn rfl hns (by kernel_rfl) (by kernel_rfl) rfl rfl ?_
      refine wf_v 12 rfl (v_move rfl) gn rfl hns (by kernel_rfl) (by kernel_rfl) rfl rfl ?_
      refine wf_bool 32 rfl ((decide_eq_false hp73)) ?_
      refine wf_pass 13 rfl (ps 32 rfl rfl rfl) hns (by kernel_rfl) (by kernel_rfl) rfl rfl ?_
      refine wf_pass 14 rfl (ps 32 rfl rfl rfl) hns (by kernel_rfl) (by kernel_rfl) rfl rfl ?_
      refine wf_pass 15 rfl (ps 32 rfl rfl rfl) hns (by kernel_rfl) (by kernel_rfl) rfl rfl ?_
      refine wf_pass 16 rfl (ps 32 rfl rfl rfl) hns (by kernel_rfl) (by kernel_rfl) rfl rfl ?_
      refine wf_pass 17 rfl (ps 32 rfl rfl rfl) hns (by kernel_rfl) (by kernel_rfl) rfl rfl ?_
      refine wf_v 18 rfl (v_pick (b := false) rfl rfl) gn rfl hns (by kernel_rfl) (by kernel_rfl) rfl rfl ?_
      refine wf_v 19 rfl (v_move rfl) gn rfl hns (by kernel_rfl) (by kernel_rfl) rfl rfl ?_
      refine wf_pass 20 rfl (ps 39 rfl rfl rfl) hns (by kernel_rfl) (by kernel_rfl) rfl rfl ?_
      refine wf_pass 21 rfl (ps 39 rfl rfl rfl) hns (by kernel_rfl) (by kernel_rfl) rfl rfl ?_
      refine wf_pass 22 rfl (ps 39 rfl rfl rfl) hns (by kernel_rfl) (by kernel_rfl) rfl rfl ?_
      refine wf_v 23 rfl (v_pick (b := false) rfl rfl) gn rfl hns (by kernel_rfl) (by kernel_rfl) rfl rfl ?_
      refine wf_v 24 rfl (v_assign rfl) gn rfl hns (by kernel_rfl) (by kernel_rfl) rfl rfl ?_
      refine wf_end (by kernel_rfl) ?_
      refine g_retR (c := trellislaw32_grows_c12) [.bool false] rfl Try.func21 rfl (.tmp rfl (.nil)) fun wr hLr => ?_
      have hMr : B.Loc w wr [] [St w []] := hLr.pick (rest := [.own (.slice A48 n49 c50) 24 2 n49 (r46.flatMap enc_api_Range), .box gb41 24 [.int .i64 r36.from_, .int .i64 r36.to], .own (.slice A17 n18 c19) 39 7 n18 (r15.flatMap enc_api_Node), .box gb10 24 [.int .i64 x9.from_, .int .i64 x9.to]]) (perm_of_idx [] [0, 1, 2, 3] rfl rfl (by kernel_rfl)) (sels [1] rfl)
      have hMi : ∀ e ∈ ([] : List Ent), e ∈ ([.own (.slice A48 n49 c50) 24 2 n49 (r46.flatMap enc_api_Range), .box gb41 24 [.int .i64 r36.from_, .int .i64 r36.to], .own (.slice A17 n18 c19) 39 7 n18 (r15.flatMap enc_api_Node), .box gb10 24 [.int .i64 x9.from_, .int .i64 x9.to]] : List Ent) := sels [] rfl
      show trellislaw32_grows_R w F  r (.returned (packV [.bool false])) wr
      rw [h]
      exact ⟨rfl, hMr⟩
  · have h := if_neg' hp64 h
    have hns : Region.noSelect (Code.ops trellislaw32_grows_c11) = true := by kernel_rfl
    refine g_drawF (c := trellislaw32_grows_c11) [.own (.slice A48 n49 c50) 24 2 n49 (r46.flatMap enc_api_Range), .box gb41 24 [.int .i64 r36.from_, .int .i64 r36.to], .own (.slice A17 n18 c19) 39 7 n18 (r15.flatMap enc_api_Node), .box gb10 24 [.int .i64 x9.from_, .int .i64 x9.to]] [Sm w.heap.size F w [], St w []] [] 25 rfl rfl mix rfl (.cons_cons _ (.cons_cons _ (.cons_cons _ (.cons_cons _ (.slnil))))) (sels [0, 1] rfl) ?_
    refine wf_v 0 rfl (v_move rfl) gn rfl hns (by kernel_rfl) (by kernel_rfl) rfl rfl ?_
    refine wf_v 1 rfl (v_ldB [.int .i64 x9.from_, .int .i64 x9.to] 3 ld_24 rfl rfl rfl rfl) gn rfl hns (by kernel_rfl) (by kernel_rfl) rfl rfl ?_
    refine wf_v 3 rfl (v_move rfl) gn rfl hns (by kernel_rfl) (by kernel_rfl) rfl rfl ?_
    refine wf_all [2] (by kernel_rfl) rfl ⟨on_s 2 rfl gn rfl (s_call [.slice A2 k6 c4, .agg #[.int .i64 x9.from_, .int .i64 x9.to]] rfl Try.func12 rfl rfl rfl fun w542 hL543 => ?_), trivial⟩
    have hp544 : List.Perm ([.own (.slice A48 n49 c50) 24 2 n49 (r46.flatMap enc_api_Range), .box gb41 24 [.int .i64 r36.from_, .int .i64 r36.to], .own (.slice A17 n18 c19) 39 7 n18 (r15.flatMap enc_api_Node), .box gb10 24 [.int .i64 x9.from_, .int .i64 x9.to]] : List Ent) (([] : List Ent) ++ ([.own (.slice A48 n49 c50) 24 2 n49 (r46.flatMap enc_api_Range), .box gb41 24 [.int .i64 r36.from_, .int .i64 r36.to], .own (.slice A17 n18 c19) 39 7 n18 (r15.flatMap enc_api_Node), .box gb10 24 [.int .i64 x9.from_, .int .i64 x9.to]] : List Ent)) := perm_of_idx [] [0, 1, 2, 3] rfl rfl (by kernel_rfl)
    refine Calls.mono (choose_Cover_calls w542 (Fl ([] : List Snap)) (x1.take k6) x9 A2 k6 c4 (Rw.mono h8 (hL543.toSt hp544 (me 1 rfl))) (hL543.hFl (Sl := ([] : List Snap)) hp544 (sels [] rfl)) (hL543.into hp544 (Fl ([] : List Snap))) r59 hv60) ?_
    rintro _ w545 ⟨rfl, hM546⟩
    have hL547 := hL543.call hp544 hM546
    refine ⟨_, _, _, rfl, hL547, ?_⟩
    refine ⟨sels [0, 1, 2, 3] rfl, sels [0, 1] rfl, ?_⟩
    refine wf_v 4 rfl (v_bin rfl rfl rfl) gn rfl hns (by kernel_rfl) (by kernel_rfl) rfl rfl ?_
    refine wf_v 5 rfl (v_move rfl) gn rfl hns (by kernel_rfl) (by kernel_rfl) rfl rfl ?_
    refine wf_bool 25 rfl ((nei hp64)) ?_
    refine wf_pass 6 rfl (ps 25 rfl rfl rfl) hns (by kernel_rfl) (by kernel_rfl) rfl rfl ?_
    refine wf_pass 7 rfl (ps 25 rfl rfl rfl) hns (by kernel_rfl) (by kernel_rfl) rfl rfl ?_
    refine wf_pass 8 rfl (ps 25 rfl rfl rfl) hns (by kernel_rfl) (by kernel_rfl) rfl rfl ?_
    refine wf_pass 9 rfl (ps 25 rfl rfl rfl) hns (by kernel_rfl) (by kernel_rfl) rfl rfl ?_
    refine wf_pass 10 rfl (ps 25 rfl rfl rfl) hns (by kernel_rfl) (by kernel_rfl) rfl rfl ?_
    refine wf_v 11 rfl (v_pick (b := false) rfl rfl) gn rfl hns (by kernel_rfl) (by kernel_rfl) rfl rfl ?_
    refine wf_v 12 rfl (v_move rfl) gn rfl hns (by kernel_rfl) (by kernel_rfl) rfl rfl ?_
    refine wf_pass 13 rfl (ps 32 rfl rfl rfl) hns (by kernel_rfl) (by kernel_rfl) rfl rfl ?_
    refine wf_pass 14 rfl (ps 32 rfl rfl rfl) hns (by kernel_rfl) (by kernel_rfl) rfl rfl ?_
    refine wf_pass 15 rfl (ps 32 rfl rfl rfl) hns (by kernel_rfl) (by kernel_rfl) rfl rfl ?_
    refine wf_pass 16 rfl (ps 32 rfl rfl rfl) hns (by kernel_rfl) (by kernel_rfl) rfl rfl ?_
    refine wf_pass 17 rfl (ps 32 rfl rfl rfl) hns (by kernel_rfl) (by kernel_rfl) rfl rfl ?_
    refine wf_v 18 rfl (v_pick (b := false) rfl rfl) gn rfl hns (by kernel_rfl) (by kernel_rfl) rfl rfl ?_
    refine wf_v 19 rfl (v_move rfl) gn rfl hns (by kernel_rfl) (by kernel_rfl) rfl rfl ?_
    refine wf_pass 20 rfl (ps 39 rfl rfl rfl) hns (by kernel_rfl) (by kernel_rfl) rfl rfl ?_
    refine wf_pass 21 rfl (ps 39 rfl rfl rfl) hns (by kernel_rfl) (by kernel_rfl) rfl rfl ?_
    refine wf_pass 22 rfl (ps 39 rfl rfl rfl) hns (by kernel_rfl) (by kernel_rfl) rfl rfl ?_
    refine wf_v 23 rfl (v_pick (b := false) rfl rfl) gn rfl hns (by kernel_rfl) (by kernel_rfl) rfl rfl ?_
    refine wf_v 24 rfl (v_assign rfl) gn rfl hns (by kernel_rfl) (by kernel_rfl) rfl rfl ?_
    refine wf_end (by kernel_rfl) ?_
    refine g_retR (c := trellislaw32_grows_c12) [.bool false] rfl Try.func21 rfl (.tmp rfl (.nil)) fun wr hLr => ?_
    have hMr : B.Loc w wr [] [St w []] := hLr.pick (rest := [.own (.slice A48 n49 c50) 24 2 n49 (r46.flatMap enc_api_Range), .box gb41 24 [.int .i64 r36.from_, .int .i64 r36.to], .own (.slice A17 n18 c19) 39 7 n18 (r15.flatMap enc_api_Node), .box gb10 24 [.int .i64 x9.from_, .int .i64 x9.to]]) (perm_of_idx [] [0, 1, 2, 3] rfl rfl (by kernel_rfl)) (sels [1] rfl)
    have hMi : ∀ e ∈ ([] : List Ent), e ∈ ([.own (.slice A48 n49 c50) 24 2 n49 (r46.flatMap enc_api_Range), .box gb41 24 [.int .i64 r36.from_, .int .i64 r36.to], .own (.slice A17 n18 c19) 39 7 n18 (r15.flatMap enc_api_Node), .box gb10 24 [.int .i64 x9.from_, .int .i64 x9.to]] : List Ent) := sels [] rfl
    show trellislaw32_grows_R w F  r (.returned (packV [.bool false])) wr
    rw [h]
    exact ⟨rfl, hMr⟩
noncomputable abbrev trellislaw32_bare_c0 : Code := bodyOf Try.f22
noncomputable abbrev trellislaw32_bare_c1 : Code := Code.fst trellislaw32_bare_c0
noncomputable abbrev trellislaw32_bare_c2 : Code := Code.snd trellislaw32_bare_c0
noncomputable abbrev trellislaw32_bare_c3 : Code := Code.fst trellislaw32_bare_c2
noncomputable abbrev trellislaw32_bare_c4 : Code := Code.fst trellislaw32_bare_c3
noncomputable abbrev trellislaw32_bare_c5 : Code := Code.fst trellislaw32_bare_c4
noncomputable abbrev trellislaw32_bare_c6 : Code := Code.snd trellislaw32_bare_c4
noncomputable abbrev trellislaw32_bare_c7 : Code := Code.fst trellislaw32_bare_c5
noncomputable abbrev trellislaw32_bare_c8 : Code := Code.snd trellislaw32_bare_c5
noncomputable abbrev trellislaw32_bare_c9 : Code := Code.fst trellislaw32_bare_c8
noncomputable abbrev trellislaw32_bare_c10 : Code := Code.snd trellislaw32_bare_c8
noncomputable abbrev trellislaw32_bare_c11 : Code := Code.fst trellislaw32_bare_c6
noncomputable abbrev trellislaw32_bare_c12 : Code := Code.snd trellislaw32_bare_c6
noncomputable abbrev trellislaw32_bare_c13 : Code := Code.fst trellislaw32_bare_c11
abbrev trellislaw32_bare_R (w : World) (F : Nat → Prop) (A2 : Option Addr) (n3 : Nat) (c4 : Nat) (z6 : Nat) (r : List api_Node) : Ending → World → Prop := fun e w' => e = .returned (.tuple #[]) ∧ B.Loc w w' [.own (.slice A2 n3 c4) 39 7 n3 (r.flatMap enc_api_Node)] [St w [(Value.slice A2 n3 c4).ownBlock.toList]] ∧ Ow z6 A2 n3 c4 r
noncomputable abbrev trellislaw32_bare_C (w : World) (F : Nat → Prop) (A2 : Option Addr) (n3 : Nat) (c4 : Nat) (z6 : Nat) (r : List api_Node) : Cx := ⟨Try.prog, 22, Try.f22, 13, trellislaw32_bare_R w F A2 n3 c4 z6 r, w⟩
theorem trellislaw32_bare_calls (w : World) (F : Nat → Prop) (x1 : List api_Node) (k8 : Nat) (z6 : Nat) (A2 : Option Addr) (n3 : Nat) (c4 : Nat) (hz7 : z6 ≤ w.heap.size) (h5 : Ow z6 A2 n3 c4 x1) (hk9 : k8 ≤ n3) (hF : ∀ b, F b → b < w.heap.size ∧ ∀ o ∈ ([(Value.slice A2 n3 c4).ownBlock.toList] : List (List Nat)), b ∉ o) (hL0 : B.Loc w w [.own (.slice A2 n3 c4) 39 7 n3 (x1.flatMap enc_api_Node)] [Sm w.heap.size F w [(Value.slice A2 n3 c4).ownBlock.toList], St w [(Value.slice A2 n3 c4).ownBlock.toList]]) (r : List api_Node) (h : trellislaw32_bare x1 k8 r) : Calls Try.prog 22 #[.slice A2 k8 c4] w (trellislaw32_bare_R w F A2 n3 c4 z6 r) := by
  unfold trellislaw32_bare at h
  refine calls_of_Loc (vs := [.slice A2 k8 c4]) 13 Try.func22 rfl Try.ntmps22 rfl hL0 ?_
  show G (trellislaw32_bare_C w F A2 n3 c4 z6 r) _ _ _ _
  refine g_seq (c := trellislaw32_bare_c0) rfl ?_
  refine g_region (c := trellislaw32_bare_c1) rfl rfl ?_
  refine wl_v 0 rfl (v_assign rfl) gn rfl ?_
  refine w_end 1 rfl ?_
  refine g_block (c := trellislaw32_bare_c2) rfl ?_
  refine g_loop (c := trellislaw32_bare_c3) rfl ?_
  have key1 : ∀ s, Rounds (fun (s : (List api_Node) × Int) o => trellislaw32_bare_b1 k8 s.1 s.2 o) s r → (fun (s : (List api_Node) × Int) => ∀ (h19 : Ow z6 A2 n3 c4 s.1) (hl11 : k8 ≤ n3), G (trellislaw32_bare_C w F A2 n3 c4 z6 r) [.code trellislaw32_bare_c4, .inLoop trellislaw32_bare_c4, .inBlock 0] [(0, .slice A2 k8 c4), (2, .int .i64 s.2)] [.own (.slice A2 n3 c4) 39 7 n3 (s.1.flatMap enc_api_Node)] [Sm w.heap.size F w [(Value.slice A2 n3 c4).ownBlock.toList], St w [(Value.slice A2 n3 c4).ownBlock.toList]]) s := by
    intro s hs
    refine Rounds.ind (mot := (fun (s : (List api_Node) × Int) => ∀ (h19 : Ow z6 A2 n3 c4 s.1) (hl11 : k8 ≤ n3), G (trellislaw32_bare_C w F A2 n3 c4 z6 r) [.code trellislaw32_bare_c4, .inLoop trellislaw32_bare_c4, .inBlock 0] [(0, .slice A2 k8 c4), (2, .int .i64 s.2)] [.own (.slice A2 n3 c4) 39 7 n3 (s.1.flatMap enc_api_Node)] [Sm w.heap.size F w [(Value.slice A2 n3 c4).ownBlock.toList], St w [(Value.slice A2 n3 c4).ownBlock.toList]])) ?_ hs
    clear hs s
    intro s o1 h hO1
    obtain ⟨x18, x20⟩ := s
    show ∀ (h19 : Ow z6 A2 n3 c4 x18) (hl11 : k8 ≤ n3), G (trellislaw32_bare_C w F A2 n3 c4 z6 r) [.code trellislaw32_bare_c4, .inLoop trellislaw32_bare_c4, .inBlock 0] [(0, .slice A2 k8 c4), (2, .int .i64 x20)] [.own (.slice A2 n3 c4) 39 7 n3 (x18.flatMap enc_api_Node)] [Sm w.heap.size F w [(Value.slice A2 n3 c4).ownBlock.toList], St w [(Value.slice A2 n3 c4).ownBlock.toList]]
    intro h19 hl11
    have h : trellislaw32_bare_b1 k8 x18 x20 o1 := h
    unfold trellislaw32_bare_b1 at h
    refine g_seq (c := trellislaw32_bare_c4) rfl ?_
    refine g_seq (c := trellislaw32_bare_c5) rfl ?_
    refine g_region (c := trellislaw32_bare_c7) rfl rfl ?_
    refine wl_v 0 rfl (v_move rfl) gn rfl ?_
    refine wl_v 1 rfl (v_move rfl) gn rfl ?_
    refine wl_v 2 rfl (v_lenQ un_22 rfl (Ow.cut h19 hl11).hq) gn rfl ?_
    refine wl_v 3 rfl (v_bin rfl rfl rfl) gn rfl ?_
    refine w_end 4 rfl ?_
    by_cases hp27 : x20 < ((x18.take k8).length : Int)
    · have h := if_pos' hp27 h
      refine g_true (c := trellislaw32_bare_c8) rfl _ rfl ((decide_eq_true hp27)) ?_
      refine g_skip (c := trellislaw32_bare_c9) rfl ?_
      refine g_seq (c := trellislaw32_bare_c6) rfl ?_
      refine g_block (c := trellislaw32_bare_c11) rfl ?_
      refine g_region (c := trellislaw32_bare_c13) rfl rfl ?_
      refine wl_v 0 rfl (v_move rfl) gn rfl ?_
      refine wl_v 1 rfl (v_move rfl) gn rfl ?_
      obtain ⟨hb28, h⟩ := h
      have hb29 : 0 ≤ x20 ∧ x20 < (x18.length : Int) := by have q := hb28; have q2 := List.length_take_le' k8 x18; omega
      refine wl_v 2 rfl (v_idxO slE_22 rfl rfl (Ow.cut h19 hl11) hb28) gn rfl ?_
      refine wl_v 3 rfl (v_fldA fo_39_5 rfl) gn rfl ?_
      obtain ⟨x30, hv31, h⟩ := h
      refine wl_s 4 rfl (s_stF (enc := enc_api_Node) (o := 5) (z := ({ (ix x18 x20) with kids := 0 })) (vs := [.int .i64 0]) (i := x20) 0 hl_api_Node sz_3 rfl rfl rfl rfl rfl h19 hb29 rfl rfl rfl hv31 fun h32 => ?_) gn
      refine w_end 5 rfl ?_
      refine g_inBlock ?_
      refine g_region (c := trellislaw32_bare_c12) rfl rfl ?_
      refine wl_v 0 rfl (v_move rfl) gn rfl ?_
      refine wl_v 1 rfl (v_bin rfl rfl rfl) gn rfl ?_
      refine wl_v 2 rfl (v_assign rfl) gn rfl ?_
      refine w_end 3 rfl ?_
      refine g_inLoop ?_
      have ih := Out.inl hO1 h
      exact g_go [0, 1] (ih h32 hl11) ⟨rfl, rfl, trivial⟩ (.cons_cons _ (.slnil)) rfl
    · have h := if_neg' hp27 h
      refine g_false (c := trellislaw32_bare_c8) rfl _ rfl ((decide_eq_false hp27)) ?_
      refine g_exit (c := trellislaw32_bare_c10) [] rfl rfl ?_
      have h := Out.inr hO1 h
      refine g_endR [] Try.func22 rfl (.nil) fun wr hLr => ?_
      have hMr : B.Loc w wr [.own (.slice A2 n3 c4) 39 7 n3 (x18.flatMap enc_api_Node)] [St w [(Value.slice A2 n3 c4).ownBlock.toList]] := hLr.pick (rest := []) (perm_of_idx [0] [] rfl rfl (by kernel_rfl)) (sels [1] rfl)
      have hMi : ∀ e ∈ ([.own (.slice A2 n3 c4) 39 7 n3 (x18.flatMap enc_api_Node)] : List Ent), e ∈ ([.own (.slice A2 n3 c4) 39 7 n3 (x18.flatMap enc_api_Node)] : List Ent) := sels [0] rfl
      show trellislaw32_bare_R w F A2 n3 c4 z6 r (.returned (packV [])) wr
      rw [h]
      exact ⟨rfl, hMr, h19⟩
  exact g_go [0, 1] (key1 _ h h5 hk9) ⟨rfl, rfl, trivial⟩ (.cons_cons _ (.slnil)) rfl
end Go.Proofs.Ytoifgnogoddmlaa.K
