/- What the machine's calls do, function by function, printed by my own tool. Condition of each: its relation holds of the answer, and what is handed in lies in memory as told. -/
import Derived.Test.YtmekgfcfooghnaaK0
set_option linter.unusedVariables false
set_option maxRecDepth 100000
set_option maxHeartbeats 4000000
namespace Go.Proofs.Ytmekgfcfooghnaa.K
open Go.Proofs.Ytmekgfcfooghnaa.B Go.Proofs.Ytmekgfcfooghnaa.R Go.RowKit
noncomputable abbrev trellisref15_Beyond_c0 : Code := bodyOf Try.f10
noncomputable abbrev trellisref15_Beyond_c1 : Code := Code.fst trellisref15_Beyond_c0
noncomputable abbrev trellisref15_Beyond_c2 : Code := Code.snd trellisref15_Beyond_c0
noncomputable abbrev trellisref15_Beyond_c3 : Code := Code.fst trellisref15_Beyond_c2
noncomputable abbrev trellisref15_Beyond_c4 : Code := Code.snd trellisref15_Beyond_c2
noncomputable abbrev trellisref15_Beyond_c5 : Code := Code.fst trellisref15_Beyond_c4
noncomputable abbrev trellisref15_Beyond_c6 : Code := Code.snd trellisref15_Beyond_c4
noncomputable abbrev trellisref15_Beyond_c7 : Code := Code.fst trellisref15_Beyond_c5
noncomputable abbrev trellisref15_Beyond_c8 : Code := Code.snd trellisref15_Beyond_c5
noncomputable abbrev trellisref15_Beyond_c9 : Code := Code.fst trellisref15_Beyond_c8
noncomputable abbrev trellisref15_Beyond_c10 : Code := Code.fst trellisref15_Beyond_c9
noncomputable abbrev trellisref15_Beyond_c11 : Code := Code.fst trellisref15_Beyond_c10
noncomputable abbrev trellisref15_Beyond_c12 : Code := Code.snd trellisref15_Beyond_c10
noncomputable abbrev trellisref15_Beyond_c13 : Code := Code.fst trellisref15_Beyond_c11
noncomputable abbrev trellisref15_Beyond_c14 : Code := Code.snd trellisref15_Beyond_c11
noncomputable abbrev trellisref15_Beyond_c15 : Code := Code.fst trellisref15_Beyond_c14
noncomputable abbrev trellisref15_Beyond_c16 : Code := Code.snd trellisref15_Beyond_c14
noncomputable abbrev trellisref15_Beyond_c17 : Code := Code.fst trellisref15_Beyond_c12
noncomputable abbrev trellisref15_Beyond_c18 : Code := Code.snd trellisref15_Beyond_c12
noncomputable abbrev trellisref15_Beyond_c19 : Code := Code.fst trellisref15_Beyond_c17
noncomputable abbrev trellisref15_Beyond_c20 : Code := Code.fst trellisref15_Beyond_c19
noncomputable abbrev trellisref15_Beyond_c21 : Code := Code.snd trellisref15_Beyond_c19
noncomputable abbrev trellisref15_Beyond_c22 : Code := Code.fst trellisref15_Beyond_c20
noncomputable abbrev trellisref15_Beyond_c23 : Code := Code.fst trellisref15_Beyond_c22
noncomputable abbrev trellisref15_Beyond_c24 : Code := Code.fst trellisref15_Beyond_c23
noncomputable abbrev trellisref15_Beyond_c25 : Code := Code.snd trellisref15_Beyond_c23
noncomputable abbrev trellisref15_Beyond_c26 : Code := Code.fst trellisref15_Beyond_c24
noncomputable abbrev trellisref15_Beyond_c27 : Code := Code.snd trellisref15_Beyond_c24
noncomputable abbrev trellisref15_Beyond_c28 : Code := Code.fst trellisref15_Beyond_c27
noncomputable abbrev trellisref15_Beyond_c29 : Code := Code.snd trellisref15_Beyond_c27
noncomputable abbrev trellisref15_Beyond_c30 : Code := Code.fst trellisref15_Beyond_c21
noncomputable abbrev trellisref15_Beyond_c31 : Code := Code.snd trellisref15_Beyond_c21
noncomputable abbrev trellisref15_Beyond_c32 : Code := Code.fst trellisref15_Beyond_c30
noncomputable abbrev trellisref15_Beyond_c33 : Code := Code.snd trellisref15_Beyond_c30
noncomputable abbrev trellisref15_Beyond_c34 : Code := Code.fst trellisref15_Beyond_c33
noncomputable abbrev trellisref15_Beyond_c35 : Code := Code.snd trellisref15_Beyond_c33
noncomputable abbrev trellisref15_Beyond_c36 : Code := Code.fst trellisref15_Beyond_c31
noncomputable abbrev trellisref15_Beyond_c37 : Code := Code.snd trellisref15_Beyond_c31
noncomputable abbrev trellisref15_Beyond_c38 : Code := Code.fst trellisref15_Beyond_c37
noncomputable abbrev trellisref15_Beyond_c39 : Code := Code.snd trellisref15_Beyond_c37
noncomputable abbrev trellisref15_Beyond_c40 : Code := Code.fst trellisref15_Beyond_c39
noncomputable abbrev trellisref15_Beyond_c41 : Code := Code.snd trellisref15_Beyond_c39
noncomputable abbrev trellisref15_Beyond_c42 : Code := Code.fst trellisref15_Beyond_c40
noncomputable abbrev trellisref15_Beyond_c43 : Code := Code.snd trellisref15_Beyond_c40
noncomputable abbrev trellisref15_Beyond_c44 : Code := Code.fst trellisref15_Beyond_c6
noncomputable abbrev trellisref15_Beyond_c45 : Code := Code.snd trellisref15_Beyond_c6
noncomputable abbrev trellisref15_Beyond_c46 : Code := Code.fst trellisref15_Beyond_c25
abbrev trellisref15_Beyond_R (w : World) (F : Nat → Prop) (r : Bool) : Ending → World → Prop := fun e w' => e = .returned (.bool r) ∧ B.Loc w w' [] [St w []]
noncomputable abbrev trellisref15_Beyond_C (w : World) (F : Nat → Prop) (r : Bool) : Cx := ⟨Try.prog, 10, Try.f10, 54, trellisref15_Beyond_R w F  r, w⟩
theorem trellisref15_Beyond_calls (w : World) (F : Nat → Prop) (x1 : List api_Node) (A2 : Option Addr) (n3 : Nat) (c4 : Nat) (h5 : Rw k_api_Node w (St w []).av A2 n3 c4 x1) (hF : ∀ b, F b → b < w.heap.size ∧ ∀ o ∈ ([] : List (List Nat)), b ∉ o) (hL0 : B.Loc w w [] [Sm w.heap.size F w [], St w []]) (r : Bool) (h : trellisref15_Beyond x1 r) : Calls Try.prog 10 #[.slice A2 n3 c4] w (trellisref15_Beyond_R w F  r) := by
  unfold trellisref15_Beyond at h
  refine calls_of_Loc (vs := [.slice A2 n3 c4]) 54 Try.func10 rfl Try.ntmps10 rfl hL0 ?_
  show G (trellisref15_Beyond_C w F r) _ _ _ _
  refine g_seq (c := trellisref15_Beyond_c0) rfl ?_
  refine g_region (c := trellisref15_Beyond_c1) rfl rfl ?_
  refine wl_v 0 rfl (v_assign rfl) gn rfl ?_
  refine w_end 1 rfl ?_
  refine g_seq (c := trellisref15_Beyond_c2) rfl ?_
  refine g_region (c := trellisref15_Beyond_c3) rfl rfl ?_
  refine wl_v 0 rfl (v_assign rfl) gn rfl ?_
  refine w_end 1 rfl ?_
  refine g_seq (c := trellisref15_Beyond_c4) rfl ?_
  refine g_seq (c := trellisref15_Beyond_c5) rfl ?_
  refine g_region (c := trellisref15_Beyond_c7) rfl rfl ?_
  refine wl_v 0 rfl (v_assign rfl) gn rfl ?_
  refine w_end 1 rfl ?_
  refine g_block (c := trellisref15_Beyond_c8) rfl ?_
  refine g_loop (c := trellisref15_Beyond_c9) rfl ?_
  have key1 : ∀ s, Rounds (fun (s : (List Int) × Int) o => trellisref15_Beyond_b1 x1 s.1 s.2 o) s r → (fun (s : (List Int) × Int) => ∀ (A36 : Option Addr) (n37 : Nat) (c38 : Nat) (h39 : Ow w.heap.size A36 n37 c38 s.1), G (trellisref15_Beyond_C w F r) [.code trellisref15_Beyond_c10, .inLoop trellisref15_Beyond_c10, .inBlock 0, .code trellisref15_Beyond_c6] [(0, .slice A2 n3 c4), (3, .slice A36 n37 c38), (4, .int .i64 s.2)] [.own (.slice A36 n37 c38) 3 1 n37 (s.1.flatMap (eI .i64))] [Sm w.heap.size F w [], St w []]) s := by
    intro s hs
    refine Rounds.ind (mot := (fun (s : (List Int) × Int) => ∀ (A36 : Option Addr) (n37 : Nat) (c38 : Nat) (h39 : Ow w.heap.size A36 n37 c38 s.1), G (trellisref15_Beyond_C w F r) [.code trellisref15_Beyond_c10, .inLoop trellisref15_Beyond_c10, .inBlock 0, .code trellisref15_Beyond_c6] [(0, .slice A2 n3 c4), (3, .slice A36 n37 c38), (4, .int .i64 s.2)] [.own (.slice A36 n37 c38) 3 1 n37 (s.1.flatMap (eI .i64))] [Sm w.heap.size F w [], St w []])) ?_ hs
    clear hs s
    intro s o1 h hO1
    obtain ⟨x35, x40⟩ := s
    show ∀ (A36 : Option Addr) (n37 : Nat) (c38 : Nat) (h39 : Ow w.heap.size A36 n37 c38 x35), G (trellisref15_Beyond_C w F r) [.code trellisref15_Beyond_c10, .inLoop trellisref15_Beyond_c10, .inBlock 0, .code trellisref15_Beyond_c6] [(0, .slice A2 n3 c4), (3, .slice A36 n37 c38), (4, .int .i64 x40)] [.own (.slice A36 n37 c38) 3 1 n37 (x35.flatMap (eI .i64))] [Sm w.heap.size F w [], St w []]
    intro A36 n37 c38 h39
    have h : trellisref15_Beyond_b1 x1 x35 x40 o1 := h
    unfold trellisref15_Beyond_b1 at h
    refine g_seq (c := trellisref15_Beyond_c10) rfl ?_
    refine g_seq (c := trellisref15_Beyond_c11) rfl ?_
    refine g_region (c := trellisref15_Beyond_c13) rfl rfl ?_
    refine wl_v 0 rfl (v_move rfl) gn rfl ?_
    refine wl_v 1 rfl (v_move rfl) gn rfl ?_
    refine wl_v 2 rfl (v_lenQ un_22 rfl h5.hq) gn rfl ?_
    refine wl_v 3 rfl (v_bin rfl rfl rfl) gn rfl ?_
    refine w_end 4 rfl ?_
    by_cases hp166 : x40 < (x1.length : Int)
    · have h := if_pos' hp166 h
      refine g_true (c := trellisref15_Beyond_c14) rfl _ rfl ((decide_eq_true hp166)) ?_
      refine g_skip (c := trellisref15_Beyond_c15) rfl ?_
      refine g_seq (c := trellisref15_Beyond_c12) rfl ?_
      refine g_block (c := trellisref15_Beyond_c17) rfl ?_
      refine g_seq (c := trellisref15_Beyond_c19) rfl ?_
      refine g_block (c := trellisref15_Beyond_c20) rfl ?_
      refine g_loop (c := trellisref15_Beyond_c22) rfl ?_
      have key2 : ∀ s, Rounds (fun (s : (List Int)) o => trellisref15_Beyond_b2 x40 x1 s o) s o1 → (fun (s : (List Int)) => ∀ (A208 : Option Addr) (n209 : Nat) (c210 : Nat) (h211 : Ow w.heap.size A208 n209 c210 s), G (trellisref15_Beyond_C w F r) [.code trellisref15_Beyond_c23, .inLoop trellisref15_Beyond_c23, .inBlock 2, .code trellisref15_Beyond_c21, .inBlock 1, .code trellisref15_Beyond_c18, .inLoop trellisref15_Beyond_c10, .inBlock 0, .code trellisref15_Beyond_c6] [(0, .slice A2 n3 c4), (3, .slice A208 n209 c210), (4, .int .i64 x40)] [.own (.slice A208 n209 c210) 3 1 n209 (s.flatMap (eI .i64))] [Sm w.heap.size F w [], St w []]) s := by
        intro s hs
        refine Rounds.ind (mot := (fun (s : (List Int)) => ∀ (A208 : Option Addr) (n209 : Nat) (c210 : Nat) (h211 : Ow w.heap.size A208 n209 c210 s), G (trellisref15_Beyond_C w F r) [.code trellisref15_Beyond_c23, .inLoop trellisref15_Beyond_c23, .inBlock 2, .code trellisref15_Beyond_c21, .inBlock 1, .code trellisref15_Beyond_c18, .inLoop trellisref15_Beyond_c10, .inBlock 0, .code trellisref15_Beyond_c6] [(0, .slice A2 n3 c4), (3, .slice A208 n209 c210), (4, .int .i64 x40)] [.own (.slice A208 n209 c210) 3 1 n209 (s.flatMap (eI .i64))] [Sm w.heap.size F w [], St w []])) ?_ hs
        clear hs s
        intro x207 o2 h hO2
        show ∀ (A208 : Option Addr) (n209 : Nat) (c210 : Nat) (h211 : Ow w.heap.size A208 n209 c210 x207), G (trellisref15_Beyond_C w F r) [.code trellisref15_Beyond_c23, .inLoop trellisref15_Beyond_c23, .inBlock 2, .code trellisref15_Beyond_c21, .inBlock 1, .code trellisref15_Beyond_c18, .inLoop trellisref15_Beyond_c10, .inBlock 0, .code trellisref15_Beyond_c6] [(0, .slice A2 n3 c4), (3, .slice A208 n209 c210), (4, .int .i64 x40)] [.own (.slice A208 n209 c210) 3 1 n209 (x207.flatMap (eI .i64))] [Sm w.heap.size F w [], St w []]
        intro A208 n209 c210 h211
        have h : trellisref15_Beyond_b2 x40 x1 x207 o2 := h
        unfold trellisref15_Beyond_b2 at h
        refine g_seq (c := trellisref15_Beyond_c23) rfl ?_
        refine g_seq (c := trellisref15_Beyond_c24) rfl ?_
        refine g_region (c := trellisref15_Beyond_c26) rfl rfl ?_
        refine wl_v 0 rfl (v_move rfl) gn rfl ?_
        refine wl_v 1 rfl (v_lenQ un_23 rfl h211.hq) gn rfl ?_
        refine wl_v 2 rfl (v_bin rfl rfl rfl) gn rfl ?_
        refine wl_v 3 rfl (v_move rfl) gn rfl ?_
        by_cases hp251 : (x207.length : Int) > 0
        · have h := if_pos' hp251 h
          refine w_bool 14 rfl ((decide_eq_true hp251)) ?_
          refine wl_v 4 rfl (v_move rfl) (gy 14 rfl rfl) rfl ?_
          refine wl_v 5 rfl (v_move rfl) (gy 14 rfl rfl) rfl ?_
          refine wl_v 6 rfl (v_lenQ un_23 rfl h211.hq) (gy 14 rfl rfl) rfl ?_
          refine wl_v 7 rfl (v_bin rfl rfl rfl) (gy 14 rfl rfl) rfl ?_
          obtain ⟨hb252, h⟩ := h
          refine wl_v 8 rfl (v_idxO slE_23 rfl rfl h211 hb252) (gy 14 rfl rfl) rfl ?_
          refine wl_v 9 rfl (v_ldO1 (.int .i64 (ix x207 (w64 ((x207.length : Int) - 1)))) 0 ld_3 rfl rfl (fm_get0 (hlI .i64) hb252 rfl)) (gy 14 rfl rfl) rfl ?_
          refine wl_v 10 rfl (v_bin rfl rfl rfl) (gy 14 rfl rfl) rfl ?_
          refine wl_v 11 rfl (v_pick (b := true) rfl rfl) gn rfl ?_
          refine w_end 12 rfl ?_
          by_cases hp253 : ix x207 (w64 ((x207.length : Int) - 1)) ≤ 0
          · have h := if_pos' hp253 h
            refine g_true (c := trellisref15_Beyond_c27) rfl _ rfl ((decide_eq_true hp253)) ?_
            refine g_skip (c := trellisref15_Beyond_c28) rfl ?_
            refine g_block (c := trellisref15_Beyond_c25) rfl ?_
            refine g_region (c := trellisref15_Beyond_c46) rfl rfl ?_
            refine wl_v 0 rfl (v_move rfl) gn rfl ?_
            refine wl_v 1 rfl (v_move rfl) gn rfl ?_
            refine wl_v 2 rfl (v_lenQ un_23 rfl h211.hq) gn rfl ?_
            refine wl_v 3 rfl (v_bin rfl rfl rfl) gn rfl ?_
            obtain ⟨hb254, h⟩ := h
            obtain ⟨x256, hv257, h⟩ := h
            have hle255 : (w64 ((x207.length : Int) - 1) : Int).toNat ≤ n209 := by have q := hb254; have q1 := h211.hq; omega
            have h258 : Ow w.heap.size A208 (w64 ((x207.length : Int) - 1) : Int).toNat c210 x256 := Ow.w (Ow.cut h211 hle255) (by rw [hv257])
            refine wl_v 4 rfl (v_cutHi (i := w64 ((x207.length : Int) - 1)) slE_23 rfl rfl (by have q := hb254; have q1 := h211.hq; have q2 := h211.hn; omega) h211.hn rfl) gn rfl ?_
            refine wl_v 5 rfl (v_assign rfl) gn rfl ?_
            refine w_end 6 rfl ?_
            refine g_inBlock ?_
            refine g_inLoop ?_
            have h259 : Ow w.heap.size A208 ((w64 ((x207.length : Int) - 1) : Int).toNat) c210 x256 := (Ow.w (Ow.cut h211 hle255) (by rw [hv257]))
            refine g_short (j := 0) (m := ((w64 ((x207.length : Int) - 1) : Int).toNat)) (cells' := x256.flatMap (eI .i64)) rfl hle255 (by rw [fm_take (hlI .i64), hv257]) ?_
            have ih := Out.inl hO2 h
            exact g_go [0, 1] (ih A208 ((w64 ((x207.length : Int) - 1) : Int).toNat) c210 h259) ⟨rfl, rfl, rfl, trivial⟩ (.cons_cons _ (.slnil)) rfl
          · have h := if_neg' hp253 h
            refine g_false (c := trellisref15_Beyond_c27) rfl _ rfl ((decide_eq_false hp253)) ?_
            refine g_exit (c := trellisref15_Beyond_c29) [.code trellisref15_Beyond_c21, .inBlock 1, .code trellisref15_Beyond_c18, .inLoop trellisref15_Beyond_c10, .inBlock 0, .code trellisref15_Beyond_c6] rfl rfl ?_
            refine g_seq (c := trellisref15_Beyond_c21) rfl ?_
            refine g_seq (c := trellisref15_Beyond_c30) rfl ?_
            refine g_region (c := trellisref15_Beyond_c32) rfl rfl ?_
            refine wl_v 0 rfl (v_move rfl) gn rfl ?_
            refine wl_v 1 rfl (v_lenQ un_23 rfl h211.hq) gn rfl ?_
            refine wl_v 2 rfl (v_bin rfl rfl rfl) gn rfl ?_
            refine w_end 3 rfl ?_
            refine g_true (c := trellisref15_Beyond_c33) rfl _ rfl ((decide_eq_true hp251)) ?_
            refine g_region (c := trellisref15_Beyond_c34) rfl rfl ?_
            refine wl_v 0 rfl (v_move rfl) gn rfl ?_
            refine wl_v 1 rfl (v_move rfl) gn rfl ?_
            refine wl_v 2 rfl (v_lenQ un_23 rfl h211.hq) gn rfl ?_
            refine wl_v 3 rfl (v_bin rfl rfl rfl) gn rfl ?_
            refine wl_v 4 rfl (v_move rfl) gn rfl ?_
            refine wl_v 5 rfl (v_move rfl) gn rfl ?_
            refine wl_v 6 rfl (v_lenQ un_23 rfl h211.hq) gn rfl ?_
            refine wl_v 7 rfl (v_bin rfl rfl rfl) gn rfl ?_
            refine wl_v 8 rfl (v_idxO slE_23 rfl rfl h211 hb252) gn rfl ?_
            refine wl_v 9 rfl (v_ldO1 (.int .i64 (ix x207 (w64 ((x207.length : Int) - 1)))) 0 ld_3 rfl rfl (fm_get0 (hlI .i64) hb252 rfl)) gn rfl ?_
            refine wl_v 10 rfl (v_bin rfl rfl rfl) gn rfl ?_
            refine wl_v 11 rfl (v_idxO slE_23 rfl rfl h211 hb252) gn rfl ?_
            obtain ⟨x260, hv261, h⟩ := h
            refine wl_s 12 rfl (s_stF (enc := (eI .i64)) (o := 0) (z := (w64 ((ix x207 (w64 ((x207.length : Int) - 1))) - 1))) (vs := [.int .i64 (w64 ((ix x207 (w64 ((x207.length : Int) - 1))) - 1))]) (i := (w64 ((x207.length : Int) - 1))) 0 (hlI .i64) sz_3 rfl rfl rfl rfl rfl h211 hb252 rfl rfl rfl hv261 fun h262 => ?_) gn
            refine w_end 13 rfl ?_
            refine g_seq (c := trellisref15_Beyond_c31) rfl ?_
            refine g_region (c := trellisref15_Beyond_c36) rfl rfl ?_
            refine wl_v 0 rfl (v_move rfl) gn rfl ?_
            refine wl_v 1 rfl (v_move rfl) gn rfl ?_
            refine wl_v 2 rfl (v_move rfl) gn rfl ?_
            obtain ⟨hb263, h⟩ := h
            have hr264 := Rw.readF (s := St w []) (hl := hl_api_Node) (h1 := h1_api_Node) h5 hb263
            refine wl_v 3 rfl (v_idxR (s := St w []) slE_22 rfl rfl h5 hb263) gn rfl ?_
            refine wl_v 4 rfl (v_fldA fo_39_5 rfl) gn rfl ?_
            refine wl_v 5 rfl (v_ldA1 (kk := (x40 : Int).toNat * 7) (j := 5) (St w []) ld_3 rfl hr264 rfl (me 1 rfl)) gn rfl ?_
            refine wl_s 6 rfl (s_litO (xs := ([(ix x1 x40).kids] : List Int)) [.int .i64 ((ix x1 x40).kids)] bs_23_1 rfl (by kernel_rfl) rfl rfl rfl rfl fun gb266 h267 => ?_) gn
            obtain ⟨x275, hv276, h⟩ := h
            obtain ⟨hb277, h⟩ := h
            refine w_deep0 ?_
            refine wl_s 7 rfl (s_appE (zs := x275) (cells' := x275.flatMap (eI .i64)) 2 0 rfl ap_23 rfl rfl rfl rfl Eld.self h262 (Nat.le_refl _) (Src.ownF (hl := (hlI .i64)) (h1 := (hone_int .i64)) 1 rfl h267) (by rw [hv276, List.flatMap_append] <;> rfl) (app_len hv276 h267.hq) hb277 rfl rfl fun A268 c269 bs272 p273 h270 hE274 => ?_) gn
            refine wl_v 8 rfl (v_assign rfl) gn rfl ?_
            refine w_end 9 rfl ?_
            refine g_seq (c := trellisref15_Beyond_c37) rfl ?_
            refine g_region (c := trellisref15_Beyond_c38) rfl rfl ?_
            refine wl_v 0 rfl (v_move rfl) gn rfl ?_
            refine wl_v 1 rfl (v_lenQ un_23 rfl h270.hq) gn rfl ?_
            refine wl_v 2 rfl (v_bin rfl rfl rfl) gn rfl ?_
            refine w_end 3 rfl ?_
            by_cases hp278 : (x275.length : Int) > 65536
            · have h := if_pos' hp278 h
              refine g_true (c := trellisref15_Beyond_c39) rfl _ rfl ((decide_eq_true hp278)) ?_
              refine g_seq (c := trellisref15_Beyond_c40) rfl ?_
              refine g_region (c := trellisref15_Beyond_c42) rfl rfl ?_
              refine wl_v 0 rfl (v_assign rfl) gn rfl ?_
              refine w_end 1 rfl ?_
              have h := Out.inr hO2 h
              have h := Out.inr hO1 h
              refine g_retR (c := trellisref15_Beyond_c43) [.bool true] rfl Try.func10 rfl (.tmp rfl (.nil)) fun wr hLr => ?_
              have hMr : B.Loc w wr [] [St w []] := hLr.pick (rest := [.deep .nilIface bs272 p273, .own (.slice (some ⟨gb266, 0, none⟩) 1 1) 3 1 1 (([(ix x1 x40).kids] : List Int).flatMap (eI .i64)), .own (.slice A268 (n209 + 1) c269) 3 1 (n209 + 1) (x275.flatMap (eI .i64))]) (perm_of_idx [] [0, 1, 2] rfl rfl (by kernel_rfl)) (sels [1] rfl)
              have hMi : ∀ e ∈ ([] : List Ent), e ∈ ([.deep .nilIface bs272 p273, .own (.slice (some ⟨gb266, 0, none⟩) 1 1) 3 1 1 (([(ix x1 x40).kids] : List Int).flatMap (eI .i64)), .own (.slice A268 (n209 + 1) c269) 3 1 (n209 + 1) (x275.flatMap (eI .i64))] : List Ent) := sels [] rfl
              show trellisref15_Beyond_R w F  r (.returned (packV [.bool true])) wr
              rw [h]
              exact ⟨rfl, hMr⟩
            · have h := if_neg' hp278 h
              refine g_false (c := trellisref15_Beyond_c39) rfl _ rfl ((decide_eq_false hp278)) ?_
              refine g_skip (c := trellisref15_Beyond_c41) rfl ?_
              refine g_inBlock ?_
              refine g_region (c := trellisref15_Beyond_c18) rfl rfl ?_
              refine wl_v 0 rfl (v_move rfl) gn rfl ?_
              refine wl_v 1 rfl (v_bin rfl rfl rfl) gn rfl ?_
              refine wl_v 2 rfl (v_assign rfl) gn rfl ?_
              refine w_end 3 rfl ?_
              refine g_inLoop ?_
              have h := Out.inr hO2 h
              have ih := Out.inl hO1 h
              exact g_go [0, 1] (ih A268 (n209 + 1) c269 h270) ⟨rfl, rfl, rfl, trivial⟩ (.cons _ (.cons _ (.cons_cons _ (.slnil)))) rfl
        · have h := if_neg' hp251 h
          refine w_bool 14 rfl ((decide_eq_false hp251)) ?_
          refine wl_pass 4 rfl (ps 14 rfl rfl rfl) ?_
          refine wl_pass 5 rfl (ps 14 rfl rfl rfl) ?_
          refine wl_pass 6 rfl (ps 14 rfl rfl rfl) ?_
          refine wl_pass 7 rfl (ps 14 rfl rfl rfl) ?_
          refine wl_pass 8 rfl (ps 14 rfl rfl rfl) ?_
          refine wl_pass 9 rfl (ps 14 rfl rfl rfl) ?_
          refine wl_pass 10 rfl (ps 14 rfl rfl rfl) ?_
          refine wl_v 11 rfl (v_pick (b := false) rfl rfl) gn rfl ?_
          refine w_end 12 rfl ?_
          refine g_false (c := trellisref15_Beyond_c27) rfl _ rfl (rfl) ?_
          refine g_exit (c := trellisref15_Beyond_c29) [.code trellisref15_Beyond_c21, .inBlock 1, .code trellisref15_Beyond_c18, .inLoop trellisref15_Beyond_c10, .inBlock 0, .code trellisref15_Beyond_c6] rfl rfl ?_
          refine g_seq (c := trellisref15_Beyond_c21) rfl ?_
          refine g_seq (c := trellisref15_Beyond_c30) rfl ?_
          refine g_region (c := trellisref15_Beyond_c32) rfl rfl ?_
          refine wl_v 0 rfl (v_move rfl) gn rfl ?_
          refine wl_v 1 rfl (v_lenQ un_23 rfl h211.hq) gn rfl ?_
          refine wl_v 2 rfl (v_bin rfl rfl rfl) gn rfl ?_
          refine w_end 3 rfl ?_
          refine g_false (c := trellisref15_Beyond_c33) rfl _ rfl ((decide_eq_false hp251)) ?_
          refine g_skip (c := trellisref15_Beyond_c35) rfl ?_
          refine g_seq (c := trellisref15_Beyond_c31) rfl ?_
          refine g_region (c := trellisref15_Beyond_c36) rfl rfl ?_
          refine wl_v 0 rfl (v_move rfl) gn rfl ?_
          refine wl_v 1 rfl (v_move rfl) gn rfl ?_
          refine wl_v 2 rfl (v_move rfl) gn rfl ?_
          obtain ⟨hb279, h⟩ := h
          have hr280 := Rw.readF (s := St w []) (hl := hl_api_Node) (h1 := h1_api_Node) h5 hb279
          refine wl_v 3 rfl (v_idxR (s := St w []) slE_22 rfl rfl h5 hb279) gn rfl ?_
          refine wl_v 4 rfl (v_fldA fo_39_5 rfl) gn rfl ?_
          refine wl_v 5 rfl (v_ldA1 (kk := (x40 : Int).toNat * 7) (j := 5) (St w []) ld_3 rfl hr280 rfl (me 1 rfl)) gn rfl ?_
          refine wl_s 6 rfl (s_litO (xs := ([(ix x1 x40).kids] : List Int)) [.int .i64 ((ix x1 x40).kids)] bs_23_1 rfl (by kernel_rfl) rfl rfl rfl rfl fun gb282 h283 => ?_) gn
          obtain ⟨x287, hv288, h⟩ := h
          obtain ⟨hb289, h⟩ := h
          refine wl_s 7 rfl (s_app (zs := x287) (cells' := x287.flatMap (eI .i64)) 1 ap_23 rfl rfl rfl h211 (Nat.le_refl _) (Src.ownF (hl := (hlI .i64)) (h1 := (hone_int .i64)) 0 rfl h283) (by rw [hv288, List.flatMap_append] <;> rfl) (app_len hv288 h283.hq) hb289 rfl rfl fun A284 c285 h286 => ?_) gn
          refine wl_v 8 rfl (v_assign rfl) gn rfl ?_
          refine w_end 9 rfl ?_
          refine g_seq (c := trellisref15_Beyond_c37) rfl ?_
          refine g_region (c := trellisref15_Beyond_c38) rfl rfl ?_
          refine wl_v 0 rfl (v_move rfl) gn rfl ?_
          refine wl_v 1 rfl (v_lenQ un_23 rfl h286.hq) gn rfl ?_
          refine wl_v 2 rfl (v_bin rfl rfl rfl) gn rfl ?_
          refine w_end 3 rfl ?_
          by_cases hp290 : (x287.length : Int) > 65536
          · have h := if_pos' hp290 h
            refine g_true (c := trellisref15_Beyond_c39) rfl _ rfl ((decide_eq_true hp290)) ?_
            refine g_seq (c := trellisref15_Beyond_c40) rfl ?_
            refine g_region (c := trellisref15_Beyond_c42) rfl rfl ?_
            refine wl_v 0 rfl (v_assign rfl) gn rfl ?_
            refine w_end 1 rfl ?_
            have h := Out.inr hO2 h
            have h := Out.inr hO1 h
            refine g_retR (c := trellisref15_Beyond_c43) [.bool true] rfl Try.func10 rfl (.tmp rfl (.nil)) fun wr hLr => ?_
            have hMr : B.Loc w wr [] [St w []] := hLr.pick (rest := [.own (.slice (some ⟨gb282, 0, none⟩) 1 1) 3 1 1 (([(ix x1 x40).kids] : List Int).flatMap (eI .i64)), .own (.slice A284 (n209 + 1) c285) 3 1 (n209 + 1) (x287.flatMap (eI .i64))]) (perm_of_idx [] [0, 1] rfl rfl (by kernel_rfl)) (sels [1] rfl)
            have hMi : ∀ e ∈ ([] : List Ent), e ∈ ([.own (.slice (some ⟨gb282, 0, none⟩) 1 1) 3 1 1 (([(ix x1 x40).kids] : List Int).flatMap (eI .i64)), .own (.slice A284 (n209 + 1) c285) 3 1 (n209 + 1) (x287.flatMap (eI .i64))] : List Ent) := sels [] rfl
            show trellisref15_Beyond_R w F  r (.returned (packV [.bool true])) wr
            rw [h]
            exact ⟨rfl, hMr⟩
          · have h := if_neg' hp290 h
            refine g_false (c := trellisref15_Beyond_c39) rfl _ rfl ((decide_eq_false hp290)) ?_
            refine g_skip (c := trellisref15_Beyond_c41) rfl ?_
            refine g_inBlock ?_
            refine g_region (c := trellisref15_Beyond_c18) rfl rfl ?_
            refine wl_v 0 rfl (v_move rfl) gn rfl ?_
            refine wl_v 1 rfl (v_bin rfl rfl rfl) gn rfl ?_
            refine wl_v 2 rfl (v_assign rfl) gn rfl ?_
            refine w_end 3 rfl ?_
            refine g_inLoop ?_
            have h := Out.inr hO2 h
            have ih := Out.inl hO1 h
            exact g_go [0, 1] (ih A284 (n209 + 1) c285 h286) ⟨rfl, rfl, rfl, trivial⟩ (.cons _ (.cons_cons _ (.slnil))) rfl
      exact g_go [0, 1] (key2 _ h A36 n37 c38 h39) ⟨rfl, rfl, rfl, trivial⟩ (.cons_cons _ (.slnil)) rfl
    · have h := if_neg' hp166 h
      refine g_false (c := trellisref15_Beyond_c14) rfl _ rfl ((decide_eq_false hp166)) ?_
      refine g_exit (c := trellisref15_Beyond_c16) [.code trellisref15_Beyond_c6] rfl rfl ?_
      refine g_seq (c := trellisref15_Beyond_c6) rfl ?_
      refine g_region (c := trellisref15_Beyond_c44) rfl rfl ?_
      refine wl_v 0 rfl (v_assign rfl) gn rfl ?_
      refine w_end 1 rfl ?_
      have h := Out.inr hO1 h
      refine g_retR (c := trellisref15_Beyond_c45) [.bool false] rfl Try.func10 rfl (.tmp rfl (.nil)) fun wr hLr => ?_
      have hMr : B.Loc w wr [] [St w []] := hLr.pick (rest := [.own (.slice A36 n37 c38) 3 1 n37 (x35.flatMap (eI .i64))]) (perm_of_idx [] [0] rfl rfl (by kernel_rfl)) (sels [1] rfl)
      have hMi : ∀ e ∈ ([] : List Ent), e ∈ ([.own (.slice A36 n37 c38) 3 1 n37 (x35.flatMap (eI .i64))] : List Ent) := sels [] rfl
      show trellisref15_Beyond_R w F  r (.returned (packV [.bool false])) wr
      rw [h]
      exact ⟨rfl, hMr⟩
  refine g_nil 3 1 ?_
  exact g_go [0, 1] (key1 _ h none 0 0 (Ow.nil (z := w.heap.size))) ⟨rfl, rfl, rfl, trivial⟩ (.cons_cons _ (.slnil)) rfl
noncomputable abbrev trellisref15_Twin_c0 : Code := bodyOf Try.f17
noncomputable abbrev trellisref15_Twin_c1 : Code := Code.fst trellisref15_Twin_c0
noncomputable abbrev trellisref15_Twin_c2 : Code := Code.snd trellisref15_Twin_c0
noncomputable abbrev trellisref15_Twin_c3 : Code := Code.fst trellisref15_Twin_c2
noncomputable abbrev trellisref15_Twin_c4 : Code := Code.snd trellisref15_Twin_c2
noncomputable abbrev trellisref15_Twin_c5 : Code := Code.fst trellisref15_Twin_c4
noncomputable abbrev trellisref15_Twin_c6 : Code := Code.snd trellisref15_Twin_c4
abbrev trellisref15_Twin_R (w : World) (F : Nat → Prop) (r : List api_Node) : Ending → World → Prop := fun e w' => ∃ A0 : Option Addr, ∃ n0 : Nat, ∃ c0 : Nat, e = .returned (.slice A0 n0 c0) ∧ B.Loc w w' [.own (.slice A0 n0 c0) 39 7 n0 (r.flatMap enc_api_Node)] [St w []] ∧ Ow w.heap.size A0 n0 c0 r
noncomputable abbrev trellisref15_Twin_C (w : World) (F : Nat → Prop) (r : List api_Node) : Cx := ⟨Try.prog, 17, Try.f17, 7, trellisref15_Twin_R w F  r, w⟩
theorem trellisref15_Twin_calls (w : World) (F : Nat → Prop) (x1 : List api_Node) (A2 : Option Addr) (n3 : Nat) (c4 : Nat) (h5 : Rw k_api_Node w (St w []).av A2 n3 c4 x1) (hF : ∀ b, F b → b < w.heap.size ∧ ∀ o ∈ ([] : List (List Nat)), b ∉ o) (hL0 : B.Loc w w [] [Sm w.heap.size F w [], St w []]) (r : List api_Node) (h : trellisref15_Twin x1 r) : Calls Try.prog 17 #[.slice A2 n3 c4] w (trellisref15_Twin_R w F  r) := by
  unfold trellisref15_Twin at h
  refine calls_of_Loc (vs := [.slice A2 n3 c4]) 7 Try.func17 rfl Try.ntmps17 rfl hL0 ?_
  show G (trellisref15_Twin_C w F r) _ _ _ _
  refine g_seq (c := trellisref15_Twin_c0) rfl ?_
  refine g_region (c := trellisref15_Twin_c1) rfl rfl ?_
  refine wl_v 0 rfl (v_assign rfl) gn rfl ?_
  refine w_end 1 rfl ?_
  refine g_seq (c := trellisref15_Twin_c2) rfl ?_
  refine g_region (c := trellisref15_Twin_c3) rfl rfl ?_
  refine wl_v 0 rfl (v_assign rfl) gn rfl ?_
  refine w_end 1 rfl ?_
  refine g_seq (c := trellisref15_Twin_c4) rfl ?_
  refine g_region (c := trellisref15_Twin_c5) rfl rfl ?_
  refine wl_v 0 rfl (v_move rfl) gn rfl ?_
  refine wl_v 1 rfl (v_move rfl) gn rfl ?_
  obtain ⟨x10, hv11, h⟩ := h
  obtain ⟨hb12, h⟩ := h
  refine w_nil 39 7 ?_
  refine wl_s 2 rfl (s_app (zs := x10) (cells' := x10.flatMap enc_api_Node) 0 ap_22 rfl rfl rfl (Ow.nil (z := w.heap.size)) (Nat.le_refl _) (Src.readF (s := St w []) (hl := hl_api_Node) (h1 := h1_api_Node) h5 (me 1 rfl)) (by rw [hv11, List.flatMap_append] <;> rfl) (app_len hv11 h5.hq) hb12 rfl rfl fun A7 c8 h9 => ?_) gn
  refine wl_v 3 rfl (v_assign rfl) gn rfl ?_
  refine w_end 4 rfl ?_
  refine g_retR (c := trellisref15_Twin_c6) [.slice A7 (0 + n3) c8] rfl Try.func17 rfl (.tmp rfl (.nil)) fun wr hLr => ?_
  have hMr : B.Loc w wr [.own (.slice A7 (0 + n3) c8) 39 7 (0 + n3) (x10.flatMap enc_api_Node)] [St w []] := hLr.pick (rest := []) (perm_of_idx [0] [] rfl rfl (by kernel_rfl)) (sels [1] rfl)
  have hMi : ∀ e ∈ ([.own (.slice A7 (0 + n3) c8) 39 7 (0 + n3) (x10.flatMap enc_api_Node)] : List Ent), e ∈ ([.own (.slice A7 (0 + n3) c8) 39 7 (0 + n3) (x10.flatMap enc_api_Node)] : List Ent) := sels [0] rfl
  show trellisref15_Twin_R w F  r (.returned (packV [.slice A7 (0 + n3) c8])) wr
  rw [h]
  exact ⟨A7, 0 + n3, c8, rfl, hMr, h9⟩
noncomputable abbrev trellislaw15_roomy_c0 : Code := bodyOf Try.f11
noncomputable abbrev trellislaw15_roomy_c1 : Code := Code.fst trellislaw15_roomy_c0
noncomputable abbrev trellislaw15_roomy_c2 : Code := Code.snd trellislaw15_roomy_c0
noncomputable abbrev trellislaw15_roomy_c3 : Code := Code.fst trellislaw15_roomy_c2
noncomputable abbrev trellislaw15_roomy_c4 : Code := Code.snd trellislaw15_roomy_c2
noncomputable abbrev trellislaw15_roomy_c5 : Code := Code.fst trellislaw15_roomy_c4
noncomputable abbrev trellislaw15_roomy_c6 : Code := Code.snd trellislaw15_roomy_c4
noncomputable abbrev trellislaw15_roomy_c7 : Code := Code.fst trellislaw15_roomy_c6
noncomputable abbrev trellislaw15_roomy_c8 : Code := Code.snd trellislaw15_roomy_c6
abbrev trellislaw15_roomy_R (w : World) (F : Nat → Prop) (r : (List api_Node) × Nat) : Ending → World → Prop := fun e w' => ∃ A0 : Option Addr, ∃ n0 : Nat, ∃ c0 : Nat, e = .returned (.slice A0 r.2 c0) ∧ B.Loc w w' [.own (.slice A0 n0 c0) 39 7 n0 (r.1.flatMap enc_api_Node)] [St w []] ∧ Ow w.heap.size A0 n0 c0 r.1 ∧ r.2 ≤ n0
noncomputable abbrev trellislaw15_roomy_C (w : World) (F : Nat → Prop) (r : (List api_Node) × Nat) : Cx := ⟨Try.prog, 11, Try.f11, 15, trellislaw15_roomy_R w F  r, w⟩
theorem trellislaw15_roomy_calls (w : World) (F : Nat → Prop) (x1 : List api_Node) (A2 : Option Addr) (n3 : Nat) (c4 : Nat) (h5 : Rw k_api_Node w (St w []).av A2 n3 c4 x1) (hF : ∀ b, F b → b < w.heap.size ∧ ∀ o ∈ ([] : List (List Nat)), b ∉ o) (hL0 : B.Loc w w [] [Sm w.heap.size F w [], St w []]) (r : (List api_Node) × Nat) (h : trellislaw15_roomy x1 r) : Calls Try.prog 11 #[.slice A2 n3 c4] w (trellislaw15_roomy_R w F  r) := by
  unfold trellislaw15_roomy at h
  refine calls_of_Loc (vs := [.slice A2 n3 c4]) 15 Try.func11 rfl Try.ntmps11 rfl hL0 ?_
  show G (trellislaw15_roomy_C w F r) _ _ _ _
  refine g_seq (c := trellislaw15_roomy_c0) rfl ?_
  refine g_region (c := trellislaw15_roomy_c1) rfl rfl ?_
  refine wl_v 0 rfl (v_assign rfl) gn rfl ?_
  refine w_end 1 rfl ?_
  refine g_seq (c := trellislaw15_roomy_c2) rfl ?_
  refine g_region (c := trellislaw15_roomy_c3) rfl rfl ?_
  refine wl_v 0 rfl (v_move rfl) gn rfl ?_
  obtain ⟨r9, hv10, h⟩ := h
  refine wl_s 1 rfl (s_call [.slice A2 n3 c4] rfl Try.func17 rfl rfl rfl fun w6 hL7 => ?_) gn
  have hp8 : List.Perm ([] : List Ent) (([] : List Ent) ++ ([] : List Ent)) := perm_of_idx [] [] rfl rfl (by kernel_rfl)
  refine Calls.mono (trellisref15_Twin_calls w6 (Fl ([] : List Snap)) x1 A2 n3 c4 (Rw.mono h5 (hL7.toSt hp8 (me 1 rfl))) (hL7.hFl (Sl := ([] : List Snap)) hp8 (sels [] rfl)) (hL7.into hp8 (Fl ([] : List Snap))) r9 hv10) ?_
  rintro _ w16 ⟨A11, n12, c13, rfl, hM17, h14⟩
  have hL18 := hL7.call hp8 hM17
  refine ⟨_, _, _, rfl, hL18, ?_⟩
  refine wl_v 2 rfl (v_assign rfl) gn rfl ?_
  refine w_end 3 rfl ?_
  refine g_seq (c := trellislaw15_roomy_c4) rfl ?_
  refine g_region (c := trellislaw15_roomy_c5) rfl rfl ?_
  refine wl_v 0 rfl (v_move rfl) gn rfl ?_
  refine wl_v 1 rfl (v_build #[.string (⟨#[]⟩ : ByteArray), .bool false, .string (⟨#[]⟩ : ByteArray), .int .i64 0, .int .i64 0, .int .i64 (-71), .int .i64 0] bd_39 rfl (by kernel_rfl)) gn rfl ?_
  refine wl_v 2 rfl (v_build #[.string (⟨#[]⟩ : ByteArray), .bool false, .string (⟨#[]⟩ : ByteArray), .int .i64 0, .int .i64 0, .int .i64 (-72), .int .i64 0] bd_39 rfl (by kernel_rfl)) gn rfl ?_
  refine wl_s 3 rfl (s_litO (xs := ([(⟨(⟨#[]⟩ : ByteArray), false, (⟨#[]⟩ : ByteArray), 0, 0, -71, 0⟩ : api_Node), (⟨(⟨#[]⟩ : ByteArray), false, (⟨#[]⟩ : ByteArray), 0, 0, -72, 0⟩ : api_Node)] : List api_Node)) [.string (⟨#[]⟩ : ByteArray), .bool false, .string (⟨#[]⟩ : ByteArray), .int .i64 0, .int .i64 0, .int .i64 (-71), .int .i64 0, .string (⟨#[]⟩ : ByteArray), .bool false, .string (⟨#[]⟩ : ByteArray), .int .i64 0, .int .i64 0, .int .i64 (-72), .int .i64 0] bs_22_2 rfl (by kernel_rfl) rfl rfl rfl rfl fun gb20 h21 => ?_) gn
  obtain ⟨x25, hv26, h⟩ := h
  obtain ⟨hb27, h⟩ := h
  refine wl_s 4 rfl (s_app (zs := x25) (cells' := x25.flatMap enc_api_Node) 1 ap_22 rfl rfl rfl (Ow.weak hL7.env.size h14) (Nat.le_refl _) (Src.ownF (hl := hl_api_Node) (h1 := h1_api_Node) 0 rfl h21) (by rw [hv26, List.flatMap_append] <;> rfl) (app_len hv26 h21.hq) hb27 rfl rfl fun A22 c23 h24 => ?_) gn
  refine wl_v 5 rfl (v_assign rfl) gn rfl ?_
  refine w_end 6 rfl ?_
  refine g_seq (c := trellislaw15_roomy_c6) rfl ?_
  refine g_region (c := trellislaw15_roomy_c7) rfl rfl ?_
  refine wl_v 0 rfl (v_move rfl) gn rfl ?_
  refine wl_v 1 rfl (v_move rfl) gn rfl ?_
  refine wl_v 2 rfl (v_lenQ un_22 rfl h5.hq) gn rfl ?_
  obtain ⟨hb28, h⟩ := h
  have hle29 : ((x1.length : Int) : Int).toNat ≤ n12 + 2 := by have q := hb28; have q1 := h24.hq; omega
  refine wl_v 3 rfl (v_cutHi (i := (x1.length : Int)) slE_22 rfl rfl (by have q := hb28; have q1 := h24.hq; have q2 := h24.hn; omega) h24.hn rfl) gn rfl ?_
  refine wl_v 4 rfl (v_assign rfl) gn rfl ?_
  refine w_end 5 rfl ?_
  refine g_retR (c := trellislaw15_roomy_c8) [.slice A22 (((x1.length : Int) : Int).toNat) c23] rfl Try.func11 rfl (.tmp rfl (.nil)) fun wr hLr => ?_
  have hMr : B.Loc w wr [.own (.slice A22 (n12 + 2) c23) 39 7 (n12 + 2) (x25.flatMap enc_api_Node)] [St w []] := hLr.pick (rest := [.own (.slice (some ⟨gb20, 0, none⟩) 2 2) 39 7 2 (([(⟨(⟨#[]⟩ : ByteArray), false, (⟨#[]⟩ : ByteArray), 0, 0, -71, 0⟩ : api_Node), (⟨(⟨#[]⟩ : ByteArray), false, (⟨#[]⟩ : ByteArray), 0, 0, -72, 0⟩ : api_Node)] : List api_Node).flatMap enc_api_Node)]) (perm_of_idx [1] [0] rfl rfl (by kernel_rfl)) (sels [1] rfl)
  have hMi : ∀ e ∈ ([.own (.slice A22 (n12 + 2) c23) 39 7 (n12 + 2) (x25.flatMap enc_api_Node)] : List Ent), e ∈ ([.own (.slice (some ⟨gb20, 0, none⟩) 2 2) 39 7 2 (([(⟨(⟨#[]⟩ : ByteArray), false, (⟨#[]⟩ : ByteArray), 0, 0, -71, 0⟩ : api_Node), (⟨(⟨#[]⟩ : ByteArray), false, (⟨#[]⟩ : ByteArray), 0, 0, -72, 0⟩ : api_Node)] : List api_Node).flatMap enc_api_Node), .own (.slice A22 (n12 + 2) c23) 39 7 (n12 + 2) (x25.flatMap enc_api_Node)] : List Ent) := sels [1] rfl
  show trellislaw15_roomy_R w F  r (.returned (packV [.slice A22 (((x1.length : Int) : Int).toNat) c23])) wr
  rw [h]
  exact ⟨A22, n12 + 2, c23, rfl, hMr, h24, hle29⟩
noncomputable abbrev tree_plant_c0 : Code := bodyOf Try.f44
noncomputable abbrev tree_plant_c1 : Code := Code.fst tree_plant_c0
noncomputable abbrev tree_plant_c2 : Code := Code.snd tree_plant_c0
noncomputable abbrev tree_plant_c3 : Code := Code.fst tree_plant_c2
noncomputable abbrev tree_plant_c4 : Code := Code.snd tree_plant_c2
noncomputable abbrev tree_plant_c5 : Code := Code.fst tree_plant_c4
noncomputable abbrev tree_plant_c6 : Code := Code.snd tree_plant_c4
noncomputable abbrev tree_plant_c7 : Code := Code.fst tree_plant_c6
noncomputable abbrev tree_plant_c8 : Code := Code.snd tree_plant_c6
noncomputable abbrev tree_plant_c9 : Code := Code.fst tree_plant_c7
noncomputable abbrev tree_plant_c10 : Code := Code.snd tree_plant_c7
noncomputable abbrev tree_plant_c11 : Code := Code.fst tree_plant_c10
noncomputable abbrev tree_plant_c12 : Code := Code.fst tree_plant_c11
noncomputable abbrev tree_plant_c13 : Code := Code.fst tree_plant_c12
noncomputable abbrev tree_plant_c14 : Code := Code.snd tree_plant_c12
noncomputable abbrev tree_plant_c15 : Code := Code.fst tree_plant_c14
noncomputable abbrev tree_plant_c16 : Code := Code.snd tree_plant_c14
noncomputable abbrev tree_plant_c17 : Code := Code.fst tree_plant_c15
noncomputable abbrev tree_plant_c18 : Code := Code.snd tree_plant_c15
noncomputable abbrev tree_plant_c19 : Code := Code.fst tree_plant_c16
noncomputable abbrev tree_plant_c20 : Code := Code.snd tree_plant_c16
noncomputable abbrev tree_plant_c21 : Code := Code.fst tree_plant_c19
noncomputable abbrev tree_plant_c22 : Code := Code.fst tree_plant_c21
noncomputable abbrev tree_plant_c23 : Code := Code.snd tree_plant_c21
noncomputable abbrev tree_plant_c24 : Code := Code.fst tree_plant_c23
noncomputable abbrev tree_plant_c25 : Code := Code.snd tree_plant_c23
noncomputable abbrev tree_plant_c26 : Code := Code.fst tree_plant_c25
noncomputable abbrev tree_plant_c27 : Code := Code.snd tree_plant_c25
noncomputable abbrev tree_plant_c28 : Code := Code.fst tree_plant_c26
noncomputable abbrev tree_plant_c29 : Code := Code.snd tree_plant_c26
noncomputable abbrev tree_plant_c30 : Code := Code.fst tree_plant_c29
noncomputable abbrev tree_plant_c31 : Code := Code.snd tree_plant_c29
noncomputable abbrev tree_plant_c32 : Code := Code.fst tree_plant_c27
noncomputable abbrev tree_plant_c33 : Code := Code.snd tree_plant_c27
noncomputable abbrev tree_plant_c34 : Code := Code.fst tree_plant_c32
noncomputable abbrev tree_plant_c35 : Code := Code.snd tree_plant_c32
noncomputable abbrev tree_plant_c36 : Code := Code.fst tree_plant_c35
noncomputable abbrev tree_plant_c37 : Code := Code.snd tree_plant_c35
noncomputable abbrev tree_plant_c38 : Code := Code.fst tree_plant_c36
noncomputable abbrev tree_plant_c39 : Code := Code.snd tree_plant_c36
noncomputable abbrev tree_plant_c40 : Code := Code.fst tree_plant_c33
noncomputable abbrev tree_plant_c41 : Code := Code.snd tree_plant_c33
noncomputable abbrev tree_plant_c42 : Code := Code.fst tree_plant_c41
noncomputable abbrev tree_plant_c43 : Code := Code.fst tree_plant_c42
noncomputable abbrev tree_plant_c44 : Code := Code.fst tree_plant_c43
noncomputable abbrev tree_plant_c45 : Code := Code.snd tree_plant_c43
noncomputable abbrev tree_plant_c46 : Code := Code.fst tree_plant_c44
noncomputable abbrev tree_plant_c47 : Code := Code.snd tree_plant_c44
noncomputable abbrev tree_plant_c48 : Code := Code.fst tree_plant_c47
noncomputable abbrev tree_plant_c49 : Code := Code.snd tree_plant_c47
noncomputable abbrev tree_plant_c50 : Code := Code.fst tree_plant_c45
noncomputable abbrev tree_plant_c51 : Code := Code.fst tree_plant_c50
noncomputable abbrev tree_plant_c52 : Code := Code.snd tree_plant_c50
noncomputable abbrev tree_plant_c53 : Code := Code.fst tree_plant_c8
noncomputable abbrev tree_plant_c54 : Code := Code.snd tree_plant_c8
noncomputable abbrev tree_plant_c55 : Code := Code.fst tree_plant_c54
noncomputable abbrev tree_plant_c56 : Code := Code.snd tree_plant_c54
noncomputable abbrev tree_plant_c57 : Code := Code.fst tree_plant_c30
noncomputable abbrev tree_plant_c58 : Code := Code.snd tree_plant_c30
abbrev tree_plant_R (w : World) (F : Nat → Prop) (r : tree_forest) : Ending → World → Prop := fun e w' => ∃ A1 : Option Addr, ∃ n1 : Nat, ∃ c1 : Nat, ∃ A2 : Option Addr, ∃ n2 : Nat, ∃ c2 : Nat, ∃ A0 : Option Addr, ∃ n0 : Nat, ∃ c0 : Nat, e = .returned (.agg #[.slice A0 n0 c0, .slice A1 n1 c1, .slice A2 n2 c2, .bool r.ok]) ∧ B.Loc w w' [.own (.slice A1 n1 c1) 3 1 n1 (r.parent.flatMap (eI .i64)), .own (.slice A2 n2 c2) 3 1 n2 (r.end_.flatMap (eI .i64))] [St w []] ∧ Ow w.heap.size A1 n1 c1 r.parent ∧ Ow w.heap.size A2 n2 c2 r.end_ ∧ Rw k_api_Node w' (Nw w w' F [.own (.slice A1 n1 c1) 3 1 n1 (r.parent.flatMap (eI .i64)), .own (.slice A2 n2 c2) 3 1 n2 (r.end_.flatMap (eI .i64))]) A0 n0 c0 r.nodes
noncomputable abbrev tree_plant_C (w : World) (F : Nat → Prop) (r : tree_forest) : Cx := ⟨Try.prog, 44, Try.f44, 100, tree_plant_R w F  r, w⟩
theorem tree_plant_calls (w : World) (F : Nat → Prop) (x1 : List api_Node) (A2 : Option Addr) (n3 : Nat) (c4 : Nat) (h5 : Rw k_api_Node w F A2 n3 c4 x1) (hF : ∀ b, F b → b < w.heap.size ∧ ∀ o ∈ ([] : List (List Nat)), b ∉ o) (hL0 : B.Loc w w [] [Sm w.heap.size F w [], St w []]) (r : tree_forest) (h : tree_plant x1 r) : Calls Try.prog 44 #[.slice A2 n3 c4] w (tree_plant_R w F  r) := by
  unfold tree_plant at h
  have h5 := Rw.into (bs := []) hF h5
  refine calls_of_Loc (vs := [.slice A2 n3 c4]) 100 Try.func44 rfl Try.ntmps44 rfl hL0 ?_
  show G (tree_plant_C w F r) _ _ _ _
  refine g_seq (c := tree_plant_c0) rfl ?_
  refine g_region (c := tree_plant_c1) rfl rfl ?_
  refine wl_s 0 rfl (s_alloc [.slice none 0 0, .slice none 0 0, .slice none 0 0, .bool false] zr_32 rfl fun gb6 => ?_) gn
  refine w_end 1 rfl ?_
  refine g_seq (c := tree_plant_c2) rfl ?_
  obtain ⟨hb8, h⟩ := h
  obtain ⟨x12, hv13, h⟩ := h
  obtain ⟨x17, hv18, h⟩ := h
  have d1 : ∀ (gb76 : Nat) (A77 : Option Addr) (n78 : Nat) (c79 : Nat) (h80 : Ow w.heap.size A77 n78 c79 x12) (A81 : Option Addr) (n82 : Nat) (c83 : Nat) (h84 : Ow w.heap.size A81 n82 c83 x17), G (tree_plant_C w F r) [.code tree_plant_c4] [(0, .slice A2 n3 c4), (2, .pointer (some ⟨gb6, 0, none⟩)), (3, .pointer (some ⟨gb76, 0, none⟩))] [.box gb76 32 [.slice A2 n3 c4, .slice A77 n78 c79, .slice A81 n82 c83, .bool false], .own (.slice A81 n82 c83) 3 1 n82 (x17.flatMap (eI .i64)), .own (.slice A77 n78 c79) 3 1 n78 (x12.flatMap (eI .i64)), .box gb6 32 [.slice none 0 0, .slice none 0 0, .slice none 0 0, .bool false]] [Sm w.heap.size F w [], St w []] := by
    intro gb76 A77 n78 c79 h80 A81 n82 c83 h84
    refine g_seq (c := tree_plant_c4) rfl ?_
    refine g_region (c := tree_plant_c5) rfl rfl ?_
    refine wl_v 0 rfl (v_assign rfl) gn rfl ?_
    refine wl_v 1 rfl (v_assign rfl) gn rfl ?_
    refine w_end 2 rfl ?_
    refine g_seq (c := tree_plant_c6) rfl ?_
    refine g_seq (c := tree_plant_c7) rfl ?_
    refine g_region (c := tree_plant_c9) rfl rfl ?_
    refine wl_v 0 rfl (v_move rfl) gn rfl ?_
    refine wl_v 1 rfl (v_lenQ un_22 rfl h5.hq) gn rfl ?_
    refine wl_v 2 rfl (v_move rfl) gn rfl ?_
    refine w_end 3 rfl ?_
    refine g_block (c := tree_plant_c10) rfl ?_
    refine g_loop (c := tree_plant_c11) rfl ?_
    have key1 : ∀ s, Rounds (fun (s : (List Int) × (List Int) × Int × (List Int) × (List Int)) o => tree_plant_b1 x1 s.1 s.2.1 s.2.2.1 s.2.2.2.1 s.2.2.2.2 o) s r → (fun (s : (List Int) × (List Int) × Int × (List Int) × (List Int)) => ∀ (A346 : Option Addr) (n347 : Nat) (c348 : Nat) (h349 : Ow w.heap.size A346 n347 c348 s.1) (A351 : Option Addr) (n352 : Nat) (c353 : Nat) (h354 : Ow w.heap.size A351 n352 c353 s.2.1) (h357 : Ow w.heap.size A77 n78 c79 s.2.2.2.1) (h359 : Ow w.heap.size A81 n82 c83 s.2.2.2.2), G (tree_plant_C w F r) [.code tree_plant_c12, .inLoop tree_plant_c12, .inBlock 0, .code tree_plant_c8] [(2, .pointer (some ⟨gb6, 0, none⟩)), (3, .pointer (some ⟨gb76, 0, none⟩)), (4, .slice A346 n347 c348), (5, .slice A351 n352 c353), (16, .slice A2 n3 c4), (17, .int .i64 (x1.length : Int)), (18, .int .i64 s.2.2.1)] [.own (.slice A346 n347 c348) 3 1 n347 (s.1.flatMap (eI .i64)), .own (.slice A351 n352 c353) 3 1 n352 (s.2.1.flatMap (eI .i64)), .box gb76 32 [.slice A2 n3 c4, .slice A77 n78 c79, .slice A81 n82 c83, .bool false], .own (.slice A81 n82 c83) 3 1 n82 (s.2.2.2.2.flatMap (eI .i64)), .own (.slice A77 n78 c79) 3 1 n78 (s.2.2.2.1.flatMap (eI .i64)), .box gb6 32 [.slice none 0 0, .slice none 0 0, .slice none 0 0, .bool false]] [Sm w.heap.size F w [], St w []]) s := by
      intro s hs
      refine Rounds.ind (mot := (fun (s : (List Int) × (List Int) × Int × (List Int) × (List Int)) => ∀ (A346 : Option Addr) (n347 : Nat) (c348 : Nat) (h349 : Ow w.heap.size A346 n347 c348 s.1) (A351 : Option Addr) (n352 : Nat) (c353 : Nat) (h354 : Ow w.heap.size A351 n352 c353 s.2.1) (h357 : Ow w.heap.size A77 n78 c79 s.2.2.2.1) (h359 : Ow w.heap.size A81 n82 c83 s.2.2.2.2), G (tree_plant_C w F r) [.code tree_plant_c12, .inLoop tree_plant_c12, .inBlock 0, .code tree_plant_c8] [(2, .pointer (some ⟨gb6, 0, none⟩)), (3, .pointer (some ⟨gb76, 0, none⟩)), (4, .slice A346 n347 c348), (5, .slice A351 n352 c353), (16, .slice A2 n3 c4), (17, .int .i64 (x1.length : Int)), (18, .int .i64 s.2.2.1)] [.own (.slice A346 n347 c348) 3 1 n347 (s.1.flatMap (eI .i64)), .own (.slice A351 n352 c353) 3 1 n352 (s.2.1.flatMap (eI .i64)), .box gb76 32 [.slice A2 n3 c4, .slice A77 n78 c79, .slice A81 n82 c83, .bool false], .own (.slice A81 n82 c83) 3 1 n82 (s.2.2.2.2.flatMap (eI .i64)), .own (.slice A77 n78 c79) 3 1 n78 (s.2.2.2.1.flatMap (eI .i64)), .box gb6 32 [.slice none 0 0, .slice none 0 0, .slice none 0 0, .bool false]] [Sm w.heap.size F w [], St w []])) ?_ hs
      clear hs s
      intro s o1 h hO1
      obtain ⟨x345, x350, x355, x356, x358⟩ := s
      show ∀ (A346 : Option Addr) (n347 : Nat) (c348 : Nat) (h349 : Ow w.heap.size A346 n347 c348 x345) (A351 : Option Addr) (n352 : Nat) (c353 : Nat) (h354 : Ow w.heap.size A351 n352 c353 x350) (h357 : Ow w.heap.size A77 n78 c79 x356) (h359 : Ow w.heap.size A81 n82 c83 x358), G (tree_plant_C w F r) [.code tree_plant_c12, .inLoop tree_plant_c12, .inBlock 0, .code tree_plant_c8] [(2, .pointer (some ⟨gb6, 0, none⟩)), (3, .pointer (some ⟨gb76, 0, none⟩)), (4, .slice A346 n347 c348), (5, .slice A351 n352 c353), (16, .slice A2 n3 c4), (17, .int .i64 (x1.length : Int)), (18, .int .i64 x355)] [.own (.slice A346 n347 c348) 3 1 n347 (x345.flatMap (eI .i64)), .own (.slice A351 n352 c353) 3 1 n352 (x350.flatMap (eI .i64)), .box gb76 32 [.slice A2 n3 c4, .slice A77 n78 c79, .slice A81 n82 c83, .bool false], .own (.slice A81 n82 c83) 3 1 n82 (x358.flatMap (eI .i64)), .own (.slice A77 n78 c79) 3 1 n78 (x356.flatMap (eI .i64)), .box gb6 32 [.slice none 0 0, .slice none 0 0, .slice none 0 0, .bool false]] [Sm w.heap.size F w [], St w []]
      intro A346 n347 c348 h349 A351 n352 c353 h354 h357 h359
      have h : tree_plant_b1 x1 x345 x350 x355 x356 x358 o1 := h
      unfold tree_plant_b1 at h
      refine g_seq (c := tree_plant_c12) rfl ?_
      refine g_region (c := tree_plant_c13) rfl rfl ?_
      refine wl_v 0 rfl (v_bin rfl rfl rfl) gn rfl ?_
      refine w_end 1 rfl ?_
      refine g_seq (c := tree_plant_c14) rfl ?_
      by_cases hp630 : x355 < (x1.length : Int)
      · have h := if_pos' hp630 h
        refine g_true (c := tree_plant_c15) rfl _ rfl ((decide_eq_true hp630)) ?_
        refine g_skip (c := tree_plant_c17) rfl ?_
        refine g_seq (c := tree_plant_c16) rfl ?_
        refine g_block (c := tree_plant_c19) rfl ?_
        refine g_seq (c := tree_plant_c21) rfl ?_
        refine g_region (c := tree_plant_c22) rfl rfl ?_
        refine wl_v 0 rfl (v_move rfl) gn rfl ?_
        obtain ⟨hb631, h⟩ := h
        have hr632 := Rw.readF (s := Sm w.heap.size F w []) (hl := hl_api_Node) (h1 := h1_api_Node) h5 hb631
        refine wl_v 1 rfl (v_idxR (s := Sm w.heap.size F w []) slE_22 rfl rfl h5 hb631) gn rfl ?_
        refine wl_v 2 rfl (v_ldA (Sm w.heap.size F w []) ld_39 rfl hr632 rfl (me 0 rfl)) gn rfl ?_
        refine wl_s 3 rfl (s_alloc [.string (⟨#[]⟩ : ByteArray), .bool false, .string (⟨#[]⟩ : ByteArray), .int .i64 0, .int .i64 0, .int .i64 0, .int .i64 0] zr_39 rfl fun gb633 => ?_) gn
        refine wl_v 4 rfl (v_assign rfl) gn rfl ?_
        refine wl_s 5 rfl (s_stB (vs := [.string ((ix x1 x355).name), .bool ((ix x1 x355).named), .string ((ix x1 x355).field), .int .i64 ((ix x1 x355).from_), .int .i64 ((ix x1 x355).to), .int .i64 ((ix x1 x355).kids), .int .i64 ((ix x1 x355).leaf)]) (cs' := [.string ((ix x1 x355).name), .bool ((ix x1 x355).named), .string ((ix x1 x355).field), .int .i64 ((ix x1 x355).from_), .int .i64 ((ix x1 x355).to), .int .i64 ((ix x1 x355).kids), .int .i64 ((ix x1 x355).leaf)]) (M' := [.box gb633 39 [.string ((ix x1 x355).name), .bool ((ix x1 x355).named), .string ((ix x1 x355).field), .int .i64 ((ix x1 x355).from_), .int .i64 ((ix x1 x355).to), .int .i64 ((ix x1 x355).kids), .int .i64 ((ix x1 x355).leaf)], .own (.slice A346 n347 c348) 3 1 n347 (x345.flatMap (eI .i64)), .own (.slice A351 n352 c353) 3 1 n352 (x350.flatMap (eI .i64)), .box gb76 32 [.slice A2 n3 c4, .slice A77 n78 c79, .slice A81 n82 c83, .bool false], .own (.slice A81 n82 c83) 3 1 n82 (x358.flatMap (eI .i64)), .own (.slice A77 n78 c79) 3 1 n78 (x356.flatMap (eI .i64)), .box gb6 32 [.slice none 0 0, .slice none 0 0, .slice none 0 0, .bool false]]) 0 sz_39 rfl rfl rfl rfl rfl rfl rfl rfl rfl ?_) gn
        refine w_end 6 rfl ?_
        refine g_seq (c := tree_plant_c23) rfl ?_
        refine g_region (c := tree_plant_c24) rfl rfl ?_
        refine wl_v 0 rfl (v_fldB fo_32_1 rfl) gn rfl ?_
        refine wl_v 1 rfl (v_ldB1 3 ld_23 rfl rfl rfl) gn rfl ?_
        refine wl_v 2 rfl (v_move rfl) gn rfl ?_
        obtain ⟨hb635, h⟩ := h
        refine wl_v 3 rfl (v_idxO slE_23 rfl rfl h357 hb635) gn rfl ?_
        obtain ⟨x636, hv637, h⟩ := h
        refine wl_s 4 rfl (s_stF (enc := (eI .i64)) (o := 0) (z := (-1)) (vs := [.int .i64 (-1)]) (i := x355) 5 (hlI .i64) sz_3 rfl rfl rfl rfl rfl h357 hb635 rfl rfl rfl hv637 fun h638 => ?_) gn
        refine w_end 5 rfl ?_
        refine g_seq (c := tree_plant_c25) rfl ?_
        refine g_seq (c := tree_plant_c26) rfl ?_
        refine g_region (c := tree_plant_c28) rfl rfl ?_
        refine wl_v 0 rfl (v_move rfl) gn rfl ?_
        refine wl_v 1 rfl (v_lenQ un_23 rfl h349.hq) gn rfl ?_
        refine wl_v 2 rfl (v_bin rfl rfl rfl) gn rfl ?_
        refine w_end 3 rfl ?_
        have j2 : ∀ (x652 : List Int) (x654 : List Int) (h : tree_plant_j2 x1 x355 x358 x345 x652 x654 o1) (h653 : Ow w.heap.size A351 n352 c353 x652) (h655 : Ow w.heap.size A77 n78 c79 x654), G (tree_plant_C w F r) [.code tree_plant_c27, .inBlock 1, .code tree_plant_c20, .inLoop tree_plant_c12, .inBlock 0, .code tree_plant_c8] [(2, .pointer (some ⟨gb6, 0, none⟩)), (3, .pointer (some ⟨gb76, 0, none⟩)), (4, .slice A346 n347 c348), (5, .slice A351 n352 c353), (6, .int .i64 x355), (7, .pointer (some ⟨gb633, 0, none⟩)), (16, .slice A2 n3 c4), (17, .int .i64 (x1.length : Int)), (18, .int .i64 x355)] [.box gb633 39 [.string ((ix x1 x355).name), .bool ((ix x1 x355).named), .string ((ix x1 x355).field), .int .i64 ((ix x1 x355).from_), .int .i64 ((ix x1 x355).to), .int .i64 ((ix x1 x355).kids), .int .i64 ((ix x1 x355).leaf)], .own (.slice A346 n347 c348) 3 1 n347 (x345.flatMap (eI .i64)), .own (.slice A351 n352 c353) 3 1 n352 (x652.flatMap (eI .i64)), .box gb76 32 [.slice A2 n3 c4, .slice A77 n78 c79, .slice A81 n82 c83, .bool false], .own (.slice A81 n82 c83) 3 1 n82 (x358.flatMap (eI .i64)), .own (.slice A77 n78 c79) 3 1 n78 (x654.flatMap (eI .i64)), .box gb6 32 [.slice none 0 0, .slice none 0 0, .slice none 0 0, .bool false]] [Sm w.heap.size F w [], St w []] := by
          intro x652 x654 h h653 h655
          unfold tree_plant_j2 at h
          refine g_seq (c := tree_plant_c27) rfl ?_
          refine g_seq (c := tree_plant_c32) rfl ?_
          refine g_region (c := tree_plant_c34) rfl rfl ?_
          refine wl_v 0 rfl (v_fldB fo_39_5 rfl) gn rfl ?_
          refine wl_v 1 rfl (v_ldB1 0 ld_3 rfl rfl rfl) gn rfl ?_
          refine wl_v 2 rfl (v_bin rfl rfl rfl) gn rfl ?_
          refine w_end 3 rfl ?_
          by_cases hp656 : (ix x1 x355).kids < 0
          · have h := if_pos' hp656 h
            refine g_true (c := tree_plant_c35) rfl _ rfl ((decide_eq_true hp656)) ?_
            refine g_seq (c := tree_plant_c36) rfl ?_
            refine g_region (c := tree_plant_c38) rfl rfl ?_
            refine wl_v 0 rfl (v_ldB [.slice A2 n3 c4, .slice A77 n78 c79, .slice A81 n82 c83, .bool false] 3 ld_32 rfl rfl rfl rfl) gn rfl ?_
            refine wl_s 1 rfl (s_stB (vs := [.slice A2 n3 c4, .slice A77 n78 c79, .slice A81 n82 c83, .bool false]) (cs' := [.slice A2 n3 c4, .slice A77 n78 c79, .slice A81 n82 c83, .bool false]) (M' := [.box gb633 39 [.string ((ix x1 x355).name), .bool ((ix x1 x355).named), .string ((ix x1 x355).field), .int .i64 ((ix x1 x355).from_), .int .i64 ((ix x1 x355).to), .int .i64 ((ix x1 x355).kids), .int .i64 ((ix x1 x355).leaf)], .own (.slice A346 n347 c348) 3 1 n347 (x345.flatMap (eI .i64)), .own (.slice A351 n352 c353) 3 1 n352 (x652.flatMap (eI .i64)), .box gb76 32 [.slice A2 n3 c4, .slice A77 n78 c79, .slice A81 n82 c83, .bool false], .own (.slice A81 n82 c83) 3 1 n82 (x358.flatMap (eI .i64)), .own (.slice A77 n78 c79) 3 1 n78 (x654.flatMap (eI .i64)), .box gb6 32 [.slice A2 n3 c4, .slice A77 n78 c79, .slice A81 n82 c83, .bool false]]) 6 sz_32 rfl rfl rfl rfl rfl rfl rfl rfl rfl ?_) gn
            refine w_end 2 rfl ?_
            have h := Out.inr hO1 h
            refine g_retR (c := tree_plant_c39) [.agg #[.slice A2 n3 c4, .slice A77 n78 c79, .slice A81 n82 c83, .bool false]] rfl Try.func44 rfl (.cell (cs := [.slice A2 n3 c4, .slice A77 n78 c79, .slice A81 n82 c83, .bool false]) (us := [.slice A2 n3 c4, .slice A77 n78 c79, .slice A81 n82 c83, .bool false]) 6 rfl ld_32 rfl rfl rfl (.nil)) fun wr hLr => ?_
            have hMr : B.Loc w wr [.own (.slice A77 n78 c79) 3 1 n78 (x654.flatMap (eI .i64)), .own (.slice A81 n82 c83) 3 1 n82 (x358.flatMap (eI .i64))] [St w []] := hLr.pick (rest := [.box gb633 39 [.string ((ix x1 x355).name), .bool ((ix x1 x355).named), .string ((ix x1 x355).field), .int .i64 ((ix x1 x355).from_), .int .i64 ((ix x1 x355).to), .int .i64 ((ix x1 x355).kids), .int .i64 ((ix x1 x355).leaf)], .own (.slice A346 n347 c348) 3 1 n347 (x345.flatMap (eI .i64)), .own (.slice A351 n352 c353) 3 1 n352 (x652.flatMap (eI .i64)), .box gb76 32 [.slice A2 n3 c4, .slice A77 n78 c79, .slice A81 n82 c83, .bool false], .box gb6 32 [.slice A2 n3 c4, .slice A77 n78 c79, .slice A81 n82 c83, .bool false]]) (perm_of_idx [5, 4] [0, 1, 2, 3, 6] rfl rfl (by kernel_rfl)) (sels [1] rfl)
            have hMi : ∀ e ∈ ([.own (.slice A77 n78 c79) 3 1 n78 (x654.flatMap (eI .i64)), .own (.slice A81 n82 c83) 3 1 n82 (x358.flatMap (eI .i64))] : List Ent), e ∈ ([.box gb633 39 [.string ((ix x1 x355).name), .bool ((ix x1 x355).named), .string ((ix x1 x355).field), .int .i64 ((ix x1 x355).from_), .int .i64 ((ix x1 x355).to), .int .i64 ((ix x1 x355).kids), .int .i64 ((ix x1 x355).leaf)], .own (.slice A346 n347 c348) 3 1 n347 (x345.flatMap (eI .i64)), .own (.slice A351 n352 c353) 3 1 n352 (x652.flatMap (eI .i64)), .box gb76 32 [.slice A2 n3 c4, .slice A77 n78 c79, .slice A81 n82 c83, .bool false], .own (.slice A81 n82 c83) 3 1 n82 (x358.flatMap (eI .i64)), .own (.slice A77 n78 c79) 3 1 n78 (x654.flatMap (eI .i64)), .box gb6 32 [.slice A2 n3 c4, .slice A77 n78 c79, .slice A81 n82 c83, .bool false]] : List Ent) := sels [5, 4] rfl
            show tree_plant_R w F  r (.returned (packV [.agg #[.slice A2 n3 c4, .slice A77 n78 c79, .slice A81 n82 c83, .bool false]])) wr
            rw [h]
            exact ⟨A77, n78, c79, A81, n82, c83, A2, n3, c4, rfl, hMr, h655, h359, (hLr.outR (s := Sm w.heap.size F w []) hMi (me 0 rfl) Sm.ok h5)⟩
          · have h := if_neg' hp656 h
            refine g_false (c := tree_plant_c35) rfl _ rfl ((decide_eq_false hp656)) ?_
            refine g_skip (c := tree_plant_c37) rfl ?_
            refine g_seq (c := tree_plant_c33) rfl ?_
            obtain ⟨x663, hv664, h⟩ := h
            obtain ⟨hb665, h⟩ := h
            obtain ⟨x672, hv673, h⟩ := h
            obtain ⟨hb674, h⟩ := h
            have d4 : ∀ (A729 : Option Addr) (n730 : Nat) (c731 : Nat) (h732 : Ow w.heap.size A729 n730 c731 x663) (A733 : Option Addr) (n734 : Nat) (c735 : Nat) (h736 : Ow w.heap.size A733 n734 c735 x672), G (tree_plant_C w F r) [.code tree_plant_c41, .inBlock 1, .code tree_plant_c20, .inLoop tree_plant_c12, .inBlock 0, .code tree_plant_c8] [(2, .pointer (some ⟨gb6, 0, none⟩)), (3, .pointer (some ⟨gb76, 0, none⟩)), (4, .slice A729 n730 c731), (5, .slice A733 n734 c735), (6, .int .i64 x355), (16, .slice A2 n3 c4), (17, .int .i64 (x1.length : Int)), (18, .int .i64 x355)] [.own (.slice A729 n730 c731) 3 1 n730 (x663.flatMap (eI .i64)), .own (.slice A733 n734 c735) 3 1 n734 (x672.flatMap (eI .i64)), .box gb76 32 [.slice A2 n3 c4, .slice A77 n78 c79, .slice A81 n82 c83, .bool false], .own (.slice A81 n82 c83) 3 1 n82 (x358.flatMap (eI .i64)), .own (.slice A77 n78 c79) 3 1 n78 (x654.flatMap (eI .i64)), .box gb6 32 [.slice none 0 0, .slice none 0 0, .slice none 0 0, .bool false]] [Sm w.heap.size F w [], St w []] := by
              intro A729 n730 c731 h732 A733 n734 c735 h736
              refine g_block (c := tree_plant_c41) rfl ?_
              refine g_loop (c := tree_plant_c42) rfl ?_
              have key3 : ∀ s, Rounds (fun (s : (List Int) × (List Int) × (List Int)) o => tree_plant_b3 x355 x654 s.1 s.2.1 s.2.2 o) s o1 → (fun (s : (List Int) × (List Int) × (List Int)) => ∀ (A767 : Option Addr) (n768 : Nat) (c769 : Nat) (h770 : Ow w.heap.size A767 n768 c769 s.1) (A772 : Option Addr) (n773 : Nat) (c774 : Nat) (h775 : Ow w.heap.size A772 n773 c774 s.2.1) (h777 : Ow w.heap.size A81 n82 c83 s.2.2), G (tree_plant_C w F r) [.code tree_plant_c43, .inLoop tree_plant_c43, .inBlock 2, .inBlock 1, .code tree_plant_c20, .inLoop tree_plant_c12, .inBlock 0, .code tree_plant_c8] [(2, .pointer (some ⟨gb6, 0, none⟩)), (3, .pointer (some ⟨gb76, 0, none⟩)), (4, .slice A767 n768 c769), (5, .slice A772 n773 c774), (6, .int .i64 x355), (16, .slice A2 n3 c4), (17, .int .i64 (x1.length : Int)), (18, .int .i64 x355)] [.own (.slice A767 n768 c769) 3 1 n768 (s.1.flatMap (eI .i64)), .own (.slice A772 n773 c774) 3 1 n773 (s.2.1.flatMap (eI .i64)), .box gb76 32 [.slice A2 n3 c4, .slice A77 n78 c79, .slice A81 n82 c83, .bool false], .own (.slice A81 n82 c83) 3 1 n82 (s.2.2.flatMap (eI .i64)), .own (.slice A77 n78 c79) 3 1 n78 (x654.flatMap (eI .i64)), .box gb6 32 [.slice none 0 0, .slice none 0 0, .slice none 0 0, .bool false]] [Sm w.heap.size F w [], St w []]) s := by
                intro s hs
                refine Rounds.ind (mot := (fun (s : (List Int) × (List Int) × (List Int)) => ∀ (A767 : Option Addr) (n768 : Nat) (c769 : Nat) (h770 : Ow w.heap.size A767 n768 c769 s.1) (A772 : Option Addr) (n773 : Nat) (c774 : Nat) (h775 : Ow w.heap.size A772 n773 c774 s.2.1) (h777 : Ow w.heap.size A81 n82 c83 s.2.2), G (tree_plant_C w F r) [.code tree_plant_c43, .inLoop tree_plant_c43, .inBlock 2, .inBlock 1, .code tree_plant_c20, .inLoop tree_plant_c12, .inBlock 0, .code tree_plant_c8] [(2, .pointer (some ⟨gb6, 0, none⟩)), (3, .pointer (some ⟨gb76, 0, none⟩)), (4, .slice A767 n768 c769), (5, .slice A772 n773 c774), (6, .int .i64 x355), (16, .slice A2 n3 c4), (17, .int .i64 (x1.length : Int)), (18, .int .i64 x355)] [.own (.slice A767 n768 c769) 3 1 n768 (s.1.flatMap (eI .i64)), .own (.slice A772 n773 c774) 3 1 n773 (s.2.1.flatMap (eI .i64)), .box gb76 32 [.slice A2 n3 c4, .slice A77 n78 c79, .slice A81 n82 c83, .bool false], .own (.slice A81 n82 c83) 3 1 n82 (s.2.2.flatMap (eI .i64)), .own (.slice A77 n78 c79) 3 1 n78 (x654.flatMap (eI .i64)), .box gb6 32 [.slice none 0 0, .slice none 0 0, .slice none 0 0, .bool false]] [Sm w.heap.size F w [], St w []])) ?_ hs
                clear hs s
                intro s o2 h hO2
                obtain ⟨x766, x771, x776⟩ := s
                show ∀ (A767 : Option Addr) (n768 : Nat) (c769 : Nat) (h770 : Ow w.heap.size A767 n768 c769 x766) (A772 : Option Addr) (n773 : Nat) (c774 : Nat) (h775 : Ow w.heap.size A772 n773 c774 x771) (h777 : Ow w.heap.size A81 n82 c83 x776), G (tree_plant_C w F r) [.code tree_plant_c43, .inLoop tree_plant_c43, .inBlock 2, .inBlock 1, .code tree_plant_c20, .inLoop tree_plant_c12, .inBlock 0, .code tree_plant_c8] [(2, .pointer (some ⟨gb6, 0, none⟩)), (3, .pointer (some ⟨gb76, 0, none⟩)), (4, .slice A767 n768 c769), (5, .slice A772 n773 c774), (6, .int .i64 x355), (16, .slice A2 n3 c4), (17, .int .i64 (x1.length : Int)), (18, .int .i64 x355)] [.own (.slice A767 n768 c769) 3 1 n768 (x766.flatMap (eI .i64)), .own (.slice A772 n773 c774) 3 1 n773 (x771.flatMap (eI .i64)), .box gb76 32 [.slice A2 n3 c4, .slice A77 n78 c79, .slice A81 n82 c83, .bool false], .own (.slice A81 n82 c83) 3 1 n82 (x776.flatMap (eI .i64)), .own (.slice A77 n78 c79) 3 1 n78 (x654.flatMap (eI .i64)), .box gb6 32 [.slice none 0 0, .slice none 0 0, .slice none 0 0, .bool false]] [Sm w.heap.size F w [], St w []]
                intro A767 n768 c769 h770 A772 n773 c774 h775 h777
                have h : tree_plant_b3 x355 x654 x766 x771 x776 o2 := h
                unfold tree_plant_b3 at h
                refine g_seq (c := tree_plant_c43) rfl ?_
                refine g_seq (c := tree_plant_c44) rfl ?_
                refine g_region (c := tree_plant_c46) rfl rfl ?_
                refine wl_v 0 rfl (v_move rfl) gn rfl ?_
                refine wl_v 1 rfl (v_lenQ un_23 rfl h770.hq) gn rfl ?_
                refine wl_v 2 rfl (v_bin rfl rfl rfl) gn rfl ?_
                refine wl_v 3 rfl (v_move rfl) gn rfl ?_
                by_cases hp806 : (x766.length : Int) > 0
                · have h := if_pos' hp806 h
                  refine w_bool 64 rfl ((decide_eq_true hp806)) ?_
                  refine wl_v 4 rfl (v_move rfl) (gy 64 rfl rfl) rfl ?_
                  refine wl_v 5 rfl (v_move rfl) (gy 64 rfl rfl) rfl ?_
                  refine wl_v 6 rfl (v_lenQ un_23 rfl h775.hq) (gy 64 rfl rfl) rfl ?_
                  refine wl_v 7 rfl (v_bin rfl rfl rfl) (gy 64 rfl rfl) rfl ?_
                  obtain ⟨hb807, h⟩ := h
                  refine wl_v 8 rfl (v_idxO slE_23 rfl rfl h775 hb807) (gy 64 rfl rfl) rfl ?_
                  refine wl_v 9 rfl (v_ldO1 (.int .i64 (ix x771 (w64 ((x771.length : Int) - 1)))) 1 ld_3 rfl rfl (fm_get0 (hlI .i64) hb807 rfl)) (gy 64 rfl rfl) rfl ?_
                  refine wl_v 10 rfl (v_bin rfl rfl rfl) (gy 64 rfl rfl) rfl ?_
                  refine wl_v 11 rfl (v_pick (b := true) rfl rfl) gn rfl ?_
                  refine w_end 12 rfl ?_
                  by_cases hp808 : ix x771 (w64 ((x771.length : Int) - 1)) = 0
                  · have h := if_pos' hp808 h
                    refine g_true (c := tree_plant_c47) rfl _ rfl ((eqi hp808)) ?_
                    refine g_skip (c := tree_plant_c48) rfl ?_
                    refine g_block (c := tree_plant_c45) rfl ?_
                    refine g_seq (c := tree_plant_c50) rfl ?_
                    obtain ⟨hb809, h⟩ := h
                    obtain ⟨hb810, h⟩ := h
                    obtain ⟨x811, hv812, h⟩ := h
                    have hns : Region.noSelect (Code.ops tree_plant_c51) = true := by kernel_rfl
                    refine g_drawF (c := tree_plant_c51) [.own (.slice A767 n768 c769) 3 1 n768 (x766.flatMap (eI .i64)), .own (.slice A772 n773 c774) 3 1 n773 (x771.flatMap (eI .i64)), .box gb76 32 [.slice A2 n3 c4, .slice A77 n78 c79, .slice A81 n82 c83, .bool false], .own (.slice A81 n82 c83) 3 1 n82 (x776.flatMap (eI .i64)), .own (.slice A77 n78 c79) 3 1 n78 (x654.flatMap (eI .i64)), .box gb6 32 [.slice none 0 0, .slice none 0 0, .slice none 0 0, .bool false]] [Sm w.heap.size F w [], St w []] [11] 12 rfl rfl mix rfl (.cons_cons _ (.cons_cons _ (.cons_cons _ (.cons_cons _ (.cons_cons _ (.cons_cons _ (.slnil))))))) (sels [0, 1] rfl) ?_
                    refine wf_v 0 rfl (v_fldB fo_32_2 rfl) gn rfl hns (by kernel_rfl) (by kernel_rfl) (by kernel_rfl) rfl ?_
                    refine wf_v 1 rfl (v_ldB1 2 ld_23 rfl rfl rfl) gn rfl hns (by kernel_rfl) (by kernel_rfl) (by kernel_rfl) rfl ?_
                    refine wf_v 2 rfl (v_move rfl) gn rfl hns (by kernel_rfl) (by kernel_rfl) (by kernel_rfl) rfl ?_
                    refine wf_v 3 rfl (v_move rfl) gn rfl hns (by kernel_rfl) (by kernel_rfl) (by kernel_rfl) rfl ?_
                    refine wf_v 4 rfl (v_lenQ un_23 rfl h770.hq) gn rfl hns (by kernel_rfl) (by kernel_rfl) (by kernel_rfl) rfl ?_
                    refine wf_v 5 rfl (v_bin rfl rfl rfl) gn rfl hns (by kernel_rfl) (by kernel_rfl) (by kernel_rfl) rfl ?_
                    refine wf_v 6 rfl (v_idxO slE_23 rfl rfl h770 hb809) gn rfl hns (by kernel_rfl) (by kernel_rfl) (by kernel_rfl) rfl ?_
                    refine wf_v 7 rfl (v_ldO1 (.int .i64 (ix x766 (w64 ((x766.length : Int) - 1)))) 0 ld_3 rfl rfl (fm_get0 (hlI .i64) hb809 rfl)) gn rfl hns (by kernel_rfl) (by kernel_rfl) (by kernel_rfl) rfl ?_
                    refine wf_v 8 rfl (v_move rfl) gn rfl hns (by kernel_rfl) (by kernel_rfl) (by kernel_rfl) rfl ?_
                    refine wf_v 9 rfl (v_bin rfl rfl rfl) gn rfl hns (by kernel_rfl) (by kernel_rfl) (by kernel_rfl) rfl ?_
                    refine wf_v 10 rfl (v_idxO slE_23 rfl rfl h777 hb810) gn rfl hns (by kernel_rfl) (by kernel_rfl) (by kernel_rfl) rfl ?_
                    refine wf_all [11] (by kernel_rfl) rfl ⟨on_l 11 rfl gn rfl (s_stF (enc := (eI .i64)) (o := 0) (z := (w64 (x355 + 1))) (vs := [.int .i64 (w64 (x355 + 1))]) (i := (ix x766 (w64 ((x766.length : Int) - 1)))) 3 (hlI .i64) sz_3 rfl rfl rfl rfl rfl h777 hb810 rfl rfl rfl hv812 fun h815 => ?_), trivial⟩
                    unfold NxL
                    refine wf_end (by kernel_rfl) ?_
                    obtain ⟨hb816, h⟩ := h
                    obtain ⟨x818, hv819, h⟩ := h
                    obtain ⟨hb821, h⟩ := h
                    obtain ⟨x823, hv824, h⟩ := h
                    have hns : Region.noSelect (Code.ops tree_plant_c52) = true := by kernel_rfl
                    refine g_drawF (c := tree_plant_c52) [.own (.slice A767 n768 c769) 3 1 n768 (x766.flatMap (eI .i64)), .own (.slice A772 n773 c774) 3 1 n773 (x771.flatMap (eI .i64)), .box gb76 32 [.slice A2 n3 c4, .slice A77 n78 c79, .slice A81 n82 c83, .bool false], .own (.slice A81 n82 c83) 3 1 n82 (x811.flatMap (eI .i64)), .own (.slice A77 n78 c79) 3 1 n78 (x654.flatMap (eI .i64)), .box gb6 32 [.slice none 0 0, .slice none 0 0, .slice none 0 0, .bool false]] [Sm w.heap.size F w [], St w []] [] 12 rfl rfl mix rfl (.cons_cons _ (.cons_cons _ (.cons_cons _ (.cons_cons _ (.cons_cons _ (.cons_cons _ (.slnil))))))) (sels [0, 1] rfl) ?_
                    refine wf_v 0 rfl (v_move rfl) gn rfl hns (by kernel_rfl) (by kernel_rfl) rfl rfl ?_
                    refine wf_v 1 rfl (v_move rfl) gn rfl hns (by kernel_rfl) (by kernel_rfl) rfl rfl ?_
                    refine wf_v 2 rfl (v_lenQ un_23 rfl h770.hq) gn rfl hns (by kernel_rfl) (by kernel_rfl) rfl rfl ?_
                    refine wf_v 3 rfl (v_bin rfl rfl rfl) gn rfl hns (by kernel_rfl) (by kernel_rfl) rfl rfl ?_
                    have hle830 : (w64 ((x766.length : Int) - 1) : Int).toNat ≤ n768 := by have q := hb816; have q1 := h770.hq; omega
                    have h831 : Ow w.heap.size A767 (w64 ((x766.length : Int) - 1) : Int).toNat c769 x818 := Ow.w (Ow.cut h770 hle830) (by rw [hv819])
                    refine wf_v 4 rfl (v_cutHi (i := w64 ((x766.length : Int) - 1)) slE_23 rfl rfl (by have q := hb816; have q1 := h770.hq; have q2 := h770.hn; omega) h770.hn rfl) gn rfl hns (by kernel_rfl) (by kernel_rfl) rfl rfl ?_
                    refine wf_v 5 rfl (v_move rfl) gn rfl hns (by kernel_rfl) (by kernel_rfl) rfl rfl ?_
                    refine wf_v 6 rfl (v_move rfl) gn rfl hns (by kernel_rfl) (by kernel_rfl) rfl rfl ?_
                    refine wf_v 7 rfl (v_lenQ un_23 rfl h775.hq) gn rfl hns (by kernel_rfl) (by kernel_rfl) rfl rfl ?_
                    refine wf_v 8 rfl (v_bin rfl rfl rfl) gn rfl hns (by kernel_rfl) (by kernel_rfl) rfl rfl ?_
                    have hle832 : (w64 ((x771.length : Int) - 1) : Int).toNat ≤ n773 := by have q := hb821; have q1 := h775.hq; omega
                    have h833 : Ow w.heap.size A772 (w64 ((x771.length : Int) - 1) : Int).toNat c774 x823 := Ow.w (Ow.cut h775 hle832) (by rw [hv824])
                    refine wf_v 9 rfl (v_cutHi (i := w64 ((x771.length : Int) - 1)) slE_23 rfl rfl (by have q := hb821; have q1 := h775.hq; have q2 := h775.hn; omega) h775.hn rfl) gn rfl hns (by kernel_rfl) (by kernel_rfl) rfl rfl ?_
                    refine wf_v 10 rfl (v_assign rfl) gn rfl hns (by kernel_rfl) (by kernel_rfl) rfl rfl ?_
                    refine wf_v 11 rfl (v_assign rfl) gn rfl hns (by kernel_rfl) (by kernel_rfl) rfl rfl ?_
                    refine wf_end (by kernel_rfl) ?_
                    refine g_inBlock ?_
                    refine g_inLoop ?_
                    have h834 : Ow w.heap.size A767 ((w64 ((x766.length : Int) - 1) : Int).toNat) c769 x818 := (Ow.w (Ow.cut h770 hle830) (by rw [hv819]))
                    refine g_short (j := 0) (m := ((w64 ((x766.length : Int) - 1) : Int).toNat)) (cells' := x818.flatMap (eI .i64)) rfl hle830 (by rw [fm_take (hlI .i64), hv819]) ?_
                    have h835 : Ow w.heap.size A772 ((w64 ((x771.length : Int) - 1) : Int).toNat) c774 x823 := (Ow.w (Ow.cut h775 hle832) (by rw [hv824]))
                    refine g_short (j := 1) (m := ((w64 ((x771.length : Int) - 1) : Int).toNat)) (cells' := x823.flatMap (eI .i64)) rfl hle832 (by rw [fm_take (hlI .i64), hv824]) ?_
                    have ih := Out.inl hO2 h
                    exact g_go [0, 1] (ih A767 ((w64 ((x766.length : Int) - 1) : Int).toNat) c769 h834 A772 ((w64 ((x771.length : Int) - 1) : Int).toNat) c774 h835 h815) ⟨rfl, rfl, rfl, rfl, rfl, rfl, rfl, rfl, trivial⟩ (.cons_cons _ (.cons_cons _ (.cons_cons _ (.cons_cons _ (.cons_cons _ (.cons_cons _ (.slnil))))))) rfl
                  · have h := if_neg' hp808 h
                    refine g_false (c := tree_plant_c47) rfl _ rfl ((nei hp808)) ?_
                    refine g_exit (c := tree_plant_c49) [.inBlock 1, .code tree_plant_c20, .inLoop tree_plant_c12, .inBlock 0, .code tree_plant_c8] rfl rfl ?_
                    refine g_inBlock ?_
                    refine g_region (c := tree_plant_c20) rfl rfl ?_
                    refine wl_v 0 rfl (v_bin rfl rfl rfl) gn rfl ?_
                    refine wl_v 1 rfl (v_move rfl) gn rfl ?_
                    refine w_end 2 rfl ?_
                    refine g_inLoop ?_
                    have h := Out.inr hO2 h
                    have ih := Out.inl hO1 h
                    exact g_go [0, 1] (ih A767 n768 c769 h770 A772 n773 c774 h775 h655 h777) ⟨rfl, rfl, rfl, rfl, rfl, rfl, rfl, trivial⟩ (.cons_cons _ (.cons_cons _ (.cons_cons _ (.cons_cons _ (.cons_cons _ (.cons_cons _ (.slnil))))))) rfl
                · have h := if_neg' hp806 h
                  refine w_bool 64 rfl ((decide_eq_false hp806)) ?_
                  refine wl_pass 4 rfl (ps 64 rfl rfl rfl) ?_
                  refine wl_pass 5 rfl (ps 64 rfl rfl rfl) ?_
                  refine wl_pass 6 rfl (ps 64 rfl rfl rfl) ?_
                  refine wl_pass 7 rfl (ps 64 rfl rfl rfl) ?_
                  refine wl_pass 8 rfl (ps 64 rfl rfl rfl) ?_
                  refine wl_pass 9 rfl (ps 64 rfl rfl rfl) ?_
                  refine wl_pass 10 rfl (ps 64 rfl rfl rfl) ?_
                  refine wl_v 11 rfl (v_pick (b := false) rfl rfl) gn rfl ?_
                  refine w_end 12 rfl ?_
                  refine g_false (c := tree_plant_c47) rfl _ rfl (rfl) ?_
                  refine g_exit (c := tree_plant_c49) [.inBlock 1, .code tree_plant_c20, .inLoop tree_plant_c12, .inBlock 0, .code tree_plant_c8] rfl rfl ?_
                  refine g_inBlock ?_
                  refine g_region (c := tree_plant_c20) rfl rfl ?_
                  refine wl_v 0 rfl (v_bin rfl rfl rfl) gn rfl ?_
                  refine wl_v 1 rfl (v_move rfl) gn rfl ?_
                  refine w_end 2 rfl ?_
                  refine g_inLoop ?_
                  have h := Out.inr hO2 h
                  have ih := Out.inl hO1 h
                  exact g_go [0, 1] (ih A767 n768 c769 h770 A772 n773 c774 h775 h655 h777) ⟨rfl, rfl, rfl, rfl, rfl, rfl, rfl, trivial⟩ (.cons_cons _ (.cons_cons _ (.cons_cons _ (.cons_cons _ (.cons_cons _ (.cons_cons _ (.slnil))))))) rfl
              exact g_go [0, 1] (key3 _ h A729 n730 c731 h732 A733 n734 c735 h736 h359) ⟨rfl, rfl, rfl, rfl, rfl, rfl, rfl, rfl, trivial⟩ (.cons_cons _ (.cons_cons _ (.cons_cons _ (.cons_cons _ (.cons_cons _ (.cons_cons _ (.slnil))))))) rfl
            have hns : Region.noSelect (Code.ops tree_plant_c40) = true := by kernel_rfl
            refine g_drawF (c := tree_plant_c40) [.box gb633 39 [.string ((ix x1 x355).name), .bool ((ix x1 x355).named), .string ((ix x1 x355).field), .int .i64 ((ix x1 x355).from_), .int .i64 ((ix x1 x355).to), .int .i64 ((ix x1 x355).kids), .int .i64 ((ix x1 x355).leaf)], .own (.slice A351 n352 c353) 3 1 n352 (x652.flatMap (eI .i64)), .box gb76 32 [.slice A2 n3 c4, .slice A77 n78 c79, .slice A81 n82 c83, .bool false], .own (.slice A81 n82 c83) 3 1 n82 (x358.flatMap (eI .i64)), .own (.slice A77 n78 c79) 3 1 n78 (x654.flatMap (eI .i64)), .box gb6 32 [.slice none 0 0, .slice none 0 0, .slice none 0 0, .bool false]] [Sm w.heap.size F w [], St w []] [8, 9, 10] 11 rfl rfl mix rfl (.cons_cons _ (.cons _ (.cons_cons _ (.cons_cons _ (.cons_cons _ (.cons_cons _ (.cons_cons _ (.slnil)))))))) (sels [0, 1] rfl) ?_
            refine wf_v 0 rfl (v_move rfl) gn rfl hns (by kernel_rfl) (by kernel_rfl) (by kernel_rfl) rfl ?_
            refine wf_v 1 rfl (v_move rfl) gn rfl hns (by kernel_rfl) (by kernel_rfl) (by kernel_rfl) rfl ?_
            refine wf_v 4 rfl (v_move rfl) gn rfl hns (by kernel_rfl) (by kernel_rfl) (by kernel_rfl) rfl ?_
            refine wf_v 5 rfl (v_fldB fo_39_5 rfl) gn rfl hns (by kernel_rfl) (by kernel_rfl) (by kernel_rfl) rfl ?_
            refine wf_v 6 rfl (v_ldB1 0 ld_3 rfl rfl rfl) gn rfl hns (by kernel_rfl) (by kernel_rfl) (by kernel_rfl) rfl ?_
            refine wf_all [2, 7] (by kernel_rfl) rfl ⟨?_, ?_, trivial⟩
            · refine on_s 2 rfl gn rfl (s_litO (xs := ([x355] : List Int)) [.int .i64 x355] bs_23_1 rfl (by kernel_rfl) rfl rfl rfl rfl fun gb846 h847 => ?_)
              refine ⟨sels [1, 3, 4, 5, 6, 7] rfl, sels [0, 1] rfl, ?_⟩
              refine wf_all [3, 7] (by kernel_rfl) rfl ⟨?_, ?_, trivial⟩
              · refine on_s 3 rfl gn rfl (s_app (zs := x663) (cells' := x663.flatMap (eI .i64)) 2 ap_23 rfl rfl rfl h349 (Nat.le_refl _) (Src.ownF (hl := (hlI .i64)) (h1 := (hone_int .i64)) 0 rfl h847) (by rw [hv664, List.flatMap_append] <;> rfl) (app_len hv664 h847.hq) hb665 rfl rfl fun A853 c854 h855 => ?_)
                refine ⟨sels [1, 3, 4, 5, 6, 7] rfl, sels [0, 1] rfl, ?_⟩
                refine wf_all [7] (by kernel_rfl) rfl ⟨on_s 7 rfl gn rfl (s_litO (xs := ([(ix x1 x355).kids] : List Int)) [.int .i64 ((ix x1 x355).kids)] bs_23_1 rfl (by kernel_rfl) rfl rfl rfl rfl fun gb858 h859 => ?_), trivial⟩
                refine ⟨sels [2, 4, 5, 6, 7, 8] rfl, sels [0, 1] rfl, ?_⟩
                refine wf_all [8] (by kernel_rfl) rfl ⟨on_l 8 rfl gn rfl (s_app (zs := x672) (cells' := x672.flatMap (eI .i64)) 4 ap_23 rfl rfl rfl h653 (Nat.le_refl _) (Src.ownF (hl := (hlI .i64)) (h1 := (hone_int .i64)) 0 rfl h859) (by rw [hv673, List.flatMap_append] <;> rfl) (app_len hv673 h859.hq) hb674 rfl rfl fun A860 c861 h862 => ?_), trivial⟩
                unfold NxL
                refine wf_all [9] (by kernel_rfl) rfl ⟨on_l 9 rfl gn rfl (s_val (v_assign rfl) rfl ?_), trivial⟩
                unfold NxL
                refine wf_all [10] (by kernel_rfl) rfl ⟨on_l 10 rfl gn rfl (s_val (v_assign rfl) rfl ?_), trivial⟩
                unfold NxL
                refine wf_end (by kernel_rfl) ?_
                exact g_go [0, 1] (d4 A853 (n347 + 1) c854 h855 A860 (n352 + 1) c861 h862) ⟨rfl, rfl, rfl, rfl, rfl, rfl, rfl, rfl, trivial⟩ (.cons _ (.cons _ (.cons _ (.cons_cons _ (.cons_cons _ (.cons_cons _ (.cons_cons _ (.cons_cons _ (.cons_cons _ (.slnil)))))))))) rfl
              · refine on_s 7 rfl gn rfl (s_litO (xs := ([(ix x1 x355).kids] : List Int)) [.int .i64 ((ix x1 x355).kids)] bs_23_1 rfl (by kernel_rfl) rfl rfl rfl rfl fun gb863 h864 => ?_)
                refine ⟨sels [2, 4, 5, 6, 7, 8] rfl, sels [0, 1] rfl, ?_⟩
                refine wf_all [3] (by kernel_rfl) rfl ⟨on_s 3 rfl gn rfl (s_app (zs := x663) (cells' := x663.flatMap (eI .i64)) 3 ap_23 rfl rfl rfl h349 (Nat.le_refl _) (Src.ownF (hl := (hlI .i64)) (h1 := (hone_int .i64)) 1 rfl h847) (by rw [hv664, List.flatMap_append] <;> rfl) (app_len hv664 h847.hq) hb665 rfl rfl fun A868 c869 h870 => ?_), trivial⟩
                refine ⟨sels [2, 4, 5, 6, 7, 8] rfl, sels [0, 1] rfl, ?_⟩
                refine wf_all [8] (by kernel_rfl) rfl ⟨on_l 8 rfl gn rfl (s_app (zs := x672) (cells' := x672.flatMap (eI .i64)) 4 ap_23 rfl rfl rfl h653 (Nat.le_refl _) (Src.ownF (hl := (hlI .i64)) (h1 := (hone_int .i64)) 0 rfl h864) (by rw [hv673, List.flatMap_append] <;> rfl) (app_len hv673 h864.hq) hb674 rfl rfl fun A871 c872 h873 => ?_), trivial⟩
                unfold NxL
                refine wf_all [9] (by kernel_rfl) rfl ⟨on_l 9 rfl gn rfl (s_val (v_assign rfl) rfl ?_), trivial⟩
                unfold NxL
                refine wf_all [10] (by kernel_rfl) rfl ⟨on_l 10 rfl gn rfl (s_val (v_assign rfl) rfl ?_), trivial⟩
                unfold NxL
                refine wf_end (by kernel_rfl) ?_
                exact g_go [0, 1] (d4 A868 (n347 + 1) c869 h870 A871 (n352 + 1) c872 h873) ⟨rfl, rfl, rfl, rfl, rfl, rfl, rfl, rfl, trivial⟩ (.cons _ (.cons _ (.cons _ (.cons_cons _ (.cons_cons _ (.cons_cons _ (.cons_cons _ (.cons_cons _ (.cons_cons _ (.slnil)))))))))) rfl
            · refine on_s 7 rfl gn rfl (s_litO (xs := ([(ix x1 x355).kids] : List Int)) [.int .i64 ((ix x1 x355).kids)] bs_23_1 rfl (by kernel_rfl) rfl rfl rfl rfl fun gb874 h875 => ?_)
              refine ⟨sels [1, 3, 4, 5, 6, 7] rfl, sels [0, 1] rfl, ?_⟩
              refine wf_all [2] (by kernel_rfl) rfl ⟨on_s 2 rfl gn rfl (s_litO (xs := ([x355] : List Int)) [.int .i64 x355] bs_23_1 rfl (by kernel_rfl) rfl rfl rfl rfl fun gb878 h879 => ?_), trivial⟩
              refine ⟨sels [2, 4, 5, 6, 7, 8] rfl, sels [0, 1] rfl, ?_⟩
              refine wf_all [3] (by kernel_rfl) rfl ⟨on_s 3 rfl gn rfl (s_app (zs := x663) (cells' := x663.flatMap (eI .i64)) 3 ap_23 rfl rfl rfl h349 (Nat.le_refl _) (Src.ownF (hl := (hlI .i64)) (h1 := (hone_int .i64)) 0 rfl h879) (by rw [hv664, List.flatMap_append] <;> rfl) (app_len hv664 h879.hq) hb665 rfl rfl fun A883 c884 h885 => ?_), trivial⟩
              refine ⟨sels [2, 4, 5, 6, 7, 8] rfl, sels [0, 1] rfl, ?_⟩
              refine wf_all [8] (by kernel_rfl) rfl ⟨on_l 8 rfl gn rfl (s_app (zs := x672) (cells' := x672.flatMap (eI .i64)) 4 ap_23 rfl rfl rfl h653 (Nat.le_refl _) (Src.ownF (hl := (hlI .i64)) (h1 := (hone_int .i64)) 1 rfl h875) (by rw [hv673, List.flatMap_append] <;> rfl) (app_len hv673 h875.hq) hb674 rfl rfl fun A886 c887 h888 => ?_), trivial⟩
              unfold NxL
              refine wf_all [9] (by kernel_rfl) rfl ⟨on_l 9 rfl gn rfl (s_val (v_assign rfl) rfl ?_), trivial⟩
              unfold NxL
              refine wf_all [10] (by kernel_rfl) rfl ⟨on_l 10 rfl gn rfl (s_val (v_assign rfl) rfl ?_), trivial⟩
              unfold NxL
              refine wf_end (by kernel_rfl) ?_
              exact g_go [0, 1] (d4 A883 (n347 + 1) c884 h885 A886 (n352 + 1) c887 h888) ⟨rfl, rfl, rfl, rfl, rfl, rfl, rfl, rfl, trivial⟩ (.cons _ (.cons _ (.cons _ (.cons_cons _ (.cons_cons _ (.cons_cons _ (.cons_cons _ (.cons_cons _ (.cons_cons _ (.slnil)))))))))) rfl
        by_cases hp639 : (x345.length : Int) > 0
        · have h := if_pos' hp639 h
          refine g_true (c := tree_plant_c29) rfl _ rfl ((decide_eq_true hp639)) ?_
          refine g_seq (c := tree_plant_c30) rfl ?_
          obtain ⟨hb889, h⟩ := h
          obtain ⟨hb890, h⟩ := h
          obtain ⟨x891, hv892, h⟩ := h
          have hns : Region.noSelect (Code.ops tree_plant_c57) = true := by kernel_rfl
          refine g_drawF (c := tree_plant_c57) [.box gb633 39 [.string ((ix x1 x355).name), .bool ((ix x1 x355).named), .string ((ix x1 x355).field), .int .i64 ((ix x1 x355).from_), .int .i64 ((ix x1 x355).to), .int .i64 ((ix x1 x355).kids), .int .i64 ((ix x1 x355).leaf)], .own (.slice A346 n347 c348) 3 1 n347 (x345.flatMap (eI .i64)), .own (.slice A351 n352 c353) 3 1 n352 (x350.flatMap (eI .i64)), .box gb76 32 [.slice A2 n3 c4, .slice A77 n78 c79, .slice A81 n82 c83, .bool false], .own (.slice A81 n82 c83) 3 1 n82 (x358.flatMap (eI .i64)), .own (.slice A77 n78 c79) 3 1 n78 (x636.flatMap (eI .i64)), .box gb6 32 [.slice none 0 0, .slice none 0 0, .slice none 0 0, .bool false]] [Sm w.heap.size F w [], St w []] [10] 11 rfl rfl mix rfl (.cons_cons _ (.cons_cons _ (.cons_cons _ (.cons_cons _ (.cons_cons _ (.cons_cons _ (.cons_cons _ (.slnil)))))))) (sels [0, 1] rfl) ?_
          refine wf_v 0 rfl (v_fldB fo_32_1 rfl) gn rfl hns (by kernel_rfl) (by kernel_rfl) (by kernel_rfl) rfl ?_
          refine wf_v 1 rfl (v_ldB1 3 ld_23 rfl rfl rfl) gn rfl hns (by kernel_rfl) (by kernel_rfl) (by kernel_rfl) rfl ?_
          refine wf_v 2 rfl (v_move rfl) gn rfl hns (by kernel_rfl) (by kernel_rfl) (by kernel_rfl) rfl ?_
          refine wf_v 3 rfl (v_move rfl) gn rfl hns (by kernel_rfl) (by kernel_rfl) (by kernel_rfl) rfl ?_
          refine wf_v 4 rfl (v_move rfl) gn rfl hns (by kernel_rfl) (by kernel_rfl) (by kernel_rfl) rfl ?_
          refine wf_v 5 rfl (v_lenQ un_23 rfl h349.hq) gn rfl hns (by kernel_rfl) (by kernel_rfl) (by kernel_rfl) rfl ?_
          refine wf_v 6 rfl (v_bin rfl rfl rfl) gn rfl hns (by kernel_rfl) (by kernel_rfl) (by kernel_rfl) rfl ?_
          refine wf_v 7 rfl (v_idxO slE_23 rfl rfl h349 hb889) gn rfl hns (by kernel_rfl) (by kernel_rfl) (by kernel_rfl) rfl ?_
          refine wf_v 8 rfl (v_ldO1 (.int .i64 (ix x345 (w64 ((x345.length : Int) - 1)))) 1 ld_3 rfl rfl (fm_get0 (hlI .i64) hb889 rfl)) gn rfl hns (by kernel_rfl) (by kernel_rfl) (by kernel_rfl) rfl ?_
          refine wf_v 9 rfl (v_idxO slE_23 rfl rfl h638 hb890) gn rfl hns (by kernel_rfl) (by kernel_rfl) (by kernel_rfl) rfl ?_
          refine wf_all [10] (by kernel_rfl) rfl ⟨on_l 10 rfl gn rfl (s_stF (enc := (eI .i64)) (o := 0) (z := (ix x345 (w64 ((x345.length : Int) - 1)))) (vs := [.int .i64 (ix x345 (w64 ((x345.length : Int) - 1)))]) (i := x355) 5 (hlI .i64) sz_3 rfl rfl rfl rfl rfl h638 hb890 rfl rfl rfl hv892 fun h895 => ?_), trivial⟩
          unfold NxL
          refine wf_end (by kernel_rfl) ?_
          refine g_region (c := tree_plant_c58) rfl rfl ?_
          refine wl_v 0 rfl (v_move rfl) gn rfl ?_
          refine wl_v 1 rfl (v_move rfl) gn rfl ?_
          refine wl_v 2 rfl (v_lenQ un_23 rfl h354.hq) gn rfl ?_
          refine wl_v 3 rfl (v_bin rfl rfl rfl) gn rfl ?_
          obtain ⟨hb896, h⟩ := h
          refine wl_v 4 rfl (v_idxO slE_23 rfl rfl h354 hb896) gn rfl ?_
          refine wl_v 5 rfl (v_ldO1 (.int .i64 (ix x350 (w64 ((x350.length : Int) - 1)))) 2 ld_3 rfl rfl (fm_get0 (hlI .i64) hb896 rfl)) gn rfl ?_
          refine wl_v 6 rfl (v_bin rfl rfl rfl) gn rfl ?_
          refine wl_v 7 rfl (v_idxO slE_23 rfl rfl h354 hb896) gn rfl ?_
          obtain ⟨x897, hv898, h⟩ := h
          refine wl_s 8 rfl (s_stF (enc := (eI .i64)) (o := 0) (z := (w64 ((ix x350 (w64 ((x350.length : Int) - 1))) - 1))) (vs := [.int .i64 (w64 ((ix x350 (w64 ((x350.length : Int) - 1))) - 1))]) (i := (w64 ((x350.length : Int) - 1))) 2 (hlI .i64) sz_3 rfl rfl rfl rfl rfl h354 hb896 rfl rfl rfl hv898 fun h899 => ?_) gn
          refine w_end 9 rfl ?_
          exact g_go [0, 1] (j2 x897 x891 h h899 h895) ⟨rfl, rfl, rfl, rfl, rfl, rfl, rfl, rfl, rfl, trivial⟩ (.cons_cons _ (.cons_cons _ (.cons_cons _ (.cons_cons _ (.cons_cons _ (.cons_cons _ (.cons_cons _ (.slnil)))))))) rfl
        · have h := if_neg' hp639 h
          refine g_false (c := tree_plant_c29) rfl _ rfl ((decide_eq_false hp639)) ?_
          refine g_skip (c := tree_plant_c31) rfl ?_
          exact g_go [0, 1] (j2 x350 x636 h h354 h638) ⟨rfl, rfl, rfl, rfl, rfl, rfl, rfl, rfl, rfl, trivial⟩ (.cons_cons _ (.cons_cons _ (.cons_cons _ (.cons_cons _ (.cons_cons _ (.cons_cons _ (.cons_cons _ (.slnil)))))))) rfl
      · have h := if_neg' hp630 h
        refine g_false (c := tree_plant_c15) rfl _ rfl ((decide_eq_false hp630)) ?_
        refine g_exit (c := tree_plant_c18) [.code tree_plant_c8] rfl rfl ?_
        refine g_seq (c := tree_plant_c8) rfl ?_
        refine g_region (c := tree_plant_c53) rfl rfl ?_
        refine wl_v 0 rfl (v_move rfl) gn rfl ?_
        refine wl_v 1 rfl (v_lenQ un_23 rfl h349.hq) gn rfl ?_
        refine wl_v 2 rfl (v_bin rfl rfl rfl) gn rfl ?_
        refine wl_v 3 rfl (v_fldB fo_32_3 rfl) gn rfl ?_
        refine wl_s 4 rfl (s_stB (vs := [.bool ((x345.length : Int) == 0)]) (cs' := [.slice A2 n3 c4, .slice A77 n78 c79, .slice A81 n82 c83, .bool ((x345.length : Int) == 0)]) (M' := [.own (.slice A346 n347 c348) 3 1 n347 (x345.flatMap (eI .i64)), .own (.slice A351 n352 c353) 3 1 n352 (x350.flatMap (eI .i64)), .box gb76 32 [.slice A2 n3 c4, .slice A77 n78 c79, .slice A81 n82 c83, .bool ((x345.length : Int) == 0)], .own (.slice A81 n82 c83) 3 1 n82 (x358.flatMap (eI .i64)), .own (.slice A77 n78 c79) 3 1 n78 (x356.flatMap (eI .i64)), .box gb6 32 [.slice none 0 0, .slice none 0 0, .slice none 0 0, .bool false]]) 2 sz_4 rfl rfl rfl rfl rfl rfl rfl rfl rfl ?_) gn
        refine w_end 5 rfl ?_
        refine g_seq (c := tree_plant_c54) rfl ?_
        refine g_region (c := tree_plant_c55) rfl rfl ?_
        refine wl_v 0 rfl (v_ldB [.slice A2 n3 c4, .slice A77 n78 c79, .slice A81 n82 c83, .bool ((x345.length : Int) == 0)] 2 ld_32 rfl rfl rfl rfl) gn rfl ?_
        refine wl_s 1 rfl (s_stB (vs := [.slice A2 n3 c4, .slice A77 n78 c79, .slice A81 n82 c83, .bool ((x345.length : Int) == 0)]) (cs' := [.slice A2 n3 c4, .slice A77 n78 c79, .slice A81 n82 c83, .bool ((x345.length : Int) == 0)]) (M' := [.own (.slice A346 n347 c348) 3 1 n347 (x345.flatMap (eI .i64)), .own (.slice A351 n352 c353) 3 1 n352 (x350.flatMap (eI .i64)), .box gb76 32 [.slice A2 n3 c4, .slice A77 n78 c79, .slice A81 n82 c83, .bool ((x345.length : Int) == 0)], .own (.slice A81 n82 c83) 3 1 n82 (x358.flatMap (eI .i64)), .own (.slice A77 n78 c79) 3 1 n78 (x356.flatMap (eI .i64)), .box gb6 32 [.slice A2 n3 c4, .slice A77 n78 c79, .slice A81 n82 c83, .bool ((x345.length : Int) == 0)]]) 5 sz_32 rfl rfl rfl rfl rfl rfl rfl rfl rfl ?_) gn
        refine w_end 2 rfl ?_
        have h := Out.inr hO1 h
        refine g_retR (c := tree_plant_c56) [.agg #[.slice A2 n3 c4, .slice A77 n78 c79, .slice A81 n82 c83, .bool ((x345.length : Int) == 0)]] rfl Try.func44 rfl (.cell (cs := [.slice A2 n3 c4, .slice A77 n78 c79, .slice A81 n82 c83, .bool ((x345.length : Int) == 0)]) (us := [.slice A2 n3 c4, .slice A77 n78 c79, .slice A81 n82 c83, .bool ((x345.length : Int) == 0)]) 5 rfl ld_32 rfl rfl rfl (.nil)) fun wr hLr => ?_
        have hMr : B.Loc w wr [.own (.slice A77 n78 c79) 3 1 n78 (x356.flatMap (eI .i64)), .own (.slice A81 n82 c83) 3 1 n82 (x358.flatMap (eI .i64))] [St w []] := hLr.pick (rest := [.own (.slice A346 n347 c348) 3 1 n347 (x345.flatMap (eI .i64)), .own (.slice A351 n352 c353) 3 1 n352 (x350.flatMap (eI .i64)), .box gb76 32 [.slice A2 n3 c4, .slice A77 n78 c79, .slice A81 n82 c83, .bool ((x345.length : Int) == 0)], .box gb6 32 [.slice A2 n3 c4, .slice A77 n78 c79, .slice A81 n82 c83, .bool ((x345.length : Int) == 0)]]) (perm_of_idx [4, 3] [0, 1, 2, 5] rfl rfl (by kernel_rfl)) (sels [1] rfl)
        have hMi : ∀ e ∈ ([.own (.slice A77 n78 c79) 3 1 n78 (x356.flatMap (eI .i64)), .own (.slice A81 n82 c83) 3 1 n82 (x358.flatMap (eI .i64))] : List Ent), e ∈ ([.own (.slice A346 n347 c348) 3 1 n347 (x345.flatMap (eI .i64)), .own (.slice A351 n352 c353) 3 1 n352 (x350.flatMap (eI .i64)), .box gb76 32 [.slice A2 n3 c4, .slice A77 n78 c79, .slice A81 n82 c83, .bool ((x345.length : Int) == 0)], .own (.slice A81 n82 c83) 3 1 n82 (x358.flatMap (eI .i64)), .own (.slice A77 n78 c79) 3 1 n78 (x356.flatMap (eI .i64)), .box gb6 32 [.slice A2 n3 c4, .slice A77 n78 c79, .slice A81 n82 c83, .bool ((x345.length : Int) == 0)]] : List Ent) := sels [4, 3] rfl
        show tree_plant_R w F  r (.returned (packV [.agg #[.slice A2 n3 c4, .slice A77 n78 c79, .slice A81 n82 c83, .bool ((x345.length : Int) == 0)]])) wr
        rw [h]
        exact ⟨A77, n78, c79, A81, n82, c83, A2, n3, c4, rfl, hMr, h357, h359, (hLr.outR (s := Sm w.heap.size F w []) hMi (me 0 rfl) Sm.ok h5)⟩
    refine g_nil 3 1 ?_
    refine g_nil 3 1 ?_
    exact g_go [0, 1] (key1 _ h none 0 0 (Ow.nil (z := w.heap.size)) none 0 0 (Ow.nil (z := w.heap.size)) h80 h84) ⟨rfl, rfl, rfl, rfl, rfl, rfl, rfl, trivial⟩ (.cons_cons _ (.cons_cons _ (.cons_cons _ (.cons_cons _ (.cons_cons _ (.cons_cons _ (.slnil))))))) rfl
  have hns : Region.noSelect (Code.ops tree_plant_c3) = true := by kernel_rfl
  refine g_drawF (c := tree_plant_c3) [.box gb6 32 [.slice none 0 0, .slice none 0 0, .slice none 0 0, .bool false]] [Sm w.heap.size F w [], St w []] [] 10 rfl rfl mix rfl (.cons_cons _ (.slnil)) (sels [0, 1] rfl) ?_
  refine wf_v 0 rfl (v_move rfl) gn rfl hns (by kernel_rfl) (by kernel_rfl) rfl rfl ?_
  refine wf_v 1 rfl (v_move rfl) gn rfl hns (by kernel_rfl) (by kernel_rfl) rfl rfl ?_
  refine wf_v 2 rfl (v_lenQ un_22 rfl h5.hq) gn rfl hns (by kernel_rfl) (by kernel_rfl) rfl rfl ?_
  refine wf_v 4 rfl (v_move rfl) gn rfl hns (by kernel_rfl) (by kernel_rfl) rfl rfl ?_
  refine wf_v 5 rfl (v_lenQ un_22 rfl h5.hq) gn rfl hns (by kernel_rfl) (by kernel_rfl) rfl rfl ?_
  refine wf_all [3, 6, 8] (by kernel_rfl) rfl ⟨?_, ?_, ?_, trivial⟩
  · refine on_s 3 rfl gn rfl (s_makeX (enc := (eI .i64)) (z := 0) mk_23 rfl (by decide) rfl rfl hb8.1 hb8.2 (by decide) hv13 rfl fun A909 h910 => ?_)
    refine ⟨sels [1] rfl, sels [0, 1] rfl, ?_⟩
    refine wf_all [6, 8] (by kernel_rfl) rfl ⟨?_, ?_, trivial⟩
    · refine on_s 6 rfl gn rfl (s_makeX (enc := (eI .i64)) (z := 0) mk_23 rfl (by decide) rfl rfl hb8.1 hb8.2 (by decide) hv18 rfl fun A914 h915 => ?_)
      refine ⟨sels [2] rfl, sels [0, 1] rfl, ?_⟩
      refine wf_v 7 rfl (v_build #[.slice A2 n3 c4, .slice A909 (((x1.length : Int) : Int).toNat) (((x1.length : Int) : Int).toNat), .slice A914 (((x1.length : Int) : Int).toNat) (((x1.length : Int) : Int).toNat), .bool false] bd_32 rfl (by kernel_rfl)) gn rfl hns (by kernel_rfl) (by kernel_rfl) rfl rfl ?_
      refine wf_all [8] (by kernel_rfl) rfl ⟨on_s 8 rfl gn rfl (s_alloc [.slice none 0 0, .slice none 0 0, .slice none 0 0, .bool false] zr_32 rfl fun gb917 => ?_), trivial⟩
      refine ⟨sels [3] rfl, sels [0, 1] rfl, ?_⟩
      refine wf_all [9] (by kernel_rfl) rfl ⟨on_s 9 rfl gn rfl (s_stB (vs := [.slice A2 n3 c4, .slice A909 (((x1.length : Int) : Int).toNat) (((x1.length : Int) : Int).toNat), .slice A914 (((x1.length : Int) : Int).toNat) (((x1.length : Int) : Int).toNat), .bool false]) (cs' := [.slice A2 n3 c4, .slice A909 (((x1.length : Int) : Int).toNat) (((x1.length : Int) : Int).toNat), .slice A914 (((x1.length : Int) : Int).toNat) (((x1.length : Int) : Int).toNat), .bool false]) (M' := [.box gb917 32 [.slice A2 n3 c4, .slice A909 (((x1.length : Int) : Int).toNat) (((x1.length : Int) : Int).toNat), .slice A914 (((x1.length : Int) : Int).toNat) (((x1.length : Int) : Int).toNat), .bool false], .own (.slice A914 (((x1.length : Int) : Int).toNat) (((x1.length : Int) : Int).toNat)) 3 1 (((x1.length : Int) : Int).toNat) (x17.flatMap (eI .i64)), .own (.slice A909 (((x1.length : Int) : Int).toNat) (((x1.length : Int) : Int).toNat)) 3 1 (((x1.length : Int) : Int).toNat) (x12.flatMap (eI .i64)), .box gb6 32 [.slice none 0 0, .slice none 0 0, .slice none 0 0, .bool false]]) 0 sz_32 rfl rfl rfl rfl rfl rfl rfl rfl rfl ?_), trivial⟩
      refine ⟨sels [3] rfl, sels [0, 1] rfl, ?_⟩
      refine wf_end (by kernel_rfl) ?_
      exact g_go [0, 1] (d1 gb917 A909 (((x1.length : Int) : Int).toNat) (((x1.length : Int) : Int).toNat) h910 A914 (((x1.length : Int) : Int).toNat) (((x1.length : Int) : Int).toNat) h915) ⟨rfl, rfl, rfl, trivial⟩ (.cons_cons _ (.cons_cons _ (.cons_cons _ (.cons_cons _ (.slnil))))) rfl
    · refine on_s 8 rfl gn rfl (s_alloc [.slice none 0 0, .slice none 0 0, .slice none 0 0, .bool false] zr_32 rfl fun gb918 => ?_)
      refine ⟨sels [2] rfl, sels [0, 1] rfl, ?_⟩
      refine wf_all [6] (by kernel_rfl) rfl ⟨on_s 6 rfl gn rfl (s_makeX (enc := (eI .i64)) (z := 0) mk_23 rfl (by decide) rfl rfl hb8.1 hb8.2 (by decide) hv18 rfl fun A921 h922 => ?_), trivial⟩
      refine ⟨sels [3] rfl, sels [0, 1] rfl, ?_⟩
      refine wf_v 7 rfl (v_build #[.slice A2 n3 c4, .slice A909 (((x1.length : Int) : Int).toNat) (((x1.length : Int) : Int).toNat), .slice A921 (((x1.length : Int) : Int).toNat) (((x1.length : Int) : Int).toNat), .bool false] bd_32 rfl (by kernel_rfl)) gn rfl hns (by kernel_rfl) (by kernel_rfl) rfl rfl ?_
      refine wf_all [9] (by kernel_rfl) rfl ⟨on_s 9 rfl gn rfl (s_stB (vs := [.slice A2 n3 c4, .slice A909 (((x1.length : Int) : Int).toNat) (((x1.length : Int) : Int).toNat), .slice A921 (((x1.length : Int) : Int).toNat) (((x1.length : Int) : Int).toNat), .bool false]) (cs' := [.slice A2 n3 c4, .slice A909 (((x1.length : Int) : Int).toNat) (((x1.length : Int) : Int).toNat), .slice A921 (((x1.length : Int) : Int).toNat) (((x1.length : Int) : Int).toNat), .bool false]) (M' := [.own (.slice A921 (((x1.length : Int) : Int).toNat) (((x1.length : Int) : Int).toNat)) 3 1 (((x1.length : Int) : Int).toNat) (x17.flatMap (eI .i64)), .box gb918 32 [.slice A2 n3 c4, .slice A909 (((x1.length : Int) : Int).toNat) (((x1.length : Int) : Int).toNat), .slice A921 (((x1.length : Int) : Int).toNat) (((x1.length : Int) : Int).toNat), .bool false], .own (.slice A909 (((x1.length : Int) : Int).toNat) (((x1.length : Int) : Int).toNat)) 3 1 (((x1.length : Int) : Int).toNat) (x12.flatMap (eI .i64)), .box gb6 32 [.slice none 0 0, .slice none 0 0, .slice none 0 0, .bool false]]) 1 sz_32 rfl rfl rfl rfl rfl rfl rfl rfl rfl ?_), trivial⟩
      refine ⟨sels [3] rfl, sels [0, 1] rfl, ?_⟩
      refine wf_end (by kernel_rfl) ?_
      refine g_front 3 rfl ?_
      refine g_front 3 rfl ?_
      refine g_front 2 rfl ?_
      refine g_front 3 rfl ?_
      exact g_go [0, 1] (d1 gb918 A909 (((x1.length : Int) : Int).toNat) (((x1.length : Int) : Int).toNat) h910 A921 (((x1.length : Int) : Int).toNat) (((x1.length : Int) : Int).toNat) h922) ⟨rfl, rfl, rfl, trivial⟩ (.cons_cons _ (.cons_cons _ (.cons_cons _ (.cons_cons _ (.slnil))))) rfl
  · refine on_s 6 rfl gn rfl (s_makeX (enc := (eI .i64)) (z := 0) mk_23 rfl (by decide) rfl rfl hb8.1 hb8.2 (by decide) hv18 rfl fun A923 h924 => ?_)
    refine ⟨sels [1] rfl, sels [0, 1] rfl, ?_⟩
    refine wf_all [3, 8] (by kernel_rfl) rfl ⟨?_, ?_, trivial⟩
    · refine on_s 3 rfl gn rfl (s_makeX (enc := (eI .i64)) (z := 0) mk_23 rfl (by decide) rfl rfl hb8.1 hb8.2 (by decide) hv13 rfl fun A928 h929 => ?_)
      refine ⟨sels [2] rfl, sels [0, 1] rfl, ?_⟩
      refine wf_v 7 rfl (v_build #[.slice A2 n3 c4, .slice A928 (((x1.length : Int) : Int).toNat) (((x1.length : Int) : Int).toNat), .slice A923 (((x1.length : Int) : Int).toNat) (((x1.length : Int) : Int).toNat), .bool false] bd_32 rfl (by kernel_rfl)) gn rfl hns (by kernel_rfl) (by kernel_rfl) rfl rfl ?_
      refine wf_all [8] (by kernel_rfl) rfl ⟨on_s 8 rfl gn rfl (s_alloc [.slice none 0 0, .slice none 0 0, .slice none 0 0, .bool false] zr_32 rfl fun gb931 => ?_), trivial⟩
      refine ⟨sels [3] rfl, sels [0, 1] rfl, ?_⟩
      refine wf_all [9] (by kernel_rfl) rfl ⟨on_s 9 rfl gn rfl (s_stB (vs := [.slice A2 n3 c4, .slice A928 (((x1.length : Int) : Int).toNat) (((x1.length : Int) : Int).toNat), .slice A923 (((x1.length : Int) : Int).toNat) (((x1.length : Int) : Int).toNat), .bool false]) (cs' := [.slice A2 n3 c4, .slice A928 (((x1.length : Int) : Int).toNat) (((x1.length : Int) : Int).toNat), .slice A923 (((x1.length : Int) : Int).toNat) (((x1.length : Int) : Int).toNat), .bool false]) (M' := [.box gb931 32 [.slice A2 n3 c4, .slice A928 (((x1.length : Int) : Int).toNat) (((x1.length : Int) : Int).toNat), .slice A923 (((x1.length : Int) : Int).toNat) (((x1.length : Int) : Int).toNat), .bool false], .own (.slice A928 (((x1.length : Int) : Int).toNat) (((x1.length : Int) : Int).toNat)) 3 1 (((x1.length : Int) : Int).toNat) (x12.flatMap (eI .i64)), .own (.slice A923 (((x1.length : Int) : Int).toNat) (((x1.length : Int) : Int).toNat)) 3 1 (((x1.length : Int) : Int).toNat) (x17.flatMap (eI .i64)), .box gb6 32 [.slice none 0 0, .slice none 0 0, .slice none 0 0, .bool false]]) 0 sz_32 rfl rfl rfl rfl rfl rfl rfl rfl rfl ?_), trivial⟩
      refine ⟨sels [3] rfl, sels [0, 1] rfl, ?_⟩
      refine wf_end (by kernel_rfl) ?_
      refine g_front 3 rfl ?_
      refine g_front 2 rfl ?_
      refine g_front 3 rfl ?_
      refine g_front 3 rfl ?_
      exact g_go [0, 1] (d1 gb931 A928 (((x1.length : Int) : Int).toNat) (((x1.length : Int) : Int).toNat) h929 A923 (((x1.length : Int) : Int).toNat) (((x1.length : Int) : Int).toNat) h924) ⟨rfl, rfl, rfl, trivial⟩ (.cons_cons _ (.cons_cons _ (.cons_cons _ (.cons_cons _ (.slnil))))) rfl
    · refine on_s 8 rfl gn rfl (s_alloc [.slice none 0 0, .slice none 0 0, .slice none 0 0, .bool false] zr_32 rfl fun gb932 => ?_)
      refine ⟨sels [2] rfl, sels [0, 1] rfl, ?_⟩
      refine wf_all [3] (by kernel_rfl) rfl ⟨on_s 3 rfl gn rfl (s_makeX (enc := (eI .i64)) (z := 0) mk_23 rfl (by decide) rfl rfl hb8.1 hb8.2 (by decide) hv13 rfl fun A935 h936 => ?_), trivial⟩
      refine ⟨sels [3] rfl, sels [0, 1] rfl, ?_⟩
      refine wf_v 7 rfl (v_build #[.slice A2 n3 c4, .slice A935 (((x1.length : Int) : Int).toNat) (((x1.length : Int) : Int).toNat), .slice A923 (((x1.length : Int) : Int).toNat) (((x1.length : Int) : Int).toNat), .bool false] bd_32 rfl (by kernel_rfl)) gn rfl hns (by kernel_rfl) (by kernel_rfl) rfl rfl ?_
      refine wf_all [9] (by kernel_rfl) rfl ⟨on_s 9 rfl gn rfl (s_stB (vs := [.slice A2 n3 c4, .slice A935 (((x1.length : Int) : Int).toNat) (((x1.length : Int) : Int).toNat), .slice A923 (((x1.length : Int) : Int).toNat) (((x1.length : Int) : Int).toNat), .bool false]) (cs' := [.slice A2 n3 c4, .slice A935 (((x1.length : Int) : Int).toNat) (((x1.length : Int) : Int).toNat), .slice A923 (((x1.length : Int) : Int).toNat) (((x1.length : Int) : Int).toNat), .bool false]) (M' := [.own (.slice A935 (((x1.length : Int) : Int).toNat) (((x1.length : Int) : Int).toNat)) 3 1 (((x1.length : Int) : Int).toNat) (x12.flatMap (eI .i64)), .box gb932 32 [.slice A2 n3 c4, .slice A935 (((x1.length : Int) : Int).toNat) (((x1.length : Int) : Int).toNat), .slice A923 (((x1.length : Int) : Int).toNat) (((x1.length : Int) : Int).toNat), .bool false], .own (.slice A923 (((x1.length : Int) : Int).toNat) (((x1.length : Int) : Int).toNat)) 3 1 (((x1.length : Int) : Int).toNat) (x17.flatMap (eI .i64)), .box gb6 32 [.slice none 0 0, .slice none 0 0, .slice none 0 0, .bool false]]) 1 sz_32 rfl rfl rfl rfl rfl rfl rfl rfl rfl ?_), trivial⟩
      refine ⟨sels [3] rfl, sels [0, 1] rfl, ?_⟩
      refine wf_end (by kernel_rfl) ?_
      refine g_front 3 rfl ?_
      refine g_front 1 rfl ?_
      refine g_front 3 rfl ?_
      refine g_front 3 rfl ?_
      exact g_go [0, 1] (d1 gb932 A935 (((x1.length : Int) : Int).toNat) (((x1.length : Int) : Int).toNat) h936 A923 (((x1.length : Int) : Int).toNat) (((x1.length : Int) : Int).toNat) h924) ⟨rfl, rfl, rfl, trivial⟩ (.cons_cons _ (.cons_cons _ (.cons_cons _ (.cons_cons _ (.slnil))))) rfl
  · refine on_s 8 rfl gn rfl (s_alloc [.slice none 0 0, .slice none 0 0, .slice none 0 0, .bool false] zr_32 rfl fun gb937 => ?_)
    refine ⟨sels [1] rfl, sels [0, 1] rfl, ?_⟩
    refine wf_all [3, 6] (by kernel_rfl) rfl ⟨?_, ?_, trivial⟩
    · refine on_s 3 rfl gn rfl (s_makeX (enc := (eI .i64)) (z := 0) mk_23 rfl (by decide) rfl rfl hb8.1 hb8.2 (by decide) hv13 rfl fun A942 h943 => ?_)
      refine ⟨sels [2] rfl, sels [0, 1] rfl, ?_⟩
      refine wf_all [6] (by kernel_rfl) rfl ⟨on_s 6 rfl gn rfl (s_makeX (enc := (eI .i64)) (z := 0) mk_23 rfl (by decide) rfl rfl hb8.1 hb8.2 (by decide) hv18 rfl fun A946 h947 => ?_), trivial⟩
      refine ⟨sels [3] rfl, sels [0, 1] rfl, ?_⟩
      refine wf_v 7 rfl (v_build #[.slice A2 n3 c4, .slice A942 (((x1.length : Int) : Int).toNat) (((x1.length : Int) : Int).toNat), .slice A946 (((x1.length : Int) : Int).toNat) (((x1.length : Int) : Int).toNat), .bool false] bd_32 rfl (by kernel_rfl)) gn rfl hns (by kernel_rfl) (by kernel_rfl) rfl rfl ?_
      refine wf_all [9] (by kernel_rfl) rfl ⟨on_s 9 rfl gn rfl (s_stB (vs := [.slice A2 n3 c4, .slice A942 (((x1.length : Int) : Int).toNat) (((x1.length : Int) : Int).toNat), .slice A946 (((x1.length : Int) : Int).toNat) (((x1.length : Int) : Int).toNat), .bool false]) (cs' := [.slice A2 n3 c4, .slice A942 (((x1.length : Int) : Int).toNat) (((x1.length : Int) : Int).toNat), .slice A946 (((x1.length : Int) : Int).toNat) (((x1.length : Int) : Int).toNat), .bool false]) (M' := [.own (.slice A946 (((x1.length : Int) : Int).toNat) (((x1.length : Int) : Int).toNat)) 3 1 (((x1.length : Int) : Int).toNat) (x17.flatMap (eI .i64)), .own (.slice A942 (((x1.length : Int) : Int).toNat) (((x1.length : Int) : Int).toNat)) 3 1 (((x1.length : Int) : Int).toNat) (x12.flatMap (eI .i64)), .box gb937 32 [.slice A2 n3 c4, .slice A942 (((x1.length : Int) : Int).toNat) (((x1.length : Int) : Int).toNat), .slice A946 (((x1.length : Int) : Int).toNat) (((x1.length : Int) : Int).toNat), .bool false], .box gb6 32 [.slice none 0 0, .slice none 0 0, .slice none 0 0, .bool false]]) 2 sz_32 rfl rfl rfl rfl rfl rfl rfl rfl rfl ?_), trivial⟩
      refine ⟨sels [3] rfl, sels [0, 1] rfl, ?_⟩
      refine wf_end (by kernel_rfl) ?_
      refine g_front 3 rfl ?_
      refine g_front 2 rfl ?_
      refine g_front 2 rfl ?_
      refine g_front 3 rfl ?_
      exact g_go [0, 1] (d1 gb937 A942 (((x1.length : Int) : Int).toNat) (((x1.length : Int) : Int).toNat) h943 A946 (((x1.length : Int) : Int).toNat) (((x1.length : Int) : Int).toNat) h947) ⟨rfl, rfl, rfl, trivial⟩ (.cons_cons _ (.cons_cons _ (.cons_cons _ (.cons_cons _ (.slnil))))) rfl
    · refine on_s 6 rfl gn rfl (s_makeX (enc := (eI .i64)) (z := 0) mk_23 rfl (by decide) rfl rfl hb8.1 hb8.2 (by decide) hv18 rfl fun A948 h949 => ?_)
      refine ⟨sels [2] rfl, sels [0, 1] rfl, ?_⟩
      refine wf_all [3] (by kernel_rfl) rfl ⟨on_s 3 rfl gn rfl (s_makeX (enc := (eI .i64)) (z := 0) mk_23 rfl (by decide) rfl rfl hb8.1 hb8.2 (by decide) hv13 rfl fun A952 h953 => ?_), trivial⟩
      refine ⟨sels [3] rfl, sels [0, 1] rfl, ?_⟩
      refine wf_v 7 rfl (v_build #[.slice A2 n3 c4, .slice A952 (((x1.length : Int) : Int).toNat) (((x1.length : Int) : Int).toNat), .slice A948 (((x1.length : Int) : Int).toNat) (((x1.length : Int) : Int).toNat), .bool false] bd_32 rfl (by kernel_rfl)) gn rfl hns (by kernel_rfl) (by kernel_rfl) rfl rfl ?_
      refine wf_all [9] (by kernel_rfl) rfl ⟨on_s 9 rfl gn rfl (s_stB (vs := [.slice A2 n3 c4, .slice A952 (((x1.length : Int) : Int).toNat) (((x1.length : Int) : Int).toNat), .slice A948 (((x1.length : Int) : Int).toNat) (((x1.length : Int) : Int).toNat), .bool false]) (cs' := [.slice A2 n3 c4, .slice A952 (((x1.length : Int) : Int).toNat) (((x1.length : Int) : Int).toNat), .slice A948 (((x1.length : Int) : Int).toNat) (((x1.length : Int) : Int).toNat), .bool false]) (M' := [.own (.slice A952 (((x1.length : Int) : Int).toNat) (((x1.length : Int) : Int).toNat)) 3 1 (((x1.length : Int) : Int).toNat) (x12.flatMap (eI .i64)), .own (.slice A948 (((x1.length : Int) : Int).toNat) (((x1.length : Int) : Int).toNat)) 3 1 (((x1.length : Int) : Int).toNat) (x17.flatMap (eI .i64)), .box gb937 32 [.slice A2 n3 c4, .slice A952 (((x1.length : Int) : Int).toNat) (((x1.length : Int) : Int).toNat), .slice A948 (((x1.length : Int) : Int).toNat) (((x1.length : Int) : Int).toNat), .bool false], .box gb6 32 [.slice none 0 0, .slice none 0 0, .slice none 0 0, .bool false]]) 2 sz_32 rfl rfl rfl rfl rfl rfl rfl rfl rfl ?_), trivial⟩
      refine ⟨sels [3] rfl, sels [0, 1] rfl, ?_⟩
      refine wf_end (by kernel_rfl) ?_
      refine g_front 3 rfl ?_
      refine g_front 1 rfl ?_
      refine g_front 2 rfl ?_
      refine g_front 3 rfl ?_
      exact g_go [0, 1] (d1 gb937 A952 (((x1.length : Int) : Int).toNat) (((x1.length : Int) : Int).toNat) h953 A948 (((x1.length : Int) : Int).toNat) (((x1.length : Int) : Int).toNat) h949) ⟨rfl, rfl, rfl, trivial⟩ (.cons_cons _ (.cons_cons _ (.cons_cons _ (.cons_cons _ (.slnil))))) rfl
noncomputable abbrev tree_forest_has_c0 : Code := bodyOf Try.f46
noncomputable abbrev tree_forest_has_c1 : Code := Code.fst tree_forest_has_c0
noncomputable abbrev tree_forest_has_c2 : Code := Code.snd tree_forest_has_c0
noncomputable abbrev tree_forest_has_c3 : Code := Code.fst tree_forest_has_c2
noncomputable abbrev tree_forest_has_c4 : Code := Code.snd tree_forest_has_c2
abbrev tree_forest_has_R (w : World) (F : Nat → Prop) (r : Bool) : Ending → World → Prop := fun e w' => e = .returned (.bool r) ∧ B.Loc w w' [] [St w []]
noncomputable abbrev tree_forest_has_C (w : World) (F : Nat → Prop) (r : Bool) : Cx := ⟨Try.prog, 46, Try.f46, 18, tree_forest_has_R w F  r, w⟩
theorem tree_forest_has_calls (w : World) (F : Nat → Prop) (x1 : tree_forest) (x14 : Int) (A2 : Option Addr) (n3 : Nat) (c4 : Nat) (A6 : Option Addr) (n7 : Nat) (c8 : Nat) (A10 : Option Addr) (n11 : Nat) (c12 : Nat) (h5 : Rw k_api_Node w (St w []).av A2 n3 c4 x1.nodes) (h9 : Rw (kInt .i64) w (St w []).av A6 n7 c8 x1.parent) (h13 : Rw (kInt .i64) w (St w []).av A10 n11 c12 x1.end_) (hF : ∀ b, F b → b < w.heap.size ∧ ∀ o ∈ ([] : List (List Nat)), b ∉ o) (hL0 : B.Loc w w [] [Sm w.heap.size F w [], St w []]) (r : Bool) (h : tree_forest_has x1 x14 r) : Calls Try.prog 46 #[.agg #[.slice A2 n3 c4, .slice A6 n7 c8, .slice A10 n11 c12, .bool x1.ok], .int .i64 x14] w (tree_forest_has_R w F  r) := by
  unfold tree_forest_has at h
  refine calls_of_Loc (vs := [.agg #[.slice A2 n3 c4, .slice A6 n7 c8, .slice A10 n11 c12, .bool x1.ok], .int .i64 x14]) 18 Try.func46 rfl Try.ntmps46 rfl hL0 ?_
  show G (tree_forest_has_C w F r) _ _ _ _
  refine g_seq (c := tree_forest_has_c0) rfl ?_
  refine g_region (c := tree_forest_has_c1) rfl rfl ?_
  refine wl_s 0 rfl (s_box [.slice A2 n3 c4, .slice A6 n7 c8, .slice A10 n11 c12, .bool x1.ok] rfl rfl rfl fun gb15 => ?_) gn
  refine wl_v 1 rfl (v_assign rfl) gn rfl ?_
  refine w_end 2 rfl ?_
  refine g_seq (c := tree_forest_has_c2) rfl ?_
  refine g_region (c := tree_forest_has_c3) rfl rfl ?_
  refine wl_v 0 rfl (v_fldB fo_32_3 rfl) gn rfl ?_
  refine wl_v 1 rfl (v_ldB1 0 ld_4 rfl rfl rfl) gn rfl ?_
  refine wl_v 2 rfl (v_move rfl) gn rfl ?_
  by_cases hp17 : x1.ok = true
  · have h := if_pos' hp17 h
    refine w_bool 7 rfl (hp17) ?_
    refine wl_v 3 rfl (v_move rfl) (gy 7 rfl rfl) rfl ?_
    refine wl_v 4 rfl (v_bin rfl rfl rfl) (gy 7 rfl rfl) rfl ?_
    refine wl_v 5 rfl (v_pick (b := true) rfl rfl) gn rfl ?_
    refine wl_v 6 rfl (v_move rfl) gn rfl ?_
    by_cases hp18 : x14 ≥ 0
    · have h := if_pos' hp18 h
      refine w_bool 11 rfl ((decide_eq_true hp18)) ?_
      refine wl_v 7 rfl (v_move rfl) (gy 11 rfl rfl) rfl ?_
      refine wl_v 8 rfl (v_fldB fo_32_0 rfl) (gy 11 rfl rfl) rfl ?_
      refine wl_v 9 rfl (v_ldB1 0 ld_22 rfl rfl rfl) (gy 11 rfl rfl) rfl ?_
      refine wl_v 10 rfl (v_lenQ un_22 rfl h5.hq) (gy 11 rfl rfl) rfl ?_
      refine wl_v 11 rfl (v_bin rfl rfl rfl) (gy 11 rfl rfl) rfl ?_
      refine wl_v 12 rfl (v_pick (b := true) rfl rfl) gn rfl ?_
      refine wl_v 13 rfl (v_assign rfl) gn rfl ?_
      refine w_end 14 rfl ?_
      refine g_retR (c := tree_forest_has_c4) [.bool (decide (x14 < (x1.nodes.length : Int)))] rfl Try.func46 rfl (.tmp rfl (.nil)) fun wr hLr => ?_
      have hMr : B.Loc w wr [] [St w []] := hLr.pick (rest := [.box gb15 32 [.slice A2 n3 c4, .slice A6 n7 c8, .slice A10 n11 c12, .bool x1.ok]]) (perm_of_idx [] [0] rfl rfl (by kernel_rfl)) (sels [1] rfl)
      have hMi : ∀ e ∈ ([] : List Ent), e ∈ ([.box gb15 32 [.slice A2 n3 c4, .slice A6 n7 c8, .slice A10 n11 c12, .bool x1.ok]] : List Ent) := sels [] rfl
      show tree_forest_has_R w F  r (.returned (packV [.bool (decide (x14 < (x1.nodes.length : Int)))])) wr
      rw [h]
      exact ⟨rfl, hMr⟩
    · have h := if_neg' hp18 h
      refine w_bool 11 rfl ((decide_eq_false hp18)) ?_
      refine wl_pass 7 rfl (ps 11 rfl rfl rfl) ?_
      refine wl_pass 8 rfl (ps 11 rfl rfl rfl) ?_
      refine wl_pass 9 rfl (ps 11 rfl rfl rfl) ?_
      refine wl_pass 10 rfl (ps 11 rfl rfl rfl) ?_
      refine wl_pass 11 rfl (ps 11 rfl rfl rfl) ?_
      refine wl_v 12 rfl (v_pick (b := false) rfl rfl) gn rfl ?_
      refine wl_v 13 rfl (v_assign rfl) gn rfl ?_
      refine w_end 14 rfl ?_
      refine g_retR (c := tree_forest_has_c4) [.bool false] rfl Try.func46 rfl (.tmp rfl (.nil)) fun wr hLr => ?_
      have hMr : B.Loc w wr [] [St w []] := hLr.pick (rest := [.box gb15 32 [.slice A2 n3 c4, .slice A6 n7 c8, .slice A10 n11 c12, .bool x1.ok]]) (perm_of_idx [] [0] rfl rfl (by kernel_rfl)) (sels [1] rfl)
      have hMi : ∀ e ∈ ([] : List Ent), e ∈ ([.box gb15 32 [.slice A2 n3 c4, .slice A6 n7 c8, .slice A10 n11 c12, .bool x1.ok]] : List Ent) := sels [] rfl
      show tree_forest_has_R w F  r (.returned (packV [.bool false])) wr
      rw [h]
      exact ⟨rfl, hMr⟩
  · have h := if_neg' hp17 h
    refine w_bool 7 rfl ((bf hp17)) ?_
    refine wl_pass 3 rfl (ps 7 rfl rfl rfl) ?_
    refine wl_pass 4 rfl (ps 7 rfl rfl rfl) ?_
    refine wl_v 5 rfl (v_pick (b := false) rfl rfl) gn rfl ?_
    refine wl_v 6 rfl (v_move rfl) gn rfl ?_
    refine wl_pass 7 rfl (ps 11 rfl rfl rfl) ?_
    refine wl_pass 8 rfl (ps 11 rfl rfl rfl) ?_
    refine wl_pass 9 rfl (ps 11 rfl rfl rfl) ?_
    refine wl_pass 10 rfl (ps 11 rfl rfl rfl) ?_
    refine wl_pass 11 rfl (ps 11 rfl rfl rfl) ?_
    refine wl_v 12 rfl (v_pick (b := false) rfl rfl) gn rfl ?_
    refine wl_v 13 rfl (v_assign rfl) gn rfl ?_
    refine w_end 14 rfl ?_
    refine g_retR (c := tree_forest_has_c4) [.bool false] rfl Try.func46 rfl (.tmp rfl (.nil)) fun wr hLr => ?_
    have hMr : B.Loc w wr [] [St w []] := hLr.pick (rest := [.box gb15 32 [.slice A2 n3 c4, .slice A6 n7 c8, .slice A10 n11 c12, .bool x1.ok]]) (perm_of_idx [] [0] rfl rfl (by kernel_rfl)) (sels [1] rfl)
    have hMi : ∀ e ∈ ([] : List Ent), e ∈ ([.box gb15 32 [.slice A2 n3 c4, .slice A6 n7 c8, .slice A10 n11 c12, .bool x1.ok]] : List Ent) := sels [] rfl
    show tree_forest_has_R w F  r (.returned (packV [.bool false])) wr
    rw [h]
    exact ⟨rfl, hMr⟩
noncomputable abbrev trellisref15_take_c0 : Code := bodyOf Try.f67
noncomputable abbrev trellisref15_take_c1 : Code := Code.fst trellisref15_take_c0
noncomputable abbrev trellisref15_take_c2 : Code := Code.snd trellisref15_take_c0
noncomputable abbrev trellisref15_take_c3 : Code := Code.fst trellisref15_take_c2
noncomputable abbrev trellisref15_take_c4 : Code := Code.snd trellisref15_take_c2
noncomputable abbrev trellisref15_take_c5 : Code := Code.fst trellisref15_take_c3
noncomputable abbrev trellisref15_take_c6 : Code := Code.snd trellisref15_take_c3
noncomputable abbrev trellisref15_take_c7 : Code := Code.fst trellisref15_take_c6
noncomputable abbrev trellisref15_take_c8 : Code := Code.snd trellisref15_take_c6
noncomputable abbrev trellisref15_take_c9 : Code := Code.fst trellisref15_take_c7
noncomputable abbrev trellisref15_take_c10 : Code := Code.snd trellisref15_take_c7
noncomputable abbrev trellisref15_take_c11 : Code := Code.fst trellisref15_take_c4
noncomputable abbrev trellisref15_take_c12 : Code := Code.snd trellisref15_take_c4
noncomputable abbrev trellisref15_take_c13 : Code := Code.fst trellisref15_take_c12
noncomputable abbrev trellisref15_take_c14 : Code := Code.snd trellisref15_take_c12
noncomputable abbrev trellisref15_take_c15 : Code := Code.fst trellisref15_take_c14
noncomputable abbrev trellisref15_take_c16 : Code := Code.snd trellisref15_take_c14
noncomputable abbrev trellisref15_take_c17 : Code := Code.fst trellisref15_take_c15
noncomputable abbrev trellisref15_take_c18 : Code := Code.snd trellisref15_take_c15
noncomputable abbrev trellisref15_take_c19 : Code := Code.fst trellisref15_take_c18
noncomputable abbrev trellisref15_take_c20 : Code := Code.fst trellisref15_take_c19
noncomputable abbrev trellisref15_take_c21 : Code := Code.fst trellisref15_take_c20
noncomputable abbrev trellisref15_take_c22 : Code := Code.snd trellisref15_take_c20
noncomputable abbrev trellisref15_take_c23 : Code := Code.fst trellisref15_take_c21
noncomputable abbrev trellisref15_take_c24 : Code := Code.snd trellisref15_take_c21
noncomputable abbrev trellisref15_take_c25 : Code := Code.fst trellisref15_take_c24
noncomputable abbrev trellisref15_take_c26 : Code := Code.snd trellisref15_take_c24
noncomputable abbrev trellisref15_take_c27 : Code := Code.fst trellisref15_take_c22
noncomputable abbrev trellisref15_take_c28 : Code := Code.snd trellisref15_take_c22
noncomputable abbrev trellisref15_take_c29 : Code := Code.fst trellisref15_take_c27
noncomputable abbrev trellisref15_take_c30 : Code := Code.fst trellisref15_take_c29
noncomputable abbrev trellisref15_take_c31 : Code := Code.snd trellisref15_take_c29
noncomputable abbrev trellisref15_take_c32 : Code := Code.fst trellisref15_take_c31
noncomputable abbrev trellisref15_take_c33 : Code := Code.snd trellisref15_take_c31
noncomputable abbrev trellisref15_take_c34 : Code := Code.fst trellisref15_take_c32
noncomputable abbrev trellisref15_take_c35 : Code := Code.snd trellisref15_take_c32
noncomputable abbrev trellisref15_take_c36 : Code := Code.fst trellisref15_take_c35
noncomputable abbrev trellisref15_take_c37 : Code := Code.snd trellisref15_take_c35
noncomputable abbrev trellisref15_take_c38 : Code := Code.fst trellisref15_take_c33
noncomputable abbrev trellisref15_take_c39 : Code := Code.snd trellisref15_take_c33
noncomputable abbrev trellisref15_take_c40 : Code := Code.fst trellisref15_take_c36
noncomputable abbrev trellisref15_take_c41 : Code := Code.snd trellisref15_take_c36
noncomputable abbrev trellisref15_take_c42 : Code := Code.fst trellisref15_take_c16
noncomputable abbrev trellisref15_take_c43 : Code := Code.snd trellisref15_take_c16
abbrev trellisref15_take_R (w : World) (F : Nat → Prop) (r : trellisref15_Tree × Int × Bool) : Ending → World → Prop := fun e w' => ∃ A0 : Option Addr, ∃ n0 : Nat, ∃ c0 : Nat, ∃ cs0 : List Value, e = .returned (.tuple #[.agg #[.string r.1.node.name, .bool r.1.node.named, .string r.1.node.field, .int .i64 r.1.node.from_, .int .i64 r.1.node.to, .int .i64 r.1.node.kids, .int .i64 r.1.node.leaf, .slice A0 n0 c0, .int .i64 r.1.at_], .int .i64 r.2.1, .bool r.2.2]) ∧ B.Loc w w' [.own (.slice A0 n0 c0) 96 9 n0 cs0] [St w []] ∧ Ow w.heap.size A0 n0 c0 r.1.kids ∧ Cells k_trellisref15_Tree w' (Nw w w' F [.own (.slice A0 n0 c0) 96 9 n0 cs0]) r.1.kids cs0
noncomputable abbrev trellisref15_take_C (w : World) (F : Nat → Prop) (r : trellisref15_Tree × Int × Bool) : Cx := ⟨Try.prog, 67, Try.f67, 74, trellisref15_take_R w F  r, w⟩
def trellisref15_take_st (rl : (List api_Node) → Int → (trellisref15_Tree × Int × Bool) → Prop) : Prop := ∀ (w : World) (F : Nat → Prop) (x1 : List api_Node) (x6 : Int) (A2 : Option Addr) (n3 : Nat) (c4 : Nat) (h5 : Rw k_api_Node w (St w []).av A2 n3 c4 x1) (hF : ∀ b, F b → b < w.heap.size ∧ ∀ o ∈ ([] : List (List Nat)), b ∉ o) (hL0 : B.Loc w w [] [Sm w.heap.size F w [], St w []]) (r : trellisref15_Tree × Int × Bool) (h : rl x1 x6 r), Calls Try.prog 67 #[.slice A2 n3 c4, .int .i64 x6] w (trellisref15_take_R w F  r)
theorem trellisref15_take_step (rc_trellisref15_take : (List api_Node) → Int → (trellisref15_Tree × Int × Bool) → Prop) (ih_trellisref15_take : trellisref15_take_st rc_trellisref15_take) : trellisref15_take_st (trellisref15_take_body rc_trellisref15_take) := by
  intro w F x1 x6 A2 n3 c4 h5 hF hL0 r h
  unfold trellisref15_take_body at h
  refine calls_of_Loc (vs := [.slice A2 n3 c4, .int .i64 x6]) 74 Try.func67 rfl Try.ntmps67 rfl hL0 ?_
  show G (trellisref15_take_C w F r) _ _ _ _
  refine g_seq (c := trellisref15_take_c0) rfl ?_
  refine g_region (c := trellisref15_take_c1) rfl rfl ?_
  refine wl_s 0 rfl (s_alloc [.string (⟨#[]⟩ : ByteArray), .bool false, .string (⟨#[]⟩ : ByteArray), .int .i64 0, .int .i64 0, .int .i64 0, .int .i64 0, .slice none 0 0, .int .i64 0] zr_96 rfl fun gb7 => ?_) gn
  refine wl_v 1 rfl (v_assign rfl) gn rfl ?_
  refine wl_v 2 rfl (v_assign rfl) gn rfl ?_
  refine w_end 3 rfl ?_
  refine g_seq (c := trellisref15_take_c2) rfl ?_
  refine g_seq (c := trellisref15_take_c3) rfl ?_
  have j1 : ∀ (x15 : Bool) (h : trellisref15_take_j1 x6 x1 rc_trellisref15_take x15 r) , G (trellisref15_take_C w F r) [.code trellisref15_take_c6, .code trellisref15_take_c4] [(0, .slice A2 n3 c4), (1, .int .i64 x6), (4, .pointer (some ⟨gb7, 0, none⟩)), (34, .bool x15)] [.box gb7 96 [.string (⟨#[]⟩ : ByteArray), .bool false, .string (⟨#[]⟩ : ByteArray), .int .i64 0, .int .i64 0, .int .i64 0, .int .i64 0, .slice none 0 0, .int .i64 0]] [Sm w.heap.size F w [], St w []] := by
    intro x15 h
    unfold trellisref15_take_j1 at h
    by_cases hp16 : x15 = true
    · have h := if_pos' hp16 h
      refine g_true (c := trellisref15_take_c6) rfl _ rfl (hp16) ?_
      refine g_seq (c := trellisref15_take_c7) rfl ?_
      refine g_region (c := trellisref15_take_c9) rfl rfl ?_
      refine wl_v 0 rfl (v_build #[.string (⟨#[]⟩ : ByteArray), .bool false, .string (⟨#[]⟩ : ByteArray), .int .i64 0, .int .i64 0, .int .i64 0, .int .i64 0, .slice none 0 0, .int .i64 0] bd_96 rfl (by kernel_rfl)) gn rfl ?_
      refine wl_v 1 rfl (v_move rfl) gn rfl ?_
      refine wl_s 2 rfl (s_stB (vs := [.string (⟨#[]⟩ : ByteArray), .bool false, .string (⟨#[]⟩ : ByteArray), .int .i64 0, .int .i64 0, .int .i64 0, .int .i64 0, .slice none 0 0, .int .i64 0]) (cs' := [.string (⟨#[]⟩ : ByteArray), .bool false, .string (⟨#[]⟩ : ByteArray), .int .i64 0, .int .i64 0, .int .i64 0, .int .i64 0, .slice none 0 0, .int .i64 0]) (M' := [.box gb7 96 [.string (⟨#[]⟩ : ByteArray), .bool false, .string (⟨#[]⟩ : ByteArray), .int .i64 0, .int .i64 0, .int .i64 0, .int .i64 0, .slice none 0 0, .int .i64 0]]) 0 sz_96 rfl rfl rfl rfl rfl rfl rfl rfl rfl ?_) gn
      refine wl_v 3 rfl (v_assign rfl) gn rfl ?_
      refine wl_v 4 rfl (v_assign rfl) gn rfl ?_
      refine w_end 5 rfl ?_
      refine g_nil 96 9 ?_
      refine g_retR (c := trellisref15_take_c10) [.agg #[.string (⟨#[]⟩ : ByteArray), .bool false, .string (⟨#[]⟩ : ByteArray), .int .i64 0, .int .i64 0, .int .i64 0, .int .i64 0, .slice none 0 0, .int .i64 0], .int .i64 x6, .bool false] rfl Try.func67 rfl (.cell (cs := [.string (⟨#[]⟩ : ByteArray), .bool false, .string (⟨#[]⟩ : ByteArray), .int .i64 0, .int .i64 0, .int .i64 0, .int .i64 0, .slice none 0 0, .int .i64 0]) (us := [.string (⟨#[]⟩ : ByteArray), .bool false, .string (⟨#[]⟩ : ByteArray), .int .i64 0, .int .i64 0, .int .i64 0, .int .i64 0, .slice none 0 0, .int .i64 0]) 1 rfl ld_96 rfl rfl rfl (.tmp rfl (.tmp rfl (.nil)))) fun wr hLr => ?_
      have hMr : B.Loc w wr [.own (.slice none 0 0) 96 9 0 []] [St w []] := hLr.pick (rest := [.box gb7 96 [.string (⟨#[]⟩ : ByteArray), .bool false, .string (⟨#[]⟩ : ByteArray), .int .i64 0, .int .i64 0, .int .i64 0, .int .i64 0, .slice none 0 0, .int .i64 0]]) (perm_of_idx [0] [1] rfl rfl (by kernel_rfl)) (sels [1] rfl)
      have hMi : ∀ e ∈ ([.own (.slice none 0 0) 96 9 0 []] : List Ent), e ∈ ([.own (.slice none 0 0) 96 9 0 [], .box gb7 96 [.string (⟨#[]⟩ : ByteArray), .bool false, .string (⟨#[]⟩ : ByteArray), .int .i64 0, .int .i64 0, .int .i64 0, .int .i64 0, .slice none 0 0, .int .i64 0]] : List Ent) := sels [0] rfl
      show trellisref15_take_R w F  r (.returned (packV [.agg #[.string (⟨#[]⟩ : ByteArray), .bool false, .string (⟨#[]⟩ : ByteArray), .int .i64 0, .int .i64 0, .int .i64 0, .int .i64 0, .slice none 0 0, .int .i64 0], .int .i64 x6, .bool false])) wr
      rw [h]
      exact ⟨none, 0, 0, [], rfl, hMr, (Ow.nil (z := w.heap.size)), (hLr.outC (s := Sm w.heap.size F w []) hMi (me 0 rfl) Sm.ok Cells.nil)⟩
    · have h := if_neg' hp16 h
      refine g_false (c := trellisref15_take_c6) rfl _ rfl ((bf hp16)) ?_
      refine g_skip (c := trellisref15_take_c8) rfl ?_
      refine g_seq (c := trellisref15_take_c4) rfl ?_
      refine g_region (c := trellisref15_take_c11) rfl rfl ?_
      refine wl_v 0 rfl (v_move rfl) gn rfl ?_
      refine wl_v 1 rfl (v_move rfl) gn rfl ?_
      obtain ⟨hb17, h⟩ := h
      have hr18 := Rw.readF (s := St w []) (hl := hl_api_Node) (h1 := h1_api_Node) h5 hb17
      refine wl_v 2 rfl (v_idxR (s := St w []) slE_22 rfl rfl h5 hb17) gn rfl ?_
      refine wl_v 3 rfl (v_ldA (St w []) ld_39 rfl hr18 rfl (me 1 rfl)) gn rfl ?_
      refine wl_v 4 rfl (v_move rfl) gn rfl ?_
      refine wl_v 5 rfl (v_build #[.string ((ix x1 x6).name), .bool ((ix x1 x6).named), .string ((ix x1 x6).field), .int .i64 ((ix x1 x6).from_), .int .i64 ((ix x1 x6).to), .int .i64 ((ix x1 x6).kids), .int .i64 ((ix x1 x6).leaf), .slice none 0 0, .int .i64 x6] bd_96 rfl (by kernel_rfl)) gn rfl ?_
      refine wl_s 6 rfl (s_alloc [.string (⟨#[]⟩ : ByteArray), .bool false, .string (⟨#[]⟩ : ByteArray), .int .i64 0, .int .i64 0, .int .i64 0, .int .i64 0, .slice none 0 0, .int .i64 0] zr_96 rfl fun gb19 => ?_) gn
      refine wl_s 7 rfl (s_stB (vs := [.string ((ix x1 x6).name), .bool ((ix x1 x6).named), .string ((ix x1 x6).field), .int .i64 ((ix x1 x6).from_), .int .i64 ((ix x1 x6).to), .int .i64 ((ix x1 x6).kids), .int .i64 ((ix x1 x6).leaf), .slice none 0 0, .int .i64 x6]) (cs' := [.string ((ix x1 x6).name), .bool ((ix x1 x6).named), .string ((ix x1 x6).field), .int .i64 ((ix x1 x6).from_), .int .i64 ((ix x1 x6).to), .int .i64 ((ix x1 x6).kids), .int .i64 ((ix x1 x6).leaf), .slice none 0 0, .int .i64 x6]) (M' := [.box gb19 96 [.string ((ix x1 x6).name), .bool ((ix x1 x6).named), .string ((ix x1 x6).field), .int .i64 ((ix x1 x6).from_), .int .i64 ((ix x1 x6).to), .int .i64 ((ix x1 x6).kids), .int .i64 ((ix x1 x6).leaf), .slice none 0 0, .int .i64 x6], .box gb7 96 [.string (⟨#[]⟩ : ByteArray), .bool false, .string (⟨#[]⟩ : ByteArray), .int .i64 0, .int .i64 0, .int .i64 0, .int .i64 0, .slice none 0 0, .int .i64 0]]) 0 sz_96 rfl rfl rfl rfl rfl rfl rfl rfl rfl ?_) gn
      refine w_end 8 rfl ?_
      refine g_seq (c := trellisref15_take_c12) rfl ?_
      refine g_region (c := trellisref15_take_c13) rfl rfl ?_
      refine wl_v 0 rfl (v_move rfl) gn rfl ?_
      refine wl_v 1 rfl (v_bin rfl rfl rfl) gn rfl ?_
      refine wl_v 2 rfl (v_assign rfl) gn rfl ?_
      refine w_end 3 rfl ?_
      refine g_seq (c := trellisref15_take_c14) rfl ?_
      refine g_seq (c := trellisref15_take_c15) rfl ?_
      refine g_region (c := trellisref15_take_c17) rfl rfl ?_
      refine wl_v 0 rfl (v_assign rfl) gn rfl ?_
      refine w_end 1 rfl ?_
      refine g_block (c := trellisref15_take_c18) rfl ?_
      refine g_loop (c := trellisref15_take_c19) rfl ?_
      have key2 : ∀ s, Rounds (fun (s : Int × Int × (List trellisref15_Tree)) o => trellisref15_take_b2 x1 x6 rc_trellisref15_take s.1 s.2.1 s.2.2 o) s r → (fun (s : Int × Int × (List trellisref15_Tree)) => ∀ (A67 : Option Addr) (n68 : Nat) (c69 : Nat) (h70 : Ow w.heap.size A67 n68 c69 s.2.2) (cs71 : List Value) (sw72 : World) (sb73 : List (List Nat)) (hC74 : Cells k_trellisref15_Tree (Sm w.heap.size F sw72 sb73).w (Sm w.heap.size F sw72 sb73).av s.2.2 cs71), G (trellisref15_take_C w F r) [.code trellisref15_take_c20, .inLoop trellisref15_take_c20, .inBlock 0, .code trellisref15_take_c16] [(0, .slice A2 n3 c4), (1, .int .i64 x6), (4, .pointer (some ⟨gb7, 0, none⟩)), (7, .pointer (some ⟨gb19, 0, none⟩)), (8, .int .i64 s.1), (9, .int .i64 s.2.1)] [.own (.slice A67 n68 c69) 96 9 n68 cs71, .box gb19 96 [.string ((ix x1 x6).name), .bool ((ix x1 x6).named), .string ((ix x1 x6).field), .int .i64 ((ix x1 x6).from_), .int .i64 ((ix x1 x6).to), .int .i64 ((ix x1 x6).kids), .int .i64 ((ix x1 x6).leaf), .slice A67 n68 c69, .int .i64 x6], .box gb7 96 [.string (⟨#[]⟩ : ByteArray), .bool false, .string (⟨#[]⟩ : ByteArray), .int .i64 0, .int .i64 0, .int .i64 0, .int .i64 0, .slice none 0 0, .int .i64 0]] [Sm w.heap.size F sw72 sb73, Sm w.heap.size F w [], St w []]) s := by
        intro s hs
        refine Rounds.ind (mot := (fun (s : Int × Int × (List trellisref15_Tree)) => ∀ (A67 : Option Addr) (n68 : Nat) (c69 : Nat) (h70 : Ow w.heap.size A67 n68 c69 s.2.2) (cs71 : List Value) (sw72 : World) (sb73 : List (List Nat)) (hC74 : Cells k_trellisref15_Tree (Sm w.heap.size F sw72 sb73).w (Sm w.heap.size F sw72 sb73).av s.2.2 cs71), G (trellisref15_take_C w F r) [.code trellisref15_take_c20, .inLoop trellisref15_take_c20, .inBlock 0, .code trellisref15_take_c16] [(0, .slice A2 n3 c4), (1, .int .i64 x6), (4, .pointer (some ⟨gb7, 0, none⟩)), (7, .pointer (some ⟨gb19, 0, none⟩)), (8, .int .i64 s.1), (9, .int .i64 s.2.1)] [.own (.slice A67 n68 c69) 96 9 n68 cs71, .box gb19 96 [.string ((ix x1 x6).name), .bool ((ix x1 x6).named), .string ((ix x1 x6).field), .int .i64 ((ix x1 x6).from_), .int .i64 ((ix x1 x6).to), .int .i64 ((ix x1 x6).kids), .int .i64 ((ix x1 x6).leaf), .slice A67 n68 c69, .int .i64 x6], .box gb7 96 [.string (⟨#[]⟩ : ByteArray), .bool false, .string (⟨#[]⟩ : ByteArray), .int .i64 0, .int .i64 0, .int .i64 0, .int .i64 0, .slice none 0 0, .int .i64 0]] [Sm w.heap.size F sw72 sb73, Sm w.heap.size F w [], St w []])) ?_ hs
        clear hs s
        intro s o1 h hO1
        obtain ⟨x64, x65, x66⟩ := s
        show ∀ (A67 : Option Addr) (n68 : Nat) (c69 : Nat) (h70 : Ow w.heap.size A67 n68 c69 x66) (cs71 : List Value) (sw72 : World) (sb73 : List (List Nat)) (hC74 : Cells k_trellisref15_Tree (Sm w.heap.size F sw72 sb73).w (Sm w.heap.size F sw72 sb73).av x66 cs71), G (trellisref15_take_C w F r) [.code trellisref15_take_c20, .inLoop trellisref15_take_c20, .inBlock 0, .code trellisref15_take_c16] [(0, .slice A2 n3 c4), (1, .int .i64 x6), (4, .pointer (some ⟨gb7, 0, none⟩)), (7, .pointer (some ⟨gb19, 0, none⟩)), (8, .int .i64 x64), (9, .int .i64 x65)] [.own (.slice A67 n68 c69) 96 9 n68 cs71, .box gb19 96 [.string ((ix x1 x6).name), .bool ((ix x1 x6).named), .string ((ix x1 x6).field), .int .i64 ((ix x1 x6).from_), .int .i64 ((ix x1 x6).to), .int .i64 ((ix x1 x6).kids), .int .i64 ((ix x1 x6).leaf), .slice A67 n68 c69, .int .i64 x6], .box gb7 96 [.string (⟨#[]⟩ : ByteArray), .bool false, .string (⟨#[]⟩ : ByteArray), .int .i64 0, .int .i64 0, .int .i64 0, .int .i64 0, .slice none 0 0, .int .i64 0]] [Sm w.heap.size F sw72 sb73, Sm w.heap.size F w [], St w []]
        intro A67 n68 c69 h70 cs71 sw72 sb73 hC74
        have h : trellisref15_take_b2 x1 x6 rc_trellisref15_take x64 x65 x66 o1 := h
        unfold trellisref15_take_b2 at h
        refine g_seq (c := trellisref15_take_c20) rfl ?_
        refine g_seq (c := trellisref15_take_c21) rfl ?_
        refine g_region (c := trellisref15_take_c23) rfl rfl ?_
        refine wl_v 0 rfl (v_move rfl) gn rfl ?_
        refine wl_v 1 rfl (v_move rfl) gn rfl ?_
        refine wl_v 2 rfl (v_move rfl) gn rfl ?_
        have hr116 := Rw.readF (s := St w []) (hl := hl_api_Node) (h1 := h1_api_Node) h5 hb17
        refine wl_v 3 rfl (v_idxR (s := St w []) slE_22 rfl rfl h5 hb17) gn rfl ?_
        refine wl_v 4 rfl (v_fldA fo_39_5 rfl) gn rfl ?_
        refine wl_v 5 rfl (v_ldA1 (kk := (x6 : Int).toNat * 7) (j := 5) (St w []) ld_3 rfl hr116 rfl (me 2 rfl)) gn rfl ?_
        refine wl_v 6 rfl (v_bin rfl rfl rfl) gn rfl ?_
        refine w_end 7 rfl ?_
        by_cases hp117 : x65 < (ix x1 x6).kids
        · have h := if_pos' hp117 h
          refine g_true (c := trellisref15_take_c24) rfl _ rfl ((decide_eq_true hp117)) ?_
          refine g_skip (c := trellisref15_take_c25) rfl ?_
          refine g_seq (c := trellisref15_take_c22) rfl ?_
          refine g_block (c := trellisref15_take_c27) rfl ?_
          refine g_seq (c := trellisref15_take_c29) rfl ?_
          refine g_region (c := trellisref15_take_c30) rfl rfl ?_
          refine wl_v 0 rfl (v_move rfl) gn rfl ?_
          refine wl_v 1 rfl (v_move rfl) gn rfl ?_
          obtain ⟨r121, hv122, h⟩ := h
          refine wl_s 2 rfl (s_call [.slice A2 n3 c4, .int .i64 x64] rfl Try.func67 rfl rfl rfl fun w118 hL119 => ?_) gn
          have hp120 : List.Perm ([.own (.slice A67 n68 c69) 96 9 n68 cs71, .box gb19 96 [.string ((ix x1 x6).name), .bool ((ix x1 x6).named), .string ((ix x1 x6).field), .int .i64 ((ix x1 x6).from_), .int .i64 ((ix x1 x6).to), .int .i64 ((ix x1 x6).kids), .int .i64 ((ix x1 x6).leaf), .slice A67 n68 c69, .int .i64 x6], .box gb7 96 [.string (⟨#[]⟩ : ByteArray), .bool false, .string (⟨#[]⟩ : ByteArray), .int .i64 0, .int .i64 0, .int .i64 0, .int .i64 0, .slice none 0 0, .int .i64 0]] : List Ent) (([] : List Ent) ++ ([.own (.slice A67 n68 c69) 96 9 n68 cs71, .box gb19 96 [.string ((ix x1 x6).name), .bool ((ix x1 x6).named), .string ((ix x1 x6).field), .int .i64 ((ix x1 x6).from_), .int .i64 ((ix x1 x6).to), .int .i64 ((ix x1 x6).kids), .int .i64 ((ix x1 x6).leaf), .slice A67 n68 c69, .int .i64 x6], .box gb7 96 [.string (⟨#[]⟩ : ByteArray), .bool false, .string (⟨#[]⟩ : ByteArray), .int .i64 0, .int .i64 0, .int .i64 0, .int .i64 0, .slice none 0 0, .int .i64 0]] : List Ent)) := perm_of_idx [] [0, 1, 2] rfl rfl (by kernel_rfl)
          refine Calls.mono (ih_trellisref15_take w118 (Fl ([] : List Snap)) x1 x64 A2 n3 c4 (Rw.mono h5 (hL119.toSt hp120 (me 2 rfl))) (hL119.hFl (Sl := ([] : List Snap)) hp120 (sels [] rfl)) (hL119.into hp120 (Fl ([] : List Snap))) r121 hv122) ?_
          rintro _ w130 ⟨A123, n124, c125, cs128, rfl, hM131, h126, hC129⟩
          obtain ⟨sb134, hL132, hv133⟩ := hL119.callB (Sl := ([] : List Snap)) hp120 hM131 F (sels [] rfl) trivial
          have hC129 : Cells k_trellisref15_Tree (Sm w.heap.size F w130 sb134).w (Sm w.heap.size F w130 sb134).av r121.1.kids cs128 := Cells.mono hv133 hC129
          refine ⟨_, _, _, rfl, hL132, ?_⟩
          refine wl_v 3 rfl (v_move rfl) gn rfl ?_
          refine wl_v 4 rfl (v_extract rfl rfl) gn rfl ?_
          refine wl_v 5 rfl (v_extract rfl rfl) gn rfl ?_
          refine wl_v 6 rfl (v_extract rfl rfl) gn rfl ?_
          refine wl_s 7 rfl (s_alloc [.string (⟨#[]⟩ : ByteArray), .bool false, .string (⟨#[]⟩ : ByteArray), .int .i64 0, .int .i64 0, .int .i64 0, .int .i64 0, .slice none 0 0, .int .i64 0] zr_96 rfl fun gb135 => ?_) gn
          refine wl_s 8 rfl (s_stB (vs := [.string r121.1.node.name, .bool r121.1.node.named, .string r121.1.node.field, .int .i64 r121.1.node.from_, .int .i64 r121.1.node.to, .int .i64 r121.1.node.kids, .int .i64 r121.1.node.leaf, .slice A123 n124 c125, .int .i64 r121.1.at_]) (cs' := [.string r121.1.node.name, .bool r121.1.node.named, .string r121.1.node.field, .int .i64 r121.1.node.from_, .int .i64 r121.1.node.to, .int .i64 r121.1.node.kids, .int .i64 r121.1.node.leaf, .slice A123 n124 c125, .int .i64 r121.1.at_]) (M' := [.box gb135 96 [.string r121.1.node.name, .bool r121.1.node.named, .string r121.1.node.field, .int .i64 r121.1.node.from_, .int .i64 r121.1.node.to, .int .i64 r121.1.node.kids, .int .i64 r121.1.node.leaf, .slice A123 n124 c125, .int .i64 r121.1.at_], .own (.slice A123 n124 c125) 96 9 n124 cs128, .own (.slice A67 n68 c69) 96 9 n68 cs71, .box gb19 96 [.string ((ix x1 x6).name), .bool ((ix x1 x6).named), .string ((ix x1 x6).field), .int .i64 ((ix x1 x6).from_), .int .i64 ((ix x1 x6).to), .int .i64 ((ix x1 x6).kids), .int .i64 ((ix x1 x6).leaf), .slice A67 n68 c69, .int .i64 x6], .box gb7 96 [.string (⟨#[]⟩ : ByteArray), .bool false, .string (⟨#[]⟩ : ByteArray), .int .i64 0, .int .i64 0, .int .i64 0, .int .i64 0, .slice none 0 0, .int .i64 0]]) 0 sz_96 rfl rfl rfl rfl rfl rfl rfl rfl rfl ?_) gn
          refine wl_v 9 rfl (v_assign rfl) gn rfl ?_
          refine wl_v 10 rfl (v_assign rfl) gn rfl ?_
          refine w_end 11 rfl ?_
          refine g_seq (c := trellisref15_take_c31) rfl ?_
          refine g_seq (c := trellisref15_take_c32) rfl ?_
          refine g_region (c := trellisref15_take_c34) rfl rfl ?_
          refine wl_v 0 rfl (v_move rfl) gn rfl ?_
          refine wl_v 1 rfl (v_not rfl) gn rfl ?_
          refine w_end 2 rfl ?_
          by_cases hp137 : r121.2.2 = true
          · have h := if_pos' hp137 h
            refine g_false (c := trellisref15_take_c35) rfl _ rfl ((nf hp137)) ?_
            refine g_skip (c := trellisref15_take_c37) rfl ?_
            refine g_seq (c := trellisref15_take_c33) rfl ?_
            refine g_region (c := trellisref15_take_c38) rfl rfl ?_
            refine wl_v 0 rfl (v_fldB fo_96_1 rfl) gn rfl ?_
            refine wl_v 1 rfl (v_ldB1 3 ld_89 rfl rfl rfl) gn rfl ?_
            refine wl_v 2 rfl (v_ldB [.string r121.1.node.name, .bool r121.1.node.named, .string r121.1.node.field, .int .i64 r121.1.node.from_, .int .i64 r121.1.node.to, .int .i64 r121.1.node.kids, .int .i64 r121.1.node.leaf, .slice A123 n124 c125, .int .i64 r121.1.at_] 0 ld_96 rfl rfl rfl rfl) gn rfl ?_
            refine w_freeze (F := F) (dk := k_trellisref15_Tree) (Sm w.heap.size F w130 sb134) 1 rfl (Ow.weak hL119.env.size h126) (me 0 rfl) Sm.ok hC129 fun sw139 sb140 h138 => ?_
            have hC142 : Cells k_trellisref15_Tree (Sm w.heap.size F sw139 sb140).w (Sm w.heap.size F sw139 sb140).av ([r121.1] : List trellisref15_Tree) [.string r121.1.node.name, .bool r121.1.node.named, .string r121.1.node.field, .int .i64 r121.1.node.from_, .int .i64 r121.1.node.to, .int .i64 r121.1.node.kids, .int .i64 r121.1.node.leaf, .slice A123 n124 c125, .int .i64 r121.1.at_] := (Cells.cons (c1 := [.string r121.1.node.name, .bool r121.1.node.named, .string r121.1.node.field, .int .i64 r121.1.node.from_, .int .i64 r121.1.node.to, .int .i64 r121.1.node.kids, .int .i64 r121.1.node.leaf, .slice A123 n124 c125, .int .i64 r121.1.at_]) (k_trellisref15_Tree_in ⟨A123, n124, c125, rfl, h138⟩) Cells.nil)
            refine wl_s 3 rfl (s_litO (xs := ([r121.1] : List trellisref15_Tree)) [.string r121.1.node.name, .bool r121.1.node.named, .string r121.1.node.field, .int .i64 r121.1.node.from_, .int .i64 r121.1.node.to, .int .i64 r121.1.node.kids, .int .i64 r121.1.node.leaf, .slice A123 n124 c125, .int .i64 r121.1.at_] bs_89_1 rfl (by kernel_rfl) rfl rfl rfl rfl fun gb143 h144 => ?_) gn
            obtain ⟨x151, hv152, h⟩ := h
            obtain ⟨hb153, h⟩ := h
            refine w_mark (F := F) fun sw148 sb149 ho150 => ?_
            obtain ⟨cs154, hc155⟩ : ∃ x : List Value, x = cs71 ++ [.string r121.1.node.name, .bool r121.1.node.named, .string r121.1.node.field, .int .i64 r121.1.node.from_, .int .i64 r121.1.node.to, .int .i64 r121.1.node.kids, .int .i64 r121.1.node.leaf, .slice A123 n124 c125, .int .i64 r121.1.at_] := ⟨_, rfl⟩
            have hC156 : Cells k_trellisref15_Tree (Sm w.heap.size F sw148 sb149).w (Sm w.heap.size F sw148 sb149).av x151 cs154 := by rw [hv152, hc155]; exact Cells.app (Cells.older (s := Sm w.heap.size F sw72 sb73) hC74 (ho150 _ (me 2 rfl) Sm.ok)) (Cells.older (s := Sm w.heap.size F sw139 sb140) hC142 (ho150 _ (me 0 rfl) Sm.ok))
            refine wl_s 4 rfl (s_app (zs := x151) 2 ap_89 rfl rfl rfl h70 (Nat.le_refl _) (Src.ownAll 0 rfl h144 hC142) hc155.symm (app_len hv152 h144.hq) hb153 rfl rfl fun A145 c146 h147 => ?_) gn
            refine wl_v 5 rfl (v_fldB fo_96_1 rfl) gn rfl ?_
            refine wl_s 6 rfl (s_stB (vs := [.slice A145 (n68 + 1) c146]) (cs' := [.string ((ix x1 x6).name), .bool ((ix x1 x6).named), .string ((ix x1 x6).field), .int .i64 ((ix x1 x6).from_), .int .i64 ((ix x1 x6).to), .int .i64 ((ix x1 x6).kids), .int .i64 ((ix x1 x6).leaf), .slice A145 (n68 + 1) c146, .int .i64 x6]) (M' := [.own (.slice (some ⟨gb143, 0, none⟩) 1 1) 96 9 1 [.string r121.1.node.name, .bool r121.1.node.named, .string r121.1.node.field, .int .i64 r121.1.node.from_, .int .i64 r121.1.node.to, .int .i64 r121.1.node.kids, .int .i64 r121.1.node.leaf, .slice A123 n124 c125, .int .i64 r121.1.at_], .box gb135 96 [.string r121.1.node.name, .bool r121.1.node.named, .string r121.1.node.field, .int .i64 r121.1.node.from_, .int .i64 r121.1.node.to, .int .i64 r121.1.node.kids, .int .i64 r121.1.node.leaf, .slice A123 n124 c125, .int .i64 r121.1.at_], .own (.slice A145 (n68 + 1) c146) 96 9 (n68 + 1) cs154, .box gb19 96 [.string ((ix x1 x6).name), .bool ((ix x1 x6).named), .string ((ix x1 x6).field), .int .i64 ((ix x1 x6).from_), .int .i64 ((ix x1 x6).to), .int .i64 ((ix x1 x6).kids), .int .i64 ((ix x1 x6).leaf), .slice A145 (n68 + 1) c146, .int .i64 x6], .box gb7 96 [.string (⟨#[]⟩ : ByteArray), .bool false, .string (⟨#[]⟩ : ByteArray), .int .i64 0, .int .i64 0, .int .i64 0, .int .i64 0, .slice none 0 0, .int .i64 0]]) 3 sz_89 rfl rfl rfl rfl rfl rfl rfl rfl rfl ?_) gn
            refine w_end 7 rfl ?_
            refine g_region (c := trellisref15_take_c39) rfl rfl ?_
            refine wl_v 0 rfl (v_move rfl) gn rfl ?_
            refine wl_v 1 rfl (v_assign rfl) gn rfl ?_
            refine w_end 2 rfl ?_
            refine g_inBlock ?_
            refine g_region (c := trellisref15_take_c28) rfl rfl ?_
            refine wl_v 0 rfl (v_move rfl) gn rfl ?_
            refine wl_v 1 rfl (v_bin rfl rfl rfl) gn rfl ?_
            refine wl_v 2 rfl (v_assign rfl) gn rfl ?_
            refine w_end 3 rfl ?_
            refine g_inLoop ?_
            have ih := Out.inl hO1 h
            exact g_go [0, 4, 5] (ih A145 (n68 + 1) c146 h147 cs154 sw148 sb149 hC156) ⟨rfl, rfl, rfl, rfl, rfl, rfl, trivial⟩ (.cons _ (.cons _ (.cons_cons _ (.cons_cons _ (.cons_cons _ (.slnil)))))) rfl
          · have h := if_neg' hp137 h
            refine g_true (c := trellisref15_take_c35) rfl _ rfl ((nt (bf hp137))) ?_
            refine g_seq (c := trellisref15_take_c36) rfl ?_
            refine g_region (c := trellisref15_take_c40) rfl rfl ?_
            refine wl_v 0 rfl (v_build #[.string (⟨#[]⟩ : ByteArray), .bool false, .string (⟨#[]⟩ : ByteArray), .int .i64 0, .int .i64 0, .int .i64 0, .int .i64 0, .slice none 0 0, .int .i64 0] bd_96 rfl (by kernel_rfl)) gn rfl ?_
            refine wl_v 1 rfl (v_move rfl) gn rfl ?_
            refine wl_s 2 rfl (s_stB (vs := [.string (⟨#[]⟩ : ByteArray), .bool false, .string (⟨#[]⟩ : ByteArray), .int .i64 0, .int .i64 0, .int .i64 0, .int .i64 0, .slice none 0 0, .int .i64 0]) (cs' := [.string (⟨#[]⟩ : ByteArray), .bool false, .string (⟨#[]⟩ : ByteArray), .int .i64 0, .int .i64 0, .int .i64 0, .int .i64 0, .slice none 0 0, .int .i64 0]) (M' := [.box gb135 96 [.string r121.1.node.name, .bool r121.1.node.named, .string r121.1.node.field, .int .i64 r121.1.node.from_, .int .i64 r121.1.node.to, .int .i64 r121.1.node.kids, .int .i64 r121.1.node.leaf, .slice A123 n124 c125, .int .i64 r121.1.at_], .own (.slice A123 n124 c125) 96 9 n124 cs128, .own (.slice A67 n68 c69) 96 9 n68 cs71, .box gb19 96 [.string ((ix x1 x6).name), .bool ((ix x1 x6).named), .string ((ix x1 x6).field), .int .i64 ((ix x1 x6).from_), .int .i64 ((ix x1 x6).to), .int .i64 ((ix x1 x6).kids), .int .i64 ((ix x1 x6).leaf), .slice A67 n68 c69, .int .i64 x6], .box gb7 96 [.string (⟨#[]⟩ : ByteArray), .bool false, .string (⟨#[]⟩ : ByteArray), .int .i64 0, .int .i64 0, .int .i64 0, .int .i64 0, .slice none 0 0, .int .i64 0]]) 4 sz_96 rfl rfl rfl rfl rfl rfl rfl rfl rfl ?_) gn
            refine wl_v 3 rfl (v_assign rfl) gn rfl ?_
            refine wl_v 4 rfl (v_assign rfl) gn rfl ?_
            refine w_end 5 rfl ?_
            refine g_nil 96 9 ?_
            have h := Out.inr hO1 h
            refine g_retR (c := trellisref15_take_c41) [.agg #[.string (⟨#[]⟩ : ByteArray), .bool false, .string (⟨#[]⟩ : ByteArray), .int .i64 0, .int .i64 0, .int .i64 0, .int .i64 0, .slice none 0 0, .int .i64 0], .int .i64 x6, .bool false] rfl Try.func67 rfl (.cell (cs := [.string (⟨#[]⟩ : ByteArray), .bool false, .string (⟨#[]⟩ : ByteArray), .int .i64 0, .int .i64 0, .int .i64 0, .int .i64 0, .slice none 0 0, .int .i64 0]) (us := [.string (⟨#[]⟩ : ByteArray), .bool false, .string (⟨#[]⟩ : ByteArray), .int .i64 0, .int .i64 0, .int .i64 0, .int .i64 0, .slice none 0 0, .int .i64 0]) 5 rfl ld_96 rfl rfl rfl (.tmp rfl (.tmp rfl (.nil)))) fun wr hLr => ?_
            have hMr : B.Loc w wr [.own (.slice none 0 0) 96 9 0 []] [St w []] := hLr.pick (rest := [.box gb135 96 [.string r121.1.node.name, .bool r121.1.node.named, .string r121.1.node.field, .int .i64 r121.1.node.from_, .int .i64 r121.1.node.to, .int .i64 r121.1.node.kids, .int .i64 r121.1.node.leaf, .slice A123 n124 c125, .int .i64 r121.1.at_], .own (.slice A123 n124 c125) 96 9 n124 cs128, .own (.slice A67 n68 c69) 96 9 n68 cs71, .box gb19 96 [.string ((ix x1 x6).name), .bool ((ix x1 x6).named), .string ((ix x1 x6).field), .int .i64 ((ix x1 x6).from_), .int .i64 ((ix x1 x6).to), .int .i64 ((ix x1 x6).kids), .int .i64 ((ix x1 x6).leaf), .slice A67 n68 c69, .int .i64 x6], .box gb7 96 [.string (⟨#[]⟩ : ByteArray), .bool false, .string (⟨#[]⟩ : ByteArray), .int .i64 0, .int .i64 0, .int .i64 0, .int .i64 0, .slice none 0 0, .int .i64 0]]) (perm_of_idx [0] [1, 2, 3, 4, 5] rfl rfl (by kernel_rfl)) (sels [3] rfl)
            have hMi : ∀ e ∈ ([.own (.slice none 0 0) 96 9 0 []] : List Ent), e ∈ ([.own (.slice none 0 0) 96 9 0 [], .box gb135 96 [.string r121.1.node.name, .bool r121.1.node.named, .string r121.1.node.field, .int .i64 r121.1.node.from_, .int .i64 r121.1.node.to, .int .i64 r121.1.node.kids, .int .i64 r121.1.node.leaf, .slice A123 n124 c125, .int .i64 r121.1.at_], .own (.slice A123 n124 c125) 96 9 n124 cs128, .own (.slice A67 n68 c69) 96 9 n68 cs71, .box gb19 96 [.string ((ix x1 x6).name), .bool ((ix x1 x6).named), .string ((ix x1 x6).field), .int .i64 ((ix x1 x6).from_), .int .i64 ((ix x1 x6).to), .int .i64 ((ix x1 x6).kids), .int .i64 ((ix x1 x6).leaf), .slice A67 n68 c69, .int .i64 x6], .box gb7 96 [.string (⟨#[]⟩ : ByteArray), .bool false, .string (⟨#[]⟩ : ByteArray), .int .i64 0, .int .i64 0, .int .i64 0, .int .i64 0, .slice none 0 0, .int .i64 0]] : List Ent) := sels [0] rfl
            show trellisref15_take_R w F  r (.returned (packV [.agg #[.string (⟨#[]⟩ : ByteArray), .bool false, .string (⟨#[]⟩ : ByteArray), .int .i64 0, .int .i64 0, .int .i64 0, .int .i64 0, .slice none 0 0, .int .i64 0], .int .i64 x6, .bool false])) wr
            rw [h]
            exact ⟨none, 0, 0, [], rfl, hMr, (Ow.nil (z := w.heap.size)), (hLr.outC (s := Sm w.heap.size F w []) hMi (me 2 rfl) Sm.ok Cells.nil)⟩
        · have h := if_neg' hp117 h
          refine g_false (c := trellisref15_take_c24) rfl _ rfl ((decide_eq_false hp117)) ?_
          refine g_exit (c := trellisref15_take_c26) [.code trellisref15_take_c16] rfl rfl ?_
          refine g_seq (c := trellisref15_take_c16) rfl ?_
          refine g_region (c := trellisref15_take_c42) rfl rfl ?_
          refine wl_v 0 rfl (v_ldB [.string ((ix x1 x6).name), .bool ((ix x1 x6).named), .string ((ix x1 x6).field), .int .i64 ((ix x1 x6).from_), .int .i64 ((ix x1 x6).to), .int .i64 ((ix x1 x6).kids), .int .i64 ((ix x1 x6).leaf), .slice A67 n68 c69, .int .i64 x6] 1 ld_96 rfl rfl rfl rfl) gn rfl ?_
          refine wl_v 1 rfl (v_move rfl) gn rfl ?_
          refine wl_s 2 rfl (s_stB (vs := [.string ((ix x1 x6).name), .bool ((ix x1 x6).named), .string ((ix x1 x6).field), .int .i64 ((ix x1 x6).from_), .int .i64 ((ix x1 x6).to), .int .i64 ((ix x1 x6).kids), .int .i64 ((ix x1 x6).leaf), .slice A67 n68 c69, .int .i64 x6]) (cs' := [.string ((ix x1 x6).name), .bool ((ix x1 x6).named), .string ((ix x1 x6).field), .int .i64 ((ix x1 x6).from_), .int .i64 ((ix x1 x6).to), .int .i64 ((ix x1 x6).kids), .int .i64 ((ix x1 x6).leaf), .slice A67 n68 c69, .int .i64 x6]) (M' := [.own (.slice A67 n68 c69) 96 9 n68 cs71, .box gb19 96 [.string ((ix x1 x6).name), .bool ((ix x1 x6).named), .string ((ix x1 x6).field), .int .i64 ((ix x1 x6).from_), .int .i64 ((ix x1 x6).to), .int .i64 ((ix x1 x6).kids), .int .i64 ((ix x1 x6).leaf), .slice A67 n68 c69, .int .i64 x6], .box gb7 96 [.string ((ix x1 x6).name), .bool ((ix x1 x6).named), .string ((ix x1 x6).field), .int .i64 ((ix x1 x6).from_), .int .i64 ((ix x1 x6).to), .int .i64 ((ix x1 x6).kids), .int .i64 ((ix x1 x6).leaf), .slice A67 n68 c69, .int .i64 x6]]) 2 sz_96 rfl rfl rfl rfl rfl rfl rfl rfl rfl ?_) gn
          refine wl_v 3 rfl (v_assign rfl) gn rfl ?_
          refine wl_v 4 rfl (v_assign rfl) gn rfl ?_
          refine w_end 5 rfl ?_
          have h := Out.inr hO1 h
          refine g_retR (c := trellisref15_take_c43) [.agg #[.string ((ix x1 x6).name), .bool ((ix x1 x6).named), .string ((ix x1 x6).field), .int .i64 ((ix x1 x6).from_), .int .i64 ((ix x1 x6).to), .int .i64 ((ix x1 x6).kids), .int .i64 ((ix x1 x6).leaf), .slice A67 n68 c69, .int .i64 x6], .int .i64 x64, .bool true] rfl Try.func67 rfl (.cell (cs := [.string ((ix x1 x6).name), .bool ((ix x1 x6).named), .string ((ix x1 x6).field), .int .i64 ((ix x1 x6).from_), .int .i64 ((ix x1 x6).to), .int .i64 ((ix x1 x6).kids), .int .i64 ((ix x1 x6).leaf), .slice A67 n68 c69, .int .i64 x6]) (us := [.string ((ix x1 x6).name), .bool ((ix x1 x6).named), .string ((ix x1 x6).field), .int .i64 ((ix x1 x6).from_), .int .i64 ((ix x1 x6).to), .int .i64 ((ix x1 x6).kids), .int .i64 ((ix x1 x6).leaf), .slice A67 n68 c69, .int .i64 x6]) 2 rfl ld_96 rfl rfl rfl (.tmp rfl (.tmp rfl (.nil)))) fun wr hLr => ?_
          have hMr : B.Loc w wr [.own (.slice A67 n68 c69) 96 9 n68 cs71] [St w []] := hLr.pick (rest := [.box gb19 96 [.string ((ix x1 x6).name), .bool ((ix x1 x6).named), .string ((ix x1 x6).field), .int .i64 ((ix x1 x6).from_), .int .i64 ((ix x1 x6).to), .int .i64 ((ix x1 x6).kids), .int .i64 ((ix x1 x6).leaf), .slice A67 n68 c69, .int .i64 x6], .box gb7 96 [.string ((ix x1 x6).name), .bool ((ix x1 x6).named), .string ((ix x1 x6).field), .int .i64 ((ix x1 x6).from_), .int .i64 ((ix x1 x6).to), .int .i64 ((ix x1 x6).kids), .int .i64 ((ix x1 x6).leaf), .slice A67 n68 c69, .int .i64 x6]]) (perm_of_idx [0] [1, 2] rfl rfl (by kernel_rfl)) (sels [2] rfl)
          have hMi : ∀ e ∈ ([.own (.slice A67 n68 c69) 96 9 n68 cs71] : List Ent), e ∈ ([.own (.slice A67 n68 c69) 96 9 n68 cs71, .box gb19 96 [.string ((ix x1 x6).name), .bool ((ix x1 x6).named), .string ((ix x1 x6).field), .int .i64 ((ix x1 x6).from_), .int .i64 ((ix x1 x6).to), .int .i64 ((ix x1 x6).kids), .int .i64 ((ix x1 x6).leaf), .slice A67 n68 c69, .int .i64 x6], .box gb7 96 [.string ((ix x1 x6).name), .bool ((ix x1 x6).named), .string ((ix x1 x6).field), .int .i64 ((ix x1 x6).from_), .int .i64 ((ix x1 x6).to), .int .i64 ((ix x1 x6).kids), .int .i64 ((ix x1 x6).leaf), .slice A67 n68 c69, .int .i64 x6]] : List Ent) := sels [0] rfl
          show trellisref15_take_R w F  r (.returned (packV [.agg #[.string ((ix x1 x6).name), .bool ((ix x1 x6).named), .string ((ix x1 x6).field), .int .i64 ((ix x1 x6).from_), .int .i64 ((ix x1 x6).to), .int .i64 ((ix x1 x6).kids), .int .i64 ((ix x1 x6).leaf), .slice A67 n68 c69, .int .i64 x6], .int .i64 x64, .bool true])) wr
          rw [h]
          exact ⟨A67, n68, c69, cs71, rfl, hMr, h70, (hLr.outC (s := Sm w.heap.size F sw72 sb73) hMi (me 0 rfl) Sm.ok hC74)⟩
      refine g_nil 96 9 ?_
      exact g_go [0, 0, 1] (key2 _ h none 0 0 (Ow.nil (z := w.heap.size)) [] w [] Cells.nil) ⟨rfl, rfl, rfl, rfl, rfl, rfl, trivial⟩ (.cons_cons _ (.cons_cons _ (.cons_cons _ (.slnil)))) rfl
  refine g_region (c := trellisref15_take_c5) rfl rfl ?_
  refine wl_v 0 rfl (v_move rfl) gn rfl ?_
  refine wl_v 1 rfl (v_move rfl) gn rfl ?_
  refine wl_v 2 rfl (v_lenQ un_22 rfl h5.hq) gn rfl ?_
  refine wl_v 3 rfl (v_bin rfl rfl rfl) gn rfl ?_
  refine wl_v 4 rfl (v_move rfl) gn rfl ?_
  by_cases hp157 : x6 ≥ (x1.length : Int)
  · have h := if_pos' hp157 h
    refine w_bool 17 rfl ((decide_eq_true hp157)) ?_
    refine wl_pass 5 rfl (ps 17 rfl rfl rfl) ?_
    refine wl_pass 6 rfl (ps 17 rfl rfl rfl) ?_
    refine wl_pass 7 rfl (ps 17 rfl rfl rfl) ?_
    refine wl_pass 8 rfl (ps 17 rfl rfl rfl) ?_
    refine wl_pass 9 rfl (ps 17 rfl rfl rfl) ?_
    refine wl_pass 10 rfl (ps 17 rfl rfl rfl) ?_
    refine wl_v 11 rfl (v_pick (b := true) rfl rfl) gn rfl ?_
    refine wl_v 12 rfl (v_move rfl) gn rfl ?_
    refine wl_pass 13 rfl (ps 25 rfl rfl rfl) ?_
    refine wl_pass 14 rfl (ps 25 rfl rfl rfl) ?_
    refine wl_pass 15 rfl (ps 25 rfl rfl rfl) ?_
    refine wl_pass 16 rfl (ps 25 rfl rfl rfl) ?_
    refine wl_pass 17 rfl (ps 25 rfl rfl rfl) ?_
    refine wl_pass 18 rfl (ps 25 rfl rfl rfl) ?_
    refine wl_pass 19 rfl (ps 25 rfl rfl rfl) ?_
    refine wl_pass 20 rfl (ps 25 rfl rfl rfl) ?_
    refine wl_v 21 rfl (v_pick (b := true) rfl rfl) gn rfl ?_
    refine w_end 22 rfl ?_
    exact g_go [0, 1] (j1 true h) ⟨rfl, rfl, rfl, rfl, trivial⟩ (.cons_cons _ (.slnil)) rfl
  · have h := if_neg' hp157 h
    refine w_bool 17 rfl ((decide_eq_false hp157)) ?_
    refine wl_v 5 rfl (v_move rfl) (gy 17 rfl rfl) rfl ?_
    refine wl_v 6 rfl (v_move rfl) (gy 17 rfl rfl) rfl ?_
    obtain ⟨hb158, h⟩ := h
    have hr159 := Rw.readF (s := St w []) (hl := hl_api_Node) (h1 := h1_api_Node) h5 hb158
    refine wl_v 7 rfl (v_idxR (s := St w []) slE_22 rfl rfl h5 hb158) (gy 17 rfl rfl) rfl ?_
    refine wl_v 8 rfl (v_fldA fo_39_5 rfl) (gy 17 rfl rfl) rfl ?_
    refine wl_v 9 rfl (v_ldA1 (kk := (x6 : Int).toNat * 7) (j := 5) (St w []) ld_3 rfl hr159 rfl (me 1 rfl)) (gy 17 rfl rfl) rfl ?_
    refine wl_v 10 rfl (v_bin rfl rfl rfl) (gy 17 rfl rfl) rfl ?_
    refine wl_v 11 rfl (v_pick (b := false) rfl rfl) gn rfl ?_
    refine wl_v 12 rfl (v_move rfl) gn rfl ?_
    by_cases hp160 : (ix x1 x6).kids < 0
    · have h := if_pos' hp160 h
      refine w_bool 25 rfl ((decide_eq_true hp160)) ?_
      refine wl_pass 13 rfl (ps 25 rfl rfl rfl) ?_
      refine wl_pass 14 rfl (ps 25 rfl rfl rfl) ?_
      refine wl_pass 15 rfl (ps 25 rfl rfl rfl) ?_
      refine wl_pass 16 rfl (ps 25 rfl rfl rfl) ?_
      refine wl_pass 17 rfl (ps 25 rfl rfl rfl) ?_
      refine wl_pass 18 rfl (ps 25 rfl rfl rfl) ?_
      refine wl_pass 19 rfl (ps 25 rfl rfl rfl) ?_
      refine wl_pass 20 rfl (ps 25 rfl rfl rfl) ?_
      refine wl_v 21 rfl (v_pick (b := true) rfl rfl) gn rfl ?_
      refine w_end 22 rfl ?_
      exact g_go [0, 1] (j1 true h) ⟨rfl, rfl, rfl, rfl, trivial⟩ (.cons_cons _ (.slnil)) rfl
    · have h := if_neg' hp160 h
      refine w_bool 25 rfl ((decide_eq_false hp160)) ?_
      refine wl_v 13 rfl (v_move rfl) (gy 25 rfl rfl) rfl ?_
      refine wl_v 14 rfl (v_move rfl) (gy 25 rfl rfl) rfl ?_
      have hr161 := Rw.readF (s := St w []) (hl := hl_api_Node) (h1 := h1_api_Node) h5 hb158
      refine wl_v 15 rfl (v_idxR (s := St w []) slE_22 rfl rfl h5 hb158) (gy 25 rfl rfl) rfl ?_
      refine wl_v 16 rfl (v_fldA fo_39_5 rfl) (gy 25 rfl rfl) rfl ?_
      refine wl_v 17 rfl (v_ldA1 (kk := (x6 : Int).toNat * 7) (j := 5) (St w []) ld_3 rfl hr161 rfl (me 1 rfl)) (gy 25 rfl rfl) rfl ?_
      refine wl_v 18 rfl (v_move rfl) (gy 25 rfl rfl) rfl ?_
      refine wl_v 19 rfl (v_lenQ un_22 rfl h5.hq) (gy 25 rfl rfl) rfl ?_
      refine wl_v 20 rfl (v_bin rfl rfl rfl) (gy 25 rfl rfl) rfl ?_
      refine wl_v 21 rfl (v_pick (b := false) rfl rfl) gn rfl ?_
      refine w_end 22 rfl ?_
      exact g_go [0, 1] (j1 (decide ((ix x1 x6).kids > (x1.length : Int))) h) ⟨rfl, rfl, rfl, rfl, trivial⟩ (.cons_cons _ (.slnil)) rfl
theorem trellisref15_take_ind : ∀ n, trellisref15_take_st (trellisref15_take_n n)
  | 0 => fun w F x1 x6 A2 n3 c4 h5 hF hL0 r h => h.elim
  | n + 1 => by
    have ih := trellisref15_take_ind n
    exact trellisref15_take_step _ ih
theorem trellisref15_take_calls (w : World) (F : Nat → Prop) (x1 : List api_Node) (x6 : Int) (A2 : Option Addr) (n3 : Nat) (c4 : Nat) (h5 : Rw k_api_Node w (St w []).av A2 n3 c4 x1) (hF : ∀ b, F b → b < w.heap.size ∧ ∀ o ∈ ([] : List (List Nat)), b ∉ o) (hL0 : B.Loc w w [] [Sm w.heap.size F w [], St w []]) (r : trellisref15_Tree × Int × Bool) (h : trellisref15_take x1 x6 r) : Calls Try.prog 67 #[.slice A2 n3 c4, .int .i64 x6] w (trellisref15_take_R w F  r) := by
  obtain ⟨n, h⟩ := h
  exact (trellisref15_take_ind n) w F x1 x6 A2 n3 c4 h5 hF hL0 r h
noncomputable abbrev trellisref15_Forest_c0 : Code := bodyOf Try.f47
noncomputable abbrev trellisref15_Forest_c1 : Code := Code.fst trellisref15_Forest_c0
noncomputable abbrev trellisref15_Forest_c2 : Code := Code.snd trellisref15_Forest_c0
noncomputable abbrev trellisref15_Forest_c3 : Code := Code.fst trellisref15_Forest_c2
noncomputable abbrev trellisref15_Forest_c4 : Code := Code.snd trellisref15_Forest_c2
noncomputable abbrev trellisref15_Forest_c5 : Code := Code.fst trellisref15_Forest_c4
noncomputable abbrev trellisref15_Forest_c6 : Code := Code.snd trellisref15_Forest_c4
noncomputable abbrev trellisref15_Forest_c7 : Code := Code.fst trellisref15_Forest_c6
noncomputable abbrev trellisref15_Forest_c8 : Code := Code.snd trellisref15_Forest_c6
noncomputable abbrev trellisref15_Forest_c9 : Code := Code.fst trellisref15_Forest_c7
noncomputable abbrev trellisref15_Forest_c10 : Code := Code.fst trellisref15_Forest_c9
noncomputable abbrev trellisref15_Forest_c11 : Code := Code.fst trellisref15_Forest_c10
noncomputable abbrev trellisref15_Forest_c12 : Code := Code.snd trellisref15_Forest_c10
noncomputable abbrev trellisref15_Forest_c13 : Code := Code.fst trellisref15_Forest_c11
noncomputable abbrev trellisref15_Forest_c14 : Code := Code.snd trellisref15_Forest_c11
noncomputable abbrev trellisref15_Forest_c15 : Code := Code.fst trellisref15_Forest_c14
noncomputable abbrev trellisref15_Forest_c16 : Code := Code.snd trellisref15_Forest_c14
noncomputable abbrev trellisref15_Forest_c17 : Code := Code.fst trellisref15_Forest_c12
noncomputable abbrev trellisref15_Forest_c18 : Code := Code.fst trellisref15_Forest_c17
noncomputable abbrev trellisref15_Forest_c19 : Code := Code.snd trellisref15_Forest_c17
noncomputable abbrev trellisref15_Forest_c20 : Code := Code.fst trellisref15_Forest_c19
noncomputable abbrev trellisref15_Forest_c21 : Code := Code.snd trellisref15_Forest_c19
noncomputable abbrev trellisref15_Forest_c22 : Code := Code.fst trellisref15_Forest_c20
noncomputable abbrev trellisref15_Forest_c23 : Code := Code.snd trellisref15_Forest_c20
noncomputable abbrev trellisref15_Forest_c24 : Code := Code.fst trellisref15_Forest_c23
noncomputable abbrev trellisref15_Forest_c25 : Code := Code.snd trellisref15_Forest_c23
noncomputable abbrev trellisref15_Forest_c26 : Code := Code.fst trellisref15_Forest_c21
noncomputable abbrev trellisref15_Forest_c27 : Code := Code.snd trellisref15_Forest_c21
noncomputable abbrev trellisref15_Forest_c28 : Code := Code.fst trellisref15_Forest_c24
noncomputable abbrev trellisref15_Forest_c29 : Code := Code.snd trellisref15_Forest_c24
noncomputable abbrev trellisref15_Forest_c30 : Code := Code.fst trellisref15_Forest_c8
noncomputable abbrev trellisref15_Forest_c31 : Code := Code.snd trellisref15_Forest_c8
abbrev trellisref15_Forest_R (w : World) (F : Nat → Prop) (r : (List trellisref15_Tree) × Bool) : Ending → World → Prop := fun e w' => ∃ A0 : Option Addr, ∃ n0 : Nat, ∃ c0 : Nat, ∃ cs0 : List Value, e = .returned (.tuple #[.slice A0 n0 c0, .bool r.2]) ∧ B.Loc w w' [.own (.slice A0 n0 c0) 96 9 n0 cs0] [St w []] ∧ Ow w.heap.size A0 n0 c0 r.1 ∧ Cells k_trellisref15_Tree w' (Nw w w' F [.own (.slice A0 n0 c0) 96 9 n0 cs0]) r.1 cs0
noncomputable abbrev trellisref15_Forest_C (w : World) (F : Nat → Prop) (r : (List trellisref15_Tree) × Bool) : Cx := ⟨Try.prog, 47, Try.f47, 28, trellisref15_Forest_R w F  r, w⟩
theorem trellisref15_Forest_calls (w : World) (F : Nat → Prop) (x1 : List api_Node) (A2 : Option Addr) (n3 : Nat) (c4 : Nat) (h5 : Rw k_api_Node w (St w []).av A2 n3 c4 x1) (hF : ∀ b, F b → b < w.heap.size ∧ ∀ o ∈ ([] : List (List Nat)), b ∉ o) (hL0 : B.Loc w w [] [Sm w.heap.size F w [], St w []]) (r : (List trellisref15_Tree) × Bool) (h : trellisref15_Forest x1 r) : Calls Try.prog 47 #[.slice A2 n3 c4] w (trellisref15_Forest_R w F  r) := by
  unfold trellisref15_Forest at h
  refine calls_of_Loc (vs := [.slice A2 n3 c4]) 28 Try.func47 rfl Try.ntmps47 rfl hL0 ?_
  show G (trellisref15_Forest_C w F r) _ _ _ _
  refine g_seq (c := trellisref15_Forest_c0) rfl ?_
  refine g_region (c := trellisref15_Forest_c1) rfl rfl ?_
  refine wl_v 0 rfl (v_assign rfl) gn rfl ?_
  refine wl_v 1 rfl (v_assign rfl) gn rfl ?_
  refine w_end 2 rfl ?_
  refine g_seq (c := trellisref15_Forest_c2) rfl ?_
  refine g_region (c := trellisref15_Forest_c3) rfl rfl ?_
  refine wl_v 0 rfl (v_assign rfl) gn rfl ?_
  refine w_end 1 rfl ?_
  refine g_seq (c := trellisref15_Forest_c4) rfl ?_
  refine g_region (c := trellisref15_Forest_c5) rfl rfl ?_
  refine wl_v 0 rfl (v_assign rfl) gn rfl ?_
  refine w_end 1 rfl ?_
  refine g_seq (c := trellisref15_Forest_c6) rfl ?_
  refine g_block (c := trellisref15_Forest_c7) rfl ?_
  refine g_loop (c := trellisref15_Forest_c9) rfl ?_
  have key1 : ∀ s, Rounds (fun (s : (List trellisref15_Tree) × Int) o => trellisref15_Forest_b1 x1 s.1 s.2 o) s r → (fun (s : (List trellisref15_Tree) × Int) => ∀ (A49 : Option Addr) (n50 : Nat) (c51 : Nat) (h52 : Ow w.heap.size A49 n50 c51 s.1) (cs53 : List Value) (sw54 : World) (sb55 : List (List Nat)) (hC56 : Cells k_trellisref15_Tree (Sm w.heap.size F sw54 sb55).w (Sm w.heap.size F sw54 sb55).av s.1 cs53), G (trellisref15_Forest_C w F r) [.code trellisref15_Forest_c10, .inLoop trellisref15_Forest_c10, .inBlock 0, .code trellisref15_Forest_c8] [(0, .slice A2 n3 c4), (4, .slice A49 n50 c51), (5, .int .i64 s.2)] [.own (.slice A49 n50 c51) 96 9 n50 cs53] [Sm w.heap.size F sw54 sb55, Sm w.heap.size F w [], St w []]) s := by
    intro s hs
    refine Rounds.ind (mot := (fun (s : (List trellisref15_Tree) × Int) => ∀ (A49 : Option Addr) (n50 : Nat) (c51 : Nat) (h52 : Ow w.heap.size A49 n50 c51 s.1) (cs53 : List Value) (sw54 : World) (sb55 : List (List Nat)) (hC56 : Cells k_trellisref15_Tree (Sm w.heap.size F sw54 sb55).w (Sm w.heap.size F sw54 sb55).av s.1 cs53), G (trellisref15_Forest_C w F r) [.code trellisref15_Forest_c10, .inLoop trellisref15_Forest_c10, .inBlock 0, .code trellisref15_Forest_c8] [(0, .slice A2 n3 c4), (4, .slice A49 n50 c51), (5, .int .i64 s.2)] [.own (.slice A49 n50 c51) 96 9 n50 cs53] [Sm w.heap.size F sw54 sb55, Sm w.heap.size F w [], St w []])) ?_ hs
    clear hs s
    intro s o1 h hO1
    obtain ⟨x48, x57⟩ := s
    show ∀ (A49 : Option Addr) (n50 : Nat) (c51 : Nat) (h52 : Ow w.heap.size A49 n50 c51 x48) (cs53 : List Value) (sw54 : World) (sb55 : List (List Nat)) (hC56 : Cells k_trellisref15_Tree (Sm w.heap.size F sw54 sb55).w (Sm w.heap.size F sw54 sb55).av x48 cs53), G (trellisref15_Forest_C w F r) [.code trellisref15_Forest_c10, .inLoop trellisref15_Forest_c10, .inBlock 0, .code trellisref15_Forest_c8] [(0, .slice A2 n3 c4), (4, .slice A49 n50 c51), (5, .int .i64 x57)] [.own (.slice A49 n50 c51) 96 9 n50 cs53] [Sm w.heap.size F sw54 sb55, Sm w.heap.size F w [], St w []]
    intro A49 n50 c51 h52 cs53 sw54 sb55 hC56
    have h : trellisref15_Forest_b1 x1 x48 x57 o1 := h
    unfold trellisref15_Forest_b1 at h
    refine g_seq (c := trellisref15_Forest_c10) rfl ?_
    refine g_seq (c := trellisref15_Forest_c11) rfl ?_
    refine g_region (c := trellisref15_Forest_c13) rfl rfl ?_
    refine wl_v 0 rfl (v_move rfl) gn rfl ?_
    refine wl_v 1 rfl (v_move rfl) gn rfl ?_
    refine wl_v 2 rfl (v_lenQ un_22 rfl h5.hq) gn rfl ?_
    refine wl_v 3 rfl (v_bin rfl rfl rfl) gn rfl ?_
    refine w_end 4 rfl ?_
    by_cases hp98 : x57 < (x1.length : Int)
    · have h := if_pos' hp98 h
      refine g_true (c := trellisref15_Forest_c14) rfl _ rfl ((decide_eq_true hp98)) ?_
      refine g_skip (c := trellisref15_Forest_c15) rfl ?_
      refine g_block (c := trellisref15_Forest_c12) rfl ?_
      refine g_seq (c := trellisref15_Forest_c17) rfl ?_
      refine g_region (c := trellisref15_Forest_c18) rfl rfl ?_
      refine wl_v 0 rfl (v_move rfl) gn rfl ?_
      refine wl_v 1 rfl (v_move rfl) gn rfl ?_
      obtain ⟨r102, hv103, h⟩ := h
      refine wl_s 2 rfl (s_call [.slice A2 n3 c4, .int .i64 x57] rfl Try.func67 rfl rfl rfl fun w99 hL100 => ?_) gn
      have hp101 : List.Perm ([.own (.slice A49 n50 c51) 96 9 n50 cs53] : List Ent) (([] : List Ent) ++ ([.own (.slice A49 n50 c51) 96 9 n50 cs53] : List Ent)) := perm_of_idx [] [0] rfl rfl (by kernel_rfl)
      refine Calls.mono (trellisref15_take_calls w99 (Fl ([] : List Snap)) x1 x57 A2 n3 c4 (Rw.mono h5 (hL100.toSt hp101 (me 2 rfl))) (hL100.hFl (Sl := ([] : List Snap)) hp101 (sels [] rfl)) (hL100.into hp101 (Fl ([] : List Snap))) r102 hv103) ?_
      rintro _ w111 ⟨A104, n105, c106, cs109, rfl, hM112, h107, hC110⟩
      obtain ⟨sb115, hL113, hv114⟩ := hL100.callB (Sl := ([] : List Snap)) hp101 hM112 F (sels [] rfl) trivial
      have hC110 : Cells k_trellisref15_Tree (Sm w.heap.size F w111 sb115).w (Sm w.heap.size F w111 sb115).av r102.1.kids cs109 := Cells.mono hv114 hC110
      refine ⟨_, _, _, rfl, hL113, ?_⟩
      refine wl_v 3 rfl (v_move rfl) gn rfl ?_
      refine wl_v 4 rfl (v_extract rfl rfl) gn rfl ?_
      refine wl_v 5 rfl (v_extract rfl rfl) gn rfl ?_
      refine wl_v 6 rfl (v_extract rfl rfl) gn rfl ?_
      refine wl_s 7 rfl (s_alloc [.string (⟨#[]⟩ : ByteArray), .bool false, .string (⟨#[]⟩ : ByteArray), .int .i64 0, .int .i64 0, .int .i64 0, .int .i64 0, .slice none 0 0, .int .i64 0] zr_96 rfl fun gb116 => ?_) gn
      refine wl_s 8 rfl (s_stB (vs := [.string r102.1.node.name, .bool r102.1.node.named, .string r102.1.node.field, .int .i64 r102.1.node.from_, .int .i64 r102.1.node.to, .int .i64 r102.1.node.kids, .int .i64 r102.1.node.leaf, .slice A104 n105 c106, .int .i64 r102.1.at_]) (cs' := [.string r102.1.node.name, .bool r102.1.node.named, .string r102.1.node.field, .int .i64 r102.1.node.from_, .int .i64 r102.1.node.to, .int .i64 r102.1.node.kids, .int .i64 r102.1.node.leaf, .slice A104 n105 c106, .int .i64 r102.1.at_]) (M' := [.box gb116 96 [.string r102.1.node.name, .bool r102.1.node.named, .string r102.1.node.field, .int .i64 r102.1.node.from_, .int .i64 r102.1.node.to, .int .i64 r102.1.node.kids, .int .i64 r102.1.node.leaf, .slice A104 n105 c106, .int .i64 r102.1.at_], .own (.slice A104 n105 c106) 96 9 n105 cs109, .own (.slice A49 n50 c51) 96 9 n50 cs53]) 0 sz_96 rfl rfl rfl rfl rfl rfl rfl rfl rfl ?_) gn
      refine wl_v 9 rfl (v_assign rfl) gn rfl ?_
      refine wl_v 10 rfl (v_assign rfl) gn rfl ?_
      refine w_end 11 rfl ?_
      refine g_seq (c := trellisref15_Forest_c19) rfl ?_
      refine g_seq (c := trellisref15_Forest_c20) rfl ?_
      refine g_region (c := trellisref15_Forest_c22) rfl rfl ?_
      refine wl_v 0 rfl (v_move rfl) gn rfl ?_
      refine wl_v 1 rfl (v_not rfl) gn rfl ?_
      refine w_end 2 rfl ?_
      by_cases hp118 : r102.2.2 = true
      · have h := if_pos' hp118 h
        refine g_false (c := trellisref15_Forest_c23) rfl _ rfl ((nf hp118)) ?_
        refine g_skip (c := trellisref15_Forest_c25) rfl ?_
        refine g_seq (c := trellisref15_Forest_c21) rfl ?_
        refine g_region (c := trellisref15_Forest_c26) rfl rfl ?_
        refine wl_v 0 rfl (v_move rfl) gn rfl ?_
        refine wl_v 1 rfl (v_ldB [.string r102.1.node.name, .bool r102.1.node.named, .string r102.1.node.field, .int .i64 r102.1.node.from_, .int .i64 r102.1.node.to, .int .i64 r102.1.node.kids, .int .i64 r102.1.node.leaf, .slice A104 n105 c106, .int .i64 r102.1.at_] 0 ld_96 rfl rfl rfl rfl) gn rfl ?_
        refine w_freeze (F := F) (dk := k_trellisref15_Tree) (Sm w.heap.size F w111 sb115) 1 rfl (Ow.weak hL100.env.size h107) (me 0 rfl) Sm.ok hC110 fun sw120 sb121 h119 => ?_
        have hC123 : Cells k_trellisref15_Tree (Sm w.heap.size F sw120 sb121).w (Sm w.heap.size F sw120 sb121).av ([r102.1] : List trellisref15_Tree) [.string r102.1.node.name, .bool r102.1.node.named, .string r102.1.node.field, .int .i64 r102.1.node.from_, .int .i64 r102.1.node.to, .int .i64 r102.1.node.kids, .int .i64 r102.1.node.leaf, .slice A104 n105 c106, .int .i64 r102.1.at_] := (Cells.cons (c1 := [.string r102.1.node.name, .bool r102.1.node.named, .string r102.1.node.field, .int .i64 r102.1.node.from_, .int .i64 r102.1.node.to, .int .i64 r102.1.node.kids, .int .i64 r102.1.node.leaf, .slice A104 n105 c106, .int .i64 r102.1.at_]) (k_trellisref15_Tree_in ⟨A104, n105, c106, rfl, h119⟩) Cells.nil)
        refine wl_s 2 rfl (s_litO (xs := ([r102.1] : List trellisref15_Tree)) [.string r102.1.node.name, .bool r102.1.node.named, .string r102.1.node.field, .int .i64 r102.1.node.from_, .int .i64 r102.1.node.to, .int .i64 r102.1.node.kids, .int .i64 r102.1.node.leaf, .slice A104 n105 c106, .int .i64 r102.1.at_] bs_89_1 rfl (by kernel_rfl) rfl rfl rfl rfl fun gb124 h125 => ?_) gn
        obtain ⟨x132, hv133, h⟩ := h
        obtain ⟨hb134, h⟩ := h
        refine w_mark (F := F) fun sw129 sb130 ho131 => ?_
        obtain ⟨cs135, hc136⟩ : ∃ x : List Value, x = cs53 ++ [.string r102.1.node.name, .bool r102.1.node.named, .string r102.1.node.field, .int .i64 r102.1.node.from_, .int .i64 r102.1.node.to, .int .i64 r102.1.node.kids, .int .i64 r102.1.node.leaf, .slice A104 n105 c106, .int .i64 r102.1.at_] := ⟨_, rfl⟩
        have hC137 : Cells k_trellisref15_Tree (Sm w.heap.size F sw129 sb130).w (Sm w.heap.size F sw129 sb130).av x132 cs135 := by rw [hv133, hc136]; exact Cells.app (Cells.older (s := Sm w.heap.size F sw54 sb55) hC56 (ho131 _ (me 2 rfl) Sm.ok)) (Cells.older (s := Sm w.heap.size F sw120 sb121) hC123 (ho131 _ (me 0 rfl) Sm.ok))
        refine wl_s 3 rfl (s_app (zs := x132) 2 ap_89 rfl rfl rfl h52 (Nat.le_refl _) (Src.ownAll 0 rfl h125 hC123) hc136.symm (app_len hv133 h125.hq) hb134 rfl rfl fun A126 c127 h128 => ?_) gn
        refine wl_v 4 rfl (v_assign rfl) gn rfl ?_
        refine w_end 5 rfl ?_
        refine g_region (c := trellisref15_Forest_c27) rfl rfl ?_
        refine wl_v 0 rfl (v_move rfl) gn rfl ?_
        refine wl_v 1 rfl (v_assign rfl) gn rfl ?_
        refine w_end 2 rfl ?_
        refine g_inBlock ?_
        refine g_inLoop ?_
        have ih := Out.inl hO1 h
        exact g_go [0, 4, 5] (ih A126 (n50 + 1) c127 h128 cs135 sw129 sb130 hC137) ⟨rfl, rfl, rfl, trivial⟩ (.cons _ (.cons _ (.cons_cons _ (.slnil)))) rfl
      · have h := if_neg' hp118 h
        refine g_true (c := trellisref15_Forest_c23) rfl _ rfl ((nt (bf hp118))) ?_
        refine g_seq (c := trellisref15_Forest_c24) rfl ?_
        refine g_region (c := trellisref15_Forest_c28) rfl rfl ?_
        refine wl_v 0 rfl (v_assign rfl) gn rfl ?_
        refine wl_v 1 rfl (v_assign rfl) gn rfl ?_
        refine w_end 2 rfl ?_
        refine g_nil 96 9 ?_
        have h := Out.inr hO1 h
        refine g_retR (c := trellisref15_Forest_c29) [.slice none 0 0, .bool false] rfl Try.func47 rfl (.tmp rfl (.tmp rfl (.nil))) fun wr hLr => ?_
        have hMr : B.Loc w wr [.own (.slice none 0 0) 96 9 0 []] [St w []] := hLr.pick (rest := [.box gb116 96 [.string r102.1.node.name, .bool r102.1.node.named, .string r102.1.node.field, .int .i64 r102.1.node.from_, .int .i64 r102.1.node.to, .int .i64 r102.1.node.kids, .int .i64 r102.1.node.leaf, .slice A104 n105 c106, .int .i64 r102.1.at_], .own (.slice A104 n105 c106) 96 9 n105 cs109, .own (.slice A49 n50 c51) 96 9 n50 cs53]) (perm_of_idx [0] [1, 2, 3] rfl rfl (by kernel_rfl)) (sels [3] rfl)
        have hMi : ∀ e ∈ ([.own (.slice none 0 0) 96 9 0 []] : List Ent), e ∈ ([.own (.slice none 0 0) 96 9 0 [], .box gb116 96 [.string r102.1.node.name, .bool r102.1.node.named, .string r102.1.node.field, .int .i64 r102.1.node.from_, .int .i64 r102.1.node.to, .int .i64 r102.1.node.kids, .int .i64 r102.1.node.leaf, .slice A104 n105 c106, .int .i64 r102.1.at_], .own (.slice A104 n105 c106) 96 9 n105 cs109, .own (.slice A49 n50 c51) 96 9 n50 cs53] : List Ent) := sels [0] rfl
        show trellisref15_Forest_R w F  r (.returned (packV [.slice none 0 0, .bool false])) wr
        rw [h]
        exact ⟨none, 0, 0, [], rfl, hMr, (Ow.nil (z := w.heap.size)), (hLr.outC (s := Sm w.heap.size F w []) hMi (me 2 rfl) Sm.ok Cells.nil)⟩
    · have h := if_neg' hp98 h
      refine g_false (c := trellisref15_Forest_c14) rfl _ rfl ((decide_eq_false hp98)) ?_
      refine g_exit (c := trellisref15_Forest_c16) [.code trellisref15_Forest_c8] rfl rfl ?_
      refine g_seq (c := trellisref15_Forest_c8) rfl ?_
      refine g_region (c := trellisref15_Forest_c30) rfl rfl ?_
      refine wl_v 0 rfl (v_move rfl) gn rfl ?_
      refine wl_v 1 rfl (v_assign rfl) gn rfl ?_
      refine wl_v 2 rfl (v_assign rfl) gn rfl ?_
      refine w_end 3 rfl ?_
      have h := Out.inr hO1 h
      refine g_retR (c := trellisref15_Forest_c31) [.slice A49 n50 c51, .bool true] rfl Try.func47 rfl (.tmp rfl (.tmp rfl (.nil))) fun wr hLr => ?_
      have hMr : B.Loc w wr [.own (.slice A49 n50 c51) 96 9 n50 cs53] [St w []] := hLr.pick (rest := []) (perm_of_idx [0] [] rfl rfl (by kernel_rfl)) (sels [2] rfl)
      have hMi : ∀ e ∈ ([.own (.slice A49 n50 c51) 96 9 n50 cs53] : List Ent), e ∈ ([.own (.slice A49 n50 c51) 96 9 n50 cs53] : List Ent) := sels [0] rfl
      show trellisref15_Forest_R w F  r (.returned (packV [.slice A49 n50 c51, .bool true])) wr
      rw [h]
      exact ⟨A49, n50, c51, cs53, rfl, hMr, h52, (hLr.outC (s := Sm w.heap.size F sw54 sb55) hMi (me 0 rfl) Sm.ok hC56)⟩
  refine g_nil 96 9 ?_
  exact g_go [0, 0, 1] (key1 _ h none 0 0 (Ow.nil (z := w.heap.size)) [] w [] Cells.nil) ⟨rfl, rfl, rfl, trivial⟩ (.cons_cons _ (.slnil)) rfl
noncomputable abbrev trellisref15_Same_c0 : Code := bodyOf Try.f27
noncomputable abbrev trellisref15_Same_c1 : Code := Code.fst trellisref15_Same_c0
noncomputable abbrev trellisref15_Same_c2 : Code := Code.snd trellisref15_Same_c0
noncomputable abbrev trellisref15_Same_c3 : Code := Code.fst trellisref15_Same_c2
noncomputable abbrev trellisref15_Same_c4 : Code := Code.snd trellisref15_Same_c2
noncomputable abbrev trellisref15_Same_c5 : Code := Code.fst trellisref15_Same_c3
noncomputable abbrev trellisref15_Same_c6 : Code := Code.snd trellisref15_Same_c3
noncomputable abbrev trellisref15_Same_c7 : Code := Code.fst trellisref15_Same_c6
noncomputable abbrev trellisref15_Same_c8 : Code := Code.snd trellisref15_Same_c6
noncomputable abbrev trellisref15_Same_c9 : Code := Code.fst trellisref15_Same_c4
noncomputable abbrev trellisref15_Same_c10 : Code := Code.snd trellisref15_Same_c4
noncomputable abbrev trellisref15_Same_c11 : Code := Code.fst trellisref15_Same_c9
noncomputable abbrev trellisref15_Same_c12 : Code := Code.snd trellisref15_Same_c9
noncomputable abbrev trellisref15_Same_c13 : Code := Code.fst trellisref15_Same_c12
noncomputable abbrev trellisref15_Same_c14 : Code := Code.fst trellisref15_Same_c13
noncomputable abbrev trellisref15_Same_c15 : Code := Code.fst trellisref15_Same_c14
noncomputable abbrev trellisref15_Same_c16 : Code := Code.snd trellisref15_Same_c14
noncomputable abbrev trellisref15_Same_c17 : Code := Code.fst trellisref15_Same_c15
noncomputable abbrev trellisref15_Same_c18 : Code := Code.snd trellisref15_Same_c15
noncomputable abbrev trellisref15_Same_c19 : Code := Code.fst trellisref15_Same_c18
noncomputable abbrev trellisref15_Same_c20 : Code := Code.snd trellisref15_Same_c18
noncomputable abbrev trellisref15_Same_c21 : Code := Code.fst trellisref15_Same_c16
noncomputable abbrev trellisref15_Same_c22 : Code := Code.snd trellisref15_Same_c16
noncomputable abbrev trellisref15_Same_c23 : Code := Code.fst trellisref15_Same_c21
noncomputable abbrev trellisref15_Same_c24 : Code := Code.fst trellisref15_Same_c23
noncomputable abbrev trellisref15_Same_c25 : Code := Code.snd trellisref15_Same_c23
noncomputable abbrev trellisref15_Same_c26 : Code := Code.fst trellisref15_Same_c25
noncomputable abbrev trellisref15_Same_c27 : Code := Code.snd trellisref15_Same_c25
noncomputable abbrev trellisref15_Same_c28 : Code := Code.fst trellisref15_Same_c26
noncomputable abbrev trellisref15_Same_c29 : Code := Code.snd trellisref15_Same_c26
noncomputable abbrev trellisref15_Same_c30 : Code := Code.fst trellisref15_Same_c10
noncomputable abbrev trellisref15_Same_c31 : Code := Code.snd trellisref15_Same_c10
noncomputable abbrev trellisref15_Same_c32 : Code := Code.fst trellisref15_Same_c7
noncomputable abbrev trellisref15_Same_c33 : Code := Code.snd trellisref15_Same_c7
abbrev trellisref15_Same_R (w : World) (F : Nat → Prop) (r : Bool) : Ending → World → Prop := fun e w' => e = .returned (.bool r) ∧ B.Loc w w' [] [St w []]
noncomputable abbrev trellisref15_Same_C (w : World) (F : Nat → Prop) (r : Bool) : Cx := ⟨Try.prog, 27, Try.f27, 26, trellisref15_Same_R w F  r, w⟩
theorem trellisref15_Same_calls (w : World) (F : Nat → Prop) (x1 : List api_Node) (x6 : List api_Node) (A2 : Option Addr) (n3 : Nat) (c4 : Nat) (A7 : Option Addr) (n8 : Nat) (c9 : Nat) (h5 : Rw k_api_Node w (St w []).av A2 n3 c4 x1) (h10 : Rw k_api_Node w (St w []).av A7 n8 c9 x6) (hF : ∀ b, F b → b < w.heap.size ∧ ∀ o ∈ ([] : List (List Nat)), b ∉ o) (hL0 : B.Loc w w [] [Sm w.heap.size F w [], St w []]) (r : Bool) (h : trellisref15_Same x1 x6 r) : Calls Try.prog 27 #[.slice A2 n3 c4, .slice A7 n8 c9] w (trellisref15_Same_R w F  r) := by
  unfold trellisref15_Same at h
  refine calls_of_Loc (vs := [.slice A2 n3 c4, .slice A7 n8 c9]) 26 Try.func27 rfl Try.ntmps27 rfl hL0 ?_
  show G (trellisref15_Same_C w F r) _ _ _ _
  refine g_seq (c := trellisref15_Same_c0) rfl ?_
  refine g_region (c := trellisref15_Same_c1) rfl rfl ?_
  refine wl_v 0 rfl (v_assign rfl) gn rfl ?_
  refine w_end 1 rfl ?_
  refine g_seq (c := trellisref15_Same_c2) rfl ?_
  refine g_seq (c := trellisref15_Same_c3) rfl ?_
  refine g_region (c := trellisref15_Same_c5) rfl rfl ?_
  refine wl_v 0 rfl (v_move rfl) gn rfl ?_
  refine wl_v 1 rfl (v_lenQ un_22 rfl h5.hq) gn rfl ?_
  refine wl_v 2 rfl (v_move rfl) gn rfl ?_
  refine wl_v 3 rfl (v_lenQ un_22 rfl h10.hq) gn rfl ?_
  refine wl_v 4 rfl (v_bin rfl rfl rfl) gn rfl ?_
  refine w_end 5 rfl ?_
  by_cases hp11 : (x1.length : Int) = (x6.length : Int)
  · have h := if_pos' hp11 h
    refine g_false (c := trellisref15_Same_c6) rfl _ rfl ((eqib hp11)) ?_
    refine g_skip (c := trellisref15_Same_c8) rfl ?_
    refine g_seq (c := trellisref15_Same_c4) rfl ?_
    refine g_seq (c := trellisref15_Same_c9) rfl ?_
    refine g_region (c := trellisref15_Same_c11) rfl rfl ?_
    refine wl_v 0 rfl (v_assign rfl) gn rfl ?_
    refine w_end 1 rfl ?_
    refine g_block (c := trellisref15_Same_c12) rfl ?_
    refine g_loop (c := trellisref15_Same_c13) rfl ?_
    have key1 : ∀ s, Rounds (fun (s : Int) o => trellisref15_Same_b1 x1 x6 s o) s r → (fun (s : Int) => ∀ (_ : Unit), G (trellisref15_Same_C w F r) [.code trellisref15_Same_c14, .inLoop trellisref15_Same_c14, .inBlock 0, .code trellisref15_Same_c10] [(0, .slice A2 n3 c4), (1, .slice A7 n8 c9), (5, .int .i64 s)] [] [Sm w.heap.size F w [], St w []]) s := by
      intro s hs
      refine Rounds.ind (mot := (fun (s : Int) => ∀ (_ : Unit), G (trellisref15_Same_C w F r) [.code trellisref15_Same_c14, .inLoop trellisref15_Same_c14, .inBlock 0, .code trellisref15_Same_c10] [(0, .slice A2 n3 c4), (1, .slice A7 n8 c9), (5, .int .i64 s)] [] [Sm w.heap.size F w [], St w []])) ?_ hs
      clear hs s
      intro x23 o1 h hO1
      show ∀ (_ : Unit), G (trellisref15_Same_C w F r) [.code trellisref15_Same_c14, .inLoop trellisref15_Same_c14, .inBlock 0, .code trellisref15_Same_c10] [(0, .slice A2 n3 c4), (1, .slice A7 n8 c9), (5, .int .i64 x23)] [] [Sm w.heap.size F w [], St w []]
      intro _
      have h : trellisref15_Same_b1 x1 x6 x23 o1 := h
      unfold trellisref15_Same_b1 at h
      refine g_seq (c := trellisref15_Same_c14) rfl ?_
      refine g_seq (c := trellisref15_Same_c15) rfl ?_
      refine g_region (c := trellisref15_Same_c17) rfl rfl ?_
      refine wl_v 0 rfl (v_move rfl) gn rfl ?_
      refine wl_v 1 rfl (v_move rfl) gn rfl ?_
      refine wl_v 2 rfl (v_lenQ un_22 rfl h5.hq) gn rfl ?_
      refine wl_v 3 rfl (v_bin rfl rfl rfl) gn rfl ?_
      refine w_end 4 rfl ?_
      by_cases hp34 : x23 < (x1.length : Int)
      · have h := if_pos' hp34 h
        refine g_true (c := trellisref15_Same_c18) rfl _ rfl ((decide_eq_true hp34)) ?_
        refine g_skip (c := trellisref15_Same_c19) rfl ?_
        refine g_seq (c := trellisref15_Same_c16) rfl ?_
        refine g_block (c := trellisref15_Same_c21) rfl ?_
        refine g_seq (c := trellisref15_Same_c23) rfl ?_
        obtain ⟨hb35, h⟩ := h
        obtain ⟨hb37, h⟩ := h
        have hns : Region.noSelect (Code.ops trellisref15_Same_c24) = true := by kernel_rfl
        refine g_drawF (c := trellisref15_Same_c24) [] [Sm w.heap.size F w [], St w []] [] 9 rfl rfl mix rfl (.slnil) (sels [0, 1] rfl) ?_
        refine wf_v 0 rfl (v_move rfl) gn rfl hns (by kernel_rfl) (by kernel_rfl) rfl rfl ?_
        refine wf_v 1 rfl (v_move rfl) gn rfl hns (by kernel_rfl) (by kernel_rfl) rfl rfl ?_
        have hr41 := Rw.readF (s := St w []) (hl := hl_api_Node) (h1 := h1_api_Node) h5 hb35
        refine wf_v 2 rfl (v_idxR (s := St w []) slE_22 rfl rfl h5 hb35) gn rfl hns (by kernel_rfl) (by kernel_rfl) rfl rfl ?_
        refine wf_v 3 rfl (v_ldA (St w []) ld_39 rfl hr41 rfl (me 1 rfl)) gn rfl hns (by kernel_rfl) (by kernel_rfl) rfl rfl ?_
        refine wf_v 4 rfl (v_move rfl) gn rfl hns (by kernel_rfl) (by kernel_rfl) rfl rfl ?_
        refine wf_v 5 rfl (v_move rfl) gn rfl hns (by kernel_rfl) (by kernel_rfl) rfl rfl ?_
        have hr42 := Rw.readF (s := St w []) (hl := hl_api_Node) (h1 := h1_api_Node) h10 hb37
        refine wf_v 6 rfl (v_idxR (s := St w []) slE_22 rfl rfl h10 hb37) gn rfl hns (by kernel_rfl) (by kernel_rfl) rfl rfl ?_
        refine wf_v 7 rfl (v_ldA (St w []) ld_39 rfl hr42 rfl (me 1 rfl)) gn rfl hns (by kernel_rfl) (by kernel_rfl) rfl rfl ?_
        refine wf_v 8 rfl (v_neSt eq_39 rfl rfl (eqd_api_Node (ix x1 x23) (ix x6 x23))) gn rfl hns (by kernel_rfl) (by kernel_rfl) rfl rfl ?_
        refine wf_end (by kernel_rfl) ?_
        by_cases hp43 : ix x1 x23 = ix x6 x23
        · have h := if_pos' hp43 h
          refine g_false (c := trellisref15_Same_c25) rfl _ rfl ((nf (decide_eq_true hp43))) ?_
          refine g_skip (c := trellisref15_Same_c27) rfl ?_
          refine g_inBlock ?_
          refine g_region (c := trellisref15_Same_c22) rfl rfl ?_
          refine wl_v 0 rfl (v_move rfl) gn rfl ?_
          refine wl_v 1 rfl (v_bin rfl rfl rfl) gn rfl ?_
          refine wl_v 2 rfl (v_assign rfl) gn rfl ?_
          refine w_end 3 rfl ?_
          refine g_inLoop ?_
          have ih := Out.inl hO1 h
          exact g_go [0, 1] (ih ()) ⟨rfl, rfl, rfl, trivial⟩ (.slnil) rfl
        · have h := if_neg' hp43 h
          refine g_true (c := trellisref15_Same_c25) rfl _ rfl ((nt (decide_eq_false hp43))) ?_
          refine g_seq (c := trellisref15_Same_c26) rfl ?_
          refine g_region (c := trellisref15_Same_c28) rfl rfl ?_
          refine wl_v 0 rfl (v_assign rfl) gn rfl ?_
          refine w_end 1 rfl ?_
          have h := Out.inr hO1 h
          refine g_retR (c := trellisref15_Same_c29) [.bool false] rfl Try.func27 rfl (.tmp rfl (.nil)) fun wr hLr => ?_
          have hMr : B.Loc w wr [] [St w []] := hLr.pick (rest := []) (perm_of_idx [] [] rfl rfl (by kernel_rfl)) (sels [1] rfl)
          have hMi : ∀ e ∈ ([] : List Ent), e ∈ ([] : List Ent) := sels [] rfl
          show trellisref15_Same_R w F  r (.returned (packV [.bool false])) wr
          rw [h]
          exact ⟨rfl, hMr⟩
      · have h := if_neg' hp34 h
        refine g_false (c := trellisref15_Same_c18) rfl _ rfl ((decide_eq_false hp34)) ?_
        refine g_exit (c := trellisref15_Same_c20) [.code trellisref15_Same_c10] rfl rfl ?_
        refine g_seq (c := trellisref15_Same_c10) rfl ?_
        refine g_region (c := trellisref15_Same_c30) rfl rfl ?_
        refine wl_v 0 rfl (v_assign rfl) gn rfl ?_
        refine w_end 1 rfl ?_
        have h := Out.inr hO1 h
        refine g_retR (c := trellisref15_Same_c31) [.bool true] rfl Try.func27 rfl (.tmp rfl (.nil)) fun wr hLr => ?_
        have hMr : B.Loc w wr [] [St w []] := hLr.pick (rest := []) (perm_of_idx [] [] rfl rfl (by kernel_rfl)) (sels [1] rfl)
        have hMi : ∀ e ∈ ([] : List Ent), e ∈ ([] : List Ent) := sels [] rfl
        show trellisref15_Same_R w F  r (.returned (packV [.bool true])) wr
        rw [h]
        exact ⟨rfl, hMr⟩
    exact g_go [0, 1] (key1 _ h ()) ⟨rfl, rfl, rfl, trivial⟩ (.slnil) rfl
  · have h := if_neg' hp11 h
    refine g_true (c := trellisref15_Same_c6) rfl _ rfl ((neib hp11)) ?_
    refine g_seq (c := trellisref15_Same_c7) rfl ?_
    refine g_region (c := trellisref15_Same_c32) rfl rfl ?_
    refine wl_v 0 rfl (v_assign rfl) gn rfl ?_
    refine w_end 1 rfl ?_
    refine g_retR (c := trellisref15_Same_c33) [.bool false] rfl Try.func27 rfl (.tmp rfl (.nil)) fun wr hLr => ?_
    have hMr : B.Loc w wr [] [St w []] := hLr.pick (rest := []) (perm_of_idx [] [] rfl rfl (by kernel_rfl)) (sels [1] rfl)
    have hMi : ∀ e ∈ ([] : List Ent), e ∈ ([] : List Ent) := sels [] rfl
    show trellisref15_Same_R w F  r (.returned (packV [.bool false])) wr
    rw [h]
    exact ⟨rfl, hMr⟩
noncomputable abbrev trellislaw15_stays_c0 : Code := bodyOf Try.f16
noncomputable abbrev trellislaw15_stays_c1 : Code := Code.fst trellislaw15_stays_c0
noncomputable abbrev trellislaw15_stays_c2 : Code := Code.snd trellislaw15_stays_c0
noncomputable abbrev trellislaw15_stays_c3 : Code := Code.fst trellislaw15_stays_c2
noncomputable abbrev trellislaw15_stays_c4 : Code := Code.snd trellislaw15_stays_c2
noncomputable abbrev trellislaw15_stays_c5 : Code := Code.fst trellislaw15_stays_c4
noncomputable abbrev trellislaw15_stays_c6 : Code := Code.snd trellislaw15_stays_c4
noncomputable abbrev trellislaw15_stays_c7 : Code := Code.fst trellislaw15_stays_c6
noncomputable abbrev trellislaw15_stays_c8 : Code := Code.snd trellislaw15_stays_c6
abbrev trellislaw15_stays_R (w : World) (F : Nat → Prop) (r : Bool) : Ending → World → Prop := fun e w' => e = .returned (.bool r) ∧ B.Loc w w' [] [St w []]
noncomputable abbrev trellislaw15_stays_C (w : World) (F : Nat → Prop) (r : Bool) : Cx := ⟨Try.prog, 16, Try.f16, 35, trellislaw15_stays_R w F  r, w⟩
theorem trellislaw15_stays_calls (w : World) (F : Nat → Prop) (x1 : List api_Node) (k6 : Nat) (x9 : List api_Node) (A2 : Option Addr) (n3 : Nat) (c4 : Nat) (A10 : Option Addr) (n11 : Nat) (c12 : Nat) (h5 : Rw k_api_Node w (St w []).av A2 n3 c4 x1) (hk7 : k6 ≤ n3) (h13 : Rw k_api_Node w (St w []).av A10 n11 c12 x9) (hF : ∀ b, F b → b < w.heap.size ∧ ∀ o ∈ ([] : List (List Nat)), b ∉ o) (hL0 : B.Loc w w [] [Sm w.heap.size F w [], St w []]) (r : Bool) (h : trellislaw15_stays x1 k6 x9 r) : Calls Try.prog 16 #[.slice A2 k6 c4, .slice A10 n11 c12] w (trellislaw15_stays_R w F  r) := by
  unfold trellislaw15_stays at h
  have h8 := Rw.pre h5 hk7
  refine calls_of_Loc (vs := [.slice A2 k6 c4, .slice A10 n11 c12]) 35 Try.func16 rfl Try.ntmps16 rfl hL0 ?_
  show G (trellislaw15_stays_C w F r) _ _ _ _
  refine g_seq (c := trellislaw15_stays_c0) rfl ?_
  refine g_region (c := trellislaw15_stays_c1) rfl rfl ?_
  refine wl_v 0 rfl (v_assign rfl) gn rfl ?_
  refine w_end 1 rfl ?_
  refine g_seq (c := trellislaw15_stays_c2) rfl ?_
  refine g_region (c := trellislaw15_stays_c3) rfl rfl ?_
  refine wl_v 0 rfl (v_move rfl) gn rfl ?_
  refine wl_v 1 rfl (v_move rfl) gn rfl ?_
  obtain ⟨r17, hv18, h⟩ := h
  refine wl_s 2 rfl (s_call [.slice A2 k6 c4, .slice A10 n11 c12] rfl Try.func27 rfl rfl rfl fun w14 hL15 => ?_) gn
  have hp16 : List.Perm ([] : List Ent) (([] : List Ent) ++ ([] : List Ent)) := perm_of_idx [] [] rfl rfl (by kernel_rfl)
  refine Calls.mono (trellisref15_Same_calls w14 (Fl ([] : List Snap)) (x1.take k6) x9 A2 k6 c4 A10 n11 c12 (Rw.mono h8 (hL15.toSt hp16 (me 1 rfl))) (Rw.mono h13 (hL15.toSt hp16 (me 1 rfl))) (hL15.hFl (Sl := ([] : List Snap)) hp16 (sels [] rfl)) (hL15.into hp16 (Fl ([] : List Snap))) r17 hv18) ?_
  rintro _ w19 ⟨rfl, hM20⟩
  have hL21 := hL15.call hp16 hM20
  refine ⟨_, _, _, rfl, hL21, ?_⟩
  refine wl_v 3 rfl (v_assign rfl) gn rfl ?_
  refine w_end 4 rfl ?_
  refine g_seq (c := trellislaw15_stays_c4) rfl ?_
  refine g_region (c := trellislaw15_stays_c5) rfl rfl ?_
  refine wl_v 0 rfl (v_move rfl) gn rfl ?_
  refine wl_v 1 rfl (v_move rfl) gn rfl ?_
  refine wl_v 2 rfl (v_lenQ un_22 rfl h13.hq) gn rfl ?_
  refine wl_v 3 rfl (v_bin rfl rfl rfl) gn rfl ?_
  obtain ⟨hb22, h⟩ := h
  have hle23 : (w64 ((x9.length : Int) + 2) : Int).toNat ≤ n3 := by have q := hb22; have q1 := h5.hq; omega
  have h24 := Rw.pre h5 hle23
  refine wl_v 4 rfl (v_cutHi (i := w64 ((x9.length : Int) + 2)) slE_22 rfl rfl (by have q := hb22; have q1 := h5.hq; have q2 := h5.hn; omega) h8.hn rfl) gn rfl ?_
  refine wl_v 5 rfl (v_assign rfl) gn rfl ?_
  refine w_end 6 rfl ?_
  refine g_seq (c := trellislaw15_stays_c6) rfl ?_
  refine g_region (c := trellislaw15_stays_c7) rfl rfl ?_
  refine wl_v 0 rfl (v_move rfl) gn rfl ?_
  refine wl_v 1 rfl (v_move rfl) gn rfl ?_
  by_cases hp25 : r17 = true
  · have h := if_pos' hp25 h
    refine w_bool 16 rfl (hp25) ?_
    refine wl_v 2 rfl (v_move rfl) (gy 16 rfl rfl) rfl ?_
    refine wl_v 3 rfl (v_move rfl) (gy 16 rfl rfl) rfl ?_
    refine wl_v 4 rfl (v_lenQ un_22 rfl h13.hq) (gy 16 rfl rfl) rfl ?_
    obtain ⟨hb26, h⟩ := h
    have hr27 := Rw.readF (s := St w []) (hl := hl_api_Node) (h1 := h1_api_Node) h24 hb26
    refine wl_v 5 rfl (v_idxR (s := St w []) slE_22 rfl rfl h24 hb26) (gy 16 rfl rfl) rfl ?_
    refine wl_v 6 rfl (v_fldA fo_39_5 rfl) (gy 16 rfl rfl) rfl ?_
    refine wl_v 7 rfl (v_ldA1 (kk := ((x9.length : Int) : Int).toNat * 7) (j := 5) (St w []) ld_3 rfl hr27 rfl (me 1 rfl)) (gy 16 rfl rfl) rfl ?_
    refine wl_v 8 rfl (v_bin rfl rfl rfl) (gy 16 rfl rfl) rfl ?_
    refine wl_v 9 rfl (v_pick (b := true) rfl rfl) gn rfl ?_
    refine wl_v 10 rfl (v_move rfl) gn rfl ?_
    by_cases hp28 : (ix (x1.take ((w64 ((x9.length : Int) + 2) : Int).toNat)) (x9.length : Int)).kids = -71
    · have h := if_pos' hp28 h
      refine w_bool 25 rfl ((eqi hp28)) ?_
      refine wl_v 11 rfl (v_move rfl) (gy 25 rfl rfl) rfl ?_
      refine wl_v 12 rfl (v_move rfl) (gy 25 rfl rfl) rfl ?_
      refine wl_v 13 rfl (v_lenQ un_22 rfl h13.hq) (gy 25 rfl rfl) rfl ?_
      refine wl_v 14 rfl (v_bin rfl rfl rfl) (gy 25 rfl rfl) rfl ?_
      obtain ⟨hb29, h⟩ := h
      have hr30 := Rw.readF (s := St w []) (hl := hl_api_Node) (h1 := h1_api_Node) h24 hb29
      refine wl_v 15 rfl (v_idxR (s := St w []) slE_22 rfl rfl h24 hb29) (gy 25 rfl rfl) rfl ?_
      refine wl_v 16 rfl (v_fldA fo_39_5 rfl) (gy 25 rfl rfl) rfl ?_
      refine wl_v 17 rfl (v_ldA1 (kk := (w64 ((x9.length : Int) + 1) : Int).toNat * 7) (j := 5) (St w []) ld_3 rfl hr30 rfl (me 1 rfl)) (gy 25 rfl rfl) rfl ?_
      refine wl_v 18 rfl (v_bin rfl rfl rfl) (gy 25 rfl rfl) rfl ?_
      refine wl_v 19 rfl (v_pick (b := true) rfl rfl) gn rfl ?_
      refine wl_v 20 rfl (v_assign rfl) gn rfl ?_
      refine w_end 21 rfl ?_
      refine g_retR (c := trellislaw15_stays_c8) [.bool (((ix (x1.take ((w64 ((x9.length : Int) + 2) : Int).toNat)) (w64 ((x9.length : Int) + 1))).kids) == (-72))] rfl Try.func16 rfl (.tmp rfl (.nil)) fun wr hLr => ?_
      have hMr : B.Loc w wr [] [St w []] := hLr.pick (rest := []) (perm_of_idx [] [] rfl rfl (by kernel_rfl)) (sels [1] rfl)
      have hMi : ∀ e ∈ ([] : List Ent), e ∈ ([] : List Ent) := sels [] rfl
      show trellislaw15_stays_R w F  r (.returned (packV [.bool (((ix (x1.take ((w64 ((x9.length : Int) + 2) : Int).toNat)) (w64 ((x9.length : Int) + 1))).kids) == (-72))])) wr
      rw [h]
      exact ⟨rfl, hMr⟩
    · have h := if_neg' hp28 h
      refine w_bool 25 rfl ((nei hp28)) ?_
      refine wl_pass 11 rfl (ps 25 rfl rfl rfl) ?_
      refine wl_pass 12 rfl (ps 25 rfl rfl rfl) ?_
      refine wl_pass 13 rfl (ps 25 rfl rfl rfl) ?_
      refine wl_pass 14 rfl (ps 25 rfl rfl rfl) ?_
      refine wl_pass 15 rfl (ps 25 rfl rfl rfl) ?_
      refine wl_pass 16 rfl (ps 25 rfl rfl rfl) ?_
      refine wl_pass 17 rfl (ps 25 rfl rfl rfl) ?_
      refine wl_pass 18 rfl (ps 25 rfl rfl rfl) ?_
      refine wl_v 19 rfl (v_pick (b := false) rfl rfl) gn rfl ?_
      refine wl_v 20 rfl (v_assign rfl) gn rfl ?_
      refine w_end 21 rfl ?_
      refine g_retR (c := trellislaw15_stays_c8) [.bool false] rfl Try.func16 rfl (.tmp rfl (.nil)) fun wr hLr => ?_
      have hMr : B.Loc w wr [] [St w []] := hLr.pick (rest := []) (perm_of_idx [] [] rfl rfl (by kernel_rfl)) (sels [1] rfl)
      have hMi : ∀ e ∈ ([] : List Ent), e ∈ ([] : List Ent) := sels [] rfl
      show trellislaw15_stays_R w F  r (.returned (packV [.bool false])) wr
      rw [h]
      exact ⟨rfl, hMr⟩
  · have h := if_neg' hp25 h
    refine w_bool 16 rfl ((bf hp25)) ?_
    refine wl_pass 2 rfl (ps 16 rfl rfl rfl) ?_
    refine wl_pass 3 rfl (ps 16 rfl rfl rfl) ?_
    refine wl_pass 4 rfl (ps 16 rfl rfl rfl) ?_
    refine wl_pass 5 rfl (ps 16 rfl rfl rfl) ?_
    refine wl_pass 6 rfl (ps 16 rfl rfl rfl) ?_
    refine wl_pass 7 rfl (ps 16 rfl rfl rfl) ?_
    refine wl_pass 8 rfl (ps 16 rfl rfl rfl) ?_
    refine wl_v 9 rfl (v_pick (b := false) rfl rfl) gn rfl ?_
    refine wl_v 10 rfl (v_move rfl) gn rfl ?_
    refine wl_pass 11 rfl (ps 25 rfl rfl rfl) ?_
    refine wl_pass 12 rfl (ps 25 rfl rfl rfl) ?_
    refine wl_pass 13 rfl (ps 25 rfl rfl rfl) ?_
    refine wl_pass 14 rfl (ps 25 rfl rfl rfl) ?_
    refine wl_pass 15 rfl (ps 25 rfl rfl rfl) ?_
    refine wl_pass 16 rfl (ps 25 rfl rfl rfl) ?_
    refine wl_pass 17 rfl (ps 25 rfl rfl rfl) ?_
    refine wl_pass 18 rfl (ps 25 rfl rfl rfl) ?_
    refine wl_v 19 rfl (v_pick (b := false) rfl rfl) gn rfl ?_
    refine wl_v 20 rfl (v_assign rfl) gn rfl ?_
    refine w_end 21 rfl ?_
    refine g_retR (c := trellislaw15_stays_c8) [.bool false] rfl Try.func16 rfl (.tmp rfl (.nil)) fun wr hLr => ?_
    have hMr : B.Loc w wr [] [St w []] := hLr.pick (rest := []) (perm_of_idx [] [] rfl rfl (by kernel_rfl)) (sels [1] rfl)
    have hMi : ∀ e ∈ ([] : List Ent), e ∈ ([] : List Ent) := sels [] rfl
    show trellislaw15_stays_R w F  r (.returned (packV [.bool false])) wr
    rw [h]
    exact ⟨rfl, hMr⟩
end Go.Proofs.Ytmekgfcfooghnaa.K
