/- What the machine's calls do, function by function, printed by my own tool. Condition of each: its relation holds of the answer, and what is handed in lies in memory as told. -/
import Derived.Test.YtmekgfcfooghnaaK0
set_option linter.unusedVariables false
set_option maxRecDepth 100000
set_option maxHeartbeats 4000000
namespace Go.Proofs.Ytmekgfcfooghnaa.K
open Go.Proofs.Ytmekgfcfooghnaa.B Go.Proofs.Ytmekgfcfooghnaa.R Go.RowKit
noncomputable abbrev trellisref15_Beyond_c0 : Code := bodyOf Try.f10
noncomputable abbrev trellisref15_Beyond_c1 : Code := Code.fst trellisref15_Beyond_c0
noncomputable abbrev trellisref15_Beyond_c2 : Code := Code.snd trellisref15_Beyond_c0
noncomputable abbrev trellisref15_Beyond_c3 : Code := Code.fst trellisref15_Beyond_c2
noncomputable abbrev trellisref15_Beyond_c4 : Code := Code.snd trellisref15_Beyond_c2
noncomputable abbrev trellisref15_Beyond_c5 : Code := Code.fst trellisref15_Beyond_c4
noncomputable abbrev trellisref15_Beyond_c6 : Code := Code.snd trellisref15_Beyond_c4
noncomputable abbrev trellisref15_Beyond_c7 : Code := Code.fst trellisref15_Beyond_c5
noncomputable abbrev trellisref15_Beyond_c8 : Code := Code.snd trellisref15_Beyond_c5
noncomputable abbrev trellisref15_Beyond_c9 : Code := Code.fst trellisref15_Beyond_c8
noncomputable abbrev trellisref15_Beyond_c10 : Code := Code.fst trellisref15_Beyond_c9
noncomputable abbrev trellisref15_Beyond_c11 : Code := Code.fst trellisref15_Beyond_c10
noncomputable abbrev trellisref15_Beyond_c12 : Code := Code.snd trellisref15_Beyond_c10
noncomputable abbrev trellisref15_Beyond_c13 : Code := Code.fst trellisref15_Beyond_c11
noncomputable abbrev trellisref15_Beyond_c14 : Code := Code.snd trellisref15_Beyond_c11
noncomputable abbrev trellisref15_Beyond_c15 : Code := Code.fst trellisref15_Beyond_c14
noncomputable abbrev trellisref15_Beyond_c16 : Code := Code.snd trellisref15_Beyond_c14
noncomputable abbrev trellisref15_Beyond_c17 : Code := Code.fst trellisref15_Beyond_c12
noncomputable abbrev trellisref15_Beyond_c18 : Code := Code.snd trellisref15_Beyond_c12
noncomputable abbrev trellisref15_Beyond_c19 : Code := Code.fst trellisref15_Beyond_c17
noncomputable abbrev trellisref15_Beyond_c20 : Code := Code.fst trellisref15_Beyond_c19
noncomputable abbrev trellisref15_Beyond_c21 : Code := Code.snd trellisref15_Beyond_c19
noncomputable abbrev trellisref15_Beyond_c22 : Code := Code.fst trellisref15_Beyond_c20
noncomputable abbrev trellisref15_Beyond_c23 : Code := Code.fst trellisref15_Beyond_c22
noncomputable abbrev trellisref15_Beyond_c24 : Code := Code.fst trellisref15_Beyond_c23
noncomputable abbrev trellisref15_Beyond_c25 : Code := Code.snd trellisref15_Beyond_c23
noncomputable abbrev trellisref15_Beyond_c26 : Code := Code.fst trellisref15_Beyond_c24
noncomputable abbrev trellisref15_Beyond_c27 : Code := Code.snd trellisref15_Beyond_c24
noncomputable abbrev trellisref15_Beyond_c28 : Code := Code.fst trellisref15_Beyond_c27
noncomputable abbrev trellisref15_Beyond_c29 : Code := Code.snd trellisref15_Beyond_c27
noncomputable abbrev trellisref15_Beyond_c30 : Code := Code.fst trellisref15_Beyond_c21
noncomputable abbrev trellisref15_Beyond_c31 : Code := Code.snd trellisref15_Beyond_c21
noncomputable abbrev trellisref15_Beyond_c32 : Code := Code.fst trellisref15_Beyond_c30
noncomputable abbrev trellisref15_Beyond_c33 : Code := Code.snd trellisref15_Beyond_c30
noncomputable abbrev trellisref15_Beyond_c34 : Code := Code.fst trellisref15_Beyond_c33
noncomputable abbrev trellisref15_Beyond_c35 : Code := Code.snd trellisref15_Beyond_c33
noncomputable abbrev trellisref15_Beyond_c36 : Code := Code.fst trellisref15_Beyond_c31
noncomputable abbrev trellisref15_Beyond_c37 : Code := Code.snd trellisref15_Beyond_c31
noncomputable abbrev trellisref15_Beyond_c38 : Code := Code.fst trellisref15_Beyond_c37
noncomputable abbrev trellisref15_Beyond_c39 : Code := Code.snd trellisref15_Beyond_c37
noncomputable abbrev trellisref15_Beyond_c40 : Code := Code.fst trellisref15_Beyond_c39
noncomputable abbrev trellisref15_Beyond_c41 : Code := Code.snd trellisref15_Beyond_c39
noncomputable abbrev trellisref15_Beyond_c42 : Code := Code.fst trellisref15_Beyond_c40
noncomputable abbrev trellisref15_Beyond_c43 : Code := Code.snd trellisref15_Beyond_c40
noncomputable abbrev trellisref15_Beyond_c44 : Code := Code.fst trellisref15_Beyond_c6
noncomputable abbrev trellisref15_Beyond_c45 : Code := Code.snd trellisref15_Beyond_c6
noncomputable abbrev trellisref15_Beyond_c46 : Code := Code.fst trellisref15_Beyond_c25
abbrev trellisref15_Beyond_R (w : World) (F : Nat → Prop) (r : Bool) : Ending → World → Prop := fun e w' => e = .returned (.bool r) ∧ B.Loc w w' [] [St w []]
noncomputable abbrev trellisref15_Beyond_C (w : World) (F : Nat → Prop) (r : Bool) : Cx := ⟨Try.prog, 10, Try.f10, 54, trellisref15_Beyond_R w F  r, w⟩
theorem trellisref15_Beyond_calls (w : World) (F : Nat → Prop) (x1 : List api_Node) (A2 : Option Addr) (n3 : Nat) (c4 : Nat) (h5 : Rw k_api_Node w (St w []).av A2 n3 c4 x1) (hF : ∀ b, F b → b < w.heap.size ∧ ∀ o ∈ ([] : List (List Nat)), b ∉ o) (hL0 : B.Loc w w [] [Sm w.heap.size F w [], St w []]) (r : Bool) (h : trellisref15_Beyond x1 r) : Calls Try.prog 10 #[.slice A2 n3 c4] w (trellisref15_Beyond_R w F  r) := by
  unfold trellisref15_Beyond at h
  refine calls_of_Loc (vs := [.slice A2 n3 c4]) 54 Try.func10 rfl Try.ntmps10 rfl hL0 ?_
  show G (trellisref15_Beyond_C w F r) _ _ _ _
  refine g_seq (c := trellisref15_Beyond_c0) rfl ?_
  refine g_region (c := trellisref15_Beyond_c1) rfl rfl ?_
  refine wl_v 0 rfl (v_assign rfl) gn rfl ?_
  refine w_end 1 rfl ?_
  refine g_seq (c := trellisref15_Beyond_c2) rfl ?_
  refine g_region (c := trellisref15_Beyond_c3) rfl rfl ?_
  refine wl_v 0 rfl (v_assign rfl) gn rfl ?_
  refine w_end 1 rfl ?_
  refine g_seq (c := trellisref15_Beyond_c4) rfl ?_
  refine g_seq (c := trellisref15_Beyond_c5) rfl ?_
  refine g_region (c := trellisref15_Beyond_c7) rfl rfl ?_
  refine wl_v 0 rfl (v_assign rfl) gn rfl ?_
  refine w_end 1 rfl ?_
  refine g_block (c := trellisref15_Beyond_c8) rfl ?_
  refine g_loop (c := trellisref15_Beyond_c9) rfl ?_
  have key1 : ∀ s, Rounds (fun (s : (List Int) × Int) o => trellisref15_Beyond_b1 x1 s.1 s.2 o) s r → (fun (s : (List Int) × Int) => ∀ (A36 : Option Addr) (n37 : Nat) (c38 : Nat) (h39 : Ow w.heap.size A36 n37 c38 s.1), G (trellisref15_Beyond_C w F r) [.code trellisref15_Beyond_c10, .inLoop trellisref15_Beyond_c10, .inBlock 0, .code trellisref15_Beyond_c6] [(0, .slice A2 n3 c4), (3, .slice A36 n37 c38), (4, .int .i64 s.2)] [.own (.slice A36 n37 c38) 3 1 n37 (s.1.flatMap (eI .i64))] [Sm w.heap.size F w [], St w []]) s := by
    intro s hs
    refine Rounds.ind (mot := (fun (s : (List Int) × Int) => ∀ (A36 : Option Addr) (n37 : Nat) (c38 : Nat) (h39 : Ow w.heap.size A36 n37 c38 s.1), G (trellisref15_Beyond_C w F r) [.code trellisref15_Beyond_c10, .inLoop trellisref15_Beyond_c10, .inBlock 0, .code trellisref15_Beyond_c6] [(0, .slice A2 n3 c4), (3, .slice A36 n37 c38), (4, .int .i64 s.2)] [.own (.slice A36 n37 c38) 3 1 n37 (s.1.flatMap (eI .i64))] [Sm w.heap.size F w [], St w []])) ?_ hs
    clear hs s
    intro s o1 h hO1
    obtain ⟨x35, x40⟩ := s
    show ∀ (A36 : Option Addr) (n37 : Nat) (c38 : Nat) (h39 : Ow w.heap.size A36 n37 c38 x35), G (trellisref15_Beyond_C w F r) [.code trellisref15_Beyond_c10, .inLoop trellisref15_Beyond_c10, .inBlock 0, .code trellisref15_Beyond_c6] [(0, .slice A2 n3 c4), (3, .slice A36 n37 c38), (4, .int .i64 x40)] [.own (.slice A36 n37 c38) 3 1 n37 (x35.flatMap (eI .i64))] [Sm w.heap.size F w [], St w []]
    intro A36 n37 c38 h39
    have h : trellisref15_Beyond_b1 x1 x35 x40 o1 := h
    unfold trellisref15_Beyond_b1 at h
    refine g_seq (c := trellisref15_Beyond_c10) rfl ?_
    refine g_seq (c := trellisref15_Beyond_c11) rfl ?_
    refine g_region (c := trellisref15_Beyond_c13) rfl rfl ?_
    refine wl_v 0 rfl (v_move rfl) gn rfl ?_
    refine wl_v 1 rfl (v_move rfl) gn rfl ?_
    refine wl_v 2 rfl (v_lenQ un_22 rfl h5.hq) gn rfl ?_
    refine wl_v 3 rfl (v_bin rfl rfl rfl) gn rfl ?_
    refine w_end 4 rfl ?_
    by_cases hp166 : x40 < (x1.length : Int)
    · have h := if_pos' hp166 h
      refine g_true (c := trellisref15_Beyond_c14) rfl _ rfl ((decide_eq_true hp166)) ?_
      refine g_skip (c := trellisref15_Beyond_c15) rfl ?_
      refine g_seq (c := trellisref15_Beyond_c12) rfl ?_
      refine g_block (c := trellisref15_Beyond_c17) rfl ?_
      refine g_seq (c := trellisref15_Beyond_c19) rfl ?_
      refine g_block (c := trellisref15_Beyond_c20) rfl ?_
      refine g_loop (c := trellisref15_Beyond_c22) rfl ?_
      have key2 : ∀ s, Rounds (fun (s : (List Int)) o => trellisref15_Beyond_b2 x40 x1 s o) s o1 → (fun (s : (List Int)) => ∀ (A208 : Option Addr) (n209 : Nat) (c210 : Nat) (h211 : Ow w.heap.size A208 n209 c210 s), G (trellisref15_Beyond_C w F r) [.code trellisref15_Beyond_c23, .inLoop trellisref15_Beyond_c23, .inBlock 2, .code trellisref15_Beyond_c21, .inBlock 1, .code trellisref15_Beyond_c18, .inLoop trellisref15_Beyond_c10, .inBlock 0, .code trellisref15_Beyond_c6] [(0, .slice A2 n3 c4), (3, .slice A208 n209 c210), (4, .int .i64 x40)] [.own (.slice A208 n209 c210) 3 1 n209 (s.flatMap (eI .i64))] [Sm w.heap.size F w [], St w []]) s := by
        intro s hs
        refine Rounds.ind (mot := (fun (s : (List Int)) => ∀ (A208 : Option Addr) (n209 : Nat) (c210 : Nat) (h211 : Ow w.heap.size A208 n209 c210 s), G (trellisref15_Beyond_C w F r) [.code trellisref15_Beyond_c23, .inLoop trellisref15_Beyond_c23, .inBlock 2, .code trellisref15_Beyond_c21, .inBlock 1, .code trellisref15_Beyond_c18, .inLoop trellisref15_Beyond_c10, .inBlock 0, .code trellisref15_Beyond_c6] [(0, .slice A2 n3 c4), (3, .slice A208 n209 c210), (4, .int .i64 x40)] [.own (.slice A208 n209 c210) 3 1 n209 (s.flatMap (eI .i64))] [Sm w.heap.size F w [], St w []])) ?_ hs
        clear hs s
        intro x207 o2 h hO2
        show ∀ (A208 : Option Addr) (n209 : Nat) (c210 : Nat) (h211 : Ow w.heap.size A208 n209 c210 x207), G (trellisref15_Beyond_C w F r) [.code trellisref15_Beyond_c23, .inLoop trellisref15_Beyond_c23, .inBlock 2, .code trellisref15_Beyond_c21, .inBlock 1, .code trellisref15_Beyond_c18, .inLoop trellisref15_Beyond_c10, .inBlock 0, .code trellisref15_Beyond_c6] [(0, .slice A2 n3 c4), (3, .slice A208 n209 c210), (4, .int .i64 x40)] [.own (.slice A208 n209 c210) 3 1 n209 (x207.flatMap (eI .i64))] [Sm w.heap.size F w [], St w []]
        intro A208 n209 c210 h211
        have h : trellisref15_Beyond_b2 x40 x1 x207 o2 := h
        unfold trellisref15_Beyond_b2 at h
        refine g_seq (c := trellisref15_Beyond_c23) rfl ?_
        refine g_seq (c := trellisref15_Beyond_c24) rfl ?_
        refine g_region (c := trellisref15_Beyond_c26) rfl rfl ?_
        refine wl_v 0 rfl (v_move rfl) gn rfl ?_
        refine wl_v 1 rfl (v_lenQ un_23 rfl h211.hq) gn rfl ?_
        refine wl_v 2 rfl (v_bin rfl rfl rfl) gn rfl ?_
        refine wl_v 3 rfl (v_move rfl) gn rfl ?_
        by_cases hp251 : (x207.length : Int) > 0
        · have h := if_pos' hp251 h
          refine w_bool 14 rfl ((decide_eq_true hp251)) ?_
          refine wl_v 4 rfl (v_move rfl) (gy 14 rfl rfl) rfl ?_
          refine wl_v 5 rfl (v_move rfl) (gy 14 rfl rfl) rfl ?_
          refine wl_v 6 rfl (v_lenQ un_23 rfl h211.hq) (gy 14 rfl rfl) rfl ?_
          refine wl_v 7 rfl (v_bin rfl rfl rfl) (gy 14 rfl rfl) rfl ?_
          obtain ⟨hb252, h⟩ := h
          refine wl_v 8 rfl (v_idxO slE_23 rfl rfl h211 hb252) (gy 14 rfl rfl) rfl ?_
          refine wl_v 9 rfl (v_ldO1 (.int .i64 (ix x207 (w64 ((x207.length : Int) - 1)))) 0 ld_3 rfl rfl (fm_get0 (hlI .i64) hb252 rfl)) (gy 14 rfl rfl) rfl ?_
          refine wl_v 10 rfl (v_bin rfl rfl rfl) (gy 14 rfl rfl) rfl ?_
          refine wl_v 11 rfl (v_pick (b := true) rfl rfl) gn rfl ?_
          refine w_end 12 rfl ?_
          by_cases hp253 : ix x207 (w64 ((x207.length : Int) - 1)) ≤ 0
          · have h := if_pos' hp253 h
            refine g_true (c := trellisref15_Beyond_c27) rfl _ rfl ((decide_eq_true hp253)) ?_
            refine g_skip (c := trellisref15_Beyond_c28) rfl ?_
            refine g_block (c := trellisref15_Beyond_c25) rfl ?_
            refine g_region (c := trellisref15_Beyond_c46) rfl rfl ?_
            refine wl_v 0 rfl (v_move rfl) gn rfl ?_
            refine wl_v 1 rfl (v_move rfl) gn rfl ?_
            refine wl_v 2 rfl (v_lenQ un_23 rfl h211.hq) gn rfl ?_
            refine wl_v 3 rfl (v_bin rfl rfl rfl) gn rfl ?_
            obtain ⟨hb254, h⟩ := h
            obtain ⟨x256, hv257, h⟩ := h
            have hle255 : (w64 ((x207.length : Int) - 1) : Int).toNat ≤ n209 := by have q := hb254; have q1 := h211.hq; omega
            have h258 : Ow w.heap.size A208 (w64 ((x207.length : Int) - 1) : Int).toNat c210 x256 := Ow.w (Ow.cut h211 hle255) (by rw [hv257])
            refine wl_v 4 rfl (v_cutHi (i := w64 ((x207.length : Int) - 1)) slE_23 rfl rfl (by have q := hb254; have q1 := h211.hq; have q2 := h211.hn; omega) h211.hn rfl) gn rfl ?_
            refine wl_v 5 rfl (v_assign rfl) gn rfl ?_
            refine w_end 6 rfl ?_
            refine g_inBlock ?_
            refine g_inLoop ?_
            have h259 : Ow w.heap.size A208 ((w64 ((x207.length : Int) - 1) : Int).toNat) c210 x256 := (Ow.w (Ow.cut h211 hle255) (by rw [hv257]))
            refine g_short (j := 0) (m := ((w64 ((x207.length : Int) - 1) : Int).toNat)) (cells' := x256.flatMap (eI .i64)) rfl hle255 (by rw [fm_take (hlI .i64), hv257]) ?_
            have ih := Out.inl hO2 h
            exact g_go [0, 1] (ih A208 ((w64 ((x207.length : Int) - 1) : Int).toNat) c210 h259) ⟨rfl, rfl, rfl, trivial⟩ (.cons_cons _ (.slnil)) rfl
          · have h := if_neg' hp253 h
            refine g_false (c := trellisref15_Beyond_c27) rfl _ rfl ((decide_eq_false hp253)) ?_
            refine g_exit (c := trellisref15_Beyond_c29) [.code trellisref15_Beyond_c21, .inBlock 1, .code trellisref15_Beyond_c18, .inLoop trellisref15_Beyond_c10, .inBlock 0, .code trellisref15_Beyond_c6] rfl rfl ?_
            refine g_seq (c := trellisref15_Beyond_c21) rfl ?_
            refine g_seq (c := trellisref15_Beyond_c30) rfl ?_
            refine g_region (c := trellisref15_Beyond_c32) rfl rfl ?_
            refine wl_v 0 rfl (v_move rfl) gn rfl ?_
            refine wl_v 1 rfl (v_lenQ un_23 rfl h211.hq) gn rfl ?_
            refine wl_v 2 rfl (v_bin rfl rfl rfl) gn rfl ?_
            refine w_end 3 rfl ?_
            refine g_true (c := trellisref15_Beyond_c33) rfl _ rfl ((decide_eq_true hp251)) ?_
            refine g_region (c := trellisref15_Beyond_c34) rfl rfl ?_
            refine wl_v 0 rfl (v_move rfl) gn rfl ?_
            refine wl_v 1 rfl (v_move rfl) gn rfl ?_
            refine wl_v 2 rfl (v_lenQ un_23 rfl h211.hq) gn rfl ?_
            refine wl_v 3 rfl (v_bin rfl rfl rfl) gn rfl ?_
            refine wl_v 4 rfl (v_move rfl) gn rfl ?_
            refine wl_v 5 rfl (v_move rfl) gn rfl ?_
            refine wl_v 6 rfl (v_lenQ un_23 rfl h211.hq) gn rfl ?_
            refine wl_v 7 rfl (v_bin rfl rfl rfl) gn rfl ?_
            refine wl_v 8 rfl (v_idxO slE_23 rfl rfl h211 hb252) gn rfl ?_
            refine wl_v 9 rfl (v_ldO1 (.int .i64 (ix x207 (w64 ((x207.length : Int) - 1)))) 0 ld_3 rfl rfl (fm_get0 (hlI .i64) hb252 rfl)) gn rfl ?_
            refine wl_v 10 rfl (v_bin rfl rfl rfl) gn rfl ?_
            refine wl_v 11 rfl (v_idxO slE_23 rfl rfl h211 hb252) gn rfl ?_
            obtain ⟨x260, hv261, h⟩ := h
            refine wl_s 12 rfl (s_stF (enc := (eI .i64)) (o := 0) (z := (w64 ((ix x207 (w64 ((x207.length : Int) - 1))) - 1))) (vs := [.int .i64 (w64 ((ix x207 (w64 ((x207.length : Int) - 1))) - 1))]) (i := (w64 ((x207.length : Int) - 1))) 0 (hlI .i64) sz_3 rfl rfl rfl rfl rfl h211 hb252 rfl rfl rfl hv261 fun h262 => ?_) gn
            refine w_end 13 rfl ?_
            refine g_seq (c := trellisref15_Beyond_c31) rfl ?_
            refine g_region (c := trellisref15_Beyond_c36) rfl rfl ?_
            refine wl_v 0 rfl (v_move rfl) gn rfl ?_
            refine wl_v 1 rfl (v_move rfl) gn rfl ?_
            refine wl_v 2 rfl (v_move rfl) gn rfl ?_
            obtain ⟨hb263, h⟩ := h
            have hr264 := Rw.readF (s := St w []) (hl := hl_api_Node) (h1 := h1_api_Node) h5 hb263
            refine wl_v 3 rfl (v_idxR (s := St w []) slE_22 rfl rfl h5 hb263) gn rfl ?_
            refine wl_v 4 rfl (v_fldA fo_39_5 rfl) gn rfl ?_
            refine wl_v 5 rfl (v_ldA1 (kk := (x40 : Int).toNat * 7) (j := 5) (St w []) ld_3 rfl hr264 rfl (me 1 rfl)) gn rfl ?_
            refine wl_s 6 rfl (s_litO (xs := ([(ix x1 x40).kids] : List Int)) [.int .i64 ((ix x1 x40).kids)] bs_23_1 rfl (by kernel_rfl) rfl rfl rfl rfl fun gb266 h267 => ?_) gn
            obtain ⟨x275, hv276, h⟩ := h
            obtain ⟨hb277, h⟩ := h
            refine w_deep0 ?_
            refine wl_s 7 rfl (s_appE (zs := x275) (cells' := x275.flatMap (eI .i64)) 2 0 rfl ap_23 rfl rfl rfl rfl Eld.self h262 (Nat.le_refl _) (Src.ownF (hl := (hlI .i64)) (h1 := (hone_int .i64)) 1 rfl h267) (by rw [hv276, List.flatMap_append] <;> rfl) (app_len hv276 h267.hq) hb277 rfl rfl fun A268 c269 bs272 p273 h270 hE274 => ?_) gn
            refine wl_v 8 rfl (v_assign rfl) gn rfl ?_
            refine w_end 9 rfl ?_
            refine g_seq (c := trellisref15_Beyond_c37) rfl ?_
            refine g_region (c := trellisref15_Beyond_c38) rfl rfl ?_
            refine wl_v 0 rfl (v_move rfl) gn rfl ?_
            refine wl_v 1 rfl (v_lenQ un_23 rfl h270.hq) gn rfl ?_
            refine wl_v 2 rfl (v_bin rfl rfl rfl) gn rfl ?_
            refine w_end 3 rfl ?_
            by_cases hp278 : (x275.length : Int) > 65536
            · have h := if_pos' hp278 h
              refine g_true (c := trellisref15_Beyond_c39) rfl _ rfl ((decide_eq_true hp278)) ?_
              refine g_seq (c := trellisref15_Beyond_c40) rfl ?_
              refine g_region (c := trellisref15_Beyond_c42) rfl rfl ?_
              refine wl_v 0 rfl (v_assign rfl) gn rfl ?_
              refine w_end 1 rfl ?_
              have h := Out.inr hO2 h
              have h := Out.inr hO1 h
              refine g_retR (c := trellisref15_Beyond_c43) [.bool true] rfl Try.func10 rfl (.tmp rfl (.nil)) fun wr hLr => ?_
              have hMr : B.Loc w wr [] [St w []] := hLr.pick (rest := [.deep .nilIface bs272 p273, .own (.slice (some ⟨gb266, 0, none⟩) 1 1) 3 1 1 (([(ix x1 x40).kids] : List Int).flatMap (eI .i64)), .own (.slice A268 (n209 + 1) c269) 3 1 (n209 + 1) (x275.flatMap (eI .i64))]) (perm_of_idx [] [0, 1, 2] rfl rfl (by kernel_rfl)) (sels [1] rfl)
              have hMi : ∀ e ∈ ([] : List Ent), e ∈ ([.deep .nilIface bs272 p273, .own (.slice (some ⟨gb266, 0, none⟩) 1 1) 3 1 1 (([(ix x1 x40).kids] : List Int).flatMap (eI .i64)), .own (.slice A268 (n209 + 1) c269) 3 1 (n209 + 1) (x275.flatMap (eI .i64))] : List Ent) := sels [] rfl
              show trellisref15_Beyond_R w F  r (.returned (packV [.bool true])) wr
              rw [h]
              exact ⟨rfl, hMr⟩
            · have h := if_neg' hp278 h
              refine g_false (c := trellisref15_Beyond_c39) rfl _ rfl ((decide_eq_false hp278)) ?_
              refine g_skip (c := trellisref15_Beyond_c41) rfl ?_
              refine g_inBlock ?_
              refine g_region (c := trellisref15_Beyond_c18) rfl rfl ?_
              refine wl_v 0 rfl (v_move rfl) gn rfl ?_
              refine wl_v 1 rfl (v_bin rfl rfl rfl) gn rfl ?_
              refine wl_v 2 rfl (v_assign rfl) gn rfl ?_
              refine w_end 3 rfl ?_
              refine g_inLoop ?_
              have h := Out.inr hO2 h
              have ih := Out.inl hO1 h
              exact g_go [0, 1] (ih A268 (n209 + 1) c269 h270) ⟨rfl, rfl, rfl, trivial⟩ (.cons _ (.cons _ (.cons_cons _ (.slnil)))) rfl
        · have h := if_neg' hp251 h
          refine w_bool 14 rfl ((decide_eq_false hp251)) ?_
          refine wl_pass 4 rfl (ps 14 rfl rfl rfl) ?_
          refine wl_pass 5 rfl (ps 14 rfl rfl rfl) ?_
          refine wl_pass 6 rfl (ps 14 rfl rfl rfl) ?_
          refine wl_pass 7 rfl (ps 14 rfl rfl rfl) ?_
          refine wl_pass 8 rfl (ps 14 rfl rfl rfl) ?_
          refine wl_pass 9 rfl (ps 14 rfl rfl rfl) ?_
          refine wl_pass 10 rfl (ps 14 rfl rfl rfl) ?_
          refine wl_v 11 rfl (v_pick (b := false) rfl rfl) gn rfl ?_
          refine w_end 12 rfl ?_
          refine g_false (c := trellisref15_Beyond_c27) rfl _ rfl (rfl) ?_
          refine g_exit (c := trellisref15_Beyond_c29) [.code trellisref15_Beyond_c21, .inBlock 1, .code trellisref15_Beyond_c18, .inLoop trellisref15_Beyond_c10, .inBlock 0, .code trellisref15_Beyond_c6] rfl rfl ?_
          refine g_seq (c := trellisref15_Beyond_c21) rfl ?_
          refine g_seq (c := trellisref15_Beyond_c30) rfl ?_
          refine g_region (c := trellisref15_Beyond_c32) rfl rfl ?_
          refine wl_v 0 rfl (v_move rfl) gn rfl ?_
          refine wl_v 1 rfl (v_lenQ un_23 rfl h211.hq) gn rfl ?_
          refine wl_v 2 rfl (v_bin rfl rfl rfl) gn rfl ?_
          refine w_end 3 rfl ?_
          refine g_false (c := trellisref15_Beyond_c33) rfl _ rfl ((decide_eq_false hp251)) ?_
          refine g_skip (c := trellisref15_Beyond_c35) rfl ?_
          refine g_seq (c := trellisref15_Beyond_c31) rfl ?_
          refine g_region (c := trellisref15_Beyond_c36) rfl rfl ?_
          refine wl_v 0 rfl (v_move rfl) gn rfl ?_
          refine wl_v 1 rfl (v_move rfl) gn rfl ?_
          refine wl_v 2 rfl (v_move rfl) gn rfl ?_
          obtain ⟨hb279, h⟩ := h
          have hr280 := Rw.readF (s := St w []) (hl := hl_api_Node) (h1 := h1_api_Node) h5 hb279
          refine wl_v 3 rfl (v_idxR (s := St w []) slE_22 rfl rfl h5 hb279) gn rfl ?_
          refine wl_v 4 rfl (v_fldA fo_39_5 rfl) gn rfl ?_
          refine wl_v 5 rfl (v_ldA1 (kk := (x40 : Int).toNat * 7) (j := 5) (St w []) ld_3 rfl hr280 rfl (me 1 rfl)) gn rfl ?_
          refine wl_s 6 rfl (s_litO (xs := ([(ix x1 x40).kids] : List Int)) [.int .i64 ((ix x1 x40).kids)] bs_23_1 rfl (by kernel_rfl) rfl rfl rfl rfl fun gb282 h283 => ?_) gn
          obtain ⟨x287, hv288, h⟩ := h
          obtain ⟨hb289, h⟩ := h
          refine wl_s 7 rfl (s_app (zs := x287) (cells' := x287.flatMap (eI .i64)) 1 ap_23 rfl rfl rfl h211 (Nat.le_refl _) (Src.ownF (hl := (hlI .i64)) (h1 := (hone_int .i64)) 0 rfl h283) (by rw [hv288, List.flatMap_append] <;> rfl) (app_len hv288 h283.hq) hb289 rfl rfl fun A284 c285 h286 => ?_) gn
          refine wl_v 8 rfl (v_assign rfl) gn rfl ?_
          refine w_end 9 rfl ?_
          refine g_seq (c := trellisref15_Beyond_c37) rfl ?_
          refine g_region (c := trellisref15_Beyond_c38) rfl rfl ?_
          refine wl_v 0 rfl (v_move rfl) gn rfl ?_
          refine wl_v 1 rfl (v_lenQ un_23 rfl h286.hq) gn rfl ?_
          refine wl_v 2 rfl (v_bin rfl rfl rfl) gn rfl ?_
          refine w_end 3 rfl ?_
          by_cases hp290 : (x287.length : Int) > 65536
          · have h := if_pos' hp290 h
            refine g_true (c := trellisref15_Beyond_c39) rfl _ rfl ((decide_eq_true hp290)) ?_
            refine g_seq (c := trellisref15_Beyond_c40) rfl ?_
            refine g_region (c := trellisref15_Beyond_c42) rfl rfl ?_
            refine wl_v 0 rfl (v_assign rfl) gn rfl ?_
            refine w_end 1 rfl ?_
            have h := Out.inr hO2 h
            have h := Out.inr hO1 h
            refine g_retR (c := trellisref15_Beyond_c43) [.bool true] rfl Try.func10 rfl (.tmp rfl (.nil)) fun wr hLr => ?_
            have hMr : B.Loc w wr [] [St w []] := hLr.pick (rest := [.own (.slice (some ⟨gb282, 0, none⟩) 1 1) 3 1 1 (([(ix x1 x40).kids] : List Int).flatMap (eI .i64)), .own (.slice A284 (n209 + 1) c285) 3 1 (n209 + 1) (x287.flatMap (eI .i64))]) (perm_of_idx [] [0, 1] rfl rfl (by kernel_rfl)) (sels [1] rfl)
            have hMi : ∀ e ∈ ([] : List Ent), e ∈ ([.own (.slice (some ⟨gb282, 0, none⟩) 1 1) 3 1 1 (([(ix x1 x40).kids] : List Int).flatMap (eI .i64)), .own (.slice A284 (n209 + 1) c285) 3 1 (n209 + 1) (x287.flatMap (eI .i64))] : List Ent) := sels [] rfl
            show trellisref15_Beyond_R w F  r (.returned (packV [.bool true])) wr
            rw [h]
            exact ⟨rfl, hMr⟩
          · have h := if_neg' hp290 h
            refine g_false (c := trellisref15_Beyond_c39) rfl _ rfl ((decide_eq_false hp290)) ?_
            refine g_skip (c := trellisref15_Beyond_c41) rfl ?_
            refine g_inBlock ?_
            refine g_region (c := trellisref15_Beyond_c18) rfl rfl ?_
            refine wl_v 0 rfl (v_move rfl) gn rfl ?_
            refine wl_v 1 rfl (v_bin rfl rfl rfl) gn rfl ?_
            refine wl_v 2 rfl (v_assign rfl) gn rfl ?_
            refine w_end 3 rfl ?_
            refine g_inLoop ?_
            have h := Out.inr hO2 h
            have ih := Out.inl hO1 h
            exact g_go [0, 1] (ih A284 (n209 + 1) c285 h286) ⟨rfl, rfl, rfl, trivial⟩ (.cons _ (.cons_cons _ (.slnil))) rfl
      exact g_go [0, 1] (key2 _ h A36 n37 c38 h39) ⟨rfl, rfl, rfl, trivial⟩ (.cons_cons _ (.slnil)) rfl
    · have h := if_neg' hp166 h
      refine g_false (c := trellisref15_Beyond_c14) rfl _ rfl ((decide_eq_false hp166)) ?_
      refine g_exit (c := trellisref15_Beyond_c16) [.code trellisref15_Beyond_c6] rfl rfl ?_
      refine g_seq (c := trellisref15_Beyond_c6) rfl ?_
      refine g_region (c := trellisref15_Beyond_c44) rfl rfl ?_
      refine wl_v 0 rfl (v_assign rfl) gn rfl ?_
      refine w_end 1 rfl ?_
      have h := Out.inr hO1 h
      refine g_retR (c := trellisref15_Beyond_c45) [.bool false] rfl Try.func10 rfl (.tmp rfl (.nil)) fun wr hLr => ?_
      have hMr : B.Loc w wr [] [St w []] := hLr.pick (rest := [.own (.slice A36 n37 c38) 3 1 n37 (x35.flatMap (eI .i64))]) (perm_of_idx [] [0] rfl rfl (by kernel_rfl)) (sels [1] rfl)
      have hMi : ∀ e ∈ ([] : List Ent), e ∈ ([.own (.slice A36 n37 c38) 3 1 n37 (x35.flatMap (eI .i64))] : List Ent) := sels [] rfl
      show trellisref15_Beyond_R w F  r (.returned (packV [.bool false])) wr
      rw [h]
      exact ⟨rfl, hMr⟩
  refine g_nil 3 1 ?_
  exact g_go [0, 1] (key1 _ h none 0 0 (Ow.nil (z := w.heap.size))) ⟨rfl, rfl, rfl, trivial⟩ (.cons_cons _ (.slnil)) rfl
noncomputable abbrev tree_plant_c0 : Code := bodyOf Try.f44
noncomputable abbrev tree_plant_c1 : Code := Code.fst tree_plant_c0
noncomputable abbrev tree_plant_c2 : Code := Code.snd tree_plant_c0
noncomputable abbrev tree_plant_c3 : Code := Code.fst tree_plant_c2
noncomputable abbrev tree_plant_c4 : Code := Code.snd tree_plant_c2
noncomputable abbrev tree_plant_c5 : Code := Code.fst tree_plant_c4
noncomputable abbrev tree_plant_c6 : Code := Code.snd tree_plant_c4
noncomputable abbrev tree_plant_c7 : Code := Code.fst tree_plant_c6
noncomputable abbrev tree_plant_c8 : Code := Code.snd tree_plant_c6
noncomputable abbrev tree_plant_c9 : Code := Code.fst tree_plant_c7
noncomputable abbrev tree_plant_c10 : Code := Code.snd tree_plant_c7
noncomputable abbrev tree_plant_c11 : Code := Code.fst tree_plant_c10
noncomputable abbrev tree_plant_c12 : Code := Code.fst tree_plant_c11
noncomputable abbrev tree_plant_c13 : Code := Code.fst tree_plant_c12
noncomputable abbrev tree_plant_c14 : Code := Code.snd tree_plant_c12
noncomputable abbrev tree_plant_c15 : Code := Code.fst tree_plant_c14
noncomputable abbrev tree_plant_c16 : Code := Code.snd tree_plant_c14
noncomputable abbrev tree_plant_c17 : Code := Code.fst tree_plant_c15
noncomputable abbrev tree_plant_c18 : Code := Code.snd tree_plant_c15
noncomputable abbrev tree_plant_c19 : Code := Code.fst tree_plant_c16
noncomputable abbrev tree_plant_c20 : Code := Code.snd tree_plant_c16
noncomputable abbrev tree_plant_c21 : Code := Code.fst tree_plant_c19
noncomputable abbrev tree_plant_c22 : Code := Code.fst tree_plant_c21
noncomputable abbrev tree_plant_c23 : Code := Code.snd tree_plant_c21
noncomputable abbrev tree_plant_c24 : Code := Code.fst tree_plant_c23
noncomputable abbrev tree_plant_c25 : Code := Code.snd tree_plant_c23
noncomputable abbrev tree_plant_c26 : Code := Code.fst tree_plant_c25
noncomputable abbrev tree_plant_c27 : Code := Code.snd tree_plant_c25
noncomputable abbrev tree_plant_c28 : Code := Code.fst tree_plant_c26
noncomputable abbrev tree_plant_c29 : Code := Code.snd tree_plant_c26
noncomputable abbrev tree_plant_c30 : Code := Code.fst tree_plant_c29
noncomputable abbrev tree_plant_c31 : Code := Code.snd tree_plant_c29
noncomputable abbrev tree_plant_c32 : Code := Code.fst tree_plant_c27
noncomputable abbrev tree_plant_c33 : Code := Code.snd tree_plant_c27
noncomputable abbrev tree_plant_c34 : Code := Code.fst tree_plant_c32
noncomputable abbrev tree_plant_c35 : Code := Code.snd tree_plant_c32
noncomputable abbrev tree_plant_c36 : Code := Code.fst tree_plant_c35
noncomputable abbrev tree_plant_c37 : Code := Code.snd tree_plant_c35
noncomputable abbrev tree_plant_c38 : Code := Code.fst tree_plant_c36
noncomputable abbrev tree_plant_c39 : Code := Code.snd tree_plant_c36
noncomputable abbrev tree_plant_c40 : Code := Code.fst tree_plant_c33
noncomputable abbrev tree_plant_c41 : Code := Code.snd tree_plant_c33
noncomputable abbrev tree_plant_c42 : Code := Code.fst tree_plant_c41
noncomputable abbrev tree_plant_c43 : Code := Code.fst tree_plant_c42
noncomputable abbrev tree_plant_c44 : Code := Code.fst tree_plant_c43
noncomputable abbrev tree_plant_c45 : Code := Code.snd tree_plant_c43
noncomputable abbrev tree_plant_c46 : Code := Code.fst tree_plant_c44
noncomputable abbrev tree_plant_c47 : Code := Code.snd tree_plant_c44
noncomputable abbrev tree_plant_c48 : Code := Code.fst tree_plant_c47
noncomputable abbrev tree_plant_c49 : Code := Code.snd tree_plant_c47
noncomputable abbrev tree_plant_c50 : Code := Code.fst tree_plant_c45
noncomputable abbrev tree_plant_c51 : Code := Code.fst tree_plant_c50
noncomputable abbrev tree_plant_c52 : Code := Code.snd tree_plant_c50
noncomputable abbrev tree_plant_c53 : Code := Code.fst tree_plant_c8
noncomputable abbrev tree_plant_c54 : Code := Code.snd tree_plant_c8
noncomputable abbrev tree_plant_c55 : Code := Code.fst tree_plant_c54
noncomputable abbrev tree_plant_c56 : Code := Code.snd tree_plant_c54
noncomputable abbrev tree_plant_c57 : Code := Code.fst tree_plant_c30
noncomputable abbrev tree_plant_c58 : Code := Code.snd tree_plant_c30
abbrev tree_plant_R (w : World) (F : Nat → Prop) (r : tree_forest) : Ending → World → Prop := fun e w' => ∃ A1 : Option Addr, ∃ n1 : Nat, ∃ c1 : Nat, ∃ A2 : Option Addr, ∃ n2 : Nat, ∃ c2 : Nat, ∃ A0 : Option Addr, ∃ n0 : Nat, ∃ c0 : Nat, e = .returned (.agg #[.slice A0 n0 c0, .slice A1 n1 c1, .slice A2 n2 c2, .bool r.ok]) ∧ B.Loc w w' [.own (.slice A1 n1 c1) 3 1 n1 (r.parent.flatMap (eI .i64)), .own (.slice A2 n2 c2) 3 1 n2 (r.end_.flatMap (eI .i64))] [St w []] ∧ Ow w.heap.size A1 n1 c1 r.parent ∧ Ow w.heap.size A2 n2 c2 r.end_ ∧ Rw k_api_Node w' (Nw w w' F [.own (.slice A1 n1 c1) 3 1 n1 (r.parent.flatMap (eI .i64)), .own (.slice A2 n2 c2) 3 1 n2 (r.end_.flatMap (eI .i64))]) A0 n0 c0 r.nodes
noncomputable abbrev tree_plant_C (w : World) (F : Nat → Prop) (r : tree_forest) : Cx := ⟨Try.prog, 44, Try.f44, 100, tree_plant_R w F  r, w⟩
theorem tree_plant_calls (w : World) (F : Nat → Prop) (x1 : List api_Node) (A2 : Option Addr) (n3 : Nat) (c4 : Nat) (h5 : Rw k_api_Node w F A2 n3 c4 x1) (hF : ∀ b, F b → b < w.heap.size ∧ ∀ o ∈ ([] : List (List Nat)), b ∉ o) (hL0 : B.Loc w w [] [Sm w.heap.size F w [], St w []]) (r : tree_forest) (h : tree_plant x1 r) : Calls Try.prog 44 #[.slice A2 n3 c4] w (tree_plant_R w F  r) := by
  unfold tree_plant at h
  have h5 := Rw.into (bs := []) hF h5
  refine calls_of_Loc (vs := [.slice A2 n3 c4]) 100 Try.func44 rfl Try.ntmps44 rfl hL0 ?_
  show G (tree_plant_C w F r) _ _ _ _
  refine g_seq (c := tree_plant_c0) rfl ?_
  refine g_region (c := tree_plant_c1) rfl rfl ?_
  refine wl_s 0 rfl (s_alloc [.slice none 0 0, .slice none 0 0, .slice none 0 0, .bool false] zr_32 rfl fun gb6 => ?_) gn
  refine w_end 1 rfl ?_
  refine g_seq (c := tree_plant_c2) rfl ?_
  obtain ⟨hb8, h⟩ := h
  obtain ⟨x12, hv13, h⟩ := h
  obtain ⟨x17, hv18, h⟩ := h
  have d1 : ∀ (gb76 : Nat) (A77 : Option Addr) (n78 : Nat) (c79 : Nat) (h80 : Ow w.heap.size A77 n78 c79 x12) (A81 : Option Addr) (n82 : Nat) (c83 : Nat) (h84 : Ow w.heap.size A81 n82 c83 x17), G (tree_plant_C w F r) [.code tree_plant_c4] [(0, .slice A2 n3 c4), (2, .pointer (some ⟨gb6, 0, none⟩)), (3, .pointer (some ⟨gb76, 0, none⟩))] [.box gb76 32 [.slice A2 n3 c4, .slice A77 n78 c79, .slice A81 n82 c83, .bool false], .own (.slice A81 n82 c83) 3 1 n82 (x17.flatMap (eI .i64)), .own (.slice A77 n78 c79) 3 1 n78 (x12.flatMap (eI .i64)), .box gb6 32 [.slice none 0 0, .slice none 0 0, .slice none 0 0, .bool false]] [Sm w.heap.size F w [], St w []] := by
    intro gb76 A77 n78 c79 h80 A81 n82 c83 h84
    refine g_seq (c := tree_plant_c4) rfl ?_
    refine g_region (c := tree_plant_c5) rfl rfl ?_
    refine wl_v 0 rfl (v_assign rfl) gn rfl ?_
    refine wl_v 1 rfl (v_assign rfl) gn rfl ?_
    refine w_end 2 rfl ?_
    refine g_seq (c := tree_plant_c6) rfl ?_
    refine g_seq (c := tree_plant_c7) rfl ?_
    refine g_region (c := tree_plant_c9) rfl rfl ?_
    refine wl_v 0 rfl (v_move rfl) gn rfl ?_
    refine wl_v 1 rfl (v_lenQ un_22 rfl h5.hq) gn rfl ?_
    refine wl_v 2 rfl (v_move rfl) gn rfl ?_
    refine w_end 3 rfl ?_
    refine g_block (c := tree_plant_c10) rfl ?_
    refine g_loop (c := tree_plant_c11) rfl ?_
    have key1 : ∀ s, Rounds (fun (s : (List Int) × (List Int) × Int × (List Int) × (List Int)) o => tree_plant_b1 x1 s.1 s.2.1 s.2.2.1 s.2.2.2.1 s.2.2.2.2 o) s r → (fun (s : (List Int) × (List Int) × Int × (List Int) × (List Int)) => ∀ (A346 : Option Addr) (n347 : Nat) (c348 : Nat) (h349 : Ow w.heap.size A346 n347 c348 s.1) (A351 : Option Addr) (n352 : Nat) (c353 : Nat) (h354 : Ow w.heap.size A351 n352 c353 s.2.1) (h357 : Ow w.heap.size A77 n78 c79 s.2.2.2.1) (h359 : Ow w.heap.size A81 n82 c83 s.2.2.2.2), G (tree_plant_C w F r) [.code tree_plant_c12, .inLoop tree_plant_c12, .inBlock 0, .code tree_plant_c8] [(2, .pointer (some ⟨gb6, 0, none⟩)), (3, .pointer (some ⟨gb76, 0, none⟩)), (4, .slice A346 n347 c348), (5, .slice A351 n352 c353), (16, .slice A2 n3 c4), (17, .int .i64 (x1.length : Int)), (18, .int .i64 s.2.2.1)] [.own (.slice A346 n347 c348) 3 1 n347 (s.1.flatMap (eI .i64)), .own (.slice A351 n352 c353) 3 1 n352 (s.2.1.flatMap (eI .i64)), .box gb76 32 [.slice A2 n3 c4, .slice A77 n78 c79, .slice A81 n82 c83, .bool false], .own (.slice A81 n82 c83) 3 1 n82 (s.2.2.2.2.flatMap (eI .i64)), .own (.slice A77 n78 c79) 3 1 n78 (s.2.2.2.1.flatMap (eI .i64)), .box gb6 32 [.slice none 0 0, .slice none 0 0, .slice none 0 0, .bool false]] [Sm w.heap.size F w [], St w []]) s := by
      intro s hs
      refine Rounds.ind (mot := (fun (s : (List Int) × (List Int) × Int × (List Int) × (List Int)) => ∀ (A346 : Option Addr) (n347 : Nat) (c348 : Nat) (h349 : Ow w.heap.size A346 n347 c348 s.1) (A351 : Option Addr) (n352 : Nat) (c353 : Nat) (h354 : Ow w.heap.size A351 n352 c353 s.2.1) (h357 : Ow w.heap.size A77 n78 c79 s.2.2.2.1) (h359 : Ow w.heap.size A81 n82 c83 s.2.2.2.2), G (tree_plant_C w F r) [.code tree_plant_c12, .inLoop tree_plant_c12, .inBlock 0, .code tree_plant_c8] [(2, .pointer (some ⟨gb6, 0, none⟩)), (3, .pointer (some ⟨gb76, 0, none⟩)), (4, .slice A346 n347 c348), (5, .slice A351 n352 c353), (16, .slice A2 n3 c4), (17, .int .i64 (x1.length : Int)), (18, .int .i64 s.2.2.1)] [.own (.slice A346 n347 c348) 3 1 n347 (s.1.flatMap (eI .i64)), .own (.slice A351 n352 c353) 3 1 n352 (s.2.1.flatMap (eI .i64)), .box gb76 32 [.slice A2 n3 c4, .slice A77 n78 c79, .slice A81 n82 c83, .bool false], .own (.slice A81 n82 c83) 3 1 n82 (s.2.2.2.2.flatMap (eI .i64)), .own (.slice A77 n78 c79) 3 1 n78 (s.2.2.2.1.flatMap (eI .i64)), .box gb6 32 [.slice none 0 0, .slice none 0 0, .slice none 0 0, .bool false]] [Sm w.heap.size F w [], St w []])) ?_ hs
      clear hs s
      intro s o1 h hO1
      obtain ⟨x345, x350, x355, x356, x358⟩ := s
      show ∀ (A346 : Option Addr) (n347 : Nat) (c348 : Nat) (h349 : Ow w.heap.size A346 n347 c348 x345) (A351 : Option Addr) (n352 : Nat) (c353 : Nat) (h354 : Ow w.heap.size A351 n352 c353 x350) (h357 : Ow w.heap.size A77 n78 c79 x356) (h359 : Ow w.heap.size A81 n82 c83 x358), G (tree_plant_C w F r) [.code tree_plant_c12, .inLoop tree_plant_c12, .inBlock 0, .code tree_plant_c8] [(2, .pointer (some ⟨gb6, 0, none⟩)), (3, .pointer (some ⟨gb76, 0, none⟩)), (4, .slice A346 n347 c348), (5, .slice A351 n352 c353), (16, .slice A2 n3 c4), (17, .int .i64 (x1.length : Int)), (18, .int .i64 x355)] [.own (.slice A346 n347 c348) 3 1 n347 (x345.flatMap (eI .i64)), .own (.slice A351 n352 c353) 3 1 n352 (x350.flatMap (eI .i64)), .box gb76 32 [.slice A2 n3 c4, .slice A77 n78 c79, .slice A81 n82 c83, .bool false], .own (.slice A81 n82 c83) 3 1 n82 (x358.flatMap (eI .i64)), .own (.slice A77 n78 c79) 3 1 n78 (x356.flatMap (eI .i64)), .box gb6 32 [.slice none 0 0, .slice none 0 0, .slice none 0 0, .bool false]] [Sm w.heap.size F w [], St w []]
      intro A346 n347 c348 h349 A351 n352 c353 h354 h357 h359
      have h : tree_plant_b1 x1 x345 x350 x355 x356 x358 o1 := h
      unfold tree_plant_b1 at h
      refine g_seq (c := tree_plant_c12) rfl ?_
      refine g_region (c := tree_plant_c13) rfl rfl ?_
      refine wl_v 0 rfl (v_bin rfl rfl rfl) gn rfl ?_
      refine w_end 1 rfl ?_
      refine g_seq (c := tree_plant_c14) rfl ?_
      by_cases hp630 : x355 < (x1.length : Int)
      · have h := if_pos' hp630 h
        refine g_true (c := tree_plant_c15) rfl _ rfl ((decide_eq_true hp630)) ?_
        refine g_skip (c := tree_plant_c17) rfl ?_
        refine g_seq (c := tree_plant_c16) rfl ?_
        refine g_block (c := tree_plant_c19) rfl ?_
        refine g_seq (c := tree_plant_c21) rfl ?_
        refine g_region (c := tree_plant_c22) rfl rfl ?_
        refine wl_v 0 rfl (v_move rfl) gn rfl ?_
        obtain ⟨hb631, h⟩ := h
        have hr632 := Rw.readF (s := Sm w.heap.size F w []) (hl := hl_api_Node) (h1 := h1_api_Node) h5 hb631
        refine wl_v 1 rfl (v_idxR (s := Sm w.heap.size F w []) slE_22 rfl rfl h5 hb631) gn rfl ?_
        refine wl_v 2 rfl (v_ldA (Sm w.heap.size F w []) ld_39 rfl hr632 rfl (me 0 rfl)) gn rfl ?_
        refine wl_s 3 rfl (s_alloc [.string (⟨#[]⟩ : ByteArray), .bool false, .string (⟨#[]⟩ : ByteArray), .int .i64 0, .int .i64 0, .int .i64 0, .int .i64 0] zr_39 rfl fun gb633 => ?_) gn
        refine wl_v 4 rfl (v_assign rfl) gn rfl ?_
        refine wl_s 5 rfl (s_stB (vs := [.string ((ix x1 x355).name), .bool ((ix x1 x355).named), .string ((ix x1 x355).field), .int .i64 ((ix x1 x355).from_), .int .i64 ((ix x1 x355).to), .int .i64 ((ix x1 x355).kids), .int .i64 ((ix x1 x355).leaf)]) (cs' := [.string ((ix x1 x355).name), .bool ((ix x1 x355).named), .string ((ix x1 x355).field), .int .i64 ((ix x1 x355).from_), .int .i64 ((ix x1 x355).to), .int .i64 ((ix x1 x355).kids), .int .i64 ((ix x1 x355).leaf)]) (M' := [.box gb633 39 [.string ((ix x1 x355).name), .bool ((ix x1 x355).named), .string ((ix x1 x355).field), .int .i64 ((ix x1 x355).from_), .int .i64 ((ix x1 x355).to), .int .i64 ((ix x1 x355).kids), .int .i64 ((ix x1 x355).leaf)], .own (.slice A346 n347 c348) 3 1 n347 (x345.flatMap (eI .i64)), .own (.slice A351 n352 c353) 3 1 n352 (x350.flatMap (eI .i64)), .box gb76 32 [.slice A2 n3 c4, .slice A77 n78 c79, .slice A81 n82 c83, .bool false], .own (.slice A81 n82 c83) 3 1 n82 (x358.flatMap (eI .i64)), .own (.slice A77 n78 c79) 3 1 n78 (x356.flatMap (eI .i64)), .box gb6 32 [.slice none 0 0, .slice none 0 0, .slice none 0 0, .bool false]]) 0 sz_39 rfl rfl rfl rfl rfl rfl rfl rfl rfl ?_) gn
        refine w_end 6 rfl ?_
        refine g_seq (c := tree_plant_c23) rfl ?_
        refine g_region (c := tree_plant_c24) rfl rfl ?_
        refine wl_v 0 rfl (v_fldB fo_32_1 rfl) gn rfl ?_
        refine wl_v 1 rfl (v_ldB1 3 ld_23 rfl rfl rfl) gn rfl ?_
        refine wl_v 2 rfl (v_move rfl) gn rfl ?_
        obtain ⟨hb635, h⟩ := h
        refine wl_v 3 rfl (v_idxO slE_23 rfl rfl h357 hb635) gn rfl ?_
        obtain ⟨x636, hv637, h⟩ := h
        refine wl_s 4 rfl (s_stF (enc := (eI .i64)) (o := 0) (z := (-1)) (vs := [.int .i64 (-1)]) (i := x355) 5 (hlI .i64) sz_3 rfl rfl rfl rfl rfl h357 hb635 rfl rfl rfl hv637 fun h638 => ?_) gn
        refine w_end 5 rfl ?_
        refine g_seq (c := tree_plant_c25) rfl ?_
        refine g_seq (c := tree_plant_c26) rfl ?_
        refine g_region (c := tree_plant_c28) rfl rfl ?_
        refine wl_v 0 rfl (v_move rfl) gn rfl ?_
        refine wl_v 1 rfl (v_lenQ un_23 rfl h349.hq) gn rfl ?_
        refine wl_v 2 rfl (v_bin rfl rfl rfl) gn rfl ?_
        refine w_end 3 rfl ?_
        have j2 : ∀ (x652 : List Int) (x654 : List Int) (h : tree_plant_j2 x1 x355 x358 x345 x652 x654 o1) (h653 : Ow w.heap.size A351 n352 c353 x652) (h655 : Ow w.heap.size A77 n78 c79 x654), G (tree_plant_C w F r) [.code tree_plant_c27, .inBlock 1, .code tree_plant_c20, .inLoop tree_plant_c12, .inBlock 0, .code tree_plant_c8] [(2, .pointer (some ⟨gb6, 0, none⟩)), (3, .pointer (some ⟨gb76, 0, none⟩)), (4, .slice A346 n347 c348), (5, .slice A351 n352 c353), (6, .int .i64 x355), (7, .pointer (some ⟨gb633, 0, none⟩)), (16, .slice A2 n3 c4), (17, .int .i64 (x1.length : Int)), (18, .int .i64 x355)] [.box gb633 39 [.string ((ix x1 x355).name), .bool ((ix x1 x355).named), .string ((ix x1 x355).field), .int .i64 ((ix x1 x355).from_), .int .i64 ((ix x1 x355).to), .int .i64 ((ix x1 x355).kids), .int .i64 ((ix x1 x355).leaf)], .own (.slice A346 n347 c348) 3 1 n347 (x345.flatMap (eI .i64)), .own (.slice A351 n352 c353) 3 1 n352 (x652.flatMap (eI .i64)), .box gb76 32 [.slice A2 n3 c4, .slice A77 n78 c79, .slice A81 n82 c83, .bool false], .own (.slice A81 n82 c83) 3 1 n82 (x358.flatMap (eI .i64)), .own (.slice A77 n78 c79) 3 1 n78 (x654.flatMap (eI .i64)), .box gb6 32 [.slice none 0 0, .slice none 0 0, .slice none 0 0, .bool false]] [Sm w.heap.size F w [], St w []] := by
          intro x652 x654 h h653 h655
          unfold tree_plant_j2 at h
          refine g_seq (c := tree_plant_c27) rfl ?_
          refine g_seq (c := tree_plant_c32) rfl ?_
          refine g_region (c := tree_plant_c34) rfl rfl ?_
          refine wl_v 0 rfl (v_fldB fo_39_5 rfl) gn rfl ?_
          refine wl_v 1 rfl (v_ldB1 0 ld_3 rfl rfl rfl) gn rfl ?_
          refine wl_v 2 rfl (v_bin rfl rfl rfl) gn rfl ?_
          refine w_end 3 rfl ?_
          by_cases hp656 : (ix x1 x355).kids < 0
          · have h := if_pos' hp656 h
            refine g_true (c := tree_plant_c35) rfl _ rfl ((decide_eq_true hp656)) ?_
            refine g_seq (c := tree_plant_c36) rfl ?_
            refine g_region (c := tree_plant_c38) rfl rfl ?_
            refine wl_v 0 rfl (v_ldB [.slice A2 n3 c4, .slice A77 n78 c79, .slice A81 n82 c83, .bool false] 3 ld_32 rfl rfl rfl rfl) gn rfl ?_
            refine wl_s 1 rfl (s_stB (vs := [.slice A2 n3 c4, .slice A77 n78 c79, .slice A81 n82 c83, .bool false]) (cs' := [.slice A2 n3 c4, .slice A77 n78 c79, .slice A81 n82 c83, .bool false]) (M' := [.box gb633 39 [.string ((ix x1 x355).name), .bool ((ix x1 x355).named), .string ((ix x1 x355).field), .int .i64 ((ix x1 x355).from_), .int .i64 ((ix x1 x355).to), .int .i64 ((ix x1 x355).kids), .int .i64 ((ix x1 x355).leaf)], .own (.slice A346 n347 c348) 3 1 n347 (x345.flatMap (eI .i64)), .own (.slice A351 n352 c353) 3 1 n352 (x652.flatMap (eI .i64)), .box gb76 32 [.slice A2 n3 c4, .slice A77 n78 c79, .slice A81 n82 c83, .bool false], .own (.slice A81 n82 c83) 3 1 n82 (x358.flatMap (eI .i64)), .own (.slice A77 n78 c79) 3 1 n78 (x654.flatMap (eI .i64)), .box gb6 32 [.slice A2 n3 c4, .slice A77 n78 c79, .slice A81 n82 c83, .bool false]]) 6 sz_32 rfl rfl rfl rfl rfl rfl rfl rfl rfl ?_) gn
            refine w_end 2 rfl ?_
            have h := Out.inr hO1 h
            refine g_retR (c := tree_plant_c39) [.agg #[.slice A2 n3 c4, .slice A77 n78 c79, .slice A81 n82 c83, .bool false]] rfl Try.func44 rfl (.cell (cs := [.slice A2 n3 c4, .slice A77 n78 c79, .slice A81 n82 c83, .bool false]) (us := [.slice A2 n3 c4, .slice A77 n78 c79, .slice A81 n82 c83, .bool false]) 6 rfl ld_32 rfl rfl rfl (.nil)) fun wr hLr => ?_
            have hMr : B.Loc w wr [.own (.slice A77 n78 c79) 3 1 n78 (x654.flatMap (eI .i64)), .own (.slice A81 n82 c83) 3 1 n82 (x358.flatMap (eI .i64))] [St w []] := hLr.pick (rest := [.box gb633 39 [.string ((ix x1 x355).name), .bool ((ix x1 x355).named), .string ((ix x1 x355).field), .int .i64 ((ix x1 x355).from_), .int .i64 ((ix x1 x355).to), .int .i64 ((ix x1 x355).kids), .int .i64 ((ix x1 x355).leaf)], .own (.slice A346 n347 c348) 3 1 n347 (x345.flatMap (eI .i64)), .own (.slice A351 n352 c353) 3 1 n352 (x652.flatMap (eI .i64)), .box gb76 32 [.slice A2 n3 c4, .slice A77 n78 c79, .slice A81 n82 c83, .bool false], .box gb6 32 [.slice A2 n3 c4, .slice A77 n78 c79, .slice A81 n82 c83, .bool false]]) (perm_of_idx [5, 4] [0, 1, 2, 3, 6] rfl rfl (by kernel_rfl)) (sels [1] rfl)
            have hMi : ∀ e ∈ ([.own (.slice A77 n78 c79) 3 1 n78 (x654.flatMap (eI .i64)), .own (.slice A81 n82 c83) 3 1 n82 (x358.flatMap (eI .i64))] : List Ent), e ∈ ([.box gb633 39 [.string ((ix x1 x355).name), .bool ((ix x1 x355).named), .string ((ix x1 x355).field), .int .i64 ((ix x1 x355).from_), .int .i64 ((ix x1 x355).to), .int .i64 ((ix x1 x355).kids), .int .i64 ((ix x1 x355).leaf)], .own (.slice A346 n347 c348) 3 1 n347 (x345.flatMap (eI .i64)), .own (.slice A351 n352 c353) 3 1 n352 (x652.flatMap (eI .i64)), .box gb76 32 [.slice A2 n3 c4, .slice A77 n78 c79, .slice A81 n82 c83, .bool false], .own (.slice A81 n82 c83) 3 1 n82 (x358.flatMap (eI .i64)), .own (.slice A77 n78 c79) 3 1 n78 (x654.flatMap (eI .i64)), .box gb6 32 [.slice A2 n3 c4, .slice A77 n78 c79, .slice A81 n82 c83, .bool false]] : List Ent) := sels [5, 4] rfl
            show tree_plant_R w F  r (.returned (packV [.agg #[.slice A2 n3 c4, .slice A77 n78 c79, .slice A81 n82 c83, .bool false]])) wr
            rw [h]
            exact ⟨A77, n78, c79, A81, n82, c83, A2, n3, c4, rfl, hMr, h655, h359, (hLr.outR (s := Sm w.heap.size F w []) hMi (me 0 rfl) Sm.ok h5)⟩
          · have h := if_neg' hp656 h
            refine g_false (c := tree_plant_c35) rfl _ rfl ((decide_eq_false hp656)) ?_
            refine g_skip (c := tree_plant_c37) rfl ?_
            refine g_seq (c := tree_plant_c33) rfl ?_
            obtain ⟨x663, hv664, h⟩ := h
            obtain ⟨hb665, h⟩ := h
            obtain ⟨x672, hv673, h⟩ := h
            obtain ⟨hb674, h⟩ := h
            have d4 : ∀ (A729 : Option Addr) (n730 : Nat) (c731 : Nat) (h732 : Ow w.heap.size A729 n730 c731 x663) (A733 : Option Addr) (n734 : Nat) (c735 : Nat) (h736 : Ow w.heap.size A733 n734 c735 x672), G (tree_plant_C w F r) [.code tree_plant_c41, .inBlock 1, .code tree_plant_c20, .inLoop tree_plant_c12, .inBlock 0, .code tree_plant_c8] [(2, .pointer (some ⟨gb6, 0, none⟩)), (3, .pointer (some ⟨gb76, 0, none⟩)), (4, .slice A729 n730 c731), (5, .slice A733 n734 c735), (6, .int .i64 x355), (16, .slice A2 n3 c4), (17, .int .i64 (x1.length : Int)), (18, .int .i64 x355)] [.own (.slice A729 n730 c731) 3 1 n730 (x663.flatMap (eI .i64)), .own (.slice A733 n734 c735) 3 1 n734 (x672.flatMap (eI .i64)), .box gb76 32 [.slice A2 n3 c4, .slice A77 n78 c79, .slice A81 n82 c83, .bool false], .own (.slice A81 n82 c83) 3 1 n82 (x358.flatMap (eI .i64)), .own (.slice A77 n78 c79) 3 1 n78 (x654.flatMap (eI .i64)), .box gb6 32 [.slice none 0 0, .slice none 0 0, .slice none 0 0, .bool false]] [Sm w.heap.size F w [], St w []] := by
              intro A729 n730 c731 h732 A733 n734 c735 h736
              refine g_block (c := tree_plant_c41) rfl ?_
              refine g_loop (c := tree_plant_c42) rfl ?_
              have key3 : ∀ s, Rounds (fun (s : (List Int) × (List Int) × (List Int)) o => tree_plant_b3 x355 x654 s.1 s.2.1 s.2.2 o) s o1 → (fun (s : (List Int) × (List Int) × (List Int)) => ∀ (A767 : Option Addr) (n768 : Nat) (c769 : Nat) (h770 : Ow w.heap.size A767 n768 c769 s.1) (A772 : Option Addr) (n773 : Nat) (c774 : Nat) (h775 : Ow w.heap.size A772 n773 c774 s.2.1) (h777 : Ow w.heap.size A81 n82 c83 s.2.2), G (tree_plant_C w F r) [.code tree_plant_c43, .inLoop tree_plant_c43, .inBlock 2, .inBlock 1, .code tree_plant_c20, .inLoop tree_plant_c12, .inBlock 0, .code tree_plant_c8] [(2, .pointer (some ⟨gb6, 0, none⟩)), (3, .pointer (some ⟨gb76, 0, none⟩)), (4, .slice A767 n768 c769), (5, .slice A772 n773 c774), (6, .int .i64 x355), (16, .slice A2 n3 c4), (17, .int .i64 (x1.length : Int)), (18, .int .i64 x355)] [.own (.slice A767 n768 c769) 3 1 n768 (s.1.flatMap (eI .i64)), .own (.slice A772 n773 c774) 3 1 n773 (s.2.1.flatMap (eI .i64)), .box gb76 32 [.slice A2 n3 c4, .slice A77 n78 c79, .slice A81 n82 c83, .bool false], .own (.slice A81 n82 c83) 3 1 n82 (s.2.2.flatMap (eI .i64)), .own (.slice A77 n78 c79) 3 1 n78 (x654.flatMap (eI .i64)), .box gb6 32 [.slice none 0 0, .slice none 0 0, .slice none 0 0, .bool false]] [Sm w.heap.size F w [], St w []]) s := by
                intro s hs
                refine Rounds.ind (mot := (fun (s : (List Int) × (List Int) × (List Int)) => ∀ (A767 : Option Addr) (n768 : Nat) (c769 : Nat) (h770 : Ow w.heap.size A767 n768 c769 s.1) (A772 : Option Addr) (n773 : Nat) (c774 : Nat) (h775 : Ow w.heap.size A772 n773 c774 s.2.1) (h777 : Ow w.heap.size A81 n82 c83 s.2.2), G (tree_plant_C w F r) [.code tree_plant_c43, .inLoop tree_plant_c43, .inBlock 2, .inBlock 1, .code tree_plant_c20, .inLoop tree_plant_c12, .inBlock 0, .code tree_plant_c8] [(2, .pointer (some ⟨gb6, 0, none⟩)), (3, .pointer (some ⟨gb76, 0, none⟩)), (4, .slice A767 n768 c769), (5, .slice A772 n773 c774), (6, .int .i64 x355), (16, .slice A2 n3 c4), (17, .int .i64 (x1.length : Int)), (18, .int .i64 x355)] [.own (.slice A767 n768 c769) 3 1 n768 (s.1.flatMap (eI .i64)), .own (.slice A772 n773 c774) 3 1 n773 (s.2.1.flatMap (eI .i64)), .box gb76 32 [.slice A2 n3 c4, .slice A77 n78 c79, .slice A81 n82 c83, .bool false], .own (.slice A81 n82 c83) 3 1 n82 (s.2.2.flatMap (eI .i64)), .own (.slice A77 n78 c79) 3 1 n78 (x654.flatMap (eI .i64)), .box gb6 32 [.slice none 0 0, .slice none 0 0, .slice none 0 0, .bool false]] [Sm w.heap.size F w [], St w []])) ?_ hs
                clear hs s
                intro s o2 h hO2
                obtain ⟨x766, x771, x776⟩ := s
                show ∀ (A767 : Option Addr) (n768 : Nat) (c769 : Nat) (h770 : Ow w.heap.size A767 n768 c769 x766) (A772 : Option Addr) (n773 : Nat) (c774 : Nat) (h775 : Ow w.heap.size A772 n773 c774 x771) (h777 : Ow w.heap.size A81 n82 c83 x776), G (tree_plant_C w F r) [.code tree_plant_c43, .inLoop tree_plant_c43, .inBlock 2, .inBlock 1, .code tree_plant_c20, .inLoop tree_plant_c12, .inBlock 0, .code tree_plant_c8] [(2, .pointer (some ⟨gb6, 0, none⟩)), (3, .pointer (some ⟨gb76, 0, none⟩)), (4, .slice A767 n768 c769), (5, .slice A772 n773 c774), (6, .int .i64 x355), (16, .slice A2 n3 c4), (17, .int .i64 (x1.length : Int)), (18, .int .i64 x355)] [.own (.slice A767 n768 c769) 3 1 n768 (x766.flatMap (eI .i64)), .own (.slice A772 n773 c774) 3 1 n773 (x771.flatMap (eI .i64)), .box gb76 32 [.slice A2 n3 c4, .slice A77 n78 c79, .slice A81 n82 c83, .bool false], .own (.slice A81 n82 c83) 3 1 n82 (x776.flatMap (eI .i64)), .own (.slice A77 n78 c79) 3 1 n78 (x654.flatMap (eI .i64)), .box gb6 32 [.slice none 0 0, .slice none 0 0, .slice none 0 0, .bool false]] [Sm w.heap.size F w [], St w []]
                intro A767 n768 c769 h770 A772 n773 c774 h775 h777
                have h : tree_plant_b3 x355 x654 x766 x771 x776 o2 := h
                unfold tree_plant_b3 at h
                refine g_seq (c := tree_plant_c43) rfl ?_
                refine g_seq (c := tree_plant_c44) rfl ?_
                refine g_region (c := tree_plant_c46) rfl rfl ?_
                refine wl_v 0 rfl (v_move rfl) gn rfl ?_
                refine wl_v 1 rfl (v_lenQ un_23 rfl h770.hq) gn rfl ?_
                refine wl_v 2 rfl (v_bin rfl rfl rfl) gn rfl ?_
                refine wl_v 3 rfl (v_move rfl) gn rfl ?_
                by_cases hp806 : (x766.length : Int) > 0
                · have h := if_pos' hp806 h
                  refine w_bool 64 rfl ((decide_eq_true hp806)) ?_
                  refine wl_v 4 rfl (v_move rfl) (gy 64 rfl rfl) rfl ?_
                  refine wl_v 5 rfl (v_move rfl) (gy 64 rfl rfl) rfl ?_
                  refine wl_v 6 rfl (v_lenQ un_23 rfl h775.hq) (gy 64 rfl rfl) rfl ?_
                  refine wl_v 7 rfl (v_bin rfl rfl rfl) (gy 64 rfl rfl) rfl ?_
                  obtain ⟨hb807, h⟩ := h
                  refine wl_v 8 rfl (v_idxO slE_23 rfl rfl h775 hb807) (gy 64 rfl rfl) rfl ?_
                  refine wl_v 9 rfl (v_ldO1 (.int .i64 (ix x771 (w64 ((x771.length : Int) - 1)))) 1 ld_3 rfl rfl (fm_get0 (hlI .i64) hb807 rfl)) (gy 64 rfl rfl) rfl ?_
                  refine wl_v 10 rfl (v_bin rfl rfl rfl) (gy 64 rfl rfl) rfl ?_
                  refine wl_v 11 rfl (v_pick (b := true) rfl rfl) gn rfl ?_
                  refine w_end 12 rfl ?_
                  by_cases hp808 : ix x771 (w64 ((x771.length : Int) - 1)) = 0
                  · have h := if_pos' hp808 h
                    refine g_true (c := tree_plant_c47) rfl _ rfl ((eqi hp808)) ?_
                    refine g_skip (c := tree_plant_c48) rfl ?_
                    refine g_block (c := tree_plant_c45) rfl ?_
                    refine g_seq (c := tree_plant_c50) rfl ?_
                    obtain ⟨hb809, h⟩ := h
                    obtain ⟨hb810, h⟩ := h
                    obtain ⟨x811, hv812, h⟩ := h
                    have hns : Region.noSelect (Code.ops tree_plant_c51) = true := by kernel_rfl
                    refine g_drawF (c := tree_plant_c51) [.own (.slice A767 n768 c769) 3 1 n768 (x766.flatMap (eI .i64)), .own (.slice A772 n773 c774) 3 1 n773 (x771.flatMap (eI .i64)), .box gb76 32 [.slice A2 n3 c4, .slice A77 n78 c79, .slice A81 n82 c83, .bool false], .own (.slice A81 n82 c83) 3 1 n82 (x776.flatMap (eI .i64)), .own (.slice A77 n78 c79) 3 1 n78 (x654.flatMap (eI .i64)), .box gb6 32 [.slice none 0 0, .slice none 0 0, .slice none 0 0, .bool false]] [Sm w.heap.size F w [], St w []] [11] 12 rfl rfl mix rfl (.cons_cons _ (.cons_cons _ (.cons_cons _ (.cons_cons _ (.cons_cons _ (.cons_cons _ (.slnil))))))) (sels [0, 1] rfl) ?_
                    refine wf_v 0 rfl (v_fldB fo_32_2 rfl) gn rfl hns (by kernel_rfl) (by kernel_rfl) (by kernel_rfl) rfl ?_
                    refine wf_v 1 rfl (v_ldB1 2 ld_23 rfl rfl rfl) gn rfl hns (by kernel_rfl) (by kernel_rfl) (by kernel_rfl) rfl ?_
                    refine wf_v 2 rfl (v_move rfl) gn rfl hns (by kernel_rfl) (by kernel_rfl) (by kernel_rfl) rfl ?_
                    refine wf_v 3 rfl (v_move rfl) gn rfl hns (by kernel_rfl) (by kernel_rfl) (by kernel_rfl) rfl ?_
                    refine wf_v 4 rfl (v_lenQ un_23 rfl h770.hq) gn rfl hns (by kernel_rfl) (by kernel_rfl) (by kernel_rfl) rfl ?_
                    refine wf_v 5 rfl (v_bin rfl rfl rfl) gn rfl hns (by kernel_rfl) (by kernel_rfl) (by kernel_rfl) rfl ?_
                    refine wf_v 6 rfl (v_idxO slE_23 rfl rfl h770 hb809) gn rfl hns (by kernel_rfl) (by kernel_rfl) (by kernel_rfl) rfl ?_
                    refine wf_v 7 rfl (v_ldO1 (.int .i64 (ix x766 (w64 ((x766.length : Int) - 1)))) 0 ld_3 rfl rfl (fm_get0 (hlI .i64) hb809 rfl)) gn rfl hns (by kernel_rfl) (by kernel_rfl) (by kernel_rfl) rfl ?_
                    refine wf_v 8 rfl (v_move rfl) gn rfl hns (by kernel_rfl) (by kernel_rfl) (by kernel_rfl) rfl ?_
                    refine wf_v 9 rfl (v_bin rfl rfl rfl) gn rfl hns (by kernel_rfl) (by kernel_rfl) (by kernel_rfl) rfl ?_
                    refine wf_v 10 rfl (v_idxO slE_23 rfl rfl h777 hb810) gn rfl hns (by kernel_rfl) (by kernel_rfl) (by kernel_rfl) rfl ?_
                    refine wf_all [11] (by kernel_rfl) rfl ⟨on_l 11 rfl gn rfl (s_stF (enc := (eI .i64)) (o := 0) (z := (w64 (x355 + 1))) (vs := [.int .i64 (w64 (x355 + 1))]) (i := (ix x766 (w64 ((x766.length : Int) - 1)))) 3 (hlI .i64) sz_3 rfl rfl rfl rfl rfl h777 hb810 rfl rfl rfl hv812 fun h815 => ?_), trivial⟩
                    unfold NxL
                    refine wf_end (by kernel_rfl) ?_
                    obtain ⟨hb816, h⟩ := h
                    obtain ⟨x818, hv819, h⟩ := h
                    obtain ⟨hb821, h⟩ := h
                    obtain ⟨x823, hv824, h⟩ := h
                    have hns : Region.noSelect (Code.ops tree_plant_c52) = true := by kernel_rfl
                    refine g_drawF (c := tree_plant_c52) [.own (.slice A767 n768 c769) 3 1 n768 (x766.flatMap (eI .i64)), .own (.slice A772 n773 c774) 3 1 n773 (x771.flatMap (eI .i64)), .box gb76 32 [.slice A2 n3 c4, .slice A77 n78 c79, .slice A81 n82 c83, .bool false], .own (.slice A81 n82 c83) 3 1 n82 (x811.flatMap (eI .i64)), .own (.slice A77 n78 c79) 3 1 n78 (x654.flatMap (eI .i64)), .box gb6 32 [.slice none 0 0, .slice none 0 0, .slice none 0 0, .bool false]] [Sm w.heap.size F w [], St w []] [] 12 rfl rfl mix rfl (.cons_cons _ (.cons_cons _ (.cons_cons _ (.cons_cons _ (.cons_cons _ (.cons_cons _ (.slnil))))))) (sels [0, 1] rfl) ?_
                    refine wf_v 0 rfl (v_move rfl) gn rfl hns (by kernel_rfl) (by kernel_rfl) rfl rfl ?_
                    refine wf_v 1 rfl (v_move rfl) gn rfl hns (by kernel_rfl) (by kernel_rfl) rfl rfl ?_
                    refine wf_v 2 rfl (v_lenQ un_23 rfl h770.hq) gn rfl hns (by kernel_rfl) (by kernel_rfl) rfl rfl ?_
                    refine wf_v 3 rfl (v_bin rfl rfl rfl) gn rfl hns (by kernel_rfl) (by kernel_rfl) rfl rfl ?_
                    have hle830 : (w64 ((x766.length : Int) - 1) : Int).toNat ≤ n768 := by have q := hb816; have q1 := h770.hq; omega
                    have h831 : Ow w.heap.size A767 (w64 ((x766.length : Int) - 1) : Int).toNat c769 x818 := Ow.w (Ow.cut h770 hle830) (by rw [hv819])
                    refine wf_v 4 rfl (v_cutHi (i := w64 ((x766.length : Int) - 1)) slE_23 rfl rfl (by have q := hb816; have q1 := h770.hq; have q2 := h770.hn; omega) h770.hn rfl) gn rfl hns (by kernel_rfl) (by kernel_rfl) rfl rfl ?_
                    refine wf_v 5 rfl (v_move rfl) gn rfl hns (by kernel_rfl) (by kernel_rfl) rfl rfl ?_
                    refine wf_v 6 rfl (v_move rfl) gn rfl hns (by kernel_rfl) (by kernel_rfl) rfl rfl ?_
                    refine wf_v 7 rfl (v_lenQ un_23 rfl h775.hq) gn rfl hns (by kernel_rfl) (by kernel_rfl) rfl rfl ?_
                    refine wf_v 8 rfl (v_bin rfl rfl rfl) gn rfl hns (by kernel_rfl) (by kernel_rfl) rfl rfl ?_
                    have hle832 : (w64 ((x771.length : Int) - 1) : Int).toNat ≤ n773 := by have q := hb821; have q1 := h775.hq; omega
                    have h833 : Ow w.heap.size A772 (w64 ((x771.length : Int) - 1) : Int).toNat c774 x823 := Ow.w (Ow.cut h775 hle832) (by rw [hv824])
                    refine wf_v 9 rfl (v_cutHi (i := w64 ((x771.length : Int) - 1)) slE_23 rfl rfl (by have q := hb821; have q1 := h775.hq; have q2 := h775.hn; omega) h775.hn rfl) gn rfl hns (by kernel_rfl) (by kernel_rfl) rfl rfl ?_
                    refine wf_v 10 rfl (v_assign rfl) gn rfl hns (by kernel_rfl) (by kernel_rfl) rfl rfl ?_
                    refine wf_v 11 rfl (v_assign rfl) gn rfl hns (by kernel_rfl) (by kernel_rfl) rfl rfl ?_
                    refine wf_end (by kernel_rfl) ?_
                    refine g_inBlock ?_
                    refine g_inLoop ?_
                    have h834 : Ow w.heap.size A767 ((w64 ((x766.length : Int) - 1) : Int).toNat) c769 x818 := (Ow.w (Ow.cut h770 hle830) (by rw [hv819]))
                    refine g_short (j := 0) (m := ((w64 ((x766.length : Int) - 1) : Int).toNat)) (cells' := x818.flatMap (eI .i64)) rfl hle830 (by rw [fm_take (hlI .i64), hv819]) ?_
                    have h835 : Ow w.heap.size A772 ((w64 ((x771.length : Int) - 1) : Int).toNat) c774 x823 := (Ow.w (Ow.cut h775 hle832) (by rw [hv824]))
                    refine g_short (j := 1) (m := ((w64 ((x771.length : Int) - 1) : Int).toNat)) (cells' := x823.flatMap (eI .i64)) rfl hle832 (by rw [fm_take (hlI .i64), hv824]) ?_
                    have ih := Out.inl hO2 h
                    exact g_go [0, 1] (ih A767 ((w64 ((x766.length : Int) - 1) : Int).toNat) c769 h834 A772 ((w64 ((x771.length : Int) - 1) : Int).toNat) c774 h835 h815) ⟨rfl, rfl, rfl, rfl, rfl, rfl, rfl, rfl, trivial⟩ (.cons_cons _ (.cons_cons _ (.cons_cons _ (.cons_cons _ (.cons_cons _ (.cons_cons _ (.slnil))))))) rfl
                  · have h := if_neg' hp808 h
                    refine g_false (c := tree_plant_c47) rfl _ rfl ((nei hp808)) ?_
                    refine g_exit (c := tree_plant_c49) [.inBlock 1, .code tree_plant_c20, .inLoop tree_plant_c12, .inBlock 0, .code tree_plant_c8] rfl rfl ?_
                    refine g_inBlock ?_
                    refine g_region (c := tree_plant_c20) rfl rfl ?_
                    refine wl_v 0 rfl (v_bin rfl rfl rfl) gn rfl ?_
                    refine wl_v 1 rfl (v_move rfl) gn rfl ?_
                    refine w_end 2 rfl ?_
                    refine g_inLoop ?_
                    have h := Out.inr hO2 h
                    have ih := Out.inl hO1 h
                    exact g_go [0, 1] (ih A767 n768 c769 h770 A772 n773 c774 h775 h655 h777) ⟨rfl, rfl, rfl, rfl, rfl, rfl, rfl, trivial⟩ (.cons_cons _ (.cons_cons _ (.cons_cons _ (.cons_cons _ (.cons_cons _ (.cons_cons _ (.slnil))))))) rfl
                · have h := if_neg' hp806 h
                  refine w_bool 64 rfl ((decide_eq_false hp806)) ?_
                  refine wl_pass 4 rfl (ps 64 rfl rfl rfl) ?_
                  refine wl_pass 5 rfl (ps 64 rfl rfl rfl) ?_
                  refine wl_pass 6 rfl (ps 64 rfl rfl rfl) ?_
                  refine wl_pass 7 rfl (ps 64 rfl rfl rfl) ?_
                  refine wl_pass 8 rfl (ps 64 rfl rfl rfl) ?_
                  refine wl_pass 9 rfl (ps 64 rfl rfl rfl) ?_
                  refine wl_pass 10 rfl (ps 64 rfl rfl rfl) ?_
                  refine wl_v 11 rfl (v_pick (b := false) rfl rfl) gn rfl ?_
                  refine w_end 12 rfl ?_
                  refine g_false (c := tree_plant_c47) rfl _ rfl (rfl) ?_
                  refine g_exit (c := tree_plant_c49) [.inBlock 1, .code tree_plant_c20, .inLoop tree_plant_c12, .inBlock 0, .code tree_plant_c8] rfl rfl ?_
                  refine g_inBlock ?_
                  refine g_region (c := tree_plant_c20) rfl rfl ?_
                  refine wl_v 0 rfl (v_bin rfl rfl rfl) gn rfl ?_
                  refine wl_v 1 rfl (v_move rfl) gn rfl ?_
                  refine w_end 2 rfl ?_
                  refine g_inLoop ?_
                  have h := Out.inr hO2 h
                  have ih := Out.inl hO1 h
                  exact g_go [0, 1] (ih A767 n768 c769 h770 A772 n773 c774 h775 h655 h777) ⟨rfl, rfl, rfl, rfl, rfl, rfl, rfl, trivial⟩ (.cons_cons _ (.cons_cons _ (.cons_cons _ (.cons_cons _ (.cons_cons _ (.cons_cons _ (.slnil))))))) rfl
              exact g_go [0, 1] (key3 _ h A729 n730 c731 h732 A733 n734 c735 h736 h359) ⟨rfl, rfl, rfl, rfl, rfl, rfl, rfl, rfl, trivial⟩ (.cons_cons _ (.cons_cons _ (.cons_cons _ (.cons_cons _ (.cons_cons _ (.cons_cons _ (.slnil))))))) rfl
            have hns : Region.noSelect (Code.ops tree_plant_c40) = true := by kernel_rfl
            refine g_drawF (c := tree_plant_c40) [.box gb633 39 [.string ((ix x1 x355).name), .bool ((ix x1 x355).named), .string ((ix x1 x355).field), .int .i64 ((ix x1 x355).from_), .int .i64 ((ix x1 x355).to), .int .i64 ((ix x1 x355).kids), .int .i64 ((ix x1 x355).leaf)], .own (.slice A351 n352 c353) 3 1 n352 (x652.flatMap (eI .i64)), .box gb76 32 [.slice A2 n3 c4, .slice A77 n78 c79, .slice A81 n82 c83, .bool false], .own (.slice A81 n82 c83) 3 1 n82 (x358.flatMap (eI .i64)), .own (.slice A77 n78 c79) 3 1 n78 (x654.flatMap (eI .i64)), .box gb6 32 [.slice none 0 0, .slice none 0 0, .slice none 0 0, .bool false]] [Sm w.heap.size F w [], St w []] [8, 9, 10] 11 rfl rfl mix rfl (.cons_cons _ (.cons _ (.cons_cons _ (.cons_cons _ (.cons_cons _ (.cons_cons _ (.cons_cons _ (.slnil)))))))) (sels [0, 1] rfl) ?_
            refine wf_v 0 rfl (v_move rfl) gn rfl hns (by kernel_rfl) (by kernel_rfl) (by kernel_rfl) rfl ?_
            refine wf_v 1 rfl (v_move rfl) gn rfl hns (by kernel_rfl) (by kernel_rfl) (by kernel_rfl) rfl ?_
            refine wf_v 4 rfl (v_move rfl) gn rfl hns (by kernel_rfl) (by kernel_rfl) (by kernel_rfl) rfl ?_
            refine wf_v 5 rfl (v_fldB fo_39_5 rfl) gn rfl hns (by kernel_rfl) (by kernel_rfl) (by kernel_rfl) rfl ?_
            refine wf_v 6 rfl (v_ldB1 0 ld_3 rfl rfl rfl) gn rfl hns (by kernel_rfl) (by kernel_rfl) (by kernel_rfl) rfl ?_
            refine wf_all [2, 7] (by kernel_rfl) rfl ⟨?_, ?_, trivial⟩
            · refine on_s 2 rfl gn rfl (s_litO (xs := ([x355] : List Int)) [.int .i64 x355] bs_23_1 rfl (by kernel_rfl) rfl rfl rfl rfl fun gb846 h847 => ?_)
              refine ⟨sels [1, 3, 4, 5, 6, 7] rfl, sels [0, 1] rfl, ?_⟩
              refine wf_all [3, 7] (by kernel_rfl) rfl ⟨?_, ?_, trivial⟩
              · refine on_s 3 rfl gn rfl (s_app (zs := x663) (cells' := x663.flatMap (eI .i64)) 2 ap_23 rfl rfl rfl h349 (Nat.le_refl _) (Src.ownF (hl := (hlI .i64)) (h1 := (hone_int .i64)) 0 rfl h847) (by rw [hv664, List.flatMap_append] <;> rfl) (app_len hv664 h847.hq) hb665 rfl rfl fun A853 c854 h855 => ?_)
                refine ⟨sels [1, 3, 4, 5, 6, 7] rfl, sels [0, 1] rfl, ?_⟩
                refine wf_all [7] (by kernel_rfl) rfl ⟨on_s 7 rfl gn rfl (s_litO (xs := ([(ix x1 x355).kids] : List Int)) [.int .i64 ((ix x1 x355).kids)] bs_23_1 rfl (by kernel_rfl) rfl rfl rfl rfl fun gb858 h859 => ?_), trivial⟩
                refine ⟨sels [2, 4, 5, 6, 7, 8] rfl, sels [0, 1] rfl, ?_⟩
                refine wf_all [8] (by kernel_rfl) rfl ⟨on_l 8 rfl gn rfl (s_app (zs := x672) (cells' := x672.flatMap (eI .i64)) 4 ap_23 rfl rfl rfl h653 (Nat.le_refl _) (Src.ownF (hl := (hlI .i64)) (h1 := (hone_int .i64)) 0 rfl h859) (by rw [hv673, List.flatMap_append] <;> rfl) (app_len hv673 h859.hq) hb674 rfl rfl fun A860 c861 h862 => ?_), trivial⟩
                unfold NxL
                refine wf_all [9] (by kernel_rfl) rfl ⟨on_l 9 rfl gn rfl (s_val (v_assign rfl) rfl ?_), trivial⟩
                unfold NxL
                refine wf_all [10] (by kernel_rfl) rfl ⟨on_l 10 rfl gn rfl (s_val (v_assign rfl) rfl ?_), trivial⟩
                unfold NxL
                refine wf_end (by kernel_rfl) ?_
                exact g_go [0, 1] (d4 A853 (n347 + 1) c854 h855 A860 (n352 + 1) c861 h862) ⟨rfl, rfl, rfl, rfl, rfl, rfl, rfl, rfl, trivial⟩ (.cons _ (.cons _ (.cons _ (.cons_cons _ (.cons_cons _ (.cons_cons _ (.cons_cons _ (.cons_cons _ (.cons_cons _ (.slnil)))))))))) rfl
              · refine on_s 7 rfl gn rfl (s_litO (xs := ([(ix x1 x355).kids] : List Int)) [.int .i64 ((ix x1 x355).kids)] bs_23_1 rfl (by kernel_rfl) rfl rfl rfl rfl fun gb863 h864 => ?_)
                refine ⟨sels [2, 4, 5, 6, 7, 8] rfl, sels [0, 1] rfl, ?_⟩
                refine wf_all [3] (by kernel_rfl) rfl ⟨on_s 3 rfl gn rfl (s_app (zs := x663) (cells' := x663.flatMap (eI .i64)) 3 ap_23 rfl rfl rfl h349 (Nat.le_refl _) (Src.ownF (hl := (hlI .i64)) (h1 := (hone_int .i64)) 1 rfl h847) (by rw [hv664, List.flatMap_append] <;> rfl) (app_len hv664 h847.hq) hb665 rfl rfl fun A868 c869 h870 => ?_), trivial⟩
                refine ⟨sels [2, 4, 5, 6, 7, 8] rfl, sels [0, 1] rfl, ?_⟩
                refine wf_all [8] (by kernel_rfl) rfl ⟨on_l 8 rfl gn rfl (s_app (zs := x672) (cells' := x672.flatMap (eI .i64)) 4 ap_23 rfl rfl rfl h653 (Nat.le_refl _) (Src.ownF (hl := (hlI .i64)) (h1 := (hone_int .i64)) 0 rfl h864) (by rw [hv673, List.flatMap_append] <;> rfl) (app_len hv673 h864.hq) hb674 rfl rfl fun A871 c872 h873 => ?_), trivial⟩
                unfold NxL
                refine wf_all [9] (by kernel_rfl) rfl ⟨on_l 9 rfl gn rfl (s_val (v_assign rfl) rfl ?_), trivial⟩
                unfold NxL
                refine wf_all [10] (by kernel_rfl) rfl ⟨on_l 10 rfl gn rfl (s_val (v_assign rfl) rfl ?_), trivial⟩
                unfold NxL
                refine wf_end (by kernel_rfl) ?_
                exact g_go [0, 1] (d4 A868 (n347 + 1) c869 h870 A871 (n352 + 1) c872 h873) ⟨rfl, rfl, rfl, rfl, rfl, rfl, rfl, rfl, trivial⟩ (.cons _ (.cons _ (.cons _ (.cons_cons _ (.cons_cons _ (.cons_cons _ (.cons_cons _ (.cons_cons _ (.cons_cons _ (.slnil)))))))))) rfl
            · refine on_s 7 rfl gn rfl (s_litO (xs := ([(ix x1 x355).kids] : List Int)) [.int .i64 ((ix x1 x355).kids)] bs_23_1 rfl (by kernel_rfl) rfl rfl rfl rfl fun gb874 h875 => ?_)
              refine ⟨sels [1, 3, 4, 5, 6, 7] rfl, sels [0, 1] rfl, ?_⟩
              refine wf_all [2] (by kernel_rfl) rfl ⟨on_s 2 rfl gn rfl (s_litO (xs := ([x355] : List Int)) [.int .i64 x355] bs_23_1 rfl (by kernel_rfl) rfl rfl rfl rfl fun gb878 h879 => ?_), trivial⟩
              refine ⟨sels [2, 4, 5, 6, 7, 8] rfl, sels [0, 1] rfl, ?_⟩
              refine wf_all [3] (by kernel_rfl) rfl ⟨on_s 3 rfl gn rfl (s_app (zs := x663) (cells' := x663.flatMap (eI .i64)) 3 ap_23 rfl rfl rfl h349 (Nat.le_refl _) (Src.ownF (hl := (hlI .i64)) (h1 := (hone_int .i64)) 0 rfl h879) (by rw [hv664, List.flatMap_append] <;> rfl) (app_len hv664 h879.hq) hb665 rfl rfl fun A883 c884 h885 => ?_), trivial⟩
              refine ⟨sels [2, 4, 5, 6, 7, 8] rfl, sels [0, 1] rfl, ?_⟩
              refine wf_all [8] (by kernel_rfl) rfl ⟨on_l 8 rfl gn rfl (s_app (zs := x672) (cells' := x672.flatMap (eI .i64)) 4 ap_23 rfl rfl rfl h653 (Nat.le_refl _) (Src.ownF (hl := (hlI .i64)) (h1 := (hone_int .i64)) 1 rfl h875) (by rw [hv673, List.flatMap_append] <;> rfl) (app_len hv673 h875.hq) hb674 rfl rfl fun A886 c887 h888 => ?_), trivial⟩
              unfold NxL
              refine wf_all [9] (by kernel_rfl) rfl ⟨on_l 9 rfl gn rfl (s_val (v_assign rfl) rfl ?_), trivial⟩
              unfold NxL
              refine wf_all [10] (by kernel_rfl) rfl ⟨on_l 10 rfl gn rfl (s_val (v_assign rfl) rfl ?_), trivial⟩
              unfold NxL
              refine wf_end (by kernel_rfl) ?_
              exact g_go [0, 1] (d4 A883 (n347 + 1) c884 h885 A886 (n352 + 1) c887 h888) ⟨rfl, rfl, rfl, rfl, rfl, rfl, rfl, rfl, trivial⟩ (.cons _ (.cons _ (.cons _ (.cons_cons _ (.cons_cons _ (.cons_cons _ (.cons_cons _ (.cons_cons _ (.cons_cons _ (.slnil)))))))))) rfl
        by_cases hp639 : (x345.length : Int) > 0
        · have h := if_pos' hp639 h
          refine g_true (c := tree_plant_c29) rfl _ rfl ((decide_eq_true hp639)) ?_
          refine g_seq (c := tree_plant_c30) rfl ?_
          obtain ⟨hb889, h⟩ := h
          obtain ⟨hb890, h⟩ := h
          obtain ⟨x891, hv892, h⟩ := h
          have hns : Region.noSelect (Code.ops tree_plant_c57) = true := by kernel_rfl
          refine g_drawF (c := tree_plant_c57) [.box gb633 39 [.string ((ix x1 x355).name), .bool ((ix x1 x355).named), .string ((ix x1 x355).field), .int .i64 ((ix x1 x355).from_), .int .i64 ((ix x1 x355).to), .int .i64 ((ix x1 x355).kids), .int .i64 ((ix x1 x355).leaf)], .own (.slice A346 n347 c348) 3 1 n347 (x345.flatMap (eI .i64)), .own (.slice A351 n352 c353) 3 1 n352 (x350.flatMap (eI .i64)), .box gb76 32 [.slice A2 n3 c4, .slice A77 n78 c79, .slice A81 n82 c83, .bool false], .own (.slice A81 n82 c83) 3 1 n82 (x358.flatMap (eI .i64)), .own (.slice A77 n78 c79) 3 1 n78 (x636.flatMap (eI .i64)), .box gb6 32 [.slice none 0 0, .slice none 0 0, .slice none 0 0, .bool false]] [Sm w.heap.size F w [], St w []] [10] 11 rfl rfl mix rfl (.cons_cons _ (.cons_cons _ (.cons_cons _ (.cons_cons _ (.cons_cons _ (.cons_cons _ (.cons_cons _ (.slnil)))))))) (sels [0, 1] rfl) ?_
          refine wf_v 0 rfl (v_fldB fo_32_1 rfl) gn rfl hns (by kernel_rfl) (by kernel_rfl) (by kernel_rfl) rfl ?_
          refine wf_v 1 rfl (v_ldB1 3 ld_23 rfl rfl rfl) gn rfl hns (by kernel_rfl) (by kernel_rfl) (by kernel_rfl) rfl ?_
          refine wf_v 2 rfl (v_move rfl) gn rfl hns (by kernel_rfl) (by kernel_rfl) (by kernel_rfl) rfl ?_
          refine wf_v 3 rfl (v_move rfl) gn rfl hns (by kernel_rfl) (by kernel_rfl) (by kernel_rfl) rfl ?_
          refine wf_v 4 rfl (v_move rfl) gn rfl hns (by kernel_rfl) (by kernel_rfl) (by kernel_rfl) rfl ?_
          refine wf_v 5 rfl (v_lenQ un_23 rfl h349.hq) gn rfl hns (by kernel_rfl) (by kernel_rfl) (by kernel_rfl) rfl ?_
          refine wf_v 6 rfl (v_bin rfl rfl rfl) gn rfl hns (by kernel_rfl) (by kernel_rfl) (by kernel_rfl) rfl ?_
          refine wf_v 7 rfl (v_idxO slE_23 rfl rfl h349 hb889) gn rfl hns (by kernel_rfl) (by kernel_rfl) (by kernel_rfl) rfl ?_
          refine wf_v 8 rfl (v_ldO1 (.int .i64 (ix x345 (w64 ((x345.length : Int) - 1)))) 1 ld_3 rfl rfl (fm_get0 (hlI .i64) hb889 rfl)) gn rfl hns (by kernel_rfl) (by kernel_rfl) (by kernel_rfl) rfl ?_
          refine wf_v 9 rfl (v_idxO slE_23 rfl rfl h638 hb890) gn rfl hns (by kernel_rfl) (by kernel_rfl) (by kernel_rfl) rfl ?_
          refine wf_all [10] (by kernel_rfl) rfl ⟨on_l 10 rfl gn rfl (s_stF (enc := (eI .i64)) (o := 0) (z := (ix x345 (w64 ((x345.length : Int) - 1)))) (vs := [.int .i64 (ix x345 (w64 ((x345.length : Int) - 1)))]) (i := x355) 5 (hlI .i64) sz_3 rfl rfl rfl rfl rfl h638 hb890 rfl rfl rfl hv892 fun h895 => ?_), trivial⟩
          unfold NxL
          refine wf_end (by kernel_rfl) ?_
          refine g_region (c := tree_plant_c58) rfl rfl ?_
          refine wl_v 0 rfl (v_move rfl) gn rfl ?_
          refine wl_v 1 rfl (v_move rfl) gn rfl ?_
          refine wl_v 2 rfl (v_lenQ un_23 rfl h354.hq) gn rfl ?_
          refine wl_v 3 rfl (v_bin rfl rfl rfl) gn rfl ?_
          obtain ⟨hb896, h⟩ := h
          refine wl_v 4 rfl (v_idxO slE_23 rfl rfl h354 hb896) gn rfl ?_
          refine wl_v 5 rfl (v_ldO1 (.int .i64 (ix x350 (w64 ((x350.length : Int) - 1)))) 2 ld_3 rfl rfl (fm_get0 (hlI .i64) hb896 rfl)) gn rfl ?_
          refine wl_v 6 rfl (v_bin rfl rfl rfl) gn rfl ?_
          refine wl_v 7 rfl (v_idxO slE_23 rfl rfl h354 hb896) gn rfl ?_
          obtain ⟨x897, hv898, h⟩ := h
          refine wl_s 8 rfl (s_stF (enc := (eI .i64)) (o := 0) (z := (w64 ((ix x350 (w64 ((x350.length : Int) - 1))) - 1))) (vs := [.int .i64 (w64 ((ix x350 (w64 ((x350.length : Int) - 1))) - 1))]) (i := (w64 ((x350.length : Int) - 1))) 2 (hlI .i64) sz_3 rfl rfl rfl rfl rfl h354 hb896 rfl rfl rfl hv898 fun h899 => ?_) gn
          refine w_end 9 rfl ?_
          exact g_go [0, 1] (j2 x897 x891 h h899 h895) ⟨rfl, rfl, rfl, rfl, rfl, rfl, rfl, rfl, rfl, trivial⟩ (.cons_cons _ (.cons_cons _ (.cons_cons _ (.cons_cons _ (.cons_cons _ (.cons_cons _ (.cons_cons _ (.slnil)))))))) rfl
        · have h := if_neg' hp639 h
          refine g_false (c := tree_plant_c29) rfl _ rfl ((decide_eq_false hp639)) ?_
          refine g_skip (c := tree_plant_c31) rfl ?_
          exact g_go [0, 1] (j2 x350 x636 h h354 h638) ⟨rfl, rfl, rfl, rfl, rfl, rfl, rfl, rfl, rfl, trivial⟩ (.cons_cons _ (.cons_cons _ (.cons_cons _ (.cons_cons _ (.cons_cons _ (.cons_cons _ (.cons_cons _ (.slnil)))))))) rfl
      · have h := if_neg' hp630 h
        refine g_false (c := tree_plant_c15) rfl _ rfl ((decide_eq_false hp630)) ?_
        refine g_exit (c := tree_plant_c18) [.code tree_plant_c8] rfl rfl ?_
        refine g_seq (c := tree_plant_c8) rfl ?_
        refine g_region (c := tree_plant_c53) rfl rfl ?_
        refine wl_v 0 rfl (v_move rfl) gn rfl ?_
        refine wl_v 1 rfl (v_lenQ un_23 rfl h349.hq) gn rfl ?_
        refine wl_v 2 rfl (v_bin rfl rfl rfl) gn rfl ?_
        refine wl_v 3 rfl (v_fldB fo_32_3 rfl) gn rfl ?_
        refine wl_s 4 rfl (s_stB (vs := [.bool ((x345.length : Int) == 0)]) (cs' := [.slice A2 n3 c4, .slice A77 n78 c79, .slice A81 n82 c83, .bool ((x345.length : Int) == 0)]) (M' := [.own (.slice A346 n347 c348) 3 1 n347 (x345.flatMap (eI .i64)), .own (.slice A351 n352 c353) 3 1 n352 (x350.flatMap (eI .i64)), .box gb76 32 [.slice A2 n3 c4, .slice A77 n78 c79, .slice A81 n82 c83, .bool ((x345.length : Int) == 0)], .own (.slice A81 n82 c83) 3 1 n82 (x358.flatMap (eI .i64)), .own (.slice A77 n78 c79) 3 1 n78 (x356.flatMap (eI .i64)), .box gb6 32 [.slice none 0 0, .slice none 0 0, .slice none 0 0, .bool false]]) 2 sz_4 rfl rfl rfl rfl rfl rfl rfl rfl rfl ?_) gn
        refine w_end 5 rfl ?_
        refine g_seq (c := tree_plant_c54) rfl ?_
        refine g_region (c := tree_plant_c55) rfl rfl ?_
        refine wl_v 0 rfl (v_ldB [.slice A2 n3 c4, .slice A77 n78 c79, .slice A81 n82 c83, .bool ((x345.length : Int) == 0)] 2 ld_32 rfl rfl rfl rfl) gn rfl ?_
        refine wl_s 1 rfl (s_stB (vs := [.slice A2 n3 c4, .slice A77 n78 c79, .slice A81 n82 c83, .bool ((x345.length : Int) == 0)]) (cs' := [.slice A2 n3 c4, .slice A77 n78 c79, .slice A81 n82 c83, .bool ((x345.length : Int) == 0)]) (M' := [.own (.slice A346 n347 c348) 3 1 n347 (x345.flatMap (eI .i64)), .own (.slice A351 n352 c353) 3 1 n352 (x350.flatMap (eI .i64)), .box gb76 32 [.slice A2 n3 c4, .slice A77 n78 c79, .slice A81 n82 c83, .bool ((x345.length : Int) == 0)], .own (.slice A81 n82 c83) 3 1 n82 (x358.flatMap (eI .i64)), .own (.slice A77 n78 c79) 3 1 n78 (x356.flatMap (eI .i64)), .box gb6 32 [.slice A2 n3 c4, .slice A77 n78 c79, .slice A81 n82 c83, .bool ((x345.length : Int) == 0)]]) 5 sz_32 rfl rfl rfl rfl rfl rfl rfl rfl rfl ?_) gn
        refine w_end 2 rfl ?_
        have h := Out.inr hO1 h
        refine g_retR (c := tree_plant_c56) [.agg #[.slice A2 n3 c4, .slice A77 n78 c79, .slice A81 n82 c83, .bool ((x345.length : Int) == 0)]] rfl Try.func44 rfl (.cell (cs := [.slice A2 n3 c4, .slice A77 n78 c79, .slice A81 n82 c83, .bool ((x345.length : Int) == 0)]) (us := [.slice A2 n3 c4, .slice A77 n78 c79, .slice A81 n82 c83, .bool ((x345.length : Int) == 0)]) 5 rfl ld_32 rfl rfl rfl (.nil)) fun wr hLr => ?_
        have hMr : B.Loc w wr [.own (.slice A77 n78 c79) 3 1 n78 (x356.flatMap (eI .i64)), .own (.slice A81 n82 c83) 3 1 n82 (x358.flatMap (eI .i64))] [St w []] := hLr.pick (rest := [.own (.slice A346 n347 c348) 3 1 n347 (x345.flatMap (eI .i64)), .own (.slice A351 n352 c353) 3 1 n352 (x350.flatMap (eI .i64)), .box gb76 32 [.slice A2 n3 c4, .slice A77 n78 c79, .slice A81 n82 c83, .bool ((x345.length : Int) == 0)], .box gb6 32 [.slice A2 n3 c4, .slice A77 n78 c79, .slice A81 n82 c83, .bool ((x345.length : Int) == 0)]]) (perm_of_idx [4, 3] [0, 1, 2, 5] rfl rfl (by kernel_rfl)) (sels [1] rfl)
        have hMi : ∀ e ∈ ([.own (.slice A77 n78 c79) 3 1 n78 (x356.flatMap (eI .i64)), .own (.slice A81 n82 c83) 3 1 n82 (x358.flatMap (eI .i64))] : List Ent), e ∈ ([.own (.slice A346 n347 c348) 3 1 n347 (x345.flatMap (eI .i64)), .own (.slice A351 n352 c353) 3 1 n352 (x350.flatMap (eI .i64)), .box gb76 32 [.slice A2 n3 c4, .slice A77 n78 c79, .slice A81 n82 c83, .bool ((x345.length : Int) == 0)], .own (.slice A81 n82 c83) 3 1 n82 (x358.flatMap (eI .i64)), .own (.slice A77 n78 c79) 3 1 n78 (x356.flatMap (eI .i64)), .box gb6 32 [.slice A2 n3 c4, .slice A77 n78 c79, .slice A81 n82 c83, .bool ((x345.length : Int) == 0)]] : List Ent) := sels [4, 3] rfl
        show tree_plant_R w F  r (.returned (packV [.agg #[.slice A2 n3 c4, .slice A77 n78 c79, .slice A81 n82 c83, .bool ((x345.length : Int) == 0)]])) wr
        rw [h]
        exact ⟨A77, n78, c79, A81, n82, c83, A2, n3, c4, rfl, hMr, h357, h359, (hLr.outR (s := Sm w.heap.size F w []) hMi (me 0 rfl) Sm.ok h5)⟩
    refine g_nil 3 1 ?_
    refine g_nil 3 1 ?_
    exact g_go [0, 1] (key1 _ h none 0 0 (Ow.nil (z := w.heap.size)) none 0 0 (Ow.nil (z := w.heap.size)) h80 h84) ⟨rfl, rfl, rfl, rfl, rfl, rfl, rfl, trivial⟩ (.cons_cons _ (.cons_cons _ (.cons_cons _ (.cons_cons _ (.cons_cons _ (.cons_cons _ (.slnil))))))) rfl
  have hns : Region.noSelect (Code.ops tree_plant_c3) = true := by kernel_rfl
  refine g_drawF (c := tree_plant_c3) [.box gb6 32 [.slice none 0 0, .slice none 0 0, .slice none 0 0, .bool false]] [Sm w.heap.size F w [], St w []] [] 10 rfl rfl mix rfl (.cons_cons _ (.slnil)) (sels [0, 1] rfl) ?_
  refine wf_v 0 rfl (v_move rfl) gn rfl hns (by kernel_rfl) (by kernel_rfl) rfl rfl ?_
  refine wf_v 1 rfl (v_move rfl) gn rfl hns (by kernel_rfl) (by kernel_rfl) rfl rfl ?_
  refine wf_v 2 rfl (v_lenQ un_22 rfl h5.hq) gn rfl hns (by kernel_rfl) (by kernel_rfl) rfl rfl ?_
  refine wf_v 4 rfl (v_move rfl) gn rfl hns (by kernel_rfl) (by kernel_rfl) rfl rfl ?_
  refine wf_v 5 rfl (v_lenQ un_22 rfl h5.hq) gn rfl hns (by kernel_rfl) (by kernel_rfl) rfl rfl ?_
  refine wf_all [3, 6, 8] (by kernel_rfl) rfl ⟨?_, ?_, ?_, trivial⟩
  · refine on_s 3 rfl gn rfl (s_makeX (enc := (eI .i64)) (z := 0) mk_23 rfl (by decide) rfl rfl hb8.1 hb8.2 (by decide) hv13 rfl fun A909 h910 => ?_)
    refine ⟨sels [1] rfl, sels [0, 1] rfl, ?_⟩
    refine wf_all [6, 8] (by kernel_rfl) rfl ⟨?_, ?_, trivial⟩
    · refine on_s 6 rfl gn rfl (s_makeX (enc := (eI .i64)) (z := 0) mk_23 rfl (by decide) rfl rfl hb8.1 hb8.2 (by decide) hv18 rfl fun A914 h915 => ?_)
      refine ⟨sels [2] rfl, sels [0, 1] rfl, ?_⟩
      refine wf_v 7 rfl (v_build #[.slice A2 n3 c4, .slice A909 (((x1.length : Int) : Int).toNat) (((x1.length : Int) : Int).toNat), .slice A914 (((x1.length : Int) : Int).toNat) (((x1.length : Int) : Int).toNat), .bool false] bd_32 rfl (by kernel_rfl)) gn rfl hns (by kernel_rfl) (by kernel_rfl) rfl rfl ?_
      refine wf_all [8] (by kernel_rfl) rfl ⟨on_s 8 rfl gn rfl (s_alloc [.slice none 0 0, .slice none 0 0, .slice none 0 0, .bool false] zr_32 rfl fun gb917 => ?_), trivial⟩
      refine ⟨sels [3] rfl, sels [0, 1] rfl, ?_⟩
      refine wf_all [9] (by kernel_rfl) rfl ⟨on_s 9 rfl gn rfl (s_stB (vs := [.slice A2 n3 c4, .slice A909 (((x1.length : Int) : Int).toNat) (((x1.length : Int) : Int).toNat), .slice A914 (((x1.length : Int) : Int).toNat) (((x1.length : Int) : Int).toNat), .bool false]) (cs' := [.slice A2 n3 c4, .slice A909 (((x1.length : Int) : Int).toNat) (((x1.length : Int) : Int).toNat), .slice A914 (((x1.length : Int) : Int).toNat) (((x1.length : Int) : Int).toNat), .bool false]) (M' := [.box gb917 32 [.slice A2 n3 c4, .slice A909 (((x1.length : Int) : Int).toNat) (((x1.length : Int) : Int).toNat), .slice A914 (((x1.length : Int) : Int).toNat) (((x1.length : Int) : Int).toNat), .bool false], .own (.slice A914 (((x1.length : Int) : Int).toNat) (((x1.length : Int) : Int).toNat)) 3 1 (((x1.length : Int) : Int).toNat) (x17.flatMap (eI .i64)), .own (.slice A909 (((x1.length : Int) : Int).toNat) (((x1.length : Int) : Int).toNat)) 3 1 (((x1.length : Int) : Int).toNat) (x12.flatMap (eI .i64)), .box gb6 32 [.slice none 0 0, .slice none 0 0, .slice none 0 0, .bool false]]) 0 sz_32 rfl rfl rfl rfl rfl rfl rfl rfl rfl ?_), trivial⟩
      refine ⟨sels [3] rfl, sels [0, 1] rfl, ?_⟩
      refine wf_end (by kernel_rfl) ?_
      exact g_go [0, 1] (d1 gb917 A909 (((x1.length : Int) : Int).toNat) (((x1.length : Int) : Int).toNat) h910 A914 (((x1.length : Int) : Int).toNat) (((x1.length : Int) : Int).toNat) h915) ⟨rfl, rfl, rfl, trivial⟩ (.cons_cons _ (.cons_cons _ (.cons_cons _ (.cons_cons _ (.slnil))))) rfl
    · refine on_s 8 rfl gn rfl (s_alloc [.slice none 0 0, .slice none 0 0, .slice none 0 0, .bool false] zr_32 rfl fun gb918 => ?_)
      refine ⟨sels [2] rfl, sels [0, 1] rfl, ?_⟩
      refine wf_all [6] (by kernel_rfl) rfl ⟨on_s 6 rfl gn rfl (s_makeX (enc := (eI .i64)) (z := 0) mk_23 rfl (by decide) rfl rfl hb8.1 hb8.2 (by decide) hv18 rfl fun A921 h922 => ?_), trivial⟩
      refine ⟨sels [3] rfl, sels [0, 1] rfl, ?_⟩
      refine wf_v 7 rfl (v_build #[.slice A2 n3 c4, .slice A909 (((x1.length : Int) : Int).toNat) (((x1.length : Int) : Int).toNat), .slice A921 (((x1.length : Int) : Int).toNat) (((x1.length : Int) : Int).toNat), .bool false] bd_32 rfl (by kernel_rfl)) gn rfl hns (by kernel_rfl) (by kernel_rfl) rfl rfl ?_
      refine wf_all [9] (by kernel_rfl) rfl ⟨on_s 9 rfl gn rfl (s_stB (vs := [.slice A2 n3 c4, .slice A909 (((x1.length : Int) : Int).toNat) (((x1.length : Int) : Int).toNat), .slice A921 (((x1.length : Int) : Int).toNat) (((x1.length : Int) : Int).toNat), .bool false]) (cs' := [.slice A2 n3 c4, .slice A909 (((x1.length : Int) : Int).toNat) (((x1.length : Int) : Int).toNat), .slice A921 (((x1.length : Int) : Int).toNat) (((x1.length : Int) : Int).toNat), .bool false]) (M' := [.own (.slice A921 (((x1.length : Int) : Int).toNat) (((x1.length : Int) : Int).toNat)) 3 1 (((x1.length : Int) : Int).toNat) (x17.flatMap (eI .i64)), .box gb918 32 [.slice A2 n3 c4, .slice A909 (((x1.length : Int) : Int).toNat) (((x1.length : Int) : Int).toNat), .slice A921 (((x1.length : Int) : Int).toNat) (((x1.length : Int) : Int).toNat), .bool false], .own (.slice A909 (((x1.length : Int) : Int).toNat) (((x1.length : Int) : Int).toNat)) 3 1 (((x1.length : Int) : Int).toNat) (x12.flatMap (eI .i64)), .box gb6 32 [.slice none 0 0, .slice none 0 0, .slice none 0 0, .bool false]]) 1 sz_32 rfl rfl rfl rfl rfl rfl rfl rfl rfl ?_), trivial⟩
      refine ⟨sels [3] rfl, sels [0, 1] rfl, ?_⟩
      refine wf_end (by kernel_rfl) ?_
      refine g_front 3 rfl ?_
      refine g_front 3 rfl ?_
      refine g_front 2 rfl ?_
      refine g_front 3 rfl ?_
      exact g_go [0, 1] (d1 gb918 A909 (((x1.length : Int) : Int).toNat) (((x1.length : Int) : Int).toNat) h910 A921 (((x1.length : Int) : Int).toNat) (((x1.length : Int) : Int).toNat) h922) ⟨rfl, rfl, rfl, trivial⟩ (.cons_cons _ (.cons_cons _ (.cons_cons _ (.cons_cons _ (.slnil))))) rfl
  · refine on_s 6 rfl gn rfl (s_makeX (enc := (eI .i64)) (z := 0) mk_23 rfl (by decide) rfl rfl hb8.1 hb8.2 (by decide) hv18 rfl fun A923 h924 => ?_)
    refine ⟨sels [1] rfl, sels [0, 1] rfl, ?_⟩
    refine wf_all [3, 8] (by kernel_rfl) rfl ⟨?_, ?_, trivial⟩
    · refine on_s 3 rfl gn rfl (s_makeX (enc := (eI .i64)) (z := 0) mk_23 rfl (by decide) rfl rfl hb8.1 hb8.2 (by decide) hv13 rfl fun A928 h929 => ?_)
      refine ⟨sels [2] rfl, sels [0, 1] rfl, ?_⟩
      refine wf_v 7 rfl (v_build #[.slice A2 n3 c4, .slice A928 (((x1.length : Int) : Int).toNat) (((x1.length : Int) : Int).toNat), .slice A923 (((x1.length : Int) : Int).toNat) (((x1.length : Int) : Int).toNat), .bool false] bd_32 rfl (by kernel_rfl)) gn rfl hns (by kernel_rfl) (by kernel_rfl) rfl rfl ?_
      refine wf_all [8] (by kernel_rfl) rfl ⟨on_s 8 rfl gn rfl (s_alloc [.slice none 0 0, .slice none 0 0, .slice none 0 0, .bool false] zr_32 rfl fun gb931 => ?_), trivial⟩
      refine ⟨sels [3] rfl, sels [0, 1] rfl, ?_⟩
      refine wf_all [9] (by kernel_rfl) rfl ⟨on_s 9 rfl gn rfl (s_stB (vs := [.slice A2 n3 c4, .slice A928 (((x1.length : Int) : Int).toNat) (((x1.length : Int) : Int).toNat), .slice A923 (((x1.length : Int) : Int).toNat) (((x1.length : Int) : Int).toNat), .bool false]) (cs' := [.slice A2 n3 c4, .slice A928 (((x1.length : Int) : Int).toNat) (((x1.length : Int) : Int).toNat), .slice A923 (((x1.length : Int) : Int).toNat) (((x1.length : Int) : Int).toNat), .bool false]) (M' := [.box gb931 32 [.slice A2 n3 c4, .slice A928 (((x1.length : Int) : Int).toNat) (((x1.length : Int) : Int).toNat), .slice A923 (((x1.length : Int) : Int).toNat) (((x1.length : Int) : Int).toNat), .bool false], .own (.slice A928 (((x1.length : Int) : Int).toNat) (((x1.length : Int) : Int).toNat)) 3 1 (((x1.length : Int) : Int).toNat) (x12.flatMap (eI .i64)), .own (.slice A923 (((x1.length : Int) : Int).toNat) (((x1.length : Int) : Int).toNat)) 3 1 (((x1.length : Int) : Int).toNat) (x17.flatMap (eI .i64)), .box gb6 32 [.slice none 0 0, .slice none 0 0, .slice none 0 0, .bool false]]) 0 sz_32 rfl rfl rfl rfl rfl rfl rfl rfl rfl ?_), trivial⟩
      refine ⟨sels [3] rfl, sels [0, 1] rfl, ?_⟩
      refine wf_end (by kernel_rfl) ?_
      refine g_front 3 rfl ?_
      refine g_front 2 rfl ?_
      refine g_front 3 rfl ?_
      refine g_front 3 rfl ?_
      exact g_go [0, 1] (d1 gb931 A928 (((x1.length : Int) : Int).toNat) (((x1.length : Int) : Int).toNat) h929 A923 (((x1.length : Int) : Int).toNat) (((x1.length : Int) : Int).toNat) h924) ⟨rfl, rfl, rfl, trivial⟩ (.cons_cons _ (.cons_cons _ (.cons_cons _ (.cons_cons _ (.slnil))))) rfl
    · refine on_s 8 rfl gn rfl (s_alloc [.slice none 0 0, .slice none 0 0, .slice none 0 0, .bool false] zr_32 rfl fun gb932 => ?_)
      refine ⟨sels [2] rfl, sels [0, 1] rfl, ?_⟩
      refine wf_all [3] (by kernel_rfl) rfl ⟨on_s 3 rfl gn rfl (s_makeX (enc := (eI .i64)) (z := 0) mk_23 rfl (by decide) rfl rfl hb8.1 hb8.2 (by decide) hv13 rfl fun A935 h936 => ?_), trivial⟩
      refine ⟨sels [3] rfl, sels [0, 1] rfl, ?_⟩
      refine wf_v 7 rfl (v_build #[.slice A2 n3 c4, .slice A935 (((x1.length : Int) : Int).toNat) (((x1.length : Int) : Int).toNat), .slice A923 (((x1.length : Int) : Int).toNat) (((x1.length : Int) : Int).toNat), .bool false] bd_32 rfl (by kernel_rfl)) gn rfl hns (by kernel_rfl) (by kernel_rfl) rfl rfl ?_
      refine wf_all [9] (by kernel_rfl) rfl ⟨on_s 9 rfl gn rfl (s_stB (vs := [.slice A2 n3 c4, .slice A935 (((x1.length : Int) : Int).toNat) (((x1.length : Int) : Int).toNat), .slice A923 (((x1.length : Int) : Int).toNat) (((x1.length : Int) : Int).toNat), .bool false]) (cs' := [.slice A2 n3 c4, .slice A935 (((x1.length : Int) : Int).toNat) (((x1.length : Int) : Int).toNat), .slice A923 (((x1.length : Int) : Int).toNat) (((x1.length : Int) : Int).toNat), .bool false]) (M' := [.own (.slice A935 (((x1.length : Int) : Int).toNat) (((x1.length : Int) : Int).toNat)) 3 1 (((x1.length : Int) : Int).toNat) (x12.flatMap (eI .i64)), .box gb932 32 [.slice A2 n3 c4, .slice A935 (((x1.length : Int) : Int).toNat) (((x1.length : Int) : Int).toNat), .slice A923 (((x1.length : Int) : Int).toNat) (((x1.length : Int) : Int).toNat), .bool false], .own (.slice A923 (((x1.length : Int) : Int).toNat) (((x1.length : Int) : Int).toNat)) 3 1 (((x1.length : Int) : Int).toNat) (x17.flatMap (eI .i64)), .box gb6 32 [.slice none 0 0, .slice none 0 0, .slice none 0 0, .bool false]]) 1 sz_32 rfl rfl rfl rfl rfl rfl rfl rfl rfl ?_), trivial⟩
      refine ⟨sels [3] rfl, sels [0, 1] rfl, ?_⟩
      refine wf_end (by kernel_rfl) ?_
      refine g_front 3 rfl ?_
      refine g_front 1 rfl ?_
      refine g_front 3 rfl ?_
      refine g_front 3 rfl ?_
      exact g_go [0, 1] (d1 gb932 A935 (((x1.length : Int) : Int).toNat) (((x1.length : Int) : Int).toNat) h936 A923 (((x1.length : Int) : Int).toNat) (((x1.length : Int) : Int).toNat) h924) ⟨rfl, rfl, rfl, trivial⟩ (.cons_cons _ (.cons_cons _ (.cons_cons _ (.cons_cons _ (.slnil))))) rfl
  · refine on_s 8 rfl gn rfl (s_alloc [.slice none 0 0, .slice none 0 0, .slice none 0 0, .bool false] zr_32 rfl fun gb937 => ?_)
    refine ⟨sels [1] rfl, sels [0, 1] rfl, ?_⟩
    refine wf_all [3, 6] (by kernel_rfl) rfl ⟨?_, ?_, trivial⟩
    · refine on_s 3 rfl gn rfl (s_makeX (enc := (eI .i64)) (z := 0) mk_23 rfl (by decide) rfl rfl hb8.1 hb8.2 (by decide) hv13 rfl fun A942 h943 => ?_)
      refine ⟨sels [2] rfl, sels [0, 1] rfl, ?_⟩
      refine wf_all [6] (by kernel_rfl) rfl ⟨on_s 6 rfl gn rfl (s_makeX (enc := (eI .i64)) (z := 0) mk_23 rfl (by decide) rfl rfl hb8.1 hb8.2 (by decide) hv18 rfl fun A946 h947 => ?_), trivial⟩
      refine ⟨sels [3] rfl, sels [0, 1] rfl, ?_⟩
      refine wf_v 7 rfl (v_build #[.slice A2 n3 c4, .slice A942 (((x1.length : Int) : Int).toNat) (((x1.length : Int) : Int).toNat), .slice A946 (((x1.length : Int) : Int).toNat) (((x1.length : Int) : Int).toNat), .bool false] bd_32 rfl (by kernel_rfl)) gn rfl hns (by kernel_rfl) (by kernel_rfl) rfl rfl ?_
      refine wf_all [9] (by kernel_rfl) rfl ⟨on_s 9 rfl gn rfl (s_stB (vs := [.slice A2 n3 c4, .slice A942 (((x1.length : Int) : Int).toNat) (((x1.length : Int) : Int).toNat), .slice A946 (((x1.length : Int) : Int).toNat) (((x1.length : Int) : Int).toNat), .bool false]) (cs' := [.slice A2 n3 c4, .slice A942 (((x1.length : Int) : Int).toNat) (((x1.length : Int) : Int).toNat), .slice A946 (((x1.length : Int) : Int).toNat) (((x1.length : Int) : Int).toNat), .bool false]) (M' := [.own (.slice A946 (((x1.length : Int) : Int).toNat) (((x1.length : Int) : Int).toNat)) 3 1 (((x1.length : Int) : Int).toNat) (x17.flatMap (eI .i64)), .own (.slice A942 (((x1.length : Int) : Int).toNat) (((x1.length : Int) : Int).toNat)) 3 1 (((x1.length : Int) : Int).toNat) (x12.flatMap (eI .i64)), .box gb937 32 [.slice A2 n3 c4, .slice A942 (((x1.length : Int) : Int).toNat) (((x1.length : Int) : Int).toNat), .slice A946 (((x1.length : Int) : Int).toNat) (((x1.length : Int) : Int).toNat), .bool false], .box gb6 32 [.slice none 0 0, .slice none 0 0, .slice none 0 0, .bool false]]) 2 sz_32 rfl rfl rfl rfl rfl rfl rfl rfl rfl ?_), trivial⟩
      refine ⟨sels [3] rfl, sels [0, 1] rfl, ?_⟩
      refine wf_end (by kernel_rfl) ?_
      refine g_front 3 rfl ?_
      refine g_front 2 rfl ?_
      refine g_front 2 rfl ?_
      refine g_front 3 rfl ?_
      exact g_go [0, 1] (d1 gb937 A942 (((x1.length : Int) : Int).toNat) (((x1.length : Int) : Int).toNat) h943 A946 (((x1.length : Int) : Int).toNat) (((x1.length : Int) : Int).toNat) h947) ⟨rfl, rfl, rfl, trivial⟩ (.cons_cons _ (.cons_cons _ (.cons_cons _ (.cons_cons _ (.slnil))))) rfl
    · refine on_s 6 rfl gn rfl (s_makeX (enc := (eI .i64)) (z := 0) mk_23 rfl (by decide) rfl rfl hb8.1 hb8.2 (by decide) hv18 rfl fun A948 h949 => ?_)
      refine ⟨sels [2] rfl, sels [0, 1] rfl, ?_⟩
      refine wf_all [3] (by kernel_rfl) rfl ⟨on_s 3 rfl gn rfl (s_makeX (enc := (eI .i64)) (z := 0) mk_23 rfl (by decide) rfl rfl hb8.1 hb8.2 (by decide) hv13 rfl fun A952 h953 => ?_), trivial⟩
      refine ⟨sels [3] rfl, sels [0, 1] rfl, ?_⟩
      refine wf_v 7 rfl (v_build #[.slice A2 n3 c4, .slice A952 (((x1.length : Int) : Int).toNat) (((x1.length : Int) : Int).toNat), .slice A948 (((x1.length : Int) : Int).toNat) (((x1.length : Int) : Int).toNat), .bool false] bd_32 rfl (by kernel_rfl)) gn rfl hns (by kernel_rfl) (by kernel_rfl) rfl rfl ?_
      refine wf_all [9] (by kernel_rfl) rfl ⟨on_s 9 rfl gn rfl (s_stB (vs := [.slice A2 n3 c4, .slice A952 (((x1.length : Int) : Int).toNat) (((x1.length : Int) : Int).toNat), .slice A948 (((x1.length : Int) : Int).toNat) (((x1.length : Int) : Int).toNat), .bool false]) (cs' := [.slice A2 n3 c4, .slice A952 (((x1.length : Int) : Int).toNat) (((x1.length : Int) : Int).toNat), .slice A948 (((x1.length : Int) : Int).toNat) (((x1.length : Int) : Int).toNat), .bool false]) (M' := [.own (.slice A952 (((x1.length : Int) : Int).toNat) (((x1.length : Int) : Int).toNat)) 3 1 (((x1.length : Int) : Int).toNat) (x12.flatMap (eI .i64)), .own (.slice A948 (((x1.length : Int) : Int).toNat) (((x1.length : Int) : Int).toNat)) 3 1 (((x1.length : Int) : Int).toNat) (x17.flatMap (eI .i64)), .box gb937 32 [.slice A2 n3 c4, .slice A952 (((x1.length : Int) : Int).toNat) (((x1.length : Int) : Int).toNat), .slice A948 (((x1.length : Int) : Int).toNat) (((x1.length : Int) : Int).toNat), .bool false], .box gb6 32 [.slice none 0 0, .slice none 0 0, .slice none 0 0, .bool false]]) 2 sz_32 rfl rfl rfl rfl rfl rfl rfl rfl rfl ?_), trivial⟩
      refine ⟨sels [3] rfl, sels [0, 1] rfl, ?_⟩
      refine wf_end (by kernel_rfl) ?_
      refine g_front 3 rfl ?_
      refine g_front 1 rfl ?_
      refine g_front 2 rfl ?_
      refine g_front 3 rfl ?_
      exact g_go [0, 1] (d1 gb937 A952 (((x1.length : Int) : Int).toNat) (((x1.length : Int) : Int).toNat) h953 A948 (((x1.length : Int) : Int).toNat) (((x1.length : Int) : Int).toNat) h949) ⟨rfl, rfl, rfl, trivial⟩ (.cons_cons _ (.cons_cons _ (.cons_cons _ (.cons_cons _ (.slnil))))) rfl
noncomputable abbrev tree_forest_has_c0 : Code := bodyOf Try.f46
noncomputable abbrev tree_forest_has_c1 : Code := Code.fst tree_forest_has_c0
noncomputable abbrev tree_forest_has_c2 : Code := Code.snd tree_forest_has_c0
noncomputable abbrev tree_forest_has_c3 : Code := Code.fst tree_forest_has_c2
noncomputable abbrev tree_forest_has_c4 : Code := Code.snd tree_forest_has_c2
abbrev tree_forest_has_R (w : World) (F : Nat → Prop) (r : Bool) : Ending → World → Prop := fun e w' => e = .returned (.bool r) ∧ B.Loc w w' [] [St w []]
noncomputable abbrev tree_forest_has_C (w : World) (F : Nat → Prop) (r : Bool) : Cx := ⟨Try.prog, 46, Try.f46, 18, tree_forest_has_R w F  r, w⟩
theorem tree_forest_has_calls (w : World) (F : Nat → Prop) (x1 : tree_forest) (x14 : Int) (A2 : Option Addr) (n3 : Nat) (c4 : Nat) (A6 : Option Addr) (n7 : Nat) (c8 : Nat) (A10 : Option Addr) (n11 : Nat) (c12 : Nat) (h5 : Rw k_api_Node w (St w []).av A2 n3 c4 x1.nodes) (h9 : Rw (kInt .i64) w (St w []).av A6 n7 c8 x1.parent) (h13 : Rw (kInt .i64) w (St w []).av A10 n11 c12 x1.end_) (hF : ∀ b, F b → b < w.heap.size ∧ ∀ o ∈ ([] : List (List Nat)), b ∉ o) (hL0 : B.Loc w w [] [Sm w.heap.size F w [], St w []]) (r : Bool) (h : tree_forest_has x1 x14 r) : Calls Try.prog 46 #[.agg #[.slice A2 n3 c4, .slice A6 n7 c8, .slice A10 n11 c12, .bool x1.ok], .int .i64 x14] w (tree_forest_has_R w F  r) := by
  unfold tree_forest_has at h
  refine calls_of_Loc (vs := [.agg #[.slice A2 n3 c4, .slice A6 n7 c8, .slice A10 n11 c12, .bool x1.ok], .int .i64 x14]) 18 Try.func46 rfl Try.ntmps46 rfl hL0 ?_
  show G (tree_forest_has_C w F r) _ _ _ _
  refine g_seq (c := tree_forest_has_c0) rfl ?_
  refine g_region (c := tree_forest_has_c1) rfl rfl ?_
  refine wl_s 0 rfl (s_box [.slice A2 n3 c4, .slice A6 n7 c8, .slice A10 n11 c12, .bool x1.ok] rfl rfl rfl fun gb15 => ?_) gn
  refine wl_v 1 rfl (v_assign rfl) gn rfl ?_
  refine w_end 2 rfl ?_
  refine g_seq (c := tree_forest_has_c2) rfl ?_
  refine g_region (c := tree_forest_has_c3) rfl rfl ?_
  refine wl_v 0 rfl (v_fldB fo_32_3 rfl) gn rfl ?_
  refine wl_v 1 rfl (v_ldB1 0 ld_4 rfl rfl rfl) gn rfl ?_
  refine wl_v 2 rfl (v_move rfl) gn rfl ?_
  by_cases hp17 : x1.ok = true
  · have h := if_pos' hp17 h
    refine w_bool 7 rfl (hp17) ?_
    refine wl_v 3 rfl (v_move rfl) (gy 7 rfl rfl) rfl ?_
    refine wl_v 4 rfl (v_bin rfl rfl rfl) (gy 7 rfl rfl) rfl ?_
    refine wl_v 5 rfl (v_pick (b := true) rfl rfl) gn rfl ?_
    refine wl_v 6 rfl (v_move rfl) gn rfl ?_
    by_cases hp18 : x14 ≥ 0
    · have h := if_pos' hp18 h
      refine w_bool 11 rfl ((decide_eq_true hp18)) ?_
      refine wl_v 7 rfl (v_move rfl) (gy 11 rfl rfl) rfl ?_
      refine wl_v 8 rfl (v_fldB fo_32_0 rfl) (gy 11 rfl rfl) rfl ?_
      refine wl_v 9 rfl (v_ldB1 0 ld_22 rfl rfl rfl) (gy 11 rfl rfl) rfl ?_
      refine wl_v 10 rfl (v_lenQ un_22 rfl h5.hq) (gy 11 rfl rfl) rfl ?_
      refine wl_v 11 rfl (v_bin rfl rfl rfl) (gy 11 rfl rfl) rfl ?_
      refine wl_v 12 rfl (v_pick (b := true) rfl rfl) gn rfl ?_
      refine wl_v 13 rfl (v_assign rfl) gn rfl ?_
      refine w_end 14 rfl ?_
      refine g_retR (c := tree_forest_has_c4) [.bool (decide (x14 < (x1.nodes.length : Int)))] rfl Try.func46 rfl (.tmp rfl (.nil)) fun wr hLr => ?_
      have hMr : B.Loc w wr [] [St w []] := hLr.pick (rest := [.box gb15 32 [.slice A2 n3 c4, .slice A6 n7 c8, .slice A10 n11 c12, .bool x1.ok]]) (perm_of_idx [] [0] rfl rfl (by kernel_rfl)) (sels [1] rfl)
      have hMi : ∀ e ∈ ([] : List Ent), e ∈ ([.box gb15 32 [.slice A2 n3 c4, .slice A6 n7 c8, .slice A10 n11 c12, .bool x1.ok]] : List Ent) := sels [] rfl
      show tree_forest_has_R w F  r (.returned (packV [.bool (decide (x14 < (x1.nodes.length : Int)))])) wr
      rw [h]
      exact ⟨rfl, hMr⟩
    · have h := if_neg' hp18 h
      refine w_bool 11 rfl ((decide_eq_false hp18)) ?_
      refine wl_pass 7 rfl (ps 11 rfl rfl rfl) ?_
      refine wl_pass 8 rfl (ps 11 rfl rfl rfl) ?_
      refine wl_pass 9 rfl (ps 11 rfl rfl rfl) ?_
      refine wl_pass 10 rfl (ps 11 rfl rfl rfl) ?_
      refine wl_pass 11 rfl (ps 11 rfl rfl rfl) ?_
      refine wl_v 12 rfl (v_pick (b := false) rfl rfl) gn rfl ?_
      refine wl_v 13 rfl (v_assign rfl) gn rfl ?_
      refine w_end 14 rfl ?_
      refine g_retR (c := tree_forest_has_c4) [.bool false] rfl Try.func46 rfl (.tmp rfl (.nil)) fun wr hLr => ?_
      have hMr : B.Loc w wr [] [St w []] := hLr.pick (rest := [.box gb15 32 [.slice A2 n3 c4, .slice A6 n7 c8, .slice A10 n11 c12, .bool x1.ok]]) (perm_of_idx [] [0] rfl rfl (by kernel_rfl)) (sels [1] rfl)
      have hMi : ∀ e ∈ ([] : List Ent), e ∈ ([.box gb15 32 [.slice A2 n3 c4, .slice A6 n7 c8, .slice A10 n11 c12, .bool x1.ok]] : List Ent) := sels [] rfl
      show tree_forest_has_R w F  r (.returned (packV [.bool false])) wr
      rw [h]
      exact ⟨rfl, hMr⟩
  · have h := if_neg' hp17 h
    refine w_bool 7 rfl ((bf hp17)) ?_
    refine wl_pass 3 rfl (ps 7 rfl rfl rfl) ?_
    refine wl_pass 4 rfl (ps 7 rfl rfl rfl) ?_
    refine wl_v 5 rfl (v_pick (b := false) rfl rfl) gn rfl ?_
    refine wl_v 6 rfl (v_move rfl) gn rfl ?_
    refine wl_pass 7 rfl (ps 11 rfl rfl rfl) ?_
    refine wl_pass 8 rfl (ps 11 rfl rfl rfl) ?_
    refine wl_pass 9 rfl (ps 11 rfl rfl rfl) ?_
    refine wl_pass 10 rfl (ps 11 rfl rfl rfl) ?_
    refine wl_pass 11 rfl (ps 11 rfl rfl rfl) ?_
    refine wl_v 12 rfl (v_pick (b := false) rfl rfl) gn rfl ?_
    refine wl_v 13 rfl (v_assign rfl) gn rfl ?_
    refine w_end 14 rfl ?_
    refine g_retR (c := tree_forest_has_c4) [.bool false] rfl Try.func46 rfl (.tmp rfl (.nil)) fun wr hLr => ?_
    have hMr : B.Loc w wr [] [St w []] := hLr.pick (rest := [.box gb15 32 [.slice A2 n3 c4, .slice A6 n7 c8, .slice A10 n11 c12, .bool x1.ok]]) (perm_of_idx [] [0] rfl rfl (by kernel_rfl)) (sels [1] rfl)
    have hMi : ∀ e ∈ ([] : List Ent), e ∈ ([.box gb15 32 [.slice A2 n3 c4, .slice A6 n7 c8, .slice A10 n11 c12, .bool x1.ok]] : List Ent) := sels [] rfl
    show tree_forest_has_R w F  r (.returned (packV [.bool false])) wr
    rw [h]
    exact ⟨rfl, hMr⟩
noncomputable abbrev tree_stand_to_c0 : Code := bodyOf Try.f45
noncomputable abbrev tree_stand_to_c1 : Code := Code.fst tree_stand_to_c0
noncomputable abbrev tree_stand_to_c2 : Code := Code.snd tree_stand_to_c0
noncomputable abbrev tree_stand_to_c3 : Code := Code.fst tree_stand_to_c2
noncomputable abbrev tree_stand_to_c4 : Code := Code.snd tree_stand_to_c2
noncomputable abbrev tree_stand_to_c5 : Code := Code.fst tree_stand_to_c3
noncomputable abbrev tree_stand_to_c6 : Code := Code.snd tree_stand_to_c3
noncomputable abbrev tree_stand_to_c7 : Code := Code.fst tree_stand_to_c6
noncomputable abbrev tree_stand_to_c8 : Code := Code.snd tree_stand_to_c6
noncomputable abbrev tree_stand_to_c9 : Code := Code.fst tree_stand_to_c4
noncomputable abbrev tree_stand_to_c10 : Code := Code.snd tree_stand_to_c4
abbrev tree_stand_to_R (w : World) (F : Nat → Prop) (g2 : Nat) (Tb3 : Nat) (r : Bool × tree_stand) : Ending → World → Prop := fun e w' => ∃ A0 : Option Addr, ∃ n0 : Nat, ∃ c0 : Nat, ∃ A1 : Option Addr, ∃ n1 : Nat, ∃ c1 : Nat, ∃ A2 : Option Addr, ∃ n2 : Nat, ∃ c2 : Nat, e = .returned (.bool r.1) ∧ B.Loc w w' [.box g2 Tb3 [.slice A0 n0 c0, .slice A1 n1 c1, .slice A2 n2 c2, .bool r.2.forest.ok, .int .i64 r.2.at_]] [St w [[g2]]] ∧ Rw k_api_Node w' (Nw w w' F [.box g2 Tb3 [.slice A0 n0 c0, .slice A1 n1 c1, .slice A2 n2 c2, .bool r.2.forest.ok, .int .i64 r.2.at_]]) A0 n0 c0 r.2.forest.nodes ∧ Rw (kInt .i64) w' (Nw w w' F [.box g2 Tb3 [.slice A0 n0 c0, .slice A1 n1 c1, .slice A2 n2 c2, .bool r.2.forest.ok, .int .i64 r.2.at_]]) A1 n1 c1 r.2.forest.parent ∧ Rw (kInt .i64) w' (Nw w w' F [.box g2 Tb3 [.slice A0 n0 c0, .slice A1 n1 c1, .slice A2 n2 c2, .bool r.2.forest.ok, .int .i64 r.2.at_]]) A2 n2 c2 r.2.forest.end_
noncomputable abbrev tree_stand_to_C (w : World) (F : Nat → Prop) (g2 : Nat) (Tb3 : Nat) (r : Bool × tree_stand) : Cx := ⟨Try.prog, 45, Try.f45, 13, tree_stand_to_R w F g2 Tb3 r, w⟩
theorem tree_stand_to_calls (w : World) (F : Nat → Prop) (x1 : tree_stand) (x16 : Int) (x17 : Bool) (g2 : Nat) (Tb3 : Nat) (A4 : Option Addr) (n5 : Nat) (c6 : Nat) (A8 : Option Addr) (n9 : Nat) (c10 : Nat) (A12 : Option Addr) (n13 : Nat) (c14 : Nat) (h7 : Rw k_api_Node w F A4 n5 c6 x1.forest.nodes) (h11 : Rw (kInt .i64) w F A8 n9 c10 x1.forest.parent) (h15 : Rw (kInt .i64) w F A12 n13 c14 x1.forest.end_) (hF : ∀ b, F b → b < w.heap.size ∧ ∀ o ∈ ([[g2]] : List (List Nat)), b ∉ o) (hL0 : B.Loc w w [.box g2 Tb3 [.slice A4 n5 c6, .slice A8 n9 c10, .slice A12 n13 c14, .bool x1.forest.ok, .int .i64 x1.at_]] [Sm w.heap.size F w [[g2]], St w [[g2]]]) (r : Bool × tree_stand) (h : tree_stand_to x1 x16 x17 r) : Calls Try.prog 45 #[.pointer (some ⟨g2, 0, none⟩), .int .i64 x16, .bool x17] w (tree_stand_to_R w F g2 Tb3 r) := by
  unfold tree_stand_to at h
  have h7 := Rw.into (bs := [[g2]]) hF h7
  have h11 := Rw.into (bs := [[g2]]) hF h11
  have h15 := Rw.into (bs := [[g2]]) hF h15
  refine calls_of_Loc (vs := [.pointer (some ⟨g2, 0, none⟩), .int .i64 x16, .bool x17]) 13 Try.func45 rfl Try.ntmps45 rfl hL0 ?_
  show G (tree_stand_to_C w F g2 Tb3 r) _ _ _ _
  refine g_seq (c := tree_stand_to_c0) rfl ?_
  refine g_region (c := tree_stand_to_c1) rfl rfl ?_
  refine wl_v 0 rfl (v_assign rfl) gn rfl ?_
  refine w_end 1 rfl ?_
  refine g_seq (c := tree_stand_to_c2) rfl ?_
  refine g_seq (c := tree_stand_to_c3) rfl ?_
  refine g_region (c := tree_stand_to_c5) rfl rfl ?_
  refine wl_v 0 rfl (v_move rfl) gn rfl ?_
  refine w_end 1 rfl ?_
  by_cases hp18 : x17 = true
  · have h := if_pos' hp18 h
    refine g_true (c := tree_stand_to_c6) rfl _ rfl (hp18) ?_
    refine g_region (c := tree_stand_to_c7) rfl rfl ?_
    refine wl_v 0 rfl (v_move rfl) gn rfl ?_
    refine wl_v 1 rfl (v_move rfl) gn rfl ?_
    refine wl_v 2 rfl (v_nilCheck rfl) gn rfl ?_
    refine wl_v 3 rfl (v_fldB fo_34_1 rfl) gn rfl ?_
    refine wl_s 4 rfl (s_stB (vs := [.int .i64 x16]) (cs' := [.slice A4 n5 c6, .slice A8 n9 c10, .slice A12 n13 c14, .bool x1.forest.ok, .int .i64 x16]) (M' := [.box g2 Tb3 [.slice A4 n5 c6, .slice A8 n9 c10, .slice A12 n13 c14, .bool x1.forest.ok, .int .i64 x16]]) 0 sz_3 rfl rfl rfl rfl rfl rfl rfl rfl rfl ?_) gn
    refine w_end 5 rfl ?_
    refine g_seq (c := tree_stand_to_c4) rfl ?_
    refine g_region (c := tree_stand_to_c9) rfl rfl ?_
    refine wl_v 0 rfl (v_move rfl) gn rfl ?_
    refine wl_v 1 rfl (v_assign rfl) gn rfl ?_
    refine w_end 2 rfl ?_
    refine g_retR (c := tree_stand_to_c10) [.bool x17] rfl Try.func45 rfl (.tmp rfl (.nil)) fun wr hLr => ?_
    have hMr : B.Loc w wr [.box g2 Tb3 [.slice A4 n5 c6, .slice A8 n9 c10, .slice A12 n13 c14, .bool x1.forest.ok, .int .i64 x16]] [St w [[g2]]] := hLr.pick (rest := []) (perm_of_idx [0] [] rfl rfl (by kernel_rfl)) (sels [1] rfl)
    have hMi : ∀ e ∈ ([.box g2 Tb3 [.slice A4 n5 c6, .slice A8 n9 c10, .slice A12 n13 c14, .bool x1.forest.ok, .int .i64 x16]] : List Ent), e ∈ ([.box g2 Tb3 [.slice A4 n5 c6, .slice A8 n9 c10, .slice A12 n13 c14, .bool x1.forest.ok, .int .i64 x16]] : List Ent) := sels [0] rfl
    show tree_stand_to_R w F g2 Tb3 r (.returned (packV [.bool x17])) wr
    rw [h]
    exact ⟨A4, n5, c6, A8, n9, c10, A12, n13, c14, rfl, hMr, (hLr.outR (s := Sm w.heap.size F w [[g2]]) hMi (me 0 rfl) Sm.ok h7), (hLr.outR (s := Sm w.heap.size F w [[g2]]) hMi (me 0 rfl) Sm.ok h11), (hLr.outR (s := Sm w.heap.size F w [[g2]]) hMi (me 0 rfl) Sm.ok h15)⟩
  · have h := if_neg' hp18 h
    refine g_false (c := tree_stand_to_c6) rfl _ rfl ((bf hp18)) ?_
    refine g_skip (c := tree_stand_to_c8) rfl ?_
    refine g_seq (c := tree_stand_to_c4) rfl ?_
    refine g_region (c := tree_stand_to_c9) rfl rfl ?_
    refine wl_v 0 rfl (v_move rfl) gn rfl ?_
    refine wl_v 1 rfl (v_assign rfl) gn rfl ?_
    refine w_end 2 rfl ?_
    refine g_retR (c := tree_stand_to_c10) [.bool x17] rfl Try.func45 rfl (.tmp rfl (.nil)) fun wr hLr => ?_
    have hMr : B.Loc w wr [.box g2 Tb3 [.slice A4 n5 c6, .slice A8 n9 c10, .slice A12 n13 c14, .bool x1.forest.ok, .int .i64 x1.at_]] [St w [[g2]]] := hLr.pick (rest := []) (perm_of_idx [0] [] rfl rfl (by kernel_rfl)) (sels [1] rfl)
    have hMi : ∀ e ∈ ([.box g2 Tb3 [.slice A4 n5 c6, .slice A8 n9 c10, .slice A12 n13 c14, .bool x1.forest.ok, .int .i64 x1.at_]] : List Ent), e ∈ ([.box g2 Tb3 [.slice A4 n5 c6, .slice A8 n9 c10, .slice A12 n13 c14, .bool x1.forest.ok, .int .i64 x1.at_]] : List Ent) := sels [0] rfl
    show tree_stand_to_R w F g2 Tb3 r (.returned (packV [.bool x17])) wr
    rw [h]
    exact ⟨A4, n5, c6, A8, n9, c10, A12, n13, c14, rfl, hMr, (hLr.outR (s := Sm w.heap.size F w [[g2]]) hMi (me 0 rfl) Sm.ok h7), (hLr.outR (s := Sm w.heap.size F w [[g2]]) hMi (me 0 rfl) Sm.ok h11), (hLr.outR (s := Sm w.heap.size F w [[g2]]) hMi (me 0 rfl) Sm.ok h15)⟩
noncomputable abbrev tree_Walk_c0 : Code := bodyOf Try.f12
noncomputable abbrev tree_Walk_c1 : Code := Code.fst tree_Walk_c0
noncomputable abbrev tree_Walk_c2 : Code := Code.snd tree_Walk_c0
noncomputable abbrev tree_Walk_c3 : Code := Code.fst tree_Walk_c2
noncomputable abbrev tree_Walk_c4 : Code := Code.snd tree_Walk_c2
noncomputable abbrev tree_Walk_c5 : Code := Code.fst tree_Walk_c4
noncomputable abbrev tree_Walk_c6 : Code := Code.snd tree_Walk_c4
noncomputable abbrev tree_Walk_c7 : Code := Code.fst tree_Walk_c6
noncomputable abbrev tree_Walk_c8 : Code := Code.snd tree_Walk_c6
abbrev tree_Walk_R (w : World) (F : Nat → Prop) (r : tree_Cursor) : Ending → World → Prop := fun e w' => ∃ gn0 : Nat, ∃ A0 : Option Addr, ∃ n0 : Nat, ∃ c0 : Nat, ∃ A1 : Option Addr, ∃ n1 : Nat, ∃ c1 : Nat, ∃ A2 : Option Addr, ∃ n2 : Nat, ∃ c2 : Nat, e = .returned (.pointer (some ⟨gn0, 0, none⟩)) ∧ B.Loc w w' [.box gn0 36 [.slice A0 n0 c0, .slice A1 n1 c1, .slice A2 n2 c2, .bool r.stand.forest.ok, .int .i64 r.stand.at_]] [St w []] ∧ Rw k_api_Node w' (Nw w w' F [.box gn0 36 [.slice A0 n0 c0, .slice A1 n1 c1, .slice A2 n2 c2, .bool r.stand.forest.ok, .int .i64 r.stand.at_]]) A0 n0 c0 r.stand.forest.nodes ∧ Rw (kInt .i64) w' (Nw w w' F [.box gn0 36 [.slice A0 n0 c0, .slice A1 n1 c1, .slice A2 n2 c2, .bool r.stand.forest.ok, .int .i64 r.stand.at_]]) A1 n1 c1 r.stand.forest.parent ∧ Rw (kInt .i64) w' (Nw w w' F [.box gn0 36 [.slice A0 n0 c0, .slice A1 n1 c1, .slice A2 n2 c2, .bool r.stand.forest.ok, .int .i64 r.stand.at_]]) A2 n2 c2 r.stand.forest.end_
noncomputable abbrev tree_Walk_C (w : World) (F : Nat → Prop) (r : tree_Cursor) : Cx := ⟨Try.prog, 12, Try.f12, 21, tree_Walk_R w F  r, w⟩
theorem tree_Walk_calls (w : World) (F : Nat → Prop) (x1 : List api_Node) (A2 : Option Addr) (n3 : Nat) (c4 : Nat) (h5 : Rw k_api_Node w (St w []).av A2 n3 c4 x1) (hF : ∀ b, F b → b < w.heap.size ∧ ∀ o ∈ ([] : List (List Nat)), b ∉ o) (hL0 : B.Loc w w [] [Sm w.heap.size F w [], St w []]) (r : tree_Cursor) (h : tree_Walk x1 r) : Calls Try.prog 12 #[.slice A2 n3 c4] w (tree_Walk_R w F  r) := by
  unfold tree_Walk at h
  refine calls_of_Loc (vs := [.slice A2 n3 c4]) 21 Try.func12 rfl Try.ntmps12 rfl hL0 ?_
  show G (tree_Walk_C w F r) _ _ _ _
  refine g_seq (c := tree_Walk_c0) rfl ?_
  refine g_region (c := tree_Walk_c1) rfl rfl ?_
  refine wl_v 0 rfl (v_assign rfl) gn rfl ?_
  refine w_end 1 rfl ?_
  refine g_seq (c := tree_Walk_c2) rfl ?_
  refine g_region (c := tree_Walk_c3) rfl rfl ?_
  refine wl_v 0 rfl (v_move rfl) gn rfl ?_
  obtain ⟨x10, hv11, h⟩ := h
  obtain ⟨hb12, h⟩ := h
  refine w_nil 39 7 ?_
  refine wl_s 1 rfl (s_app (zs := x10) (cells' := x10.flatMap enc_api_Node) 0 ap_22 rfl rfl rfl (Ow.nil (z := w.heap.size)) (Nat.le_refl _) (Src.readF (s := St w []) (hl := hl_api_Node) (h1 := h1_api_Node) h5 (me 1 rfl)) (by rw [hv11, List.flatMap_append] <;> rfl) (app_len hv11 h5.hq) hb12 rfl rfl fun A7 c8 h9 => ?_) gn
  obtain ⟨r19, hv20, h⟩ := h
  refine w_freeze (F := F) (dk := k_api_Node) (Sm w.heap.size F w []) 0 rfl h9 (me 0 rfl) Sm.ok (Cells.flat _) fun sw17 sb18 h16 => ?_
  refine wl_s 2 rfl (s_call [.slice A7 (0 + n3) c8] rfl Try.func44 rfl rfl rfl fun w13 hL14 => ?_) gn
  have hp15 : List.Perm ([] : List Ent) (([] : List Ent) ++ ([] : List Ent)) := perm_of_idx [] [] rfl rfl (by kernel_rfl)
  refine Calls.mono (tree_plant_calls w13 (Fl ([Sm w.heap.size F sw17 sb18] : List Snap)) x10 A7 (0 + n3) c8 (Rw.mono h16 (hL14.toFl (me 0 rfl) (me 0 rfl))) (hL14.hFl (Sl := ([Sm w.heap.size F sw17 sb18] : List Snap)) hp15 (sels [0] rfl)) (hL14.into hp15 (Fl ([Sm w.heap.size F sw17 sb18] : List Snap))) r19 hv20) ?_
  rintro _ w35 ⟨A25, n26, c27, A30, n31, c32, A21, n22, c23, rfl, hM36, h28, h33, h24⟩
  obtain ⟨sb39, hL37, hv38⟩ := hL14.callB (Sl := ([Sm w.heap.size F sw17 sb18] : List Snap)) hp15 hM36 F (sels [0] rfl) ⟨Sm.ok, trivial⟩
  have h24 : At k_api_Node (Sm w.heap.size F w35 sb39) A21 n22 c23 r19.nodes := Rw.mono h24 hv38
  refine ⟨_, _, _, rfl, hL37, ?_⟩
  refine wl_v 3 rfl (v_build #[.slice A21 n22 c23, .slice A25 n26 c27, .slice A30 n31 c32, .bool r19.ok, .int .i64 (-1)] bd_34 rfl (by kernel_rfl)) gn rfl ?_
  refine wl_v 4 rfl (v_build #[.slice A21 n22 c23, .slice A25 n26 c27, .slice A30 n31 c32, .bool r19.ok, .int .i64 (-1)] bd_36 rfl (by kernel_rfl)) gn rfl ?_
  refine wl_s 5 rfl (s_box [.slice A21 n22 c23, .slice A25 n26 c27, .slice A30 n31 c32, .bool r19.ok, .int .i64 (-1)] rfl rfl rfl fun gb40 => ?_) gn
  refine wl_v 6 rfl (v_assign rfl) gn rfl ?_
  refine w_end 7 rfl ?_
  refine g_seq (c := tree_Walk_c4) rfl ?_
  refine g_freeze (F := F) (dk := (kInt .i64)) (Sm w.heap.size F w []) 1 rfl (Ow.weak hL14.env.size h28) (me 2 rfl) Sm.ok (Cells.flat _) fun sw54 sb55 h53 => ?_
  refine g_freeze (F := F) (dk := (kInt .i64)) (Sm w.heap.size F w []) 1 rfl (Ow.weak hL14.env.size h33) (me 3 rfl) Sm.ok (Cells.flat _) fun sw69 sb70 h68 => ?_
  obtain ⟨r74, hv75, h⟩ := h
  obtain ⟨r82, hv83, h⟩ := h
  have hns : Region.noSelect (Code.ops tree_Walk_c5) = true := by kernel_rfl
  refine g_drawF (c := tree_Walk_c5) [.box gb40 36 [.slice A21 n22 c23, .slice A25 n26 c27, .slice A30 n31 c32, .bool r19.ok, .int .i64 (-1)]] [Sm w.heap.size F sw69 sb70, Sm w.heap.size F sw54 sb55, Sm w.heap.size F w35 sb39, Sm w.heap.size F sw17 sb18, Sm w.heap.size F w [], St w []] [9] 10 rfl rfl mix rfl (.cons_cons _ (.slnil)) (sels [0, 1, 2, 3, 4, 5] rfl) ?_
  refine wf_v 0 rfl (v_move rfl) gn rfl hns (by kernel_rfl) (by kernel_rfl) (by kernel_rfl) rfl ?_
  refine wf_v 1 rfl (v_nilCheck rfl) gn rfl hns (by kernel_rfl) (by kernel_rfl) (by kernel_rfl) rfl ?_
  refine wf_v 2 rfl (v_fldB fo_36_0 rfl) gn rfl hns (by kernel_rfl) (by kernel_rfl) (by kernel_rfl) rfl ?_
  refine wf_v 3 rfl (v_move rfl) gn rfl hns (by kernel_rfl) (by kernel_rfl) (by kernel_rfl) rfl ?_
  refine wf_v 4 rfl (v_nilCheck rfl) gn rfl hns (by kernel_rfl) (by kernel_rfl) (by kernel_rfl) rfl ?_
  refine wf_v 5 rfl (v_fldB fo_36_0 rfl) gn rfl hns (by kernel_rfl) (by kernel_rfl) (by kernel_rfl) rfl ?_
  refine wf_v 6 rfl (v_fldB fo_34_0 rfl) gn rfl hns (by kernel_rfl) (by kernel_rfl) (by kernel_rfl) rfl ?_
  refine wf_v 7 rfl (v_ldB [.slice A21 n22 c23, .slice A25 n26 c27, .slice A30 n31 c32, .bool r19.ok] 0 ld_32 rfl rfl rfl rfl) gn rfl hns (by kernel_rfl) (by kernel_rfl) (by kernel_rfl) rfl ?_
  refine wf_all [8] (by kernel_rfl) rfl ⟨on_s 8 rfl gn rfl (s_call [.agg #[.slice A21 n22 c23, .slice A25 n26 c27, .slice A30 n31 c32, .bool r19.ok], .int .i64 0] rfl Try.func46 rfl rfl rfl fun w139 hL140 => ?_), trivial⟩
  have hp141 : List.Perm ([.box gb40 36 [.slice A21 n22 c23, .slice A25 n26 c27, .slice A30 n31 c32, .bool r19.ok, .int .i64 (-1)]] : List Ent) (([] : List Ent) ++ ([.box gb40 36 [.slice A21 n22 c23, .slice A25 n26 c27, .slice A30 n31 c32, .bool r19.ok, .int .i64 (-1)]] : List Ent)) := perm_of_idx [] [0] rfl rfl (by kernel_rfl)
  refine Calls.mono (tree_forest_has_calls w139 (Fl ([] : List Snap)) r19 0 A21 n22 c23 A25 n26 c27 A30 n31 c32 (Rw.mono h24 (hL140.toSt hp141 (me 2 rfl))) (Rw.mono h53 (hL140.toSt hp141 (me 1 rfl))) (Rw.mono h68 (hL140.toSt hp141 (me 0 rfl))) (hL140.hFl (Sl := ([] : List Snap)) hp141 (sels [] rfl)) (hL140.into hp141 (Fl ([] : List Snap))) r74 hv75) ?_
  rintro _ w142 ⟨rfl, hM143⟩
  have hL144 := hL140.call hp141 hM143
  refine ⟨_, _, _, rfl, hL144, ?_⟩
  refine ⟨sels [0] rfl, sels [0, 1, 2, 3, 4, 5] rfl, ?_⟩
  refine wf_all [9] (by kernel_rfl) rfl ⟨on_l 9 rfl gn rfl (s_call [.pointer (some ⟨gb40, 0, none⟩), .int .i64 0, .bool r74] rfl Try.func45 rfl rfl rfl fun w145 hL146 => ?_), trivial⟩
  have hp147 : List.Perm ([.box gb40 36 [.slice A21 n22 c23, .slice A25 n26 c27, .slice A30 n31 c32, .bool r19.ok, .int .i64 (-1)]] : List Ent) (([.box gb40 36 [.slice A21 n22 c23, .slice A25 n26 c27, .slice A30 n31 c32, .bool r19.ok, .int .i64 (-1)]] : List Ent) ++ ([] : List Ent)) := perm_of_idx [0] [] rfl rfl (by kernel_rfl)
  refine Calls.mono (tree_stand_to_calls w145 (Fl ([Sm w.heap.size F w35 sb39, Sm w.heap.size F sw54 sb55, Sm w.heap.size F sw69 sb70] : List Snap)) (⟨r19, -1⟩ : tree_stand) 0 r74 gb40 36 A21 n22 c23 A25 n26 c27 A30 n31 c32 (Rw.mono h24 (hL146.toFl (me 2 rfl) (me 0 rfl))) (Rw.mono h53 (hL146.toFl (me 1 rfl) (me 1 rfl))) (Rw.mono h68 (hL146.toFl (me 0 rfl) (me 2 rfl))) (hL146.hFl (Sl := ([Sm w.heap.size F w35 sb39, Sm w.heap.size F sw54 sb55, Sm w.heap.size F sw69 sb70] : List Snap)) hp147 (sels [2, 1, 0] rfl)) (hL146.into hp147 (Fl ([Sm w.heap.size F w35 sb39, Sm w.heap.size F sw54 sb55, Sm w.heap.size F sw69 sb70] : List Snap))) r82 hv83) ?_
  rintro _ w160 ⟨A148, n149, c150, A152, n153, c154, A156, n157, c158, rfl, hM161, h151, h155, h159⟩
  obtain ⟨sb164, hL162, hv163⟩ := hL146.callB (Sl := ([Sm w.heap.size F w35 sb39, Sm w.heap.size F sw54 sb55, Sm w.heap.size F sw69 sb70] : List Snap)) hp147 hM161 F (sels [2, 1, 0] rfl) ⟨Sm.ok, Sm.ok, Sm.ok, trivial⟩
  have h151 : At k_api_Node (Sm w.heap.size F w160 sb164) A148 n149 c150 r82.2.forest.nodes := Rw.mono h151 hv163
  have h155 : At (kInt .i64) (Sm w.heap.size F w160 sb164) A152 n153 c154 r82.2.forest.parent := Rw.mono h155 hv163
  have h159 : At (kInt .i64) (Sm w.heap.size F w160 sb164) A156 n157 c158 r82.2.forest.end_ := Rw.mono h159 hv163
  refine ⟨_, _, _, rfl, hL162, ?_⟩
  unfold NxL
  refine wf_end (by kernel_rfl) ?_
  refine g_seq (c := tree_Walk_c6) rfl ?_
  refine g_region (c := tree_Walk_c7) rfl rfl ?_
  refine wl_v 0 rfl (v_move rfl) gn rfl ?_
  refine wl_v 1 rfl (v_assign rfl) gn rfl ?_
  refine w_end 2 rfl ?_
  refine g_retR (c := tree_Walk_c8) [.pointer (some ⟨gb40, 0, none⟩)] rfl Try.func12 rfl (.tmp rfl (.nil)) fun wr hLr => ?_
  have hMr : B.Loc w wr [.box gb40 36 [.slice A148 n149 c150, .slice A152 n153 c154, .slice A156 n157 c158, .bool r82.2.forest.ok, .int .i64 r82.2.at_]] [St w []] := hLr.pick (rest := []) (perm_of_idx [0] [] rfl rfl (by kernel_rfl)) (sels [6] rfl)
  have hMi : ∀ e ∈ ([.box gb40 36 [.slice A148 n149 c150, .slice A152 n153 c154, .slice A156 n157 c158, .bool r82.2.forest.ok, .int .i64 r82.2.at_]] : List Ent), e ∈ ([.box gb40 36 [.slice A148 n149 c150, .slice A152 n153 c154, .slice A156 n157 c158, .bool r82.2.forest.ok, .int .i64 r82.2.at_]] : List Ent) := sels [0] rfl
  show tree_Walk_R w F  r (.returned (packV [.pointer (some ⟨gb40, 0, none⟩)])) wr
  rw [h]
  exact ⟨gb40, A148, n149, c150, A152, n153, c154, A156, n157, c158, rfl, hMr, (hLr.outR (s := Sm w.heap.size F w160 sb164) hMi (me 0 rfl) Sm.ok h151), (hLr.outR (s := Sm w.heap.size F w160 sb164) hMi (me 0 rfl) Sm.ok h155), (hLr.outR (s := Sm w.heap.size F w160 sb164) hMi (me 0 rfl) Sm.ok h159)⟩
noncomputable abbrev tree_stand_Place_c0 : Code := bodyOf Try.f14
noncomputable abbrev tree_stand_Place_c1 : Code := Code.fst tree_stand_Place_c0
noncomputable abbrev tree_stand_Place_c2 : Code := Code.snd tree_stand_Place_c0
noncomputable abbrev tree_stand_Place_c3 : Code := Code.fst tree_stand_Place_c2
noncomputable abbrev tree_stand_Place_c4 : Code := Code.snd tree_stand_Place_c2
abbrev tree_stand_Place_R (w : World) (F : Nat → Prop) (g2 : Nat) (Tb3 : Nat) (r : Int × tree_stand) : Ending → World → Prop := fun e w' => ∃ A0 : Option Addr, ∃ n0 : Nat, ∃ c0 : Nat, ∃ A1 : Option Addr, ∃ n1 : Nat, ∃ c1 : Nat, ∃ A2 : Option Addr, ∃ n2 : Nat, ∃ c2 : Nat, e = .returned (.int .i64 r.1) ∧ B.Loc w w' [.box g2 Tb3 [.slice A0 n0 c0, .slice A1 n1 c1, .slice A2 n2 c2, .bool r.2.forest.ok, .int .i64 r.2.at_]] [St w [[g2]]] ∧ Rw k_api_Node w' (Nw w w' F [.box g2 Tb3 [.slice A0 n0 c0, .slice A1 n1 c1, .slice A2 n2 c2, .bool r.2.forest.ok, .int .i64 r.2.at_]]) A0 n0 c0 r.2.forest.nodes ∧ Rw (kInt .i64) w' (Nw w w' F [.box g2 Tb3 [.slice A0 n0 c0, .slice A1 n1 c1, .slice A2 n2 c2, .bool r.2.forest.ok, .int .i64 r.2.at_]]) A1 n1 c1 r.2.forest.parent ∧ Rw (kInt .i64) w' (Nw w w' F [.box g2 Tb3 [.slice A0 n0 c0, .slice A1 n1 c1, .slice A2 n2 c2, .bool r.2.forest.ok, .int .i64 r.2.at_]]) A2 n2 c2 r.2.forest.end_
noncomputable abbrev tree_stand_Place_C (w : World) (F : Nat → Prop) (g2 : Nat) (Tb3 : Nat) (r : Int × tree_stand) : Cx := ⟨Try.prog, 14, Try.f14, 7, tree_stand_Place_R w F g2 Tb3 r, w⟩
theorem tree_stand_Place_calls (w : World) (F : Nat → Prop) (x1 : tree_stand) (g2 : Nat) (Tb3 : Nat) (A4 : Option Addr) (n5 : Nat) (c6 : Nat) (A8 : Option Addr) (n9 : Nat) (c10 : Nat) (A12 : Option Addr) (n13 : Nat) (c14 : Nat) (h7 : Rw k_api_Node w F A4 n5 c6 x1.forest.nodes) (h11 : Rw (kInt .i64) w F A8 n9 c10 x1.forest.parent) (h15 : Rw (kInt .i64) w F A12 n13 c14 x1.forest.end_) (hF : ∀ b, F b → b < w.heap.size ∧ ∀ o ∈ ([[g2]] : List (List Nat)), b ∉ o) (hL0 : B.Loc w w [.box g2 Tb3 [.slice A4 n5 c6, .slice A8 n9 c10, .slice A12 n13 c14, .bool x1.forest.ok, .int .i64 x1.at_]] [Sm w.heap.size F w [[g2]], St w [[g2]]]) (r : Int × tree_stand) (h : tree_stand_Place x1 r) : Calls Try.prog 14 #[.pointer (some ⟨g2, 0, none⟩)] w (tree_stand_Place_R w F g2 Tb3 r) := by
  unfold tree_stand_Place at h
  have h7 := Rw.into (bs := [[g2]]) hF h7
  have h11 := Rw.into (bs := [[g2]]) hF h11
  have h15 := Rw.into (bs := [[g2]]) hF h15
  refine calls_of_Loc (vs := [.pointer (some ⟨g2, 0, none⟩)]) 7 Try.func14 rfl Try.ntmps14 rfl hL0 ?_
  show G (tree_stand_Place_C w F g2 Tb3 r) _ _ _ _
  refine g_seq (c := tree_stand_Place_c0) rfl ?_
  refine g_region (c := tree_stand_Place_c1) rfl rfl ?_
  refine wl_v 0 rfl (v_assign rfl) gn rfl ?_
  refine w_end 1 rfl ?_
  refine g_seq (c := tree_stand_Place_c2) rfl ?_
  refine g_region (c := tree_stand_Place_c3) rfl rfl ?_
  refine wl_v 0 rfl (v_move rfl) gn rfl ?_
  refine wl_v 1 rfl (v_nilCheck rfl) gn rfl ?_
  refine wl_v 2 rfl (v_fldB fo_34_1 rfl) gn rfl ?_
  refine wl_v 3 rfl (v_ldB1 0 ld_3 rfl rfl rfl) gn rfl ?_
  refine wl_v 4 rfl (v_assign rfl) gn rfl ?_
  refine w_end 5 rfl ?_
  refine g_retR (c := tree_stand_Place_c4) [.int .i64 x1.at_] rfl Try.func14 rfl (.tmp rfl (.nil)) fun wr hLr => ?_
  have hMr : B.Loc w wr [.box g2 Tb3 [.slice A4 n5 c6, .slice A8 n9 c10, .slice A12 n13 c14, .bool x1.forest.ok, .int .i64 x1.at_]] [St w [[g2]]] := hLr.pick (rest := []) (perm_of_idx [0] [] rfl rfl (by kernel_rfl)) (sels [1] rfl)
  have hMi : ∀ e ∈ ([.box g2 Tb3 [.slice A4 n5 c6, .slice A8 n9 c10, .slice A12 n13 c14, .bool x1.forest.ok, .int .i64 x1.at_]] : List Ent), e ∈ ([.box g2 Tb3 [.slice A4 n5 c6, .slice A8 n9 c10, .slice A12 n13 c14, .bool x1.forest.ok, .int .i64 x1.at_]] : List Ent) := sels [0] rfl
  show tree_stand_Place_R w F g2 Tb3 r (.returned (packV [.int .i64 x1.at_])) wr
  rw [h]
  exact ⟨A4, n5, c6, A8, n9, c10, A12, n13, c14, rfl, hMr, (hLr.outR (s := Sm w.heap.size F w [[g2]]) hMi (me 0 rfl) Sm.ok h7), (hLr.outR (s := Sm w.heap.size F w [[g2]]) hMi (me 0 rfl) Sm.ok h11), (hLr.outR (s := Sm w.heap.size F w [[g2]]) hMi (me 0 rfl) Sm.ok h15)⟩
noncomputable abbrev tree_Cursor_Down_c0 : Code := bodyOf Try.f18
noncomputable abbrev tree_Cursor_Down_c1 : Code := Code.fst tree_Cursor_Down_c0
noncomputable abbrev tree_Cursor_Down_c2 : Code := Code.snd tree_Cursor_Down_c0
noncomputable abbrev tree_Cursor_Down_c3 : Code := Code.fst tree_Cursor_Down_c2
noncomputable abbrev tree_Cursor_Down_c4 : Code := Code.snd tree_Cursor_Down_c2
abbrev tree_Cursor_Down_R (w : World) (F : Nat → Prop) (g2 : Nat) (Tb3 : Nat) (r : Bool × tree_Cursor) : Ending → World → Prop := fun e w' => ∃ A0 : Option Addr, ∃ n0 : Nat, ∃ c0 : Nat, ∃ A1 : Option Addr, ∃ n1 : Nat, ∃ c1 : Nat, ∃ A2 : Option Addr, ∃ n2 : Nat, ∃ c2 : Nat, e = .returned (.bool r.1) ∧ B.Loc w w' [.box g2 Tb3 [.slice A0 n0 c0, .slice A1 n1 c1, .slice A2 n2 c2, .bool r.2.stand.forest.ok, .int .i64 r.2.stand.at_]] [St w [[g2]]] ∧ Rw k_api_Node w' (Nw w w' F [.box g2 Tb3 [.slice A0 n0 c0, .slice A1 n1 c1, .slice A2 n2 c2, .bool r.2.stand.forest.ok, .int .i64 r.2.stand.at_]]) A0 n0 c0 r.2.stand.forest.nodes ∧ Rw (kInt .i64) w' (Nw w w' F [.box g2 Tb3 [.slice A0 n0 c0, .slice A1 n1 c1, .slice A2 n2 c2, .bool r.2.stand.forest.ok, .int .i64 r.2.stand.at_]]) A1 n1 c1 r.2.stand.forest.parent ∧ Rw (kInt .i64) w' (Nw w w' F [.box g2 Tb3 [.slice A0 n0 c0, .slice A1 n1 c1, .slice A2 n2 c2, .bool r.2.stand.forest.ok, .int .i64 r.2.stand.at_]]) A2 n2 c2 r.2.stand.forest.end_
noncomputable abbrev tree_Cursor_Down_C (w : World) (F : Nat → Prop) (g2 : Nat) (Tb3 : Nat) (r : Bool × tree_Cursor) : Cx := ⟨Try.prog, 18, Try.f18, 41, tree_Cursor_Down_R w F g2 Tb3 r, w⟩
theorem tree_Cursor_Down_calls (w : World) (F : Nat → Prop) (x1 : tree_Cursor) (g2 : Nat) (Tb3 : Nat) (A4 : Option Addr) (n5 : Nat) (c6 : Nat) (A8 : Option Addr) (n9 : Nat) (c10 : Nat) (A12 : Option Addr) (n13 : Nat) (c14 : Nat) (h7 : Rw k_api_Node w F A4 n5 c6 x1.stand.forest.nodes) (h11 : Rw (kInt .i64) w F A8 n9 c10 x1.stand.forest.parent) (h15 : Rw (kInt .i64) w F A12 n13 c14 x1.stand.forest.end_) (hF : ∀ b, F b → b < w.heap.size ∧ ∀ o ∈ ([[g2]] : List (List Nat)), b ∉ o) (hL0 : B.Loc w w [.box g2 Tb3 [.slice A4 n5 c6, .slice A8 n9 c10, .slice A12 n13 c14, .bool x1.stand.forest.ok, .int .i64 x1.stand.at_]] [Sm w.heap.size F w [[g2]], St w [[g2]]]) (r : Bool × tree_Cursor) (h : tree_Cursor_Down x1 r) : Calls Try.prog 18 #[.pointer (some ⟨g2, 0, none⟩)] w (tree_Cursor_Down_R w F g2 Tb3 r) := by
  unfold tree_Cursor_Down at h
  have h7 := Rw.into (bs := [[g2]]) hF h7
  have h11 := Rw.into (bs := [[g2]]) hF h11
  have h15 := Rw.into (bs := [[g2]]) hF h15
  refine calls_of_Loc (vs := [.pointer (some ⟨g2, 0, none⟩)]) 41 Try.func18 rfl Try.ntmps18 rfl hL0 ?_
  show G (tree_Cursor_Down_C w F g2 Tb3 r) _ _ _ _
  refine g_seq (c := tree_Cursor_Down_c0) rfl ?_
  refine g_region (c := tree_Cursor_Down_c1) rfl rfl ?_
  refine wl_v 0 rfl (v_assign rfl) gn rfl ?_
  refine w_end 1 rfl ?_
  refine g_seq (c := tree_Cursor_Down_c2) rfl ?_
  obtain ⟨r19, hv20, h⟩ := h
  by_cases hp24 : r19 = true
  · have h := if_pos' hp24 h
    obtain ⟨hb25, h⟩ := h
    obtain ⟨r30, hv31, h⟩ := h
    have hns : Region.noSelect (Code.ops tree_Cursor_Down_c3) = true := by kernel_rfl
    refine g_drawF (c := tree_Cursor_Down_c3) [.box g2 Tb3 [.slice A4 n5 c6, .slice A8 n9 c10, .slice A12 n13 c14, .bool x1.stand.forest.ok, .int .i64 x1.stand.at_]] [Sm w.heap.size F w [[g2]], St w [[g2]]] [37, 38] 39 rfl rfl mix rfl (.cons_cons _ (.slnil)) (sels [0, 1] rfl) ?_
    refine wf_v 0 rfl (v_move rfl) gn rfl hns (by kernel_rfl) (by kernel_rfl) (by kernel_rfl) rfl ?_
    refine wf_v 1 rfl (v_nilCheck rfl) gn rfl hns (by kernel_rfl) (by kernel_rfl) (by kernel_rfl) rfl ?_
    refine wf_v 2 rfl (v_fldB fo_36_0 rfl) gn rfl hns (by kernel_rfl) (by kernel_rfl) (by kernel_rfl) rfl ?_
    refine wf_v 3 rfl (v_move rfl) gn rfl hns (by kernel_rfl) (by kernel_rfl) (by kernel_rfl) rfl ?_
    refine wf_v 4 rfl (v_nilCheck rfl) gn rfl hns (by kernel_rfl) (by kernel_rfl) (by kernel_rfl) rfl ?_
    refine wf_v 5 rfl (v_fldB fo_36_0 rfl) gn rfl hns (by kernel_rfl) (by kernel_rfl) (by kernel_rfl) rfl ?_
    refine wf_v 6 rfl (v_fldB fo_34_1 rfl) gn rfl hns (by kernel_rfl) (by kernel_rfl) (by kernel_rfl) rfl ?_
    refine wf_v 7 rfl (v_ldB1 0 ld_3 rfl rfl rfl) gn rfl hns (by kernel_rfl) (by kernel_rfl) (by kernel_rfl) rfl ?_
    refine wf_v 8 rfl (v_bin rfl rfl rfl) gn rfl hns (by kernel_rfl) (by kernel_rfl) (by kernel_rfl) rfl ?_
    refine wf_v 9 rfl (v_move rfl) gn rfl hns (by kernel_rfl) (by kernel_rfl) (by kernel_rfl) rfl ?_
    refine wf_v 10 rfl (v_nilCheck rfl) gn rfl hns (by kernel_rfl) (by kernel_rfl) (by kernel_rfl) rfl ?_
    refine wf_v 11 rfl (v_fldB fo_36_0 rfl) gn rfl hns (by kernel_rfl) (by kernel_rfl) (by kernel_rfl) rfl ?_
    refine wf_v 12 rfl (v_fldB fo_34_0 rfl) gn rfl hns (by kernel_rfl) (by kernel_rfl) (by kernel_rfl) rfl ?_
    refine wf_v 13 rfl (v_ldB [.slice A4 n5 c6, .slice A8 n9 c10, .slice A12 n13 c14, .bool x1.stand.forest.ok] 0 ld_32 rfl rfl rfl rfl) gn rfl hns (by kernel_rfl) (by kernel_rfl) (by kernel_rfl) rfl ?_
    refine wf_v 14 rfl (v_move rfl) gn rfl hns (by kernel_rfl) (by kernel_rfl) (by kernel_rfl) rfl ?_
    refine wf_v 15 rfl (v_nilCheck rfl) gn rfl hns (by kernel_rfl) (by kernel_rfl) (by kernel_rfl) rfl ?_
    refine wf_v 16 rfl (v_fldB fo_36_0 rfl) gn rfl hns (by kernel_rfl) (by kernel_rfl) (by kernel_rfl) rfl ?_
    refine wf_v 17 rfl (v_fldB fo_34_1 rfl) gn rfl hns (by kernel_rfl) (by kernel_rfl) (by kernel_rfl) rfl ?_
    refine wf_v 18 rfl (v_ldB1 0 ld_3 rfl rfl rfl) gn rfl hns (by kernel_rfl) (by kernel_rfl) (by kernel_rfl) rfl ?_
    refine wf_all [19] (by kernel_rfl) rfl ⟨on_s 19 rfl gn rfl (s_call [.agg #[.slice A4 n5 c6, .slice A8 n9 c10, .slice A12 n13 c14, .bool x1.stand.forest.ok], .int .i64 x1.stand.at_] rfl Try.func46 rfl rfl rfl fun w88 hL89 => ?_), trivial⟩
    have hp90 : List.Perm ([.box g2 Tb3 [.slice A4 n5 c6, .slice A8 n9 c10, .slice A12 n13 c14, .bool x1.stand.forest.ok, .int .i64 x1.stand.at_]] : List Ent) (([] : List Ent) ++ ([.box g2 Tb3 [.slice A4 n5 c6, .slice A8 n9 c10, .slice A12 n13 c14, .bool x1.stand.forest.ok, .int .i64 x1.stand.at_]] : List Ent)) := perm_of_idx [] [0] rfl rfl (by kernel_rfl)
    refine Calls.mono (tree_forest_has_calls w88 (Fl ([] : List Snap)) x1.stand.forest x1.stand.at_ A4 n5 c6 A8 n9 c10 A12 n13 c14 (Rw.mono h7 (hL89.toSt hp90 (me 0 rfl))) (Rw.mono h11 (hL89.toSt hp90 (me 0 rfl))) (Rw.mono h15 (hL89.toSt hp90 (me 0 rfl))) (hL89.hFl (Sl := ([] : List Snap)) hp90 (sels [] rfl)) (hL89.into hp90 (Fl ([] : List Snap))) r19 hv20) ?_
    rintro _ w91 ⟨rfl, hM92⟩
    have hL93 := hL89.call hp90 hM92
    refine ⟨_, _, _, rfl, hL93, ?_⟩
    refine ⟨sels [0] rfl, sels [0, 1] rfl, ?_⟩
    refine wf_v 20 rfl (v_move rfl) gn rfl hns (by kernel_rfl) (by kernel_rfl) (by kernel_rfl) rfl ?_
    refine wf_bool 23 rfl (hp24) ?_
    refine wf_v 21 rfl (v_move rfl) (gy 23 rfl rfl) rfl hns (by kernel_rfl) (by kernel_rfl) (by kernel_rfl) rfl ?_
    refine wf_v 22 rfl (v_nilCheck rfl) (gy 23 rfl rfl) rfl hns (by kernel_rfl) (by kernel_rfl) (by kernel_rfl) rfl ?_
    refine wf_v 23 rfl (v_fldB fo_36_0 rfl) (gy 23 rfl rfl) rfl hns (by kernel_rfl) (by kernel_rfl) (by kernel_rfl) rfl ?_
    refine wf_v 24 rfl (v_fldB fo_34_0 rfl) (gy 23 rfl rfl) rfl hns (by kernel_rfl) (by kernel_rfl) (by kernel_rfl) rfl ?_
    refine wf_v 25 rfl (v_fldB fo_32_0 rfl) (gy 23 rfl rfl) rfl hns (by kernel_rfl) (by kernel_rfl) (by kernel_rfl) rfl ?_
    refine wf_v 26 rfl (v_ldB1 0 ld_22 rfl rfl rfl) (gy 23 rfl rfl) rfl hns (by kernel_rfl) (by kernel_rfl) (by kernel_rfl) rfl ?_
    refine wf_v 27 rfl (v_move rfl) (gy 23 rfl rfl) rfl hns (by kernel_rfl) (by kernel_rfl) (by kernel_rfl) rfl ?_
    refine wf_v 28 rfl (v_nilCheck rfl) (gy 23 rfl rfl) rfl hns (by kernel_rfl) (by kernel_rfl) (by kernel_rfl) rfl ?_
    refine wf_v 29 rfl (v_fldB fo_36_0 rfl) (gy 23 rfl rfl) rfl hns (by kernel_rfl) (by kernel_rfl) (by kernel_rfl) rfl ?_
    refine wf_v 30 rfl (v_fldB fo_34_1 rfl) (gy 23 rfl rfl) rfl hns (by kernel_rfl) (by kernel_rfl) (by kernel_rfl) rfl ?_
    refine wf_v 31 rfl (v_ldB1 0 ld_3 rfl rfl rfl) (gy 23 rfl rfl) rfl hns (by kernel_rfl) (by kernel_rfl) (by kernel_rfl) rfl ?_
    have hr94 := Rw.readF (s := Sm w.heap.size F w [[g2]]) (hl := hl_api_Node) (h1 := h1_api_Node) h7 hb25
    refine wf_v 32 rfl (v_idxR (s := Sm w.heap.size F w [[g2]]) slE_22 rfl rfl h7 hb25) (gy 23 rfl rfl) rfl hns (by kernel_rfl) (by kernel_rfl) (by kernel_rfl) rfl ?_
    refine wf_v 33 rfl (v_fldA fo_39_5 rfl) (gy 23 rfl rfl) rfl hns (by kernel_rfl) (by kernel_rfl) (by kernel_rfl) rfl ?_
    refine wf_v 34 rfl (v_ldA1 (kk := (x1.stand.at_ : Int).toNat * 7) (j := 5) (Sm w.heap.size F w [[g2]]) ld_3 rfl hr94 rfl (me 0 rfl)) (gy 23 rfl rfl) rfl hns (by kernel_rfl) (by kernel_rfl) (by kernel_rfl) rfl ?_
    refine wf_v 35 rfl (v_bin rfl rfl rfl) (gy 23 rfl rfl) rfl hns (by kernel_rfl) (by kernel_rfl) (by kernel_rfl) rfl ?_
    refine wf_v 36 rfl (v_pick (b := true) rfl rfl) gn rfl hns (by kernel_rfl) (by kernel_rfl) (by kernel_rfl) rfl ?_
    refine wf_all [37] (by kernel_rfl) rfl ⟨on_l 37 rfl gn rfl (s_call [.pointer (some ⟨g2, 0, none⟩), .int .i64 (w64 (x1.stand.at_ + 1)), .bool (decide ((ix x1.stand.forest.nodes x1.stand.at_).kids > 0))] rfl Try.func45 rfl rfl rfl fun w95 hL96 => ?_), trivial⟩
    have hp97 : List.Perm ([.box g2 Tb3 [.slice A4 n5 c6, .slice A8 n9 c10, .slice A12 n13 c14, .bool x1.stand.forest.ok, .int .i64 x1.stand.at_]] : List Ent) (([.box g2 Tb3 [.slice A4 n5 c6, .slice A8 n9 c10, .slice A12 n13 c14, .bool x1.stand.forest.ok, .int .i64 x1.stand.at_]] : List Ent) ++ ([] : List Ent)) := perm_of_idx [0] [] rfl rfl (by kernel_rfl)
    refine Calls.mono (tree_stand_to_calls w95 (Fl ([Sm w.heap.size F w [[g2]]] : List Snap)) x1.stand (w64 (x1.stand.at_ + 1)) (decide ((ix x1.stand.forest.nodes x1.stand.at_).kids > 0)) g2 Tb3 A4 n5 c6 A8 n9 c10 A12 n13 c14 (Rw.mono h7 (hL96.toFl (me 0 rfl) (me 0 rfl))) (Rw.mono h11 (hL96.toFl (me 0 rfl) (me 0 rfl))) (Rw.mono h15 (hL96.toFl (me 0 rfl) (me 0 rfl))) (hL96.hFl (Sl := ([Sm w.heap.size F w [[g2]]] : List Snap)) hp97 (sels [0] rfl)) (hL96.into hp97 (Fl ([Sm w.heap.size F w [[g2]]] : List Snap))) r30 hv31) ?_
    rintro _ w110 ⟨A98, n99, c100, A102, n103, c104, A106, n107, c108, rfl, hM111, h101, h105, h109⟩
    obtain ⟨sb114, hL112, hv113⟩ := hL96.callB (Sl := ([Sm w.heap.size F w [[g2]]] : List Snap)) hp97 hM111 F (sels [0] rfl) ⟨Sm.ok, trivial⟩
    have h101 : At k_api_Node (Sm w.heap.size F w110 sb114) A98 n99 c100 r30.2.forest.nodes := Rw.mono h101 hv113
    have h105 : At (kInt .i64) (Sm w.heap.size F w110 sb114) A102 n103 c104 r30.2.forest.parent := Rw.mono h105 hv113
    have h109 : At (kInt .i64) (Sm w.heap.size F w110 sb114) A106 n107 c108 r30.2.forest.end_ := Rw.mono h109 hv113
    refine ⟨_, _, _, rfl, hL112, ?_⟩
    unfold NxL
    refine wf_all [38] (by kernel_rfl) rfl ⟨on_l 38 rfl gn rfl (s_val (v_assign rfl) rfl ?_), trivial⟩
    unfold NxL
    refine wf_end (by kernel_rfl) ?_
    refine g_retR (c := tree_Cursor_Down_c4) [.bool r30.1] rfl Try.func18 rfl (.tmp rfl (.nil)) fun wr hLr => ?_
    have hMr : B.Loc w wr [.box g2 Tb3 [.slice A98 n99 c100, .slice A102 n103 c104, .slice A106 n107 c108, .bool r30.2.forest.ok, .int .i64 r30.2.at_]] [St w [[g2]]] := hLr.pick (rest := []) (perm_of_idx [0] [] rfl rfl (by kernel_rfl)) (sels [2] rfl)
    have hMi : ∀ e ∈ ([.box g2 Tb3 [.slice A98 n99 c100, .slice A102 n103 c104, .slice A106 n107 c108, .bool r30.2.forest.ok, .int .i64 r30.2.at_]] : List Ent), e ∈ ([.box g2 Tb3 [.slice A98 n99 c100, .slice A102 n103 c104, .slice A106 n107 c108, .bool r30.2.forest.ok, .int .i64 r30.2.at_]] : List Ent) := sels [0] rfl
    show tree_Cursor_Down_R w F g2 Tb3 r (.returned (packV [.bool r30.1])) wr
    rw [h]
    exact ⟨A98, n99, c100, A102, n103, c104, A106, n107, c108, rfl, hMr, (hLr.outR (s := Sm w.heap.size F w110 sb114) hMi (me 0 rfl) Sm.ok h101), (hLr.outR (s := Sm w.heap.size F w110 sb114) hMi (me 0 rfl) Sm.ok h105), (hLr.outR (s := Sm w.heap.size F w110 sb114) hMi (me 0 rfl) Sm.ok h109)⟩
  · have h := if_neg' hp24 h
    obtain ⟨r118, hv119, h⟩ := h
    have hns : Region.noSelect (Code.ops tree_Cursor_Down_c3) = true := by kernel_rfl
    refine g_drawF (c := tree_Cursor_Down_c3) [.box g2 Tb3 [.slice A4 n5 c6, .slice A8 n9 c10, .slice A12 n13 c14, .bool x1.stand.forest.ok, .int .i64 x1.stand.at_]] [Sm w.heap.size F w [[g2]], St w [[g2]]] [37, 38] 39 rfl rfl mix rfl (.cons_cons _ (.slnil)) (sels [0, 1] rfl) ?_
    refine wf_v 0 rfl (v_move rfl) gn rfl hns (by kernel_rfl) (by kernel_rfl) (by kernel_rfl) rfl ?_
    refine wf_v 1 rfl (v_nilCheck rfl) gn rfl hns (by kernel_rfl) (by kernel_rfl) (by kernel_rfl) rfl ?_
    refine wf_v 2 rfl (v_fldB fo_36_0 rfl) gn rfl hns (by kernel_rfl) (by kernel_rfl) (by kernel_rfl) rfl ?_
    refine wf_v 3 rfl (v_move rfl) gn rfl hns (by kernel_rfl) (by kernel_rfl) (by kernel_rfl) rfl ?_
    refine wf_v 4 rfl (v_nilCheck rfl) gn rfl hns (by kernel_rfl) (by kernel_rfl) (by kernel_rfl) rfl ?_
    refine wf_v 5 rfl (v_fldB fo_36_0 rfl) gn rfl hns (by kernel_rfl) (by kernel_rfl) (by kernel_rfl) rfl ?_
    refine wf_v 6 rfl (v_fldB fo_34_1 rfl) gn rfl hns (by kernel_rfl) (by kernel_rfl) (by kernel_rfl) rfl ?_
    refine wf_v 7 rfl (v_ldB1 0 ld_3 rfl rfl rfl) gn rfl hns (by kernel_rfl) (by kernel_rfl) (by kernel_rfl) rfl ?_
    refine wf_v 8 rfl (v_bin rfl rfl rfl) gn rfl hns (by kernel_rfl) (by kernel_rfl) (by kernel_rfl) rfl ?_
    refine wf_v 9 rfl (v_move rfl) gn rfl hns (by kernel_rfl) (by kernel_rfl) (by kernel_rfl) rfl ?_
    refine wf_v 10 rfl (v_nilCheck rfl) gn rfl hns (by kernel_rfl) (by kernel_rfl) (by kernel_rfl) rfl ?_
    refine wf_v 11 rfl (v_fldB fo_36_0 rfl) gn rfl hns (by kernel_rfl) (by kernel_rfl) (by kernel_rfl) rfl ?_
    refine wf_v 12 rfl (v_fldB fo_34_0 rfl) gn rfl hns (by kernel_rfl) (by kernel_rfl) (by kernel_rfl) rfl ?_
    refine wf_v 13 rfl (v_ldB [.slice A4 n5 c6, .slice A8 n9 c10, .slice A12 n13 c14, .bool x1.stand.forest.ok] 0 ld_32 rfl rfl rfl rfl) gn rfl hns (by kernel_rfl) (by kernel_rfl) (by kernel_rfl) rfl ?_
    refine wf_v 14 rfl (v_move rfl) gn rfl hns (by kernel_rfl) (by kernel_rfl) (by kernel_rfl) rfl ?_
    refine wf_v 15 rfl (v_nilCheck rfl) gn rfl hns (by kernel_rfl) (by kernel_rfl) (by kernel_rfl) rfl ?_
    refine wf_v 16 rfl (v_fldB fo_36_0 rfl) gn rfl hns (by kernel_rfl) (by kernel_rfl) (by kernel_rfl) rfl ?_
    refine wf_v 17 rfl (v_fldB fo_34_1 rfl) gn rfl hns (by kernel_rfl) (by kernel_rfl) (by kernel_rfl) rfl ?_
    refine wf_v 18 rfl (v_ldB1 0 ld_3 rfl rfl rfl) gn rfl hns (by kernel_rfl) (by kernel_rfl) (by kernel_rfl) rfl ?_
    refine wf_all [19] (by kernel_rfl) rfl ⟨on_s 19 rfl gn rfl (s_call [.agg #[.slice A4 n5 c6, .slice A8 n9 c10, .slice A12 n13 c14, .bool x1.stand.forest.ok], .int .i64 x1.stand.at_] rfl Try.func46 rfl rfl rfl fun w175 hL176 => ?_), trivial⟩
    have hp177 : List.Perm ([.box g2 Tb3 [.slice A4 n5 c6, .slice A8 n9 c10, .slice A12 n13 c14, .bool x1.stand.forest.ok, .int .i64 x1.stand.at_]] : List Ent) (([] : List Ent) ++ ([.box g2 Tb3 [.slice A4 n5 c6, .slice A8 n9 c10, .slice A12 n13 c14, .bool x1.stand.forest.ok, .int .i64 x1.stand.at_]] : List Ent)) := perm_of_idx [] [0] rfl rfl (by kernel_rfl)
    refine Calls.mono (tree_forest_has_calls w175 (Fl ([] : List Snap)) x1.stand.forest x1.stand.at_ A4 n5 c6 A8 n9 c10 A12 n13 c14 (Rw.mono h7 (hL176.toSt hp177 (me 0 rfl))) (Rw.mono h11 (hL176.toSt hp177 (me 0 rfl))) (Rw.mono h15 (hL176.toSt hp177 (me 0 rfl))) (hL176.hFl (Sl := ([] : List Snap)) hp177 (sels [] rfl)) (hL176.into hp177 (Fl ([] : List Snap))) r19 hv20) ?_
    rintro _ w178 ⟨rfl, hM179⟩
    have hL180 := hL176.call hp177 hM179
    refine ⟨_, _, _, rfl, hL180, ?_⟩
    refine ⟨sels [0] rfl, sels [0, 1] rfl, ?_⟩
    refine wf_v 20 rfl (v_move rfl) gn rfl hns (by kernel_rfl) (by kernel_rfl) (by kernel_rfl) rfl ?_
    refine wf_bool 23 rfl ((bf hp24)) ?_
    refine wf_pass 21 rfl (ps 23 rfl rfl rfl) hns (by kernel_rfl) (by kernel_rfl) (by kernel_rfl) rfl ?_
    refine wf_pass 22 rfl (ps 23 rfl rfl rfl) hns (by kernel_rfl) (by kernel_rfl) (by kernel_rfl) rfl ?_
    refine wf_pass 23 rfl (ps 23 rfl rfl rfl) hns (by kernel_rfl) (by kernel_rfl) (by kernel_rfl) rfl ?_
    refine wf_pass 24 rfl (ps 23 rfl rfl rfl) hns (by kernel_rfl) (by kernel_rfl) (by kernel_rfl) rfl ?_
    refine wf_pass 25 rfl (ps 23 rfl rfl rfl) hns (by kernel_rfl) (by kernel_rfl) (by kernel_rfl) rfl ?_
    refine wf_pass 26 rfl (ps 23 rfl rfl rfl) hns (by kernel_rfl) (by kernel_rfl) (by kernel_rfl) rfl ?_
    refine wf_pass 27 rfl (ps 23 rfl rfl rfl) hns (by kernel_rfl) (by kernel_rfl) (by kernel_rfl) rfl ?_
    refine wf_pass 28 rfl (ps 23 rfl rfl rfl) hns (by kernel_rfl) (by kernel_rfl) (by kernel_rfl) rfl ?_
    refine wf_pass 29 rfl (ps 23 rfl rfl rfl) hns (by kernel_rfl) (by kernel_rfl) (by kernel_rfl) rfl ?_
    refine wf_pass 30 rfl (ps 23 rfl rfl rfl) hns (by kernel_rfl) (by kernel_rfl) (by kernel_rfl) rfl ?_
    refine wf_pass 31 rfl (ps 23 rfl rfl rfl) hns (by kernel_rfl) (by kernel_rfl) (by kernel_rfl) rfl ?_
    refine wf_pass 32 rfl (ps 23 rfl rfl rfl) hns (by kernel_rfl) (by kernel_rfl) (by kernel_rfl) rfl ?_
    refine wf_pass 33 rfl (ps 23 rfl rfl rfl) hns (by kernel_rfl) (by kernel_rfl) (by kernel_rfl) rfl ?_
    refine wf_pass 34 rfl (ps 23 rfl rfl rfl) hns (by kernel_rfl) (by kernel_rfl) (by kernel_rfl) rfl ?_
    refine wf_pass 35 rfl (ps 23 rfl rfl rfl) hns (by kernel_rfl) (by kernel_rfl) (by kernel_rfl) rfl ?_
    refine wf_v 36 rfl (v_pick (b := false) rfl rfl) gn rfl hns (by kernel_rfl) (by kernel_rfl) (by kernel_rfl) rfl ?_
    refine wf_all [37] (by kernel_rfl) rfl ⟨on_l 37 rfl gn rfl (s_call [.pointer (some ⟨g2, 0, none⟩), .int .i64 (w64 (x1.stand.at_ + 1)), .bool false] rfl Try.func45 rfl rfl rfl fun w181 hL182 => ?_), trivial⟩
    have hp183 : List.Perm ([.box g2 Tb3 [.slice A4 n5 c6, .slice A8 n9 c10, .slice A12 n13 c14, .bool x1.stand.forest.ok, .int .i64 x1.stand.at_]] : List Ent) (([.box g2 Tb3 [.slice A4 n5 c6, .slice A8 n9 c10, .slice A12 n13 c14, .bool x1.stand.forest.ok, .int .i64 x1.stand.at_]] : List Ent) ++ ([] : List Ent)) := perm_of_idx [0] [] rfl rfl (by kernel_rfl)
    refine Calls.mono (tree_stand_to_calls w181 (Fl ([Sm w.heap.size F w [[g2]]] : List Snap)) x1.stand (w64 (x1.stand.at_ + 1)) false g2 Tb3 A4 n5 c6 A8 n9 c10 A12 n13 c14 (Rw.mono h7 (hL182.toFl (me 0 rfl) (me 0 rfl))) (Rw.mono h11 (hL182.toFl (me 0 rfl) (me 0 rfl))) (Rw.mono h15 (hL182.toFl (me 0 rfl) (me 0 rfl))) (hL182.hFl (Sl := ([Sm w.heap.size F w [[g2]]] : List Snap)) hp183 (sels [0] rfl)) (hL182.into hp183 (Fl ([Sm w.heap.size F w [[g2]]] : List Snap))) r118 hv119) ?_
    rintro _ w196 ⟨A184, n185, c186, A188, n189, c190, A192, n193, c194, rfl, hM197, h187, h191, h195⟩
    obtain ⟨sb200, hL198, hv199⟩ := hL182.callB (Sl := ([Sm w.heap.size F w [[g2]]] : List Snap)) hp183 hM197 F (sels [0] rfl) ⟨Sm.ok, trivial⟩
    have h187 : At k_api_Node (Sm w.heap.size F w196 sb200) A184 n185 c186 r118.2.forest.nodes := Rw.mono h187 hv199
    have h191 : At (kInt .i64) (Sm w.heap.size F w196 sb200) A188 n189 c190 r118.2.forest.parent := Rw.mono h191 hv199
    have h195 : At (kInt .i64) (Sm w.heap.size F w196 sb200) A192 n193 c194 r118.2.forest.end_ := Rw.mono h195 hv199
    refine ⟨_, _, _, rfl, hL198, ?_⟩
    unfold NxL
    refine wf_all [38] (by kernel_rfl) rfl ⟨on_l 38 rfl gn rfl (s_val (v_assign rfl) rfl ?_), trivial⟩
    unfold NxL
    refine wf_end (by kernel_rfl) ?_
    refine g_retR (c := tree_Cursor_Down_c4) [.bool r118.1] rfl Try.func18 rfl (.tmp rfl (.nil)) fun wr hLr => ?_
    have hMr : B.Loc w wr [.box g2 Tb3 [.slice A184 n185 c186, .slice A188 n189 c190, .slice A192 n193 c194, .bool r118.2.forest.ok, .int .i64 r118.2.at_]] [St w [[g2]]] := hLr.pick (rest := []) (perm_of_idx [0] [] rfl rfl (by kernel_rfl)) (sels [2] rfl)
    have hMi : ∀ e ∈ ([.box g2 Tb3 [.slice A184 n185 c186, .slice A188 n189 c190, .slice A192 n193 c194, .bool r118.2.forest.ok, .int .i64 r118.2.at_]] : List Ent), e ∈ ([.box g2 Tb3 [.slice A184 n185 c186, .slice A188 n189 c190, .slice A192 n193 c194, .bool r118.2.forest.ok, .int .i64 r118.2.at_]] : List Ent) := sels [0] rfl
    show tree_Cursor_Down_R w F g2 Tb3 r (.returned (packV [.bool r118.1])) wr
    rw [h]
    exact ⟨A184, n185, c186, A188, n189, c190, A192, n193, c194, rfl, hMr, (hLr.outR (s := Sm w.heap.size F w196 sb200) hMi (me 0 rfl) Sm.ok h187), (hLr.outR (s := Sm w.heap.size F w196 sb200) hMi (me 0 rfl) Sm.ok h191), (hLr.outR (s := Sm w.heap.size F w196 sb200) hMi (me 0 rfl) Sm.ok h195)⟩
noncomputable abbrev tree_Cursor_Next_c0 : Code := bodyOf Try.f20
noncomputable abbrev tree_Cursor_Next_c1 : Code := Code.fst tree_Cursor_Next_c0
noncomputable abbrev tree_Cursor_Next_c2 : Code := Code.snd tree_Cursor_Next_c0
noncomputable abbrev tree_Cursor_Next_c3 : Code := Code.fst tree_Cursor_Next_c2
noncomputable abbrev tree_Cursor_Next_c4 : Code := Code.snd tree_Cursor_Next_c2
noncomputable abbrev tree_Cursor_Next_c5 : Code := Code.fst tree_Cursor_Next_c3
noncomputable abbrev tree_Cursor_Next_c6 : Code := Code.snd tree_Cursor_Next_c3
noncomputable abbrev tree_Cursor_Next_c7 : Code := Code.fst tree_Cursor_Next_c6
noncomputable abbrev tree_Cursor_Next_c8 : Code := Code.snd tree_Cursor_Next_c6
noncomputable abbrev tree_Cursor_Next_c9 : Code := Code.fst tree_Cursor_Next_c4
noncomputable abbrev tree_Cursor_Next_c10 : Code := Code.snd tree_Cursor_Next_c4
noncomputable abbrev tree_Cursor_Next_c11 : Code := Code.fst tree_Cursor_Next_c10
noncomputable abbrev tree_Cursor_Next_c12 : Code := Code.snd tree_Cursor_Next_c10
noncomputable abbrev tree_Cursor_Next_c13 : Code := Code.fst tree_Cursor_Next_c7
noncomputable abbrev tree_Cursor_Next_c14 : Code := Code.snd tree_Cursor_Next_c7
abbrev tree_Cursor_Next_R (w : World) (F : Nat → Prop) (g2 : Nat) (Tb3 : Nat) (r : Bool × tree_Cursor) : Ending → World → Prop := fun e w' => ∃ A0 : Option Addr, ∃ n0 : Nat, ∃ c0 : Nat, ∃ A1 : Option Addr, ∃ n1 : Nat, ∃ c1 : Nat, ∃ A2 : Option Addr, ∃ n2 : Nat, ∃ c2 : Nat, e = .returned (.bool r.1) ∧ B.Loc w w' [.box g2 Tb3 [.slice A0 n0 c0, .slice A1 n1 c1, .slice A2 n2 c2, .bool r.2.stand.forest.ok, .int .i64 r.2.stand.at_]] [St w [[g2]]] ∧ Rw k_api_Node w' (Nw w w' F [.box g2 Tb3 [.slice A0 n0 c0, .slice A1 n1 c1, .slice A2 n2 c2, .bool r.2.stand.forest.ok, .int .i64 r.2.stand.at_]]) A0 n0 c0 r.2.stand.forest.nodes ∧ Rw (kInt .i64) w' (Nw w w' F [.box g2 Tb3 [.slice A0 n0 c0, .slice A1 n1 c1, .slice A2 n2 c2, .bool r.2.stand.forest.ok, .int .i64 r.2.stand.at_]]) A1 n1 c1 r.2.stand.forest.parent ∧ Rw (kInt .i64) w' (Nw w w' F [.box g2 Tb3 [.slice A0 n0 c0, .slice A1 n1 c1, .slice A2 n2 c2, .bool r.2.stand.forest.ok, .int .i64 r.2.stand.at_]]) A2 n2 c2 r.2.stand.forest.end_
noncomputable abbrev tree_Cursor_Next_C (w : World) (F : Nat → Prop) (g2 : Nat) (Tb3 : Nat) (r : Bool × tree_Cursor) : Cx := ⟨Try.prog, 20, Try.f20, 66, tree_Cursor_Next_R w F g2 Tb3 r, w⟩
theorem tree_Cursor_Next_calls (w : World) (F : Nat → Prop) (x1 : tree_Cursor) (g2 : Nat) (Tb3 : Nat) (A4 : Option Addr) (n5 : Nat) (c6 : Nat) (A8 : Option Addr) (n9 : Nat) (c10 : Nat) (A12 : Option Addr) (n13 : Nat) (c14 : Nat) (h7 : Rw k_api_Node w F A4 n5 c6 x1.stand.forest.nodes) (h11 : Rw (kInt .i64) w F A8 n9 c10 x1.stand.forest.parent) (h15 : Rw (kInt .i64) w F A12 n13 c14 x1.stand.forest.end_) (hF : ∀ b, F b → b < w.heap.size ∧ ∀ o ∈ ([[g2]] : List (List Nat)), b ∉ o) (hL0 : B.Loc w w [.box g2 Tb3 [.slice A4 n5 c6, .slice A8 n9 c10, .slice A12 n13 c14, .bool x1.stand.forest.ok, .int .i64 x1.stand.at_]] [Sm w.heap.size F w [[g2]], St w [[g2]]]) (r : Bool × tree_Cursor) (h : tree_Cursor_Next x1 r) : Calls Try.prog 20 #[.pointer (some ⟨g2, 0, none⟩)] w (tree_Cursor_Next_R w F g2 Tb3 r) := by
  unfold tree_Cursor_Next at h
  have h7 := Rw.into (bs := [[g2]]) hF h7
  have h11 := Rw.into (bs := [[g2]]) hF h11
  have h15 := Rw.into (bs := [[g2]]) hF h15
  refine calls_of_Loc (vs := [.pointer (some ⟨g2, 0, none⟩)]) 66 Try.func20 rfl Try.ntmps20 rfl hL0 ?_
  show G (tree_Cursor_Next_C w F g2 Tb3 r) _ _ _ _
  refine g_seq (c := tree_Cursor_Next_c0) rfl ?_
  refine g_region (c := tree_Cursor_Next_c1) rfl rfl ?_
  refine wl_v 0 rfl (v_assign rfl) gn rfl ?_
  refine w_end 1 rfl ?_
  refine g_seq (c := tree_Cursor_Next_c2) rfl ?_
  refine g_seq (c := tree_Cursor_Next_c3) rfl ?_
  obtain ⟨r19, hv20, h⟩ := h
  have hns : Region.noSelect (Code.ops tree_Cursor_Next_c5) = true := by kernel_rfl
  refine g_drawF (c := tree_Cursor_Next_c5) [.box g2 Tb3 [.slice A4 n5 c6, .slice A8 n9 c10, .slice A12 n13 c14, .bool x1.stand.forest.ok, .int .i64 x1.stand.at_]] [Sm w.heap.size F w [[g2]], St w [[g2]]] [] 12 rfl rfl mix rfl (.cons_cons _ (.slnil)) (sels [0, 1] rfl) ?_
  refine wf_v 0 rfl (v_move rfl) gn rfl hns (by kernel_rfl) (by kernel_rfl) rfl rfl ?_
  refine wf_v 1 rfl (v_nilCheck rfl) gn rfl hns (by kernel_rfl) (by kernel_rfl) rfl rfl ?_
  refine wf_v 2 rfl (v_fldB fo_36_0 rfl) gn rfl hns (by kernel_rfl) (by kernel_rfl) rfl rfl ?_
  refine wf_v 3 rfl (v_fldB fo_34_0 rfl) gn rfl hns (by kernel_rfl) (by kernel_rfl) rfl rfl ?_
  refine wf_v 4 rfl (v_ldB [.slice A4 n5 c6, .slice A8 n9 c10, .slice A12 n13 c14, .bool x1.stand.forest.ok] 0 ld_32 rfl rfl rfl rfl) gn rfl hns (by kernel_rfl) (by kernel_rfl) rfl rfl ?_
  refine wf_v 5 rfl (v_move rfl) gn rfl hns (by kernel_rfl) (by kernel_rfl) rfl rfl ?_
  refine wf_v 6 rfl (v_nilCheck rfl) gn rfl hns (by kernel_rfl) (by kernel_rfl) rfl rfl ?_
  refine wf_v 7 rfl (v_fldB fo_36_0 rfl) gn rfl hns (by kernel_rfl) (by kernel_rfl) rfl rfl ?_
  refine wf_v 8 rfl (v_fldB fo_34_1 rfl) gn rfl hns (by kernel_rfl) (by kernel_rfl) rfl rfl ?_
  refine wf_v 9 rfl (v_ldB1 0 ld_3 rfl rfl rfl) gn rfl hns (by kernel_rfl) (by kernel_rfl) rfl rfl ?_
  refine wf_all [10] (by kernel_rfl) rfl ⟨on_s 10 rfl gn rfl (s_call [.agg #[.slice A4 n5 c6, .slice A8 n9 c10, .slice A12 n13 c14, .bool x1.stand.forest.ok], .int .i64 x1.stand.at_] rfl Try.func46 rfl rfl rfl fun w42 hL43 => ?_), trivial⟩
  have hp44 : List.Perm ([.box g2 Tb3 [.slice A4 n5 c6, .slice A8 n9 c10, .slice A12 n13 c14, .bool x1.stand.forest.ok, .int .i64 x1.stand.at_]] : List Ent) (([] : List Ent) ++ ([.box g2 Tb3 [.slice A4 n5 c6, .slice A8 n9 c10, .slice A12 n13 c14, .bool x1.stand.forest.ok, .int .i64 x1.stand.at_]] : List Ent)) := perm_of_idx [] [0] rfl rfl (by kernel_rfl)
  refine Calls.mono (tree_forest_has_calls w42 (Fl ([] : List Snap)) x1.stand.forest x1.stand.at_ A4 n5 c6 A8 n9 c10 A12 n13 c14 (Rw.mono h7 (hL43.toSt hp44 (me 0 rfl))) (Rw.mono h11 (hL43.toSt hp44 (me 0 rfl))) (Rw.mono h15 (hL43.toSt hp44 (me 0 rfl))) (hL43.hFl (Sl := ([] : List Snap)) hp44 (sels [] rfl)) (hL43.into hp44 (Fl ([] : List Snap))) r19 hv20) ?_
  rintro _ w45 ⟨rfl, hM46⟩
  have hL47 := hL43.call hp44 hM46
  refine ⟨_, _, _, rfl, hL47, ?_⟩
  refine ⟨sels [0] rfl, sels [0, 1] rfl, ?_⟩
  refine wf_v 11 rfl (v_not rfl) gn rfl hns (by kernel_rfl) (by kernel_rfl) rfl rfl ?_
  refine wf_end (by kernel_rfl) ?_
  by_cases hp48 : r19 = true
  · have h := if_pos' hp48 h
    refine g_false (c := tree_Cursor_Next_c6) rfl _ rfl ((nf hp48)) ?_
    refine g_skip (c := tree_Cursor_Next_c8) rfl ?_
    refine g_seq (c := tree_Cursor_Next_c4) rfl ?_
    obtain ⟨hb49, h⟩ := h
    have hns : Region.noSelect (Code.ops tree_Cursor_Next_c9) = true := by kernel_rfl
    refine g_drawF (c := tree_Cursor_Next_c9) [.box g2 Tb3 [.slice A4 n5 c6, .slice A8 n9 c10, .slice A12 n13 c14, .bool x1.stand.forest.ok, .int .i64 x1.stand.at_]] [Sm w.heap.size F w [[g2]], St w [[g2]]] [] 14 rfl rfl mix rfl (.cons_cons _ (.slnil)) (sels [0, 1] rfl) ?_
    refine wf_v 0 rfl (v_move rfl) gn rfl hns (by kernel_rfl) (by kernel_rfl) rfl rfl ?_
    refine wf_v 1 rfl (v_nilCheck rfl) gn rfl hns (by kernel_rfl) (by kernel_rfl) rfl rfl ?_
    refine wf_v 2 rfl (v_fldB fo_36_0 rfl) gn rfl hns (by kernel_rfl) (by kernel_rfl) rfl rfl ?_
    refine wf_v 3 rfl (v_fldB fo_34_0 rfl) gn rfl hns (by kernel_rfl) (by kernel_rfl) rfl rfl ?_
    refine wf_v 4 rfl (v_fldB fo_32_2 rfl) gn rfl hns (by kernel_rfl) (by kernel_rfl) rfl rfl ?_
    refine wf_v 5 rfl (v_ldB1 0 ld_23 rfl rfl rfl) gn rfl hns (by kernel_rfl) (by kernel_rfl) rfl rfl ?_
    refine wf_v 6 rfl (v_move rfl) gn rfl hns (by kernel_rfl) (by kernel_rfl) rfl rfl ?_
    refine wf_v 7 rfl (v_nilCheck rfl) gn rfl hns (by kernel_rfl) (by kernel_rfl) rfl rfl ?_
    refine wf_v 8 rfl (v_fldB fo_36_0 rfl) gn rfl hns (by kernel_rfl) (by kernel_rfl) rfl rfl ?_
    refine wf_v 9 rfl (v_fldB fo_34_1 rfl) gn rfl hns (by kernel_rfl) (by kernel_rfl) rfl rfl ?_
    refine wf_v 10 rfl (v_ldB1 0 ld_3 rfl rfl rfl) gn rfl hns (by kernel_rfl) (by kernel_rfl) rfl rfl ?_
    have hr52 := Rw.readF (s := Sm w.heap.size F w [[g2]]) (hl := (hlI .i64)) (h1 := (hone_int .i64)) h15 hb49
    refine wf_v 11 rfl (v_idxR (s := Sm w.heap.size F w [[g2]]) slE_23 rfl rfl h15 hb49) gn rfl hns (by kernel_rfl) (by kernel_rfl) rfl rfl ?_
    refine wf_v 12 rfl (v_ldA1 (kk := (x1.stand.at_ : Int).toNat * 1) (j := 0) (Sm w.heap.size F w [[g2]]) ld_3 rfl hr52 rfl (me 0 rfl)) gn rfl hns (by kernel_rfl) (by kernel_rfl) rfl rfl ?_
    refine wf_v 13 rfl (v_assign rfl) gn rfl hns (by kernel_rfl) (by kernel_rfl) rfl rfl ?_
    refine wf_end (by kernel_rfl) ?_
    refine g_seq (c := tree_Cursor_Next_c10) rfl ?_
    obtain ⟨r56, hv57, h⟩ := h
    by_cases hp61 : r56 = true
    · have h := if_pos' hp61 h
      obtain ⟨hb62, h⟩ := h
      obtain ⟨hb64, h⟩ := h
      obtain ⟨r69, hv70, h⟩ := h
      have hns : Region.noSelect (Code.ops tree_Cursor_Next_c11) = true := by kernel_rfl
      refine g_drawF (c := tree_Cursor_Next_c11) [.box g2 Tb3 [.slice A4 n5 c6, .slice A8 n9 c10, .slice A12 n13 c14, .bool x1.stand.forest.ok, .int .i64 x1.stand.at_]] [Sm w.heap.size F w [[g2]], St w [[g2]]] [36, 37] 38 rfl rfl mix rfl (.cons_cons _ (.slnil)) (sels [0, 1] rfl) ?_
      refine wf_v 0 rfl (v_move rfl) gn rfl hns (by kernel_rfl) (by kernel_rfl) (by kernel_rfl) rfl ?_
      refine wf_v 1 rfl (v_nilCheck rfl) gn rfl hns (by kernel_rfl) (by kernel_rfl) (by kernel_rfl) rfl ?_
      refine wf_v 2 rfl (v_fldB fo_36_0 rfl) gn rfl hns (by kernel_rfl) (by kernel_rfl) (by kernel_rfl) rfl ?_
      refine wf_v 3 rfl (v_move rfl) gn rfl hns (by kernel_rfl) (by kernel_rfl) (by kernel_rfl) rfl ?_
      refine wf_v 4 rfl (v_move rfl) gn rfl hns (by kernel_rfl) (by kernel_rfl) (by kernel_rfl) rfl ?_
      refine wf_v 5 rfl (v_nilCheck rfl) gn rfl hns (by kernel_rfl) (by kernel_rfl) (by kernel_rfl) rfl ?_
      refine wf_v 6 rfl (v_fldB fo_36_0 rfl) gn rfl hns (by kernel_rfl) (by kernel_rfl) (by kernel_rfl) rfl ?_
      refine wf_v 7 rfl (v_fldB fo_34_0 rfl) gn rfl hns (by kernel_rfl) (by kernel_rfl) (by kernel_rfl) rfl ?_
      refine wf_v 8 rfl (v_ldB [.slice A4 n5 c6, .slice A8 n9 c10, .slice A12 n13 c14, .bool x1.stand.forest.ok] 0 ld_32 rfl rfl rfl rfl) gn rfl hns (by kernel_rfl) (by kernel_rfl) (by kernel_rfl) rfl ?_
      refine wf_v 9 rfl (v_move rfl) gn rfl hns (by kernel_rfl) (by kernel_rfl) (by kernel_rfl) rfl ?_
      refine wf_all [10] (by kernel_rfl) rfl ⟨on_s 10 rfl gn rfl (s_call [.agg #[.slice A4 n5 c6, .slice A8 n9 c10, .slice A12 n13 c14, .bool x1.stand.forest.ok], .int .i64 (ix x1.stand.forest.end_ x1.stand.at_)] rfl Try.func46 rfl rfl rfl fun w128 hL129 => ?_), trivial⟩
      have hp130 : List.Perm ([.box g2 Tb3 [.slice A4 n5 c6, .slice A8 n9 c10, .slice A12 n13 c14, .bool x1.stand.forest.ok, .int .i64 x1.stand.at_]] : List Ent) (([] : List Ent) ++ ([.box g2 Tb3 [.slice A4 n5 c6, .slice A8 n9 c10, .slice A12 n13 c14, .bool x1.stand.forest.ok, .int .i64 x1.stand.at_]] : List Ent)) := perm_of_idx [] [0] rfl rfl (by kernel_rfl)
      refine Calls.mono (tree_forest_has_calls w128 (Fl ([] : List Snap)) x1.stand.forest (ix x1.stand.forest.end_ x1.stand.at_) A4 n5 c6 A8 n9 c10 A12 n13 c14 (Rw.mono h7 (hL129.toSt hp130 (me 0 rfl))) (Rw.mono h11 (hL129.toSt hp130 (me 0 rfl))) (Rw.mono h15 (hL129.toSt hp130 (me 0 rfl))) (hL129.hFl (Sl := ([] : List Snap)) hp130 (sels [] rfl)) (hL129.into hp130 (Fl ([] : List Snap))) r56 hv57) ?_
      rintro _ w131 ⟨rfl, hM132⟩
      have hL133 := hL129.call hp130 hM132
      refine ⟨_, _, _, rfl, hL133, ?_⟩
      refine ⟨sels [0] rfl, sels [0, 1] rfl, ?_⟩
      refine wf_v 11 rfl (v_move rfl) gn rfl hns (by kernel_rfl) (by kernel_rfl) (by kernel_rfl) rfl ?_
      refine wf_bool 40 rfl (hp61) ?_
      refine wf_v 12 rfl (v_move rfl) (gy 40 rfl rfl) rfl hns (by kernel_rfl) (by kernel_rfl) (by kernel_rfl) rfl ?_
      refine wf_v 13 rfl (v_nilCheck rfl) (gy 40 rfl rfl) rfl hns (by kernel_rfl) (by kernel_rfl) (by kernel_rfl) rfl ?_
      refine wf_v 14 rfl (v_fldB fo_36_0 rfl) (gy 40 rfl rfl) rfl hns (by kernel_rfl) (by kernel_rfl) (by kernel_rfl) rfl ?_
      refine wf_v 15 rfl (v_fldB fo_34_0 rfl) (gy 40 rfl rfl) rfl hns (by kernel_rfl) (by kernel_rfl) (by kernel_rfl) rfl ?_
      refine wf_v 16 rfl (v_fldB fo_32_1 rfl) (gy 40 rfl rfl) rfl hns (by kernel_rfl) (by kernel_rfl) (by kernel_rfl) rfl ?_
      refine wf_v 17 rfl (v_ldB1 0 ld_23 rfl rfl rfl) (gy 40 rfl rfl) rfl hns (by kernel_rfl) (by kernel_rfl) (by kernel_rfl) rfl ?_
      refine wf_v 18 rfl (v_move rfl) (gy 40 rfl rfl) rfl hns (by kernel_rfl) (by kernel_rfl) (by kernel_rfl) rfl ?_
      have hr134 := Rw.readF (s := Sm w.heap.size F w [[g2]]) (hl := (hlI .i64)) (h1 := (hone_int .i64)) h11 hb62
      refine wf_v 19 rfl (v_idxR (s := Sm w.heap.size F w [[g2]]) slE_23 rfl rfl h11 hb62) (gy 40 rfl rfl) rfl hns (by kernel_rfl) (by kernel_rfl) (by kernel_rfl) rfl ?_
      refine wf_v 20 rfl (v_ldA1 (kk := (ix x1.stand.forest.end_ x1.stand.at_ : Int).toNat * 1) (j := 0) (Sm w.heap.size F w [[g2]]) ld_3 rfl hr134 rfl (me 0 rfl)) (gy 40 rfl rfl) rfl hns (by kernel_rfl) (by kernel_rfl) (by kernel_rfl) rfl ?_
      refine wf_v 21 rfl (v_move rfl) (gy 40 rfl rfl) rfl hns (by kernel_rfl) (by kernel_rfl) (by kernel_rfl) rfl ?_
      refine wf_v 22 rfl (v_nilCheck rfl) (gy 40 rfl rfl) rfl hns (by kernel_rfl) (by kernel_rfl) (by kernel_rfl) rfl ?_
      refine wf_v 23 rfl (v_fldB fo_36_0 rfl) (gy 40 rfl rfl) rfl hns (by kernel_rfl) (by kernel_rfl) (by kernel_rfl) rfl ?_
      refine wf_v 24 rfl (v_fldB fo_34_0 rfl) (gy 40 rfl rfl) rfl hns (by kernel_rfl) (by kernel_rfl) (by kernel_rfl) rfl ?_
      refine wf_v 25 rfl (v_fldB fo_32_1 rfl) (gy 40 rfl rfl) rfl hns (by kernel_rfl) (by kernel_rfl) (by kernel_rfl) rfl ?_
      refine wf_v 26 rfl (v_ldB1 0 ld_23 rfl rfl rfl) (gy 40 rfl rfl) rfl hns (by kernel_rfl) (by kernel_rfl) (by kernel_rfl) rfl ?_
      refine wf_v 27 rfl (v_move rfl) (gy 40 rfl rfl) rfl hns (by kernel_rfl) (by kernel_rfl) (by kernel_rfl) rfl ?_
      refine wf_v 28 rfl (v_nilCheck rfl) (gy 40 rfl rfl) rfl hns (by kernel_rfl) (by kernel_rfl) (by kernel_rfl) rfl ?_
      refine wf_v 29 rfl (v_fldB fo_36_0 rfl) (gy 40 rfl rfl) rfl hns (by kernel_rfl) (by kernel_rfl) (by kernel_rfl) rfl ?_
      refine wf_v 30 rfl (v_fldB fo_34_1 rfl) (gy 40 rfl rfl) rfl hns (by kernel_rfl) (by kernel_rfl) (by kernel_rfl) rfl ?_
      refine wf_v 31 rfl (v_ldB1 0 ld_3 rfl rfl rfl) (gy 40 rfl rfl) rfl hns (by kernel_rfl) (by kernel_rfl) (by kernel_rfl) rfl ?_
      have hr135 := Rw.readF (s := Sm w.heap.size F w [[g2]]) (hl := (hlI .i64)) (h1 := (hone_int .i64)) h11 hb64
      refine wf_v 32 rfl (v_idxR (s := Sm w.heap.size F w [[g2]]) slE_23 rfl rfl h11 hb64) (gy 40 rfl rfl) rfl hns (by kernel_rfl) (by kernel_rfl) (by kernel_rfl) rfl ?_
      refine wf_v 33 rfl (v_ldA1 (kk := (x1.stand.at_ : Int).toNat * 1) (j := 0) (Sm w.heap.size F w [[g2]]) ld_3 rfl hr135 rfl (me 0 rfl)) (gy 40 rfl rfl) rfl hns (by kernel_rfl) (by kernel_rfl) (by kernel_rfl) rfl ?_
      refine wf_v 34 rfl (v_bin rfl rfl rfl) (gy 40 rfl rfl) rfl hns (by kernel_rfl) (by kernel_rfl) (by kernel_rfl) rfl ?_
      refine wf_v 35 rfl (v_pick (b := true) rfl rfl) gn rfl hns (by kernel_rfl) (by kernel_rfl) (by kernel_rfl) rfl ?_
      refine wf_all [36] (by kernel_rfl) rfl ⟨on_l 36 rfl gn rfl (s_call [.pointer (some ⟨g2, 0, none⟩), .int .i64 (ix x1.stand.forest.end_ x1.stand.at_), .bool ((ix x1.stand.forest.parent (ix x1.stand.forest.end_ x1.stand.at_)) == (ix x1.stand.forest.parent x1.stand.at_))] rfl Try.func45 rfl rfl rfl fun w136 hL137 => ?_), trivial⟩
      have hp138 : List.Perm ([.box g2 Tb3 [.slice A4 n5 c6, .slice A8 n9 c10, .slice A12 n13 c14, .bool x1.stand.forest.ok, .int .i64 x1.stand.at_]] : List Ent) (([.box g2 Tb3 [.slice A4 n5 c6, .slice A8 n9 c10, .slice A12 n13 c14, .bool x1.stand.forest.ok, .int .i64 x1.stand.at_]] : List Ent) ++ ([] : List Ent)) := perm_of_idx [0] [] rfl rfl (by kernel_rfl)
      refine Calls.mono (tree_stand_to_calls w136 (Fl ([Sm w.heap.size F w [[g2]]] : List Snap)) x1.stand (ix x1.stand.forest.end_ x1.stand.at_) ((ix x1.stand.forest.parent (ix x1.stand.forest.end_ x1.stand.at_)) == (ix x1.stand.forest.parent x1.stand.at_)) g2 Tb3 A4 n5 c6 A8 n9 c10 A12 n13 c14 (Rw.mono h7 (hL137.toFl (me 0 rfl) (me 0 rfl))) (Rw.mono h11 (hL137.toFl (me 0 rfl) (me 0 rfl))) (Rw.mono h15 (hL137.toFl (me 0 rfl) (me 0 rfl))) (hL137.hFl (Sl := ([Sm w.heap.size F w [[g2]]] : List Snap)) hp138 (sels [0] rfl)) (hL137.into hp138 (Fl ([Sm w.heap.size F w [[g2]]] : List Snap))) r69 hv70) ?_
      rintro _ w151 ⟨A139, n140, c141, A143, n144, c145, A147, n148, c149, rfl, hM152, h142, h146, h150⟩
      obtain ⟨sb155, hL153, hv154⟩ := hL137.callB (Sl := ([Sm w.heap.size F w [[g2]]] : List Snap)) hp138 hM152 F (sels [0] rfl) ⟨Sm.ok, trivial⟩
      have h142 : At k_api_Node (Sm w.heap.size F w151 sb155) A139 n140 c141 r69.2.forest.nodes := Rw.mono h142 hv154
      have h146 : At (kInt .i64) (Sm w.heap.size F w151 sb155) A143 n144 c145 r69.2.forest.parent := Rw.mono h146 hv154
      have h150 : At (kInt .i64) (Sm w.heap.size F w151 sb155) A147 n148 c149 r69.2.forest.end_ := Rw.mono h150 hv154
      refine ⟨_, _, _, rfl, hL153, ?_⟩
      unfold NxL
      refine wf_all [37] (by kernel_rfl) rfl ⟨on_l 37 rfl gn rfl (s_val (v_assign rfl) rfl ?_), trivial⟩
      unfold NxL
      refine wf_end (by kernel_rfl) ?_
      refine g_retR (c := tree_Cursor_Next_c12) [.bool r69.1] rfl Try.func20 rfl (.tmp rfl (.nil)) fun wr hLr => ?_
      have hMr : B.Loc w wr [.box g2 Tb3 [.slice A139 n140 c141, .slice A143 n144 c145, .slice A147 n148 c149, .bool r69.2.forest.ok, .int .i64 r69.2.at_]] [St w [[g2]]] := hLr.pick (rest := []) (perm_of_idx [0] [] rfl rfl (by kernel_rfl)) (sels [2] rfl)
      have hMi : ∀ e ∈ ([.box g2 Tb3 [.slice A139 n140 c141, .slice A143 n144 c145, .slice A147 n148 c149, .bool r69.2.forest.ok, .int .i64 r69.2.at_]] : List Ent), e ∈ ([.box g2 Tb3 [.slice A139 n140 c141, .slice A143 n144 c145, .slice A147 n148 c149, .bool r69.2.forest.ok, .int .i64 r69.2.at_]] : List Ent) := sels [0] rfl
      show tree_Cursor_Next_R w F g2 Tb3 r (.returned (packV [.bool r69.1])) wr
      rw [h]
      exact ⟨A139, n140, c141, A143, n144, c145, A147, n148, c149, rfl, hMr, (hLr.outR (s := Sm w.heap.size F w151 sb155) hMi (me 0 rfl) Sm.ok h142), (hLr.outR (s := Sm w.heap.size F w151 sb155) hMi (me 0 rfl) Sm.ok h146), (hLr.outR (s := Sm w.heap.size F w151 sb155) hMi (me 0 rfl) Sm.ok h150)⟩
    · have h := if_neg' hp61 h
      obtain ⟨r159, hv160, h⟩ := h
      have hns : Region.noSelect (Code.ops tree_Cursor_Next_c11) = true := by kernel_rfl
      refine g_drawF (c := tree_Cursor_Next_c11) [.box g2 Tb3 [.slice A4 n5 c6, .slice A8 n9 c10, .slice A12 n13 c14, .bool x1.stand.forest.ok, .int .i64 x1.stand.at_]] [Sm w.heap.size F w [[g2]], St w [[g2]]] [36, 37] 38 rfl rfl mix rfl (.cons_cons _ (.slnil)) (sels [0, 1] rfl) ?_
      refine wf_v 0 rfl (v_move rfl) gn rfl hns (by kernel_rfl) (by kernel_rfl) (by kernel_rfl) rfl ?_
      refine wf_v 1 rfl (v_nilCheck rfl) gn rfl hns (by kernel_rfl) (by kernel_rfl) (by kernel_rfl) rfl ?_
      refine wf_v 2 rfl (v_fldB fo_36_0 rfl) gn rfl hns (by kernel_rfl) (by kernel_rfl) (by kernel_rfl) rfl ?_
      refine wf_v 3 rfl (v_move rfl) gn rfl hns (by kernel_rfl) (by kernel_rfl) (by kernel_rfl) rfl ?_
      refine wf_v 4 rfl (v_move rfl) gn rfl hns (by kernel_rfl) (by kernel_rfl) (by kernel_rfl) rfl ?_
      refine wf_v 5 rfl (v_nilCheck rfl) gn rfl hns (by kernel_rfl) (by kernel_rfl) (by kernel_rfl) rfl ?_
      refine wf_v 6 rfl (v_fldB fo_36_0 rfl) gn rfl hns (by kernel_rfl) (by kernel_rfl) (by kernel_rfl) rfl ?_
      refine wf_v 7 rfl (v_fldB fo_34_0 rfl) gn rfl hns (by kernel_rfl) (by kernel_rfl) (by kernel_rfl) rfl ?_
      refine wf_v 8 rfl (v_ldB [.slice A4 n5 c6, .slice A8 n9 c10, .slice A12 n13 c14, .bool x1.stand.forest.ok] 0 ld_32 rfl rfl rfl rfl) gn rfl hns (by kernel_rfl) (by kernel_rfl) (by kernel_rfl) rfl ?_
      refine wf_v 9 rfl (v_move rfl) gn rfl hns (by kernel_rfl) (by kernel_rfl) (by kernel_rfl) rfl ?_
      refine wf_all [10] (by kernel_rfl) rfl ⟨on_s 10 rfl gn rfl (s_call [.agg #[.slice A4 n5 c6, .slice A8 n9 c10, .slice A12 n13 c14, .bool x1.stand.forest.ok], .int .i64 (ix x1.stand.forest.end_ x1.stand.at_)] rfl Try.func46 rfl rfl rfl fun w216 hL217 => ?_), trivial⟩
      have hp218 : List.Perm ([.box g2 Tb3 [.slice A4 n5 c6, .slice A8 n9 c10, .slice A12 n13 c14, .bool x1.stand.forest.ok, .int .i64 x1.stand.at_]] : List Ent) (([] : List Ent) ++ ([.box g2 Tb3 [.slice A4 n5 c6, .slice A8 n9 c10, .slice A12 n13 c14, .bool x1.stand.forest.ok, .int .i64 x1.stand.at_]] : List Ent)) := perm_of_idx [] [0] rfl rfl (by kernel_rfl)
      refine Calls.mono (tree_forest_has_calls w216 (Fl ([] : List Snap)) x1.stand.forest (ix x1.stand.forest.end_ x1.stand.at_) A4 n5 c6 A8 n9 c10 A12 n13 c14 (Rw.mono h7 (hL217.toSt hp218 (me 0 rfl))) (Rw.mono h11 (hL217.toSt hp218 (me 0 rfl))) (Rw.mono h15 (hL217.toSt hp218 (me 0 rfl))) (hL217.hFl (Sl := ([] : List Snap)) hp218 (sels [] rfl)) (hL217.into hp218 (Fl ([] : List Snap))) r56 hv57) ?_
      rintro _ w219 ⟨rfl, hM220⟩
      have hL221 := hL217.call hp218 hM220
      refine ⟨_, _, _, rfl, hL221, ?_⟩
      refine ⟨sels [0] rfl, sels [0, 1] rfl, ?_⟩
      refine wf_v 11 rfl (v_move rfl) gn rfl hns (by kernel_rfl) (by kernel_rfl) (by kernel_rfl) rfl ?_
      refine wf_bool 40 rfl ((bf hp61)) ?_
      refine wf_pass 12 rfl (ps 40 rfl rfl rfl) hns (by kernel_rfl) (by kernel_rfl) (by kernel_rfl) rfl ?_
      refine wf_pass 13 rfl (ps 40 rfl rfl rfl) hns (by kernel_rfl) (by kernel_rfl) (by kernel_rfl) rfl ?_
      refine wf_pass 14 rfl (ps 40 rfl rfl rfl) hns (by kernel_rfl) (by kernel_rfl) (by kernel_rfl) rfl ?_
      refine wf_pass 15 rfl (ps 40 rfl rfl rfl) hns (by kernel_rfl) (by kernel_rfl) (by kernel_rfl) rfl ?_
      refine wf_pass 16 rfl (ps 40 rfl rfl rfl) hns (by kernel_rfl) (by kernel_rfl) (by kernel_rfl) rfl ?_
      refine wf_pass 17 rfl (ps 40 rfl rfl rfl) hns (by kernel_rfl) (by kernel_rfl) (by kernel_rfl) rfl ?_
      refine wf_pass 18 rfl (ps 40 rfl rfl rfl) hns (by kernel_rfl) (by kernel_rfl) (by kernel_rfl) rfl ?_
      refine wf_pass 19 rfl (ps 40 rfl rfl rfl) hns (by kernel_rfl) (by kernel_rfl) (by kernel_rfl) rfl ?_
      refine wf_pass 20 rfl (ps 40 rfl rfl rfl) hns (by kernel_rfl) (by kernel_rfl) (by kernel_rfl) rfl ?_
      refine wf_pass 21 rfl (ps 40 rfl rfl rfl) hns (by kernel_rfl) (by kernel_rfl) (by kernel_rfl) rfl ?_
      refine wf_pass 22 rfl (ps 40 rfl rfl rfl) hns (by kernel_rfl) (by kernel_rfl) (by kernel_rfl) rfl ?_
      refine wf_pass 23 rfl (ps 40 rfl rfl rfl) hns (by kernel_rfl) (by kernel_rfl) (by kernel_rfl) rfl ?_
      refine wf_pass 24 rfl (ps 40 rfl rfl rfl) hns (by kernel_rfl) (by kernel_rfl) (by kernel_rfl) rfl ?_
      refine wf_pass 25 rfl (ps 40 rfl rfl rfl) hns (by kernel_rfl) (by kernel_rfl) (by kernel_rfl) rfl ?_
      refine wf_pass 26 rfl (ps 40 rfl rfl rfl) hns (by kernel_rfl) (by kernel_rfl) (by kernel_rfl) rfl ?_
      refine wf_pass 27 rfl (ps 40 rfl rfl rfl) hns (by kernel_rfl) (by kernel_rfl) (by kernel_rfl) rfl ?_
      refine wf_pass 28 rfl (ps 40 rfl rfl rfl) hns (by kernel_rfl) (by kernel_rfl) (by kernel_rfl) rfl ?_
      refine wf_pass 29 rfl (ps 40 rfl rfl rfl) hns (by kernel_rfl) (by kernel_rfl) (by kernel_rfl) rfl ?_
      refine wf_pass 30 rfl (ps 40 rfl rfl rfl) hns (by kernel_rfl) (by kernel_rfl) (by kernel_rfl) rfl ?_
      refine wf_pass 31 rfl (ps 40 rfl rfl rfl) hns (by kernel_rfl) (by kernel_rfl) (by kernel_rfl) rfl ?_
      refine wf_pass 32 rfl (ps 40 rfl rfl rfl) hns (by kernel_rfl) (by kernel_rfl) (by kernel_rfl) rfl ?_
      refine wf_pass 33 rfl (ps 40 rfl rfl rfl) hns (by kernel_rfl) (by kernel_rfl) (by kernel_rfl) rfl ?_
      refine wf_pass 34 rfl (ps 40 rfl rfl rfl) hns (by kernel_rfl) (by kernel_rfl) (by kernel_rfl) rfl ?_
      refine wf_v 35 rfl (v_pick (b := false) rfl rfl) gn rfl hns (by kernel_rfl) (by kernel_rfl) (by kernel_rfl) rfl ?_
      refine wf_all [36] (by kernel_rfl) rfl ⟨on_l 36 rfl gn rfl (s_call [.pointer (some ⟨g2, 0, none⟩), .int .i64 (ix x1.stand.forest.end_ x1.stand.at_), .bool false] rfl Try.func45 rfl rfl rfl fun w222 hL223 => ?_), trivial⟩
      have hp224 : List.Perm ([.box g2 Tb3 [.slice A4 n5 c6, .slice A8 n9 c10, .slice A12 n13 c14, .bool x1.stand.forest.ok, .int .i64 x1.stand.at_]] : List Ent) (([.box g2 Tb3 [.slice A4 n5 c6, .slice A8 n9 c10, .slice A12 n13 c14, .bool x1.stand.forest.ok, .int .i64 x1.stand.at_]] : List Ent) ++ ([] : List Ent)) := perm_of_idx [0] [] rfl rfl (by kernel_rfl)
      refine Calls.mono (tree_stand_to_calls w222 (Fl ([Sm w.heap.size F w [[g2]]] : List Snap)) x1.stand (ix x1.stand.forest.end_ x1.stand.at_) false g2 Tb3 A4 n5 c6 A8 n9 c10 A12 n13 c14 (Rw.mono h7 (hL223.toFl (me 0 rfl) (me 0 rfl))) (Rw.mono h11 (hL223.toFl (me 0 rfl) (me 0 rfl))) (Rw.mono h15 (hL223.toFl (me 0 rfl) (me 0 rfl))) (hL223.hFl (Sl := ([Sm w.heap.size F w [[g2]]] : List Snap)) hp224 (sels [0] rfl)) (hL223.into hp224 (Fl ([Sm w.heap.size F w [[g2]]] : List Snap))) r159 hv160) ?_
      rintro _ w237 ⟨A225, n226, c227, A229, n230, c231, A233, n234, c235, rfl, hM238, h228, h232, h236⟩
      obtain ⟨sb241, hL239, hv240⟩ := hL223.callB (Sl := ([Sm w.heap.size F w [[g2]]] : List Snap)) hp224 hM238 F (sels [0] rfl) ⟨Sm.ok, trivial⟩
      have h228 : At k_api_Node (Sm w.heap.size F w237 sb241) A225 n226 c227 r159.2.forest.nodes := Rw.mono h228 hv240
      have h232 : At (kInt .i64) (Sm w.heap.size F w237 sb241) A229 n230 c231 r159.2.forest.parent := Rw.mono h232 hv240
      have h236 : At (kInt .i64) (Sm w.heap.size F w237 sb241) A233 n234 c235 r159.2.forest.end_ := Rw.mono h236 hv240
      refine ⟨_, _, _, rfl, hL239, ?_⟩
      unfold NxL
      refine wf_all [37] (by kernel_rfl) rfl ⟨on_l 37 rfl gn rfl (s_val (v_assign rfl) rfl ?_), trivial⟩
      unfold NxL
      refine wf_end (by kernel_rfl) ?_
      refine g_retR (c := tree_Cursor_Next_c12) [.bool r159.1] rfl Try.func20 rfl (.tmp rfl (.nil)) fun wr hLr => ?_
      have hMr : B.Loc w wr [.box g2 Tb3 [.slice A225 n226 c227, .slice A229 n230 c231, .slice A233 n234 c235, .bool r159.2.forest.ok, .int .i64 r159.2.at_]] [St w [[g2]]] := hLr.pick (rest := []) (perm_of_idx [0] [] rfl rfl (by kernel_rfl)) (sels [2] rfl)
      have hMi : ∀ e ∈ ([.box g2 Tb3 [.slice A225 n226 c227, .slice A229 n230 c231, .slice A233 n234 c235, .bool r159.2.forest.ok, .int .i64 r159.2.at_]] : List Ent), e ∈ ([.box g2 Tb3 [.slice A225 n226 c227, .slice A229 n230 c231, .slice A233 n234 c235, .bool r159.2.forest.ok, .int .i64 r159.2.at_]] : List Ent) := sels [0] rfl
      show tree_Cursor_Next_R w F g2 Tb3 r (.returned (packV [.bool r159.1])) wr
      rw [h]
      exact ⟨A225, n226, c227, A229, n230, c231, A233, n234, c235, rfl, hMr, (hLr.outR (s := Sm w.heap.size F w237 sb241) hMi (me 0 rfl) Sm.ok h228), (hLr.outR (s := Sm w.heap.size F w237 sb241) hMi (me 0 rfl) Sm.ok h232), (hLr.outR (s := Sm w.heap.size F w237 sb241) hMi (me 0 rfl) Sm.ok h236)⟩
  · have h := if_neg' hp48 h
    refine g_true (c := tree_Cursor_Next_c6) rfl _ rfl ((nt (bf hp48))) ?_
    refine g_seq (c := tree_Cursor_Next_c7) rfl ?_
    refine g_region (c := tree_Cursor_Next_c13) rfl rfl ?_
    refine wl_v 0 rfl (v_assign rfl) gn rfl ?_
    refine w_end 1 rfl ?_
    refine g_retR (c := tree_Cursor_Next_c14) [.bool false] rfl Try.func20 rfl (.tmp rfl (.nil)) fun wr hLr => ?_
    have hMr : B.Loc w wr [.box g2 Tb3 [.slice A4 n5 c6, .slice A8 n9 c10, .slice A12 n13 c14, .bool x1.stand.forest.ok, .int .i64 x1.stand.at_]] [St w [[g2]]] := hLr.pick (rest := []) (perm_of_idx [0] [] rfl rfl (by kernel_rfl)) (sels [1] rfl)
    have hMi : ∀ e ∈ ([.box g2 Tb3 [.slice A4 n5 c6, .slice A8 n9 c10, .slice A12 n13 c14, .bool x1.stand.forest.ok, .int .i64 x1.stand.at_]] : List Ent), e ∈ ([.box g2 Tb3 [.slice A4 n5 c6, .slice A8 n9 c10, .slice A12 n13 c14, .bool x1.stand.forest.ok, .int .i64 x1.stand.at_]] : List Ent) := sels [0] rfl
    show tree_Cursor_Next_R w F g2 Tb3 r (.returned (packV [.bool false])) wr
    rw [h]
    exact ⟨A4, n5, c6, A8, n9, c10, A12, n13, c14, rfl, hMr, (hLr.outR (s := Sm w.heap.size F w [[g2]]) hMi (me 0 rfl) Sm.ok h7), (hLr.outR (s := Sm w.heap.size F w [[g2]]) hMi (me 0 rfl) Sm.ok h11), (hLr.outR (s := Sm w.heap.size F w [[g2]]) hMi (me 0 rfl) Sm.ok h15)⟩
noncomputable abbrev tree_Cursor_Up_c0 : Code := bodyOf Try.f22
noncomputable abbrev tree_Cursor_Up_c1 : Code := Code.fst tree_Cursor_Up_c0
noncomputable abbrev tree_Cursor_Up_c2 : Code := Code.snd tree_Cursor_Up_c0
noncomputable abbrev tree_Cursor_Up_c3 : Code := Code.fst tree_Cursor_Up_c2
noncomputable abbrev tree_Cursor_Up_c4 : Code := Code.snd tree_Cursor_Up_c2
abbrev tree_Cursor_Up_R (w : World) (F : Nat → Prop) (g2 : Nat) (Tb3 : Nat) (r : Bool × tree_Cursor) : Ending → World → Prop := fun e w' => ∃ A0 : Option Addr, ∃ n0 : Nat, ∃ c0 : Nat, ∃ A1 : Option Addr, ∃ n1 : Nat, ∃ c1 : Nat, ∃ A2 : Option Addr, ∃ n2 : Nat, ∃ c2 : Nat, e = .returned (.bool r.1) ∧ B.Loc w w' [.box g2 Tb3 [.slice A0 n0 c0, .slice A1 n1 c1, .slice A2 n2 c2, .bool r.2.stand.forest.ok, .int .i64 r.2.stand.at_]] [St w [[g2]]] ∧ Rw k_api_Node w' (Nw w w' F [.box g2 Tb3 [.slice A0 n0 c0, .slice A1 n1 c1, .slice A2 n2 c2, .bool r.2.stand.forest.ok, .int .i64 r.2.stand.at_]]) A0 n0 c0 r.2.stand.forest.nodes ∧ Rw (kInt .i64) w' (Nw w w' F [.box g2 Tb3 [.slice A0 n0 c0, .slice A1 n1 c1, .slice A2 n2 c2, .bool r.2.stand.forest.ok, .int .i64 r.2.stand.at_]]) A1 n1 c1 r.2.stand.forest.parent ∧ Rw (kInt .i64) w' (Nw w w' F [.box g2 Tb3 [.slice A0 n0 c0, .slice A1 n1 c1, .slice A2 n2 c2, .bool r.2.stand.forest.ok, .int .i64 r.2.stand.at_]]) A2 n2 c2 r.2.stand.forest.end_
noncomputable abbrev tree_Cursor_Up_C (w : World) (F : Nat → Prop) (g2 : Nat) (Tb3 : Nat) (r : Bool × tree_Cursor) : Cx := ⟨Try.prog, 22, Try.f22, 47, tree_Cursor_Up_R w F g2 Tb3 r, w⟩
theorem tree_Cursor_Up_calls (w : World) (F : Nat → Prop) (x1 : tree_Cursor) (g2 : Nat) (Tb3 : Nat) (A4 : Option Addr) (n5 : Nat) (c6 : Nat) (A8 : Option Addr) (n9 : Nat) (c10 : Nat) (A12 : Option Addr) (n13 : Nat) (c14 : Nat) (h7 : Rw k_api_Node w F A4 n5 c6 x1.stand.forest.nodes) (h11 : Rw (kInt .i64) w F A8 n9 c10 x1.stand.forest.parent) (h15 : Rw (kInt .i64) w F A12 n13 c14 x1.stand.forest.end_) (hF : ∀ b, F b → b < w.heap.size ∧ ∀ o ∈ ([[g2]] : List (List Nat)), b ∉ o) (hL0 : B.Loc w w [.box g2 Tb3 [.slice A4 n5 c6, .slice A8 n9 c10, .slice A12 n13 c14, .bool x1.stand.forest.ok, .int .i64 x1.stand.at_]] [Sm w.heap.size F w [[g2]], St w [[g2]]]) (r : Bool × tree_Cursor) (h : tree_Cursor_Up x1 r) : Calls Try.prog 22 #[.pointer (some ⟨g2, 0, none⟩)] w (tree_Cursor_Up_R w F g2 Tb3 r) := by
  unfold tree_Cursor_Up at h
  have h7 := Rw.into (bs := [[g2]]) hF h7
  have h11 := Rw.into (bs := [[g2]]) hF h11
  have h15 := Rw.into (bs := [[g2]]) hF h15
  refine calls_of_Loc (vs := [.pointer (some ⟨g2, 0, none⟩)]) 47 Try.func22 rfl Try.ntmps22 rfl hL0 ?_
  show G (tree_Cursor_Up_C w F g2 Tb3 r) _ _ _ _
  refine g_seq (c := tree_Cursor_Up_c0) rfl ?_
  refine g_region (c := tree_Cursor_Up_c1) rfl rfl ?_
  refine wl_v 0 rfl (v_assign rfl) gn rfl ?_
  refine w_end 1 rfl ?_
  refine g_seq (c := tree_Cursor_Up_c2) rfl ?_
  obtain ⟨r19, hv20, h⟩ := h
  by_cases hp24 : r19 = true
  · have h := if_pos' hp24 h
    obtain ⟨hb25, h⟩ := h
    obtain ⟨r31, hv32, h⟩ := h
    have hns : Region.noSelect (Code.ops tree_Cursor_Up_c3) = true := by kernel_rfl
    refine g_drawF (c := tree_Cursor_Up_c3) [.box g2 Tb3 [.slice A4 n5 c6, .slice A8 n9 c10, .slice A12 n13 c14, .bool x1.stand.forest.ok, .int .i64 x1.stand.at_]] [Sm w.heap.size F w [[g2]], St w [[g2]]] [42, 43, 44] 45 rfl rfl mix rfl (.cons_cons _ (.slnil)) (sels [0, 1] rfl) ?_
    refine wf_v 0 rfl (v_move rfl) gn rfl hns (by kernel_rfl) (by kernel_rfl) (by kernel_rfl) rfl ?_
    refine wf_v 1 rfl (v_nilCheck rfl) gn rfl hns (by kernel_rfl) (by kernel_rfl) (by kernel_rfl) rfl ?_
    refine wf_v 2 rfl (v_fldB fo_36_0 rfl) gn rfl hns (by kernel_rfl) (by kernel_rfl) (by kernel_rfl) rfl ?_
    refine wf_v 3 rfl (v_fldB fo_34_0 rfl) gn rfl hns (by kernel_rfl) (by kernel_rfl) (by kernel_rfl) rfl ?_
    refine wf_v 4 rfl (v_ldB [.slice A4 n5 c6, .slice A8 n9 c10, .slice A12 n13 c14, .bool x1.stand.forest.ok] 0 ld_32 rfl rfl rfl rfl) gn rfl hns (by kernel_rfl) (by kernel_rfl) (by kernel_rfl) rfl ?_
    refine wf_v 5 rfl (v_move rfl) gn rfl hns (by kernel_rfl) (by kernel_rfl) (by kernel_rfl) rfl ?_
    refine wf_v 6 rfl (v_nilCheck rfl) gn rfl hns (by kernel_rfl) (by kernel_rfl) (by kernel_rfl) rfl ?_
    refine wf_v 7 rfl (v_fldB fo_36_0 rfl) gn rfl hns (by kernel_rfl) (by kernel_rfl) (by kernel_rfl) rfl ?_
    refine wf_v 8 rfl (v_fldB fo_34_1 rfl) gn rfl hns (by kernel_rfl) (by kernel_rfl) (by kernel_rfl) rfl ?_
    refine wf_v 9 rfl (v_ldB1 0 ld_3 rfl rfl rfl) gn rfl hns (by kernel_rfl) (by kernel_rfl) (by kernel_rfl) rfl ?_
    refine wf_all [10] (by kernel_rfl) rfl ⟨on_s 10 rfl gn rfl (s_call [.agg #[.slice A4 n5 c6, .slice A8 n9 c10, .slice A12 n13 c14, .bool x1.stand.forest.ok], .int .i64 x1.stand.at_] rfl Try.func46 rfl rfl rfl fun w91 hL92 => ?_), trivial⟩
    have hp93 : List.Perm ([.box g2 Tb3 [.slice A4 n5 c6, .slice A8 n9 c10, .slice A12 n13 c14, .bool x1.stand.forest.ok, .int .i64 x1.stand.at_]] : List Ent) (([] : List Ent) ++ ([.box g2 Tb3 [.slice A4 n5 c6, .slice A8 n9 c10, .slice A12 n13 c14, .bool x1.stand.forest.ok, .int .i64 x1.stand.at_]] : List Ent)) := perm_of_idx [] [0] rfl rfl (by kernel_rfl)
    refine Calls.mono (tree_forest_has_calls w91 (Fl ([] : List Snap)) x1.stand.forest x1.stand.at_ A4 n5 c6 A8 n9 c10 A12 n13 c14 (Rw.mono h7 (hL92.toSt hp93 (me 0 rfl))) (Rw.mono h11 (hL92.toSt hp93 (me 0 rfl))) (Rw.mono h15 (hL92.toSt hp93 (me 0 rfl))) (hL92.hFl (Sl := ([] : List Snap)) hp93 (sels [] rfl)) (hL92.into hp93 (Fl ([] : List Snap))) r19 hv20) ?_
    rintro _ w94 ⟨rfl, hM95⟩
    have hL96 := hL92.call hp93 hM95
    refine ⟨_, _, _, rfl, hL96, ?_⟩
    refine ⟨sels [0] rfl, sels [0, 1] rfl, ?_⟩
    refine wf_v 11 rfl (v_move rfl) gn rfl hns (by kernel_rfl) (by kernel_rfl) (by kernel_rfl) rfl ?_
    refine wf_bool 14 rfl (hp24) ?_
    refine wf_v 12 rfl (v_move rfl) (gy 14 rfl rfl) rfl hns (by kernel_rfl) (by kernel_rfl) (by kernel_rfl) rfl ?_
    refine wf_v 13 rfl (v_nilCheck rfl) (gy 14 rfl rfl) rfl hns (by kernel_rfl) (by kernel_rfl) (by kernel_rfl) rfl ?_
    refine wf_v 14 rfl (v_fldB fo_36_0 rfl) (gy 14 rfl rfl) rfl hns (by kernel_rfl) (by kernel_rfl) (by kernel_rfl) rfl ?_
    refine wf_v 15 rfl (v_move rfl) (gy 14 rfl rfl) rfl hns (by kernel_rfl) (by kernel_rfl) (by kernel_rfl) rfl ?_
    refine wf_v 16 rfl (v_nilCheck rfl) (gy 14 rfl rfl) rfl hns (by kernel_rfl) (by kernel_rfl) (by kernel_rfl) rfl ?_
    refine wf_v 17 rfl (v_fldB fo_36_0 rfl) (gy 14 rfl rfl) rfl hns (by kernel_rfl) (by kernel_rfl) (by kernel_rfl) rfl ?_
    refine wf_v 18 rfl (v_fldB fo_34_0 rfl) (gy 14 rfl rfl) rfl hns (by kernel_rfl) (by kernel_rfl) (by kernel_rfl) rfl ?_
    refine wf_v 19 rfl (v_fldB fo_32_1 rfl) (gy 14 rfl rfl) rfl hns (by kernel_rfl) (by kernel_rfl) (by kernel_rfl) rfl ?_
    refine wf_v 20 rfl (v_ldB1 0 ld_23 rfl rfl rfl) (gy 14 rfl rfl) rfl hns (by kernel_rfl) (by kernel_rfl) (by kernel_rfl) rfl ?_
    refine wf_v 21 rfl (v_move rfl) (gy 14 rfl rfl) rfl hns (by kernel_rfl) (by kernel_rfl) (by kernel_rfl) rfl ?_
    refine wf_v 22 rfl (v_nilCheck rfl) (gy 14 rfl rfl) rfl hns (by kernel_rfl) (by kernel_rfl) (by kernel_rfl) rfl ?_
    refine wf_v 23 rfl (v_fldB fo_36_0 rfl) (gy 14 rfl rfl) rfl hns (by kernel_rfl) (by kernel_rfl) (by kernel_rfl) rfl ?_
    refine wf_v 24 rfl (v_fldB fo_34_1 rfl) (gy 14 rfl rfl) rfl hns (by kernel_rfl) (by kernel_rfl) (by kernel_rfl) rfl ?_
    refine wf_v 25 rfl (v_ldB1 0 ld_3 rfl rfl rfl) (gy 14 rfl rfl) rfl hns (by kernel_rfl) (by kernel_rfl) (by kernel_rfl) rfl ?_
    have hr97 := Rw.readF (s := Sm w.heap.size F w [[g2]]) (hl := (hlI .i64)) (h1 := (hone_int .i64)) h11 hb25
    refine wf_v 26 rfl (v_idxR (s := Sm w.heap.size F w [[g2]]) slE_23 rfl rfl h11 hb25) (gy 14 rfl rfl) rfl hns (by kernel_rfl) (by kernel_rfl) (by kernel_rfl) rfl ?_
    refine wf_v 27 rfl (v_ldA1 (kk := (x1.stand.at_ : Int).toNat * 1) (j := 0) (Sm w.heap.size F w [[g2]]) ld_3 rfl hr97 rfl (me 0 rfl)) (gy 14 rfl rfl) rfl hns (by kernel_rfl) (by kernel_rfl) (by kernel_rfl) rfl ?_
    refine wf_v 28 rfl (v_move rfl) (gy 14 rfl rfl) rfl hns (by kernel_rfl) (by kernel_rfl) (by kernel_rfl) rfl ?_
    refine wf_v 29 rfl (v_nilCheck rfl) (gy 14 rfl rfl) rfl hns (by kernel_rfl) (by kernel_rfl) (by kernel_rfl) rfl ?_
    refine wf_v 30 rfl (v_fldB fo_36_0 rfl) (gy 14 rfl rfl) rfl hns (by kernel_rfl) (by kernel_rfl) (by kernel_rfl) rfl ?_
    refine wf_v 31 rfl (v_fldB fo_34_0 rfl) (gy 14 rfl rfl) rfl hns (by kernel_rfl) (by kernel_rfl) (by kernel_rfl) rfl ?_
    refine wf_v 32 rfl (v_fldB fo_32_1 rfl) (gy 14 rfl rfl) rfl hns (by kernel_rfl) (by kernel_rfl) (by kernel_rfl) rfl ?_
    refine wf_v 33 rfl (v_ldB1 0 ld_23 rfl rfl rfl) (gy 14 rfl rfl) rfl hns (by kernel_rfl) (by kernel_rfl) (by kernel_rfl) rfl ?_
    refine wf_v 34 rfl (v_move rfl) (gy 14 rfl rfl) rfl hns (by kernel_rfl) (by kernel_rfl) (by kernel_rfl) rfl ?_
    refine wf_v 35 rfl (v_nilCheck rfl) (gy 14 rfl rfl) rfl hns (by kernel_rfl) (by kernel_rfl) (by kernel_rfl) rfl ?_
    refine wf_v 36 rfl (v_fldB fo_36_0 rfl) (gy 14 rfl rfl) rfl hns (by kernel_rfl) (by kernel_rfl) (by kernel_rfl) rfl ?_
    refine wf_v 37 rfl (v_fldB fo_34_1 rfl) (gy 14 rfl rfl) rfl hns (by kernel_rfl) (by kernel_rfl) (by kernel_rfl) rfl ?_
    refine wf_v 38 rfl (v_ldB1 0 ld_3 rfl rfl rfl) (gy 14 rfl rfl) rfl hns (by kernel_rfl) (by kernel_rfl) (by kernel_rfl) rfl ?_
    have hr98 := Rw.readF (s := Sm w.heap.size F w [[g2]]) (hl := (hlI .i64)) (h1 := (hone_int .i64)) h11 hb25
    refine wf_v 39 rfl (v_idxR (s := Sm w.heap.size F w [[g2]]) slE_23 rfl rfl h11 hb25) (gy 14 rfl rfl) rfl hns (by kernel_rfl) (by kernel_rfl) (by kernel_rfl) rfl ?_
    refine wf_v 40 rfl (v_ldA1 (kk := (x1.stand.at_ : Int).toNat * 1) (j := 0) (Sm w.heap.size F w [[g2]]) ld_3 rfl hr98 rfl (me 0 rfl)) (gy 14 rfl rfl) rfl hns (by kernel_rfl) (by kernel_rfl) (by kernel_rfl) rfl ?_
    refine wf_v 41 rfl (v_bin rfl rfl rfl) (gy 14 rfl rfl) rfl hns (by kernel_rfl) (by kernel_rfl) (by kernel_rfl) rfl ?_
    refine wf_all [42] (by kernel_rfl) rfl ⟨on_l 42 rfl (gy 14 rfl rfl) rfl (s_call [.pointer (some ⟨g2, 0, none⟩), .int .i64 (ix x1.stand.forest.parent x1.stand.at_), .bool (decide (ix x1.stand.forest.parent x1.stand.at_ ≥ 0))] rfl Try.func45 rfl rfl rfl fun w99 hL100 => ?_), trivial⟩
    have hp101 : List.Perm ([.box g2 Tb3 [.slice A4 n5 c6, .slice A8 n9 c10, .slice A12 n13 c14, .bool x1.stand.forest.ok, .int .i64 x1.stand.at_]] : List Ent) (([.box g2 Tb3 [.slice A4 n5 c6, .slice A8 n9 c10, .slice A12 n13 c14, .bool x1.stand.forest.ok, .int .i64 x1.stand.at_]] : List Ent) ++ ([] : List Ent)) := perm_of_idx [0] [] rfl rfl (by kernel_rfl)
    refine Calls.mono (tree_stand_to_calls w99 (Fl ([Sm w.heap.size F w [[g2]]] : List Snap)) x1.stand (ix x1.stand.forest.parent x1.stand.at_) (decide (ix x1.stand.forest.parent x1.stand.at_ ≥ 0)) g2 Tb3 A4 n5 c6 A8 n9 c10 A12 n13 c14 (Rw.mono h7 (hL100.toFl (me 0 rfl) (me 0 rfl))) (Rw.mono h11 (hL100.toFl (me 0 rfl) (me 0 rfl))) (Rw.mono h15 (hL100.toFl (me 0 rfl) (me 0 rfl))) (hL100.hFl (Sl := ([Sm w.heap.size F w [[g2]]] : List Snap)) hp101 (sels [0] rfl)) (hL100.into hp101 (Fl ([Sm w.heap.size F w [[g2]]] : List Snap))) r31 hv32) ?_
    rintro _ w114 ⟨A102, n103, c104, A106, n107, c108, A110, n111, c112, rfl, hM115, h105, h109, h113⟩
    obtain ⟨sb118, hL116, hv117⟩ := hL100.callB (Sl := ([Sm w.heap.size F w [[g2]]] : List Snap)) hp101 hM115 F (sels [0] rfl) ⟨Sm.ok, trivial⟩
    have h105 : At k_api_Node (Sm w.heap.size F w114 sb118) A102 n103 c104 r31.2.forest.nodes := Rw.mono h105 hv117
    have h109 : At (kInt .i64) (Sm w.heap.size F w114 sb118) A106 n107 c108 r31.2.forest.parent := Rw.mono h109 hv117
    have h113 : At (kInt .i64) (Sm w.heap.size F w114 sb118) A110 n111 c112 r31.2.forest.end_ := Rw.mono h113 hv117
    refine ⟨_, _, _, rfl, hL116, ?_⟩
    unfold NxL
    refine wf_all [43] (by kernel_rfl) rfl ⟨on_l 43 rfl gn rfl (s_val (v_pick (b := true) rfl rfl) rfl ?_), trivial⟩
    unfold NxL
    refine wf_all [44] (by kernel_rfl) rfl ⟨on_l 44 rfl gn rfl (s_val (v_assign rfl) rfl ?_), trivial⟩
    unfold NxL
    refine wf_end (by kernel_rfl) ?_
    refine g_retR (c := tree_Cursor_Up_c4) [.bool r31.1] rfl Try.func22 rfl (.tmp rfl (.nil)) fun wr hLr => ?_
    have hMr : B.Loc w wr [.box g2 Tb3 [.slice A102 n103 c104, .slice A106 n107 c108, .slice A110 n111 c112, .bool r31.2.forest.ok, .int .i64 r31.2.at_]] [St w [[g2]]] := hLr.pick (rest := []) (perm_of_idx [0] [] rfl rfl (by kernel_rfl)) (sels [2] rfl)
    have hMi : ∀ e ∈ ([.box g2 Tb3 [.slice A102 n103 c104, .slice A106 n107 c108, .slice A110 n111 c112, .bool r31.2.forest.ok, .int .i64 r31.2.at_]] : List Ent), e ∈ ([.box g2 Tb3 [.slice A102 n103 c104, .slice A106 n107 c108, .slice A110 n111 c112, .bool r31.2.forest.ok, .int .i64 r31.2.at_]] : List Ent) := sels [0] rfl
    show tree_Cursor_Up_R w F g2 Tb3 r (.returned (packV [.bool r31.1])) wr
    rw [h]
    exact ⟨A102, n103, c104, A106, n107, c108, A110, n111, c112, rfl, hMr, (hLr.outR (s := Sm w.heap.size F w114 sb118) hMi (me 0 rfl) Sm.ok h105), (hLr.outR (s := Sm w.heap.size F w114 sb118) hMi (me 0 rfl) Sm.ok h109), (hLr.outR (s := Sm w.heap.size F w114 sb118) hMi (me 0 rfl) Sm.ok h113)⟩
  · have h := if_neg' hp24 h
    have hns : Region.noSelect (Code.ops tree_Cursor_Up_c3) = true := by kernel_rfl
    refine g_drawF (c := tree_Cursor_Up_c3) [.box g2 Tb3 [.slice A4 n5 c6, .slice A8 n9 c10, .slice A12 n13 c14, .bool x1.stand.forest.ok, .int .i64 x1.stand.at_]] [Sm w.heap.size F w [[g2]], St w [[g2]]] [42, 43, 44] 45 rfl rfl mix rfl (.cons_cons _ (.slnil)) (sels [0, 1] rfl) ?_
    refine wf_v 0 rfl (v_move rfl) gn rfl hns (by kernel_rfl) (by kernel_rfl) (by kernel_rfl) rfl ?_
    refine wf_v 1 rfl (v_nilCheck rfl) gn rfl hns (by kernel_rfl) (by kernel_rfl) (by kernel_rfl) rfl ?_
    refine wf_v 2 rfl (v_fldB fo_36_0 rfl) gn rfl hns (by kernel_rfl) (by kernel_rfl) (by kernel_rfl) rfl ?_
    refine wf_v 3 rfl (v_fldB fo_34_0 rfl) gn rfl hns (by kernel_rfl) (by kernel_rfl) (by kernel_rfl) rfl ?_
    refine wf_v 4 rfl (v_ldB [.slice A4 n5 c6, .slice A8 n9 c10, .slice A12 n13 c14, .bool x1.stand.forest.ok] 0 ld_32 rfl rfl rfl rfl) gn rfl hns (by kernel_rfl) (by kernel_rfl) (by kernel_rfl) rfl ?_
    refine wf_v 5 rfl (v_move rfl) gn rfl hns (by kernel_rfl) (by kernel_rfl) (by kernel_rfl) rfl ?_
    refine wf_v 6 rfl (v_nilCheck rfl) gn rfl hns (by kernel_rfl) (by kernel_rfl) (by kernel_rfl) rfl ?_
    refine wf_v 7 rfl (v_fldB fo_36_0 rfl) gn rfl hns (by kernel_rfl) (by kernel_rfl) (by kernel_rfl) rfl ?_
    refine wf_v 8 rfl (v_fldB fo_34_1 rfl) gn rfl hns (by kernel_rfl) (by kernel_rfl) (by kernel_rfl) rfl ?_
    refine wf_v 9 rfl (v_ldB1 0 ld_3 rfl rfl rfl) gn rfl hns (by kernel_rfl) (by kernel_rfl) (by kernel_rfl) rfl ?_
    refine wf_all [10] (by kernel_rfl) rfl ⟨on_s 10 rfl gn rfl (s_call [.agg #[.slice A4 n5 c6, .slice A8 n9 c10, .slice A12 n13 c14, .bool x1.stand.forest.ok], .int .i64 x1.stand.at_] rfl Try.func46 rfl rfl rfl fun w137 hL138 => ?_), trivial⟩
    have hp139 : List.Perm ([.box g2 Tb3 [.slice A4 n5 c6, .slice A8 n9 c10, .slice A12 n13 c14, .bool x1.stand.forest.ok, .int .i64 x1.stand.at_]] : List Ent) (([] : List Ent) ++ ([.box g2 Tb3 [.slice A4 n5 c6, .slice A8 n9 c10, .slice A12 n13 c14, .bool x1.stand.forest.ok, .int .i64 x1.stand.at_]] : List Ent)) := perm_of_idx [] [0] rfl rfl (by kernel_rfl)
    refine Calls.mono (tree_forest_has_calls w137 (Fl ([] : List Snap)) x1.stand.forest x1.stand.at_ A4 n5 c6 A8 n9 c10 A12 n13 c14 (Rw.mono h7 (hL138.toSt hp139 (me 0 rfl))) (Rw.mono h11 (hL138.toSt hp139 (me 0 rfl))) (Rw.mono h15 (hL138.toSt hp139 (me 0 rfl))) (hL138.hFl (Sl := ([] : List Snap)) hp139 (sels [] rfl)) (hL138.into hp139 (Fl ([] : List Snap))) r19 hv20) ?_
    rintro _ w140 ⟨rfl, hM141⟩
    have hL142 := hL138.call hp139 hM141
    refine ⟨_, _, _, rfl, hL142, ?_⟩
    refine ⟨sels [0] rfl, sels [0, 1] rfl, ?_⟩
    refine wf_v 11 rfl (v_move rfl) gn rfl hns (by kernel_rfl) (by kernel_rfl) (by kernel_rfl) rfl ?_
    refine wf_bool 14 rfl ((bf hp24)) ?_
    refine wf_pass 12 rfl (ps 14 rfl rfl rfl) hns (by kernel_rfl) (by kernel_rfl) (by kernel_rfl) rfl ?_
    refine wf_pass 13 rfl (ps 14 rfl rfl rfl) hns (by kernel_rfl) (by kernel_rfl) (by kernel_rfl) rfl ?_
    refine wf_pass 14 rfl (ps 14 rfl rfl rfl) hns (by kernel_rfl) (by kernel_rfl) (by kernel_rfl) rfl ?_
    refine wf_pass 15 rfl (ps 14 rfl rfl rfl) hns (by kernel_rfl) (by kernel_rfl) (by kernel_rfl) rfl ?_
    refine wf_pass 16 rfl (ps 14 rfl rfl rfl) hns (by kernel_rfl) (by kernel_rfl) (by kernel_rfl) rfl ?_
    refine wf_pass 17 rfl (ps 14 rfl rfl rfl) hns (by kernel_rfl) (by kernel_rfl) (by kernel_rfl) rfl ?_
    refine wf_pass 18 rfl (ps 14 rfl rfl rfl) hns (by kernel_rfl) (by kernel_rfl) (by kernel_rfl) rfl ?_
    refine wf_pass 19 rfl (ps 14 rfl rfl rfl) hns (by kernel_rfl) (by kernel_rfl) (by kernel_rfl) rfl ?_
    refine wf_pass 20 rfl (ps 14 rfl rfl rfl) hns (by kernel_rfl) (by kernel_rfl) (by kernel_rfl) rfl ?_
    refine wf_pass 21 rfl (ps 14 rfl rfl rfl) hns (by kernel_rfl) (by kernel_rfl) (by kernel_rfl) rfl ?_
    refine wf_pass 22 rfl (ps 14 rfl rfl rfl) hns (by kernel_rfl) (by kernel_rfl) (by kernel_rfl) rfl ?_
    refine wf_pass 23 rfl (ps 14 rfl rfl rfl) hns (by kernel_rfl) (by kernel_rfl) (by kernel_rfl) rfl ?_
    refine wf_pass 24 rfl (ps 14 rfl rfl rfl) hns (by kernel_rfl) (by kernel_rfl) (by kernel_rfl) rfl ?_
    refine wf_pass 25 rfl (ps 14 rfl rfl rfl) hns (by kernel_rfl) (by kernel_rfl) (by kernel_rfl) rfl ?_
    refine wf_pass 26 rfl (ps 14 rfl rfl rfl) hns (by kernel_rfl) (by kernel_rfl) (by kernel_rfl) rfl ?_
    refine wf_pass 27 rfl (ps 14 rfl rfl rfl) hns (by kernel_rfl) (by kernel_rfl) (by kernel_rfl) rfl ?_
    refine wf_pass 28 rfl (ps 14 rfl rfl rfl) hns (by kernel_rfl) (by kernel_rfl) (by kernel_rfl) rfl ?_
    refine wf_pass 29 rfl (ps 14 rfl rfl rfl) hns (by kernel_rfl) (by kernel_rfl) (by kernel_rfl) rfl ?_
    refine wf_pass 30 rfl (ps 14 rfl rfl rfl) hns (by kernel_rfl) (by kernel_rfl) (by kernel_rfl) rfl ?_
    refine wf_pass 31 rfl (ps 14 rfl rfl rfl) hns (by kernel_rfl) (by kernel_rfl) (by kernel_rfl) rfl ?_
    refine wf_pass 32 rfl (ps 14 rfl rfl rfl) hns (by kernel_rfl) (by kernel_rfl) (by kernel_rfl) rfl ?_
    refine wf_pass 33 rfl (ps 14 rfl rfl rfl) hns (by kernel_rfl) (by kernel_rfl) (by kernel_rfl) rfl ?_
    refine wf_pass 34 rfl (ps 14 rfl rfl rfl) hns (by kernel_rfl) (by kernel_rfl) (by kernel_rfl) rfl ?_
    refine wf_pass 35 rfl (ps 14 rfl rfl rfl) hns (by kernel_rfl) (by kernel_rfl) (by kernel_rfl) rfl ?_
    refine wf_pass 36 rfl (ps 14 rfl rfl rfl) hns (by kernel_rfl) (by kernel_rfl) (by kernel_rfl) rfl ?_
    refine wf_pass 37 rfl (ps 14 rfl rfl rfl) hns (by kernel_rfl) (by kernel_rfl) (by kernel_rfl) rfl ?_
    refine wf_pass 38 rfl (ps 14 rfl rfl rfl) hns (by kernel_rfl) (by kernel_rfl) (by kernel_rfl) rfl ?_
    refine wf_pass 39 rfl (ps 14 rfl rfl rfl) hns (by kernel_rfl) (by kernel_rfl) (by kernel_rfl) rfl ?_
    refine wf_pass 40 rfl (ps 14 rfl rfl rfl) hns (by kernel_rfl) (by kernel_rfl) (by kernel_rfl) rfl ?_
    refine wf_pass 41 rfl (ps 14 rfl rfl rfl) hns (by kernel_rfl) (by kernel_rfl) (by kernel_rfl) rfl ?_
    refine wf_all [42] (by kernel_rfl) rfl ⟨on_p 42 rfl (ps 14 rfl rfl rfl) (.inl rfl) ?_, trivial⟩
    refine wf_all [43] (by kernel_rfl) rfl ⟨on_l 43 rfl gn rfl (s_val (v_pick (b := false) rfl rfl) rfl ?_), trivial⟩
    unfold NxL
    refine wf_all [44] (by kernel_rfl) rfl ⟨on_l 44 rfl gn rfl (s_val (v_assign rfl) rfl ?_), trivial⟩
    unfold NxL
    refine wf_end (by kernel_rfl) ?_
    refine g_retR (c := tree_Cursor_Up_c4) [.bool false] rfl Try.func22 rfl (.tmp rfl (.nil)) fun wr hLr => ?_
    have hMr : B.Loc w wr [.box g2 Tb3 [.slice A4 n5 c6, .slice A8 n9 c10, .slice A12 n13 c14, .bool x1.stand.forest.ok, .int .i64 x1.stand.at_]] [St w [[g2]]] := hLr.pick (rest := []) (perm_of_idx [0] [] rfl rfl (by kernel_rfl)) (sels [1] rfl)
    have hMi : ∀ e ∈ ([.box g2 Tb3 [.slice A4 n5 c6, .slice A8 n9 c10, .slice A12 n13 c14, .bool x1.stand.forest.ok, .int .i64 x1.stand.at_]] : List Ent), e ∈ ([.box g2 Tb3 [.slice A4 n5 c6, .slice A8 n9 c10, .slice A12 n13 c14, .bool x1.stand.forest.ok, .int .i64 x1.stand.at_]] : List Ent) := sels [0] rfl
    show tree_Cursor_Up_R w F g2 Tb3 r (.returned (packV [.bool false])) wr
    rw [h]
    exact ⟨A4, n5, c6, A8, n9, c10, A12, n13, c14, rfl, hMr, (hLr.outR (s := Sm w.heap.size F w [[g2]]) hMi (me 0 rfl) Sm.ok h7), (hLr.outR (s := Sm w.heap.size F w [[g2]]) hMi (me 0 rfl) Sm.ok h11), (hLr.outR (s := Sm w.heap.size F w [[g2]]) hMi (me 0 rfl) Sm.ok h15)⟩
end Go.Proofs.Ytmekgfcfooghnaa.K
