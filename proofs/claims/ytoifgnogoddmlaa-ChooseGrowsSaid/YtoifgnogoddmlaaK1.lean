/- What the machine's calls do, function by function, printed by my own tool. Condition of each: its relation holds of the answer, and what is handed in lies in memory as told. -/
import Derived.Test.YtoifgnogoddmlaaK0
import Derived.Test.YtoifgnogoddmlaaG5
set_option linter.unusedVariables false
set_option maxRecDepth 100000
set_option maxHeartbeats 4000000
namespace Go.Proofs.Ytoifgnogoddmlaa.K
open Go.Proofs.Ytoifgnogoddmlaa.B Go.Proofs.Ytoifgnogoddmlaa.R Go.RowKit
noncomputable abbrev trellisref15_Beyond_c0 : Code := bodyOf Try.f9
noncomputable abbrev trellisref15_Beyond_c1 : Code := Code.fst trellisref15_Beyond_c0
noncomputable abbrev trellisref15_Beyond_c2 : Code := Code.snd trellisref15_Beyond_c0
noncomputable abbrev trellisref15_Beyond_c3 : Code := Code.fst trellisref15_Beyond_c2
noncomputable abbrev trellisref15_Beyond_c4 : Code := Code.snd trellisref15_Beyond_c2
noncomputable abbrev trellisref15_Beyond_c5 : Code := Code.fst trellisref15_Beyond_c4
noncomputable abbrev trellisref15_Beyond_c6 : Code := Code.snd trellisref15_Beyond_c4
noncomputable abbrev trellisref15_Beyond_c7 : Code := Code.fst trellisref15_Beyond_c5
noncomputable abbrev trellisref15_Beyond_c8 : Code := Code.snd trellisref15_Beyond_c5
noncomputable abbrev trellisref15_Beyond_c9 : Code := Code.fst trellisref15_Beyond_c8
noncomputable abbrev trellisref15_Beyond_c10 : Code := Code.fst trellisref15_Beyond_c9
noncomputable abbrev trellisref15_Beyond_c11 : Code := Code.fst trellisref15_Beyond_c10
noncomputable abbrev trellisref15_Beyond_c12 : Code := Code.snd trellisref15_Beyond_c10
noncomputable abbrev trellisref15_Beyond_c13 : Code := Code.fst trellisref15_Beyond_c11
noncomputable abbrev trellisref15_Beyond_c14 : Code := Code.snd trellisref15_Beyond_c11
noncomputable abbrev trellisref15_Beyond_c15 : Code := Code.fst trellisref15_Beyond_c14
noncomputable abbrev trellisref15_Beyond_c16 : Code := Code.snd trellisref15_Beyond_c14
noncomputable abbrev trellisref15_Beyond_c17 : Code := Code.fst trellisref15_Beyond_c12
noncomputable abbrev trellisref15_Beyond_c18 : Code := Code.snd trellisref15_Beyond_c12
noncomputable abbrev trellisref15_Beyond_c19 : Code := Code.fst trellisref15_Beyond_c17
noncomputable abbrev trellisref15_Beyond_c20 : Code := Code.fst trellisref15_Beyond_c19
noncomputable abbrev trellisref15_Beyond_c21 : Code := Code.snd trellisref15_Beyond_c19
noncomputable abbrev trellisref15_Beyond_c22 : Code := Code.fst trellisref15_Beyond_c20
noncomputable abbrev trellisref15_Beyond_c23 : Code := Code.fst trellisref15_Beyond_c22
noncomputable abbrev trellisref15_Beyond_c24 : Code := Code.fst trellisref15_Beyond_c23
noncomputable abbrev trellisref15_Beyond_c25 : Code := Code.snd trellisref15_Beyond_c23
noncomputable abbrev trellisref15_Beyond_c26 : Code := Code.fst trellisref15_Beyond_c24
noncomputable abbrev trellisref15_Beyond_c27 : Code := Code.snd trellisref15_Beyond_c24
noncomputable abbrev trellisref15_Beyond_c28 : Code := Code.fst trellisref15_Beyond_c27
noncomputable abbrev trellisref15_Beyond_c29 : Code := Code.snd trellisref15_Beyond_c27
noncomputable abbrev trellisref15_Beyond_c30 : Code := Code.fst trellisref15_Beyond_c21
noncomputable abbrev trellisref15_Beyond_c31 : Code := Code.snd trellisref15_Beyond_c21
noncomputable abbrev trellisref15_Beyond_c32 : Code := Code.fst trellisref15_Beyond_c30
noncomputable abbrev trellisref15_Beyond_c33 : Code := Code.snd trellisref15_Beyond_c30
noncomputable abbrev trellisref15_Beyond_c34 : Code := Code.fst trellisref15_Beyond_c33
noncomputable abbrev trellisref15_Beyond_c35 : Code := Code.snd trellisref15_Beyond_c33
noncomputable abbrev trellisref15_Beyond_c36 : Code := Code.fst trellisref15_Beyond_c31
noncomputable abbrev trellisref15_Beyond_c37 : Code := Code.snd trellisref15_Beyond_c31
noncomputable abbrev trellisref15_Beyond_c38 : Code := Code.fst trellisref15_Beyond_c37
noncomputable abbrev trellisref15_Beyond_c39 : Code := Code.snd trellisref15_Beyond_c37
noncomputable abbrev trellisref15_Beyond_c40 : Code := Code.fst trellisref15_Beyond_c39
noncomputable abbrev trellisref15_Beyond_c41 : Code := Code.snd trellisref15_Beyond_c39
noncomputable abbrev trellisref15_Beyond_c42 : Code := Code.fst trellisref15_Beyond_c40
noncomputable abbrev trellisref15_Beyond_c43 : Code := Code.snd trellisref15_Beyond_c40
noncomputable abbrev trellisref15_Beyond_c44 : Code := Code.fst trellisref15_Beyond_c6
noncomputable abbrev trellisref15_Beyond_c45 : Code := Code.snd trellisref15_Beyond_c6
noncomputable abbrev trellisref15_Beyond_c46 : Code := Code.fst trellisref15_Beyond_c25
abbrev trellisref15_Beyond_R (w : World) (F : Nat → Prop) (r : Bool) : Ending → World → Prop := fun e w' => e = .returned (.bool r) ∧ B.Loc w w' [] [St w []]
noncomputable abbrev trellisref15_Beyond_C (w : World) (F : Nat → Prop) (r : Bool) : Cx := ⟨Try.prog, 9, Try.f9, 54, trellisref15_Beyond_R w F  r, w⟩
theorem trellisref15_Beyond_calls (w : World) (F : Nat → Prop) (x1 : List api_Node) (A2 : Option Addr) (n3 : Nat) (c4 : Nat) (h5 : Rw k_api_Node w (St w []).av A2 n3 c4 x1) (hF : ∀ b, F b → b < w.heap.size ∧ ∀ o ∈ ([] : List (List Nat)), b ∉ o) (hL0 : B.Loc w w [] [Sm w.heap.size F w [], St w []]) (r : Bool) (h : trellisref15_Beyond x1 r) : Calls Try.prog 9 #[.slice A2 n3 c4] w (trellisref15_Beyond_R w F  r) := by
  unfold trellisref15_Beyond at h
  refine calls_of_Loc (vs := [.slice A2 n3 c4]) 54 Try.func9 rfl Try.ntmps9 rfl hL0 ?_
  show G (trellisref15_Beyond_C w F r) _ _ _ _
  refine g_seq (c := trellisref15_Beyond_c0) rfl ?_
  refine g_region (c := trellisref15_Beyond_c1) rfl rfl ?_
  refine wl_v 0 rfl (v_assign rfl) gn rfl ?_
  refine w_end 1 rfl ?_
  refine g_seq (c := trellisref15_Beyond_c2) rfl ?_
  refine g_region (c := trellisref15_Beyond_c3) rfl rfl ?_
  refine wl_v 0 rfl (v_assign rfl) gn rfl ?_
  refine w_end 1 rfl ?_
  refine g_seq (c := trellisref15_Beyond_c4) rfl ?_
  refine g_seq (c := trellisref15_Beyond_c5) rfl ?_
  refine g_region (c := trellisref15_Beyond_c7) rfl rfl ?_
  refine wl_v 0 rfl (v_assign rfl) gn rfl ?_
  refine w_end 1 rfl ?_
  refine g_block (c := trellisref15_Beyond_c8) rfl ?_
  refine g_loop (c := trellisref15_Beyond_c9) rfl ?_
  have key1 : ∀ s, Rounds (fun (s : (List Int) × Int) o => trellisref15_Beyond_b1 x1 s.1 s.2 o) s r → (fun (s : (List Int) × Int) => ∀ (A36 : Option Addr) (n37 : Nat) (c38 : Nat) (h39 : Ow w.heap.size A36 n37 c38 s.1), G (trellisref15_Beyond_C w F r) [.code trellisref15_Beyond_c10, .inLoop trellisref15_Beyond_c10, .inBlock 0, .code trellisref15_Beyond_c6] [(0, .slice A2 n3 c4), (3, .slice A36 n37 c38), (4, .int .i64 s.2)] [.own (.slice A36 n37 c38) 3 1 n37 (s.1.flatMap (eI .i64))] [Sm w.heap.size F w [], St w []]) s := by
    intro s hs
    refine Rounds.ind (mot := (fun (s : (List Int) × Int) => ∀ (A36 : Option Addr) (n37 : Nat) (c38 : Nat) (h39 : Ow w.heap.size A36 n37 c38 s.1), G (trellisref15_Beyond_C w F r) [.code trellisref15_Beyond_c10, .inLoop trellisref15_Beyond_c10, .inBlock 0, .code trellisref15_Beyond_c6] [(0, .slice A2 n3 c4), (3, .slice A36 n37 c38), (4, .int .i64 s.2)] [.own (.slice A36 n37 c38) 3 1 n37 (s.1.flatMap (eI .i64))] [Sm w.heap.size F w [], St w []])) ?_ hs
    clear hs s
    intro s o1 h hO1
    obtain ⟨x35, x40⟩ := s
    show ∀ (A36 : Option Addr) (n37 : Nat) (c38 : Nat) (h39 : Ow w.heap.size A36 n37 c38 x35), G (trellisref15_Beyond_C w F r) [.code trellisref15_Beyond_c10, .inLoop trellisref15_Beyond_c10, .inBlock 0, .code trellisref15_Beyond_c6] [(0, .slice A2 n3 c4), (3, .slice A36 n37 c38), (4, .int .i64 x40)] [.own (.slice A36 n37 c38) 3 1 n37 (x35.flatMap (eI .i64))] [Sm w.heap.size F w [], St w []]
    intro A36 n37 c38 h39
    have h : trellisref15_Beyond_b1 x1 x35 x40 o1 := h
    unfold trellisref15_Beyond_b1 at h
    refine g_seq (c := trellisref15_Beyond_c10) rfl ?_
    refine g_seq (c := trellisref15_Beyond_c11) rfl ?_
    refine g_region (c := trellisref15_Beyond_c13) rfl rfl ?_
    refine wl_v 0 rfl (v_move rfl) gn rfl ?_
    refine wl_v 1 rfl (v_move rfl) gn rfl ?_
    refine wl_v 2 rfl (v_lenQ un_22 rfl h5.hq) gn rfl ?_
    refine wl_v 3 rfl (v_bin rfl rfl rfl) gn rfl ?_
    refine w_end 4 rfl ?_
    by_cases hp154 : x40 < (x1.length : Int)
    · have h := if_pos' hp154 h
      refine g_true (c := trellisref15_Beyond_c14) rfl _ rfl ((decide_eq_true hp154)) ?_
      refine g_skip (c := trellisref15_Beyond_c15) rfl ?_
      refine g_seq (c := trellisref15_Beyond_c12) rfl ?_
      refine g_block (c := trellisref15_Beyond_c17) rfl ?_
      refine g_seq (c := trellisref15_Beyond_c19) rfl ?_
      refine g_block (c := trellisref15_Beyond_c20) rfl ?_
      refine g_loop (c := trellisref15_Beyond_c22) rfl ?_
      have key2 : ∀ s, Rounds (fun (s : (List Int)) o => trellisref15_Beyond_b2 x40 x1 s o) s o1 → (fun (s : (List Int)) => ∀ (A192 : Option Addr) (n193 : Nat) (c194 : Nat) (h195 : Ow w.heap.size A192 n193 c194 s), G (trellisref15_Beyond_C w F r) [.code trellisref15_Beyond_c23, .inLoop trellisref15_Beyond_c23, .inBlock 2, .code trellisref15_Beyond_c21, .inBlock 1, .code trellisref15_Beyond_c18, .inLoop trellisref15_Beyond_c10, .inBlock 0, .code trellisref15_Beyond_c6] [(0, .slice A2 n3 c4), (3, .slice A192 n193 c194), (4, .int .i64 x40)] [.own (.slice A192 n193 c194) 3 1 n193 (s.flatMap (eI .i64))] [Sm w.heap.size F w [], St w []]) s := by
        intro s hs
        refine Rounds.ind (mot := (fun (s : (List Int)) => ∀ (A192 : Option Addr) (n193 : Nat) (c194 : Nat) (h195 : Ow w.heap.size A192 n193 c194 s), G (trellisref15_Beyond_C w F r) [.code trellisref15_Beyond_c23, .inLoop trellisref15_Beyond_c23, .inBlock 2, .code trellisref15_Beyond_c21, .inBlock 1, .code trellisref15_Beyond_c18, .inLoop trellisref15_Beyond_c10, .inBlock 0, .code trellisref15_Beyond_c6] [(0, .slice A2 n3 c4), (3, .slice A192 n193 c194), (4, .int .i64 x40)] [.own (.slice A192 n193 c194) 3 1 n193 (s.flatMap (eI .i64))] [Sm w.heap.size F w [], St w []])) ?_ hs
        clear hs s
        intro x191 o2 h hO2
        show ∀ (A192 : Option Addr) (n193 : Nat) (c194 : Nat) (h195 : Ow w.heap.size A192 n193 c194 x191), G (trellisref15_Beyond_C w F r) [.code trellisref15_Beyond_c23, .inLoop trellisref15_Beyond_c23, .inBlock 2, .code trellisref15_Beyond_c21, .inBlock 1, .code trellisref15_Beyond_c18, .inLoop trellisref15_Beyond_c10, .inBlock 0, .code trellisref15_Beyond_c6] [(0, .slice A2 n3 c4), (3, .slice A192 n193 c194), (4, .int .i64 x40)] [.own (.slice A192 n193 c194) 3 1 n193 (x191.flatMap (eI .i64))] [Sm w.heap.size F w [], St w []]
        intro A192 n193 c194 h195
        have h : trellisref15_Beyond_b2 x40 x1 x191 o2 := h
        unfold trellisref15_Beyond_b2 at h
        refine g_seq (c := trellisref15_Beyond_c23) rfl ?_
        refine g_seq (c := trellisref15_Beyond_c24) rfl ?_
        refine g_region (c := trellisref15_Beyond_c26) rfl rfl ?_
        refine wl_v 0 rfl (v_move rfl) gn rfl ?_
        refine wl_v 1 rfl (v_lenQ un_45 rfl h195.hq) gn rfl ?_
        refine wl_v 2 rfl (v_bin rfl rfl rfl) gn rfl ?_
        refine wl_v 3 rfl (v_move rfl) gn rfl ?_
        by_cases hp231 : (x191.length : Int) > 0
        · have h := if_pos' hp231 h
          refine w_bool 14 rfl ((decide_eq_true hp231)) ?_
          refine wl_v 4 rfl (v_move rfl) (gy 14 rfl rfl) rfl ?_
          refine wl_v 5 rfl (v_move rfl) (gy 14 rfl rfl) rfl ?_
          refine wl_v 6 rfl (v_lenQ un_45 rfl h195.hq) (gy 14 rfl rfl) rfl ?_
          refine wl_v 7 rfl (v_bin rfl rfl rfl) (gy 14 rfl rfl) rfl ?_
          obtain ⟨hb232, h⟩ := h
          refine wl_v 8 rfl (v_idxO slE_45 rfl rfl h195 hb232) (gy 14 rfl rfl) rfl ?_
          refine wl_v 9 rfl (v_ldO1 (.int .i64 (ix x191 (w64 ((x191.length : Int) - 1)))) 0 ld_3 rfl rfl (fm_get0 (hlI .i64) hb232 rfl)) (gy 14 rfl rfl) rfl ?_
          refine wl_v 10 rfl (v_bin rfl rfl rfl) (gy 14 rfl rfl) rfl ?_
          refine wl_v 11 rfl (v_pick (b := true) rfl rfl) gn rfl ?_
          refine w_end 12 rfl ?_
          by_cases hp233 : ix x191 (w64 ((x191.length : Int) - 1)) ≤ 0
          · have h := if_pos' hp233 h
            refine g_true (c := trellisref15_Beyond_c27) rfl _ rfl ((decide_eq_true hp233)) ?_
            refine g_skip (c := trellisref15_Beyond_c28) rfl ?_
            refine g_block (c := trellisref15_Beyond_c25) rfl ?_
            refine g_region (c := trellisref15_Beyond_c46) rfl rfl ?_
            refine wl_v 0 rfl (v_move rfl) gn rfl ?_
            refine wl_v 1 rfl (v_move rfl) gn rfl ?_
            refine wl_v 2 rfl (v_lenQ un_45 rfl h195.hq) gn rfl ?_
            refine wl_v 3 rfl (v_bin rfl rfl rfl) gn rfl ?_
            obtain ⟨hb234, h⟩ := h
            obtain ⟨x236, hv237, h⟩ := h
            have hle235 : (w64 ((x191.length : Int) - 1) : Int).toNat ≤ n193 := by have q := hb234; have q1 := h195.hq; omega
            have h238 : Ow w.heap.size A192 (w64 ((x191.length : Int) - 1) : Int).toNat c194 x236 := Ow.w (Ow.cut h195 hle235) (by rw [hv237])
            refine wl_v 4 rfl (v_cutHi (i := w64 ((x191.length : Int) - 1)) slE_45 rfl rfl (by have q := hb234; have q1 := h195.hq; have q2 := h195.hn; omega) h195.hn rfl) gn rfl ?_
            refine wl_v 5 rfl (v_assign rfl) gn rfl ?_
            refine w_end 6 rfl ?_
            refine g_inBlock ?_
            refine g_inLoop ?_
            have h239 : Ow w.heap.size A192 ((w64 ((x191.length : Int) - 1) : Int).toNat) c194 x236 := (Ow.w (Ow.cut h195 hle235) (by rw [hv237]))
            refine g_short (j := 0) (m := ((w64 ((x191.length : Int) - 1) : Int).toNat)) (cells' := x236.flatMap (eI .i64)) rfl hle235 (by rw [fm_take (hlI .i64), hv237]) ?_
            have ih := Out.inl hO2 h
            exact g_go [0, 1] (ih A192 ((w64 ((x191.length : Int) - 1) : Int).toNat) c194 h239) ⟨rfl, rfl, rfl, trivial⟩ (.cons_cons _ (.slnil)) rfl
          · have h := if_neg' hp233 h
            refine g_false (c := trellisref15_Beyond_c27) rfl _ rfl ((decide_eq_false hp233)) ?_
            refine g_exit (c := trellisref15_Beyond_c29) [.code trellisref15_Beyond_c21, .inBlock 1, .code trellisref15_Beyond_c18, .inLoop trellisref15_Beyond_c10, .inBlock 0, .code trellisref15_Beyond_c6] rfl rfl ?_
            refine g_seq (c := trellisref15_Beyond_c21) rfl ?_
            refine g_seq (c := trellisref15_Beyond_c30) rfl ?_
            refine g_region (c := trellisref15_Beyond_c32) rfl rfl ?_
            refine wl_v 0 rfl (v_move rfl) gn rfl ?_
            refine wl_v 1 rfl (v_lenQ un_45 rfl h195.hq) gn rfl ?_
            refine wl_v 2 rfl (v_bin rfl rfl rfl) gn rfl ?_
            refine w_end 3 rfl ?_
            refine g_true (c := trellisref15_Beyond_c33) rfl _ rfl ((decide_eq_true hp231)) ?_
            refine g_region (c := trellisref15_Beyond_c34) rfl rfl ?_
            refine wl_v 0 rfl (v_move rfl) gn rfl ?_
            refine wl_v 1 rfl (v_move rfl) gn rfl ?_
            refine wl_v 2 rfl (v_lenQ un_45 rfl h195.hq) gn rfl ?_
            refine wl_v 3 rfl (v_bin rfl rfl rfl) gn rfl ?_
            refine wl_v 4 rfl (v_move rfl) gn rfl ?_
            refine wl_v 5 rfl (v_move rfl) gn rfl ?_
            refine wl_v 6 rfl (v_lenQ un_45 rfl h195.hq) gn rfl ?_
            refine wl_v 7 rfl (v_bin rfl rfl rfl) gn rfl ?_
            refine wl_v 8 rfl (v_idxO slE_45 rfl rfl h195 hb232) gn rfl ?_
            refine wl_v 9 rfl (v_ldO1 (.int .i64 (ix x191 (w64 ((x191.length : Int) - 1)))) 0 ld_3 rfl rfl (fm_get0 (hlI .i64) hb232 rfl)) gn rfl ?_
            refine wl_v 10 rfl (v_bin rfl rfl rfl) gn rfl ?_
            refine wl_v 11 rfl (v_idxO slE_45 rfl rfl h195 hb232) gn rfl ?_
            obtain ⟨x240, hv241, h⟩ := h
            refine wl_s 12 rfl (s_stF (enc := (eI .i64)) (o := 0) (z := (w64 ((ix x191 (w64 ((x191.length : Int) - 1))) - 1))) (vs := [.int .i64 (w64 ((ix x191 (w64 ((x191.length : Int) - 1))) - 1))]) (i := (w64 ((x191.length : Int) - 1))) 0 (hlI .i64) sz_3 rfl rfl rfl rfl rfl h195 hb232 rfl rfl rfl hv241 fun h242 => ?_) gn
            refine w_end 13 rfl ?_
            refine g_seq (c := trellisref15_Beyond_c31) rfl ?_
            refine g_region (c := trellisref15_Beyond_c36) rfl rfl ?_
            refine wl_v 0 rfl (v_move rfl) gn rfl ?_
            refine wl_v 1 rfl (v_move rfl) gn rfl ?_
            refine wl_v 2 rfl (v_move rfl) gn rfl ?_
            obtain ⟨hb243, h⟩ := h
            have hr244 := Rw.readF (s := St w []) (hl := hl_api_Node) (h1 := h1_api_Node) h5 hb243
            refine wl_v 3 rfl (v_idxR (s := St w []) slE_22 rfl rfl h5 hb243) gn rfl ?_
            refine wl_v 4 rfl (v_fldA fo_39_5 rfl) gn rfl ?_
            refine wl_v 5 rfl (v_ldA1 (kk := (x40 : Int).toNat * 7) (j := 5) (St w []) ld_3 rfl hr244 rfl (me 1 rfl)) gn rfl ?_
            refine wl_s 6 rfl (s_litO (xs := ([(ix x1 x40).kids] : List Int)) [.int .i64 ((ix x1 x40).kids)] bs_45_1 rfl (by kernel_rfl) rfl rfl rfl rfl fun gb246 h247 => ?_) gn
            obtain ⟨x251, hv252, h⟩ := h
            obtain ⟨hb253, h⟩ := h
            refine wl_s 7 rfl (s_app (zs := x251) (cells' := x251.flatMap (eI .i64)) 1 ap_45 rfl rfl rfl h242 (Nat.le_refl _) (Src.ownF (hl := (hlI .i64)) (h1 := (hone_int .i64)) 0 rfl h247) (by rw [hv252, List.flatMap_append] <;> rfl) (app_len hv252 h247.hq) hb253 rfl rfl fun A248 c249 h250 => ?_) gn
            refine wl_v 8 rfl (v_assign rfl) gn rfl ?_
            refine w_end 9 rfl ?_
            refine g_seq (c := trellisref15_Beyond_c37) rfl ?_
            refine g_region (c := trellisref15_Beyond_c38) rfl rfl ?_
            refine wl_v 0 rfl (v_move rfl) gn rfl ?_
            refine wl_v 1 rfl (v_lenQ un_45 rfl h250.hq) gn rfl ?_
            refine wl_v 2 rfl (v_bin rfl rfl rfl) gn rfl ?_
            refine w_end 3 rfl ?_
            by_cases hp254 : (x251.length : Int) > 65536
            · have h := if_pos' hp254 h
              refine g_true (c := trellisref15_Beyond_c39) rfl _ rfl ((decide_eq_true hp254)) ?_
              refine g_seq (c := trellisref15_Beyond_c40) rfl ?_
              refine g_region (c := trellisref15_Beyond_c42) rfl rfl ?_
              refine wl_v 0 rfl (v_assign rfl) gn rfl ?_
              refine w_end 1 rfl ?_
              have h := Out.inr hO2 h
              have h := Out.inr hO1 h
              refine g_retR (c := trellisref15_Beyond_c43) [.bool true] rfl Try.func9 rfl (.tmp rfl (.nil)) fun wr hLr => ?_
              have hMr : B.Loc w wr [] [St w []] := hLr.pick (rest := [.own (.slice (some ⟨gb246, 0, none⟩) 1 1) 3 1 1 (([(ix x1 x40).kids] : List Int).flatMap (eI .i64)), .own (.slice A248 (n193 + 1) c249) 3 1 (n193 + 1) (x251.flatMap (eI .i64))]) (perm_of_idx [] [0, 1] rfl rfl (by kernel_rfl)) (sels [1] rfl)
              have hMi : ∀ e ∈ ([] : List Ent), e ∈ ([.own (.slice (some ⟨gb246, 0, none⟩) 1 1) 3 1 1 (([(ix x1 x40).kids] : List Int).flatMap (eI .i64)), .own (.slice A248 (n193 + 1) c249) 3 1 (n193 + 1) (x251.flatMap (eI .i64))] : List Ent) := sels [] rfl
              show trellisref15_Beyond_R w F  r (.returned (packV [.bool true])) wr
              rw [h]
              exact ⟨rfl, hMr⟩
            · have h := if_neg' hp254 h
              refine g_false (c := trellisref15_Beyond_c39) rfl _ rfl ((decide_eq_false hp254)) ?_
              refine g_skip (c := trellisref15_Beyond_c41) rfl ?_
              refine g_inBlock ?_
              refine g_region (c := trellisref15_Beyond_c18) rfl rfl ?_
              refine wl_v 0 rfl (v_move rfl) gn rfl ?_
              refine wl_v 1 rfl (v_bin rfl rfl rfl) gn rfl ?_
              refine wl_v 2 rfl (v_assign rfl) gn rfl ?_
              refine w_end 3 rfl ?_
              refine g_inLoop ?_
              have h := Out.inr hO2 h
              have ih := Out.inl hO1 h
              exact g_go [0, 1] (ih A248 (n193 + 1) c249 h250) ⟨rfl, rfl, rfl, trivial⟩ (.cons _ (.cons_cons _ (.slnil))) rfl
        · have h := if_neg' hp231 h
          refine w_bool 14 rfl ((decide_eq_false hp231)) ?_
          refine wl_pass 4 rfl (ps 14 rfl rfl rfl) ?_
          refine wl_pass 5 rfl (ps 14 rfl rfl rfl) ?_
          refine wl_pass 6 rfl (ps 14 rfl rfl rfl) ?_
          refine wl_pass 7 rfl (ps 14 rfl rfl rfl) ?_
          refine wl_pass 8 rfl (ps 14 rfl rfl rfl) ?_
          refine wl_pass 9 rfl (ps 14 rfl rfl rfl) ?_
          refine wl_pass 10 rfl (ps 14 rfl rfl rfl) ?_
          refine wl_v 11 rfl (v_pick (b := false) rfl rfl) gn rfl ?_
          refine w_end 12 rfl ?_
          refine g_false (c := trellisref15_Beyond_c27) rfl _ rfl (rfl) ?_
          refine g_exit (c := trellisref15_Beyond_c29) [.code trellisref15_Beyond_c21, .inBlock 1, .code trellisref15_Beyond_c18, .inLoop trellisref15_Beyond_c10, .inBlock 0, .code trellisref15_Beyond_c6] rfl rfl ?_
          refine g_seq (c := trellisref15_Beyond_c21) rfl ?_
          refine g_seq (c := trellisref15_Beyond_c30) rfl ?_
          refine g_region (c := trellisref15_Beyond_c32) rfl rfl ?_
          refine wl_v 0 rfl (v_move rfl) gn rfl ?_
          refine wl_v 1 rfl (v_lenQ un_45 rfl h195.hq) gn rfl ?_
          refine wl_v 2 rfl (v_bin rfl rfl rfl) gn rfl ?_
          refine w_end 3 rfl ?_
          refine g_false (c := trellisref15_Beyond_c33) rfl _ rfl ((decide_eq_false hp231)) ?_
          refine g_skip (c := trellisref15_Beyond_c35) rfl ?_
          refine g_seq (c := trellisref15_Beyond_c31) rfl ?_
          refine g_region (c := trellisref15_Beyond_c36) rfl rfl ?_
          refine wl_v 0 rfl (v_move rfl) gn rfl ?_
          refine wl_v 1 rfl (v_move rfl) gn rfl ?_
          refine wl_v 2 rfl (v_move rfl) gn rfl ?_
          obtain ⟨hb255, h⟩ := h
          have hr256 := Rw.readF (s := St w []) (hl := hl_api_Node) (h1 := h1_api_Node) h5 hb255
          refine wl_v 3 rfl (v_idxR (s := St w []) slE_22 rfl rfl h5 hb255) gn rfl ?_
          refine wl_v 4 rfl (v_fldA fo_39_5 rfl) gn rfl ?_
          refine wl_v 5 rfl (v_ldA1 (kk := (x40 : Int).toNat * 7) (j := 5) (St w []) ld_3 rfl hr256 rfl (me 1 rfl)) gn rfl ?_
          refine wl_s 6 rfl (s_litO (xs := ([(ix x1 x40).kids] : List Int)) [.int .i64 ((ix x1 x40).kids)] bs_45_1 rfl (by kernel_rfl) rfl rfl rfl rfl fun gb258 h259 => ?_) gn
          obtain ⟨x263, hv264, h⟩ := h
          obtain ⟨hb265, h⟩ := h
          refine wl_s 7 rfl (s_app (zs := x263) (cells' := x263.flatMap (eI .i64)) 1 ap_45 rfl rfl rfl h195 (Nat.le_refl _) (Src.ownF (hl := (hlI .i64)) (h1 := (hone_int .i64)) 0 rfl h259) (by rw [hv264, List.flatMap_append] <;> rfl) (app_len hv264 h259.hq) hb265 rfl rfl fun A260 c261 h262 => ?_) gn
          refine wl_v 8 rfl (v_assign rfl) gn rfl ?_
          refine w_end 9 rfl ?_
          refine g_seq (c := trellisref15_Beyond_c37) rfl ?_
          refine g_region (c := trellisref15_Beyond_c38) rfl rfl ?_
          refine wl_v 0 rfl (v_move rfl) gn rfl ?_
          refine wl_v 1 rfl (v_lenQ un_45 rfl h262.hq) gn rfl ?_
          refine wl_v 2 rfl (v_bin rfl rfl rfl) gn rfl ?_
          refine w_end 3 rfl ?_
          by_cases hp266 : (x263.length : Int) > 65536
          · have h := if_pos' hp266 h
            refine g_true (c := trellisref15_Beyond_c39) rfl _ rfl ((decide_eq_true hp266)) ?_
            refine g_seq (c := trellisref15_Beyond_c40) rfl ?_
            refine g_region (c := trellisref15_Beyond_c42) rfl rfl ?_
            refine wl_v 0 rfl (v_assign rfl) gn rfl ?_
            refine w_end 1 rfl ?_
            have h := Out.inr hO2 h
            have h := Out.inr hO1 h
            refine g_retR (c := trellisref15_Beyond_c43) [.bool true] rfl Try.func9 rfl (.tmp rfl (.nil)) fun wr hLr => ?_
            have hMr : B.Loc w wr [] [St w []] := hLr.pick (rest := [.own (.slice (some ⟨gb258, 0, none⟩) 1 1) 3 1 1 (([(ix x1 x40).kids] : List Int).flatMap (eI .i64)), .own (.slice A260 (n193 + 1) c261) 3 1 (n193 + 1) (x263.flatMap (eI .i64))]) (perm_of_idx [] [0, 1] rfl rfl (by kernel_rfl)) (sels [1] rfl)
            have hMi : ∀ e ∈ ([] : List Ent), e ∈ ([.own (.slice (some ⟨gb258, 0, none⟩) 1 1) 3 1 1 (([(ix x1 x40).kids] : List Int).flatMap (eI .i64)), .own (.slice A260 (n193 + 1) c261) 3 1 (n193 + 1) (x263.flatMap (eI .i64))] : List Ent) := sels [] rfl
            show trellisref15_Beyond_R w F  r (.returned (packV [.bool true])) wr
            rw [h]
            exact ⟨rfl, hMr⟩
          · have h := if_neg' hp266 h
            refine g_false (c := trellisref15_Beyond_c39) rfl _ rfl ((decide_eq_false hp266)) ?_
            refine g_skip (c := trellisref15_Beyond_c41) rfl ?_
            refine g_inBlock ?_
            refine g_region (c := trellisref15_Beyond_c18) rfl rfl ?_
            refine wl_v 0 rfl (v_move rfl) gn rfl ?_
            refine wl_v 1 rfl (v_bin rfl rfl rfl) gn rfl ?_
            refine wl_v 2 rfl (v_assign rfl) gn rfl ?_
            refine w_end 3 rfl ?_
            refine g_inLoop ?_
            have h := Out.inr hO2 h
            have ih := Out.inl hO1 h
            exact g_go [0, 1] (ih A260 (n193 + 1) c261 h262) ⟨rfl, rfl, rfl, trivial⟩ (.cons _ (.cons_cons _ (.slnil))) rfl
      exact g_go [0, 1] (key2 _ h A36 n37 c38 h39) ⟨rfl, rfl, rfl, trivial⟩ (.cons_cons _ (.slnil)) rfl
    · have h := if_neg' hp154 h
      refine g_false (c := trellisref15_Beyond_c14) rfl _ rfl ((decide_eq_false hp154)) ?_
      refine g_exit (c := trellisref15_Beyond_c16) [.code trellisref15_Beyond_c6] rfl rfl ?_
      refine g_seq (c := trellisref15_Beyond_c6) rfl ?_
      refine g_region (c := trellisref15_Beyond_c44) rfl rfl ?_
      refine wl_v 0 rfl (v_assign rfl) gn rfl ?_
      refine w_end 1 rfl ?_
      have h := Out.inr hO1 h
      refine g_retR (c := trellisref15_Beyond_c45) [.bool false] rfl Try.func9 rfl (.tmp rfl (.nil)) fun wr hLr => ?_
      have hMr : B.Loc w wr [] [St w []] := hLr.pick (rest := [.own (.slice A36 n37 c38) 3 1 n37 (x35.flatMap (eI .i64))]) (perm_of_idx [] [0] rfl rfl (by kernel_rfl)) (sels [1] rfl)
      have hMi : ∀ e ∈ ([] : List Ent), e ∈ ([.own (.slice A36 n37 c38) 3 1 n37 (x35.flatMap (eI .i64))] : List Ent) := sels [] rfl
      show trellisref15_Beyond_R w F  r (.returned (packV [.bool false])) wr
      rw [h]
      exact ⟨rfl, hMr⟩
  refine g_nil 3 1 ?_
  exact g_go [0, 1] (key1 _ h none 0 0 (Ow.nil (z := w.heap.size))) ⟨rfl, rfl, rfl, trivial⟩ (.cons_cons _ (.slnil)) rfl
noncomputable abbrev trellislaw32_twin_c0 : Code := bodyOf Try.f10
noncomputable abbrev trellislaw32_twin_c1 : Code := Code.fst trellislaw32_twin_c0
noncomputable abbrev trellislaw32_twin_c2 : Code := Code.snd trellislaw32_twin_c0
noncomputable abbrev trellislaw32_twin_c3 : Code := Code.fst trellislaw32_twin_c2
noncomputable abbrev trellislaw32_twin_c4 : Code := Code.snd trellislaw32_twin_c2
noncomputable abbrev trellislaw32_twin_c5 : Code := Code.fst trellislaw32_twin_c4
noncomputable abbrev trellislaw32_twin_c6 : Code := Code.snd trellislaw32_twin_c4
noncomputable abbrev trellislaw32_twin_c7 : Code := Code.fst trellislaw32_twin_c5
noncomputable abbrev trellislaw32_twin_c8 : Code := Code.snd trellislaw32_twin_c5
noncomputable abbrev trellislaw32_twin_c9 : Code := Code.fst trellislaw32_twin_c8
noncomputable abbrev trellislaw32_twin_c10 : Code := Code.fst trellislaw32_twin_c9
noncomputable abbrev trellislaw32_twin_c11 : Code := Code.fst trellislaw32_twin_c10
noncomputable abbrev trellislaw32_twin_c12 : Code := Code.snd trellislaw32_twin_c10
noncomputable abbrev trellislaw32_twin_c13 : Code := Code.fst trellislaw32_twin_c11
noncomputable abbrev trellislaw32_twin_c14 : Code := Code.snd trellislaw32_twin_c11
noncomputable abbrev trellislaw32_twin_c15 : Code := Code.fst trellislaw32_twin_c14
noncomputable abbrev trellislaw32_twin_c16 : Code := Code.snd trellislaw32_twin_c14
noncomputable abbrev trellislaw32_twin_c17 : Code := Code.fst trellislaw32_twin_c12
noncomputable abbrev trellislaw32_twin_c18 : Code := Code.snd trellislaw32_twin_c12
noncomputable abbrev trellislaw32_twin_c19 : Code := Code.fst trellislaw32_twin_c17
noncomputable abbrev trellislaw32_twin_c20 : Code := Code.fst trellislaw32_twin_c6
noncomputable abbrev trellislaw32_twin_c21 : Code := Code.snd trellislaw32_twin_c6
abbrev trellislaw32_twin_R (w : World) (F : Nat → Prop) (r : List api_Node) : Ending → World → Prop := fun e w' => ∃ A0 : Option Addr, ∃ n0 : Nat, ∃ c0 : Nat, e = .returned (.slice A0 n0 c0) ∧ B.Loc w w' [.own (.slice A0 n0 c0) 39 7 n0 (r.flatMap enc_api_Node)] [St w []] ∧ Ow w.heap.size A0 n0 c0 r
noncomputable abbrev trellislaw32_twin_C (w : World) (F : Nat → Prop) (r : List api_Node) : Cx := ⟨Try.prog, 10, Try.f10, 19, trellislaw32_twin_R w F  r, w⟩
theorem trellislaw32_twin_calls (w : World) (F : Nat → Prop) (x1 : List api_Node) (A2 : Option Addr) (n3 : Nat) (c4 : Nat) (h5 : Rw k_api_Node w (St w []).av A2 n3 c4 x1) (hF : ∀ b, F b → b < w.heap.size ∧ ∀ o ∈ ([] : List (List Nat)), b ∉ o) (hL0 : B.Loc w w [] [Sm w.heap.size F w [], St w []]) (r : List api_Node) (h : trellislaw32_twin x1 r) : Calls Try.prog 10 #[.slice A2 n3 c4] w (trellislaw32_twin_R w F  r) := by
  unfold trellislaw32_twin at h
  refine calls_of_Loc (vs := [.slice A2 n3 c4]) 19 Try.func10 rfl Try.ntmps10 rfl hL0 ?_
  show G (trellislaw32_twin_C w F r) _ _ _ _
  refine g_seq (c := trellislaw32_twin_c0) rfl ?_
  refine g_region (c := trellislaw32_twin_c1) rfl rfl ?_
  refine wl_v 0 rfl (v_assign rfl) gn rfl ?_
  refine w_end 1 rfl ?_
  refine g_seq (c := trellislaw32_twin_c2) rfl ?_
  refine g_region (c := trellislaw32_twin_c3) rfl rfl ?_
  refine wl_v 0 rfl (v_assign rfl) gn rfl ?_
  refine w_end 1 rfl ?_
  refine g_seq (c := trellislaw32_twin_c4) rfl ?_
  refine g_seq (c := trellislaw32_twin_c5) rfl ?_
  refine g_region (c := trellislaw32_twin_c7) rfl rfl ?_
  refine wl_v 0 rfl (v_assign rfl) gn rfl ?_
  refine w_end 1 rfl ?_
  refine g_block (c := trellislaw32_twin_c8) rfl ?_
  refine g_loop (c := trellislaw32_twin_c9) rfl ?_
  have key1 : ∀ s, Rounds (fun (s : (List api_Node) × Int) o => trellislaw32_twin_b1 x1 s.1 s.2 o) s r → (fun (s : (List api_Node) × Int) => ∀ (A21 : Option Addr) (n22 : Nat) (c23 : Nat) (h24 : Ow w.heap.size A21 n22 c23 s.1), G (trellislaw32_twin_C w F r) [.code trellislaw32_twin_c10, .inLoop trellislaw32_twin_c10, .inBlock 0, .code trellislaw32_twin_c6] [(0, .slice A2 n3 c4), (3, .slice A21 n22 c23), (4, .int .i64 s.2)] [.own (.slice A21 n22 c23) 39 7 n22 (s.1.flatMap enc_api_Node)] [Sm w.heap.size F w [], St w []]) s := by
    intro s hs
    refine Rounds.ind (mot := (fun (s : (List api_Node) × Int) => ∀ (A21 : Option Addr) (n22 : Nat) (c23 : Nat) (h24 : Ow w.heap.size A21 n22 c23 s.1), G (trellislaw32_twin_C w F r) [.code trellislaw32_twin_c10, .inLoop trellislaw32_twin_c10, .inBlock 0, .code trellislaw32_twin_c6] [(0, .slice A2 n3 c4), (3, .slice A21 n22 c23), (4, .int .i64 s.2)] [.own (.slice A21 n22 c23) 39 7 n22 (s.1.flatMap enc_api_Node)] [Sm w.heap.size F w [], St w []])) ?_ hs
    clear hs s
    intro s o1 h hO1
    obtain ⟨x20, x25⟩ := s
    show ∀ (A21 : Option Addr) (n22 : Nat) (c23 : Nat) (h24 : Ow w.heap.size A21 n22 c23 x20), G (trellislaw32_twin_C w F r) [.code trellislaw32_twin_c10, .inLoop trellislaw32_twin_c10, .inBlock 0, .code trellislaw32_twin_c6] [(0, .slice A2 n3 c4), (3, .slice A21 n22 c23), (4, .int .i64 x25)] [.own (.slice A21 n22 c23) 39 7 n22 (x20.flatMap enc_api_Node)] [Sm w.heap.size F w [], St w []]
    intro A21 n22 c23 h24
    have h : trellislaw32_twin_b1 x1 x20 x25 o1 := h
    unfold trellislaw32_twin_b1 at h
    refine g_seq (c := trellislaw32_twin_c10) rfl ?_
    refine g_seq (c := trellislaw32_twin_c11) rfl ?_
    refine g_region (c := trellislaw32_twin_c13) rfl rfl ?_
    refine wl_v 0 rfl (v_move rfl) gn rfl ?_
    refine wl_v 1 rfl (v_move rfl) gn rfl ?_
    refine wl_v 2 rfl (v_lenQ un_22 rfl h5.hq) gn rfl ?_
    refine wl_v 3 rfl (v_bin rfl rfl rfl) gn rfl ?_
    refine w_end 4 rfl ?_
    by_cases hp38 : x25 < (x1.length : Int)
    · have h := if_pos' hp38 h
      refine g_true (c := trellislaw32_twin_c14) rfl _ rfl ((decide_eq_true hp38)) ?_
      refine g_skip (c := trellislaw32_twin_c15) rfl ?_
      refine g_seq (c := trellislaw32_twin_c12) rfl ?_
      refine g_block (c := trellislaw32_twin_c17) rfl ?_
      refine g_region (c := trellislaw32_twin_c19) rfl rfl ?_
      refine wl_v 0 rfl (v_move rfl) gn rfl ?_
      refine wl_v 1 rfl (v_move rfl) gn rfl ?_
      refine wl_v 2 rfl (v_move rfl) gn rfl ?_
      obtain ⟨hb39, h⟩ := h
      have hr40 := Rw.readF (s := St w []) (hl := hl_api_Node) (h1 := h1_api_Node) h5 hb39
      refine wl_v 3 rfl (v_idxR (s := St w []) slE_22 rfl rfl h5 hb39) gn rfl ?_
      refine wl_v 4 rfl (v_ldA (St w []) ld_39 rfl hr40 rfl (me 1 rfl)) gn rfl ?_
      refine wl_s 5 rfl (s_litO (xs := ([ix x1 x25] : List api_Node)) [.string ((ix x1 x25).name), .bool ((ix x1 x25).named), .string ((ix x1 x25).field), .int .i64 ((ix x1 x25).from_), .int .i64 ((ix x1 x25).to), .int .i64 ((ix x1 x25).kids), .int .i64 ((ix x1 x25).leaf)] bs_22_1 rfl (by kernel_rfl) rfl rfl rfl rfl fun gb42 h43 => ?_) gn
      obtain ⟨x47, hv48, h⟩ := h
      obtain ⟨hb49, h⟩ := h
      refine wl_s 6 rfl (s_app (zs := x47) (cells' := x47.flatMap enc_api_Node) 1 ap_22 rfl rfl rfl h24 (Nat.le_refl _) (Src.ownF (hl := hl_api_Node) (h1 := h1_api_Node) 0 rfl h43) (by rw [hv48, List.flatMap_append] <;> rfl) (app_len hv48 h43.hq) hb49 rfl rfl fun A44 c45 h46 => ?_) gn
      refine wl_v 7 rfl (v_assign rfl) gn rfl ?_
      refine w_end 8 rfl ?_
      refine g_inBlock ?_
      refine g_region (c := trellislaw32_twin_c18) rfl rfl ?_
      refine wl_v 0 rfl (v_move rfl) gn rfl ?_
      refine wl_v 1 rfl (v_bin rfl rfl rfl) gn rfl ?_
      refine wl_v 2 rfl (v_assign rfl) gn rfl ?_
      refine w_end 3 rfl ?_
      refine g_inLoop ?_
      have ih := Out.inl hO1 h
      exact g_go [0, 1] (ih A44 (n22 + 1) c45 h46) ⟨rfl, rfl, rfl, trivial⟩ (.cons _ (.cons_cons _ (.slnil))) rfl
    · have h := if_neg' hp38 h
      refine g_false (c := trellislaw32_twin_c14) rfl _ rfl ((decide_eq_false hp38)) ?_
      refine g_exit (c := trellislaw32_twin_c16) [.code trellislaw32_twin_c6] rfl rfl ?_
      refine g_seq (c := trellislaw32_twin_c6) rfl ?_
      refine g_region (c := trellislaw32_twin_c20) rfl rfl ?_
      refine wl_v 0 rfl (v_move rfl) gn rfl ?_
      refine wl_v 1 rfl (v_assign rfl) gn rfl ?_
      refine w_end 2 rfl ?_
      have h := Out.inr hO1 h
      refine g_retR (c := trellislaw32_twin_c21) [.slice A21 n22 c23] rfl Try.func10 rfl (.tmp rfl (.nil)) fun wr hLr => ?_
      have hMr : B.Loc w wr [.own (.slice A21 n22 c23) 39 7 n22 (x20.flatMap enc_api_Node)] [St w []] := hLr.pick (rest := []) (perm_of_idx [0] [] rfl rfl (by kernel_rfl)) (sels [1] rfl)
      have hMi : ∀ e ∈ ([.own (.slice A21 n22 c23) 39 7 n22 (x20.flatMap enc_api_Node)] : List Ent), e ∈ ([.own (.slice A21 n22 c23) 39 7 n22 (x20.flatMap enc_api_Node)] : List Ent) := sels [0] rfl
      show trellislaw32_twin_R w F  r (.returned (packV [.slice A21 n22 c23])) wr
      rw [h]
      exact ⟨A21, n22, c23, rfl, hMr, h24⟩
  refine g_nil 39 7 ?_
  exact g_go [0, 1] (key1 _ h none 0 0 (Ow.nil (z := w.heap.size))) ⟨rfl, rfl, rfl, trivial⟩ (.cons_cons _ (.slnil)) rfl
noncomputable abbrev trellislaw32_lent_c0 : Code := bodyOf Try.f11
noncomputable abbrev trellislaw32_lent_c1 : Code := Code.fst trellislaw32_lent_c0
noncomputable abbrev trellislaw32_lent_c2 : Code := Code.snd trellislaw32_lent_c0
noncomputable abbrev trellislaw32_lent_c3 : Code := Code.fst trellislaw32_lent_c2
noncomputable abbrev trellislaw32_lent_c4 : Code := Code.snd trellislaw32_lent_c2
noncomputable abbrev trellislaw32_lent_c5 : Code := Code.fst trellislaw32_lent_c4
noncomputable abbrev trellislaw32_lent_c6 : Code := Code.snd trellislaw32_lent_c4
noncomputable abbrev trellislaw32_lent_c7 : Code := Code.fst trellislaw32_lent_c5
noncomputable abbrev trellislaw32_lent_c8 : Code := Code.snd trellislaw32_lent_c5
noncomputable abbrev trellislaw32_lent_c9 : Code := Code.fst trellislaw32_lent_c8
noncomputable abbrev trellislaw32_lent_c10 : Code := Code.fst trellislaw32_lent_c9
noncomputable abbrev trellislaw32_lent_c11 : Code := Code.fst trellislaw32_lent_c10
noncomputable abbrev trellislaw32_lent_c12 : Code := Code.snd trellislaw32_lent_c10
noncomputable abbrev trellislaw32_lent_c13 : Code := Code.fst trellislaw32_lent_c11
noncomputable abbrev trellislaw32_lent_c14 : Code := Code.snd trellislaw32_lent_c11
noncomputable abbrev trellislaw32_lent_c15 : Code := Code.fst trellislaw32_lent_c14
noncomputable abbrev trellislaw32_lent_c16 : Code := Code.snd trellislaw32_lent_c14
noncomputable abbrev trellislaw32_lent_c17 : Code := Code.fst trellislaw32_lent_c12
noncomputable abbrev trellislaw32_lent_c18 : Code := Code.snd trellislaw32_lent_c12
noncomputable abbrev trellislaw32_lent_c19 : Code := Code.fst trellislaw32_lent_c17
noncomputable abbrev trellislaw32_lent_c20 : Code := Code.fst trellislaw32_lent_c6
noncomputable abbrev trellislaw32_lent_c21 : Code := Code.snd trellislaw32_lent_c6
abbrev trellislaw32_lent_R (w : World) (F : Nat → Prop) (r : (List api_Node) × Nat) : Ending → World → Prop := fun e w' => ∃ A0 : Option Addr, ∃ n0 : Nat, ∃ c0 : Nat, e = .returned (.slice A0 r.2 c0) ∧ B.Loc w w' [.own (.slice A0 n0 c0) 39 7 n0 (r.1.flatMap enc_api_Node)] [St w []] ∧ Ow w.heap.size A0 n0 c0 r.1 ∧ r.2 ≤ n0
noncomputable abbrev trellislaw32_lent_C (w : World) (F : Nat → Prop) (r : (List api_Node) × Nat) : Cx := ⟨Try.prog, 11, Try.f11, 21, trellislaw32_lent_R w F  r, w⟩
theorem trellislaw32_lent_calls (w : World) (F : Nat → Prop) (x1 : List api_Node) (A2 : Option Addr) (n3 : Nat) (c4 : Nat) (h5 : Rw k_api_Node w (St w []).av A2 n3 c4 x1) (hF : ∀ b, F b → b < w.heap.size ∧ ∀ o ∈ ([] : List (List Nat)), b ∉ o) (hL0 : B.Loc w w [] [Sm w.heap.size F w [], St w []]) (r : (List api_Node) × Nat) (h : trellislaw32_lent x1 r) : Calls Try.prog 11 #[.slice A2 n3 c4] w (trellislaw32_lent_R w F  r) := by
  unfold trellislaw32_lent at h
  refine calls_of_Loc (vs := [.slice A2 n3 c4]) 21 Try.func11 rfl Try.ntmps11 rfl hL0 ?_
  show G (trellislaw32_lent_C w F r) _ _ _ _
  refine g_seq (c := trellislaw32_lent_c0) rfl ?_
  refine g_region (c := trellislaw32_lent_c1) rfl rfl ?_
  refine wl_v 0 rfl (v_assign rfl) gn rfl ?_
  refine w_end 1 rfl ?_
  refine g_seq (c := trellislaw32_lent_c2) rfl ?_
  refine g_region (c := trellislaw32_lent_c3) rfl rfl ?_
  refine wl_v 0 rfl (v_move rfl) gn rfl ?_
  obtain ⟨r9, hv10, h⟩ := h
  refine wl_s 1 rfl (s_call [.slice A2 n3 c4] rfl Try.func10 rfl rfl rfl fun w6 hL7 => ?_) gn
  have hp8 : List.Perm ([] : List Ent) (([] : List Ent) ++ ([] : List Ent)) := perm_of_idx [] [] rfl rfl (by kernel_rfl)
  refine Calls.mono (trellislaw32_twin_calls w6 (Fl ([] : List Snap)) x1 A2 n3 c4 (Rw.mono h5 (hL7.toSt hp8 (me 1 rfl))) (hL7.hFl (Sl := ([] : List Snap)) hp8 (sels [] rfl)) (hL7.into hp8 (Fl ([] : List Snap))) r9 hv10) ?_
  rintro _ w16 ⟨A11, n12, c13, rfl, hM17, h14⟩
  have hL18 := hL7.call hp8 hM17
  refine ⟨_, _, _, rfl, hL18, ?_⟩
  refine wl_v 2 rfl (v_assign rfl) gn rfl ?_
  refine w_end 3 rfl ?_
  refine g_seq (c := trellislaw32_lent_c4) rfl ?_
  refine g_seq (c := trellislaw32_lent_c5) rfl ?_
  refine g_region (c := trellislaw32_lent_c7) rfl rfl ?_
  refine wl_v 0 rfl (v_assign rfl) gn rfl ?_
  refine w_end 1 rfl ?_
  refine g_block (c := trellislaw32_lent_c8) rfl ?_
  refine g_loop (c := trellislaw32_lent_c9) rfl ?_
  have key1 : ∀ s, Rounds (fun (s : (List api_Node) × Int) o => trellislaw32_lent_b1 x1 s.1 s.2 o) s r → (fun (s : (List api_Node) × Int) => ∀ (A30 : Option Addr) (n31 : Nat) (c32 : Nat) (h33 : Ow w.heap.size A30 n31 c32 s.1), G (trellislaw32_lent_C w F r) [.code trellislaw32_lent_c10, .inLoop trellislaw32_lent_c10, .inBlock 0, .code trellislaw32_lent_c6] [(0, .slice A2 n3 c4), (3, .slice A30 n31 c32), (4, .int .i64 s.2)] [.own (.slice A30 n31 c32) 39 7 n31 (s.1.flatMap enc_api_Node)] [Sm w.heap.size F w [], St w []]) s := by
    intro s hs
    refine Rounds.ind (mot := (fun (s : (List api_Node) × Int) => ∀ (A30 : Option Addr) (n31 : Nat) (c32 : Nat) (h33 : Ow w.heap.size A30 n31 c32 s.1), G (trellislaw32_lent_C w F r) [.code trellislaw32_lent_c10, .inLoop trellislaw32_lent_c10, .inBlock 0, .code trellislaw32_lent_c6] [(0, .slice A2 n3 c4), (3, .slice A30 n31 c32), (4, .int .i64 s.2)] [.own (.slice A30 n31 c32) 39 7 n31 (s.1.flatMap enc_api_Node)] [Sm w.heap.size F w [], St w []])) ?_ hs
    clear hs s
    intro s o1 h hO1
    obtain ⟨x29, x34⟩ := s
    show ∀ (A30 : Option Addr) (n31 : Nat) (c32 : Nat) (h33 : Ow w.heap.size A30 n31 c32 x29), G (trellislaw32_lent_C w F r) [.code trellislaw32_lent_c10, .inLoop trellislaw32_lent_c10, .inBlock 0, .code trellislaw32_lent_c6] [(0, .slice A2 n3 c4), (3, .slice A30 n31 c32), (4, .int .i64 x34)] [.own (.slice A30 n31 c32) 39 7 n31 (x29.flatMap enc_api_Node)] [Sm w.heap.size F w [], St w []]
    intro A30 n31 c32 h33
    have h : trellislaw32_lent_b1 x1 x29 x34 o1 := h
    unfold trellislaw32_lent_b1 at h
    refine g_seq (c := trellislaw32_lent_c10) rfl ?_
    refine g_seq (c := trellislaw32_lent_c11) rfl ?_
    refine g_region (c := trellislaw32_lent_c13) rfl rfl ?_
    refine wl_v 0 rfl (v_move rfl) gn rfl ?_
    refine wl_v 1 rfl (v_bin rfl rfl rfl) gn rfl ?_
    refine w_end 2 rfl ?_
    by_cases hp47 : x34 < 20
    · have h := if_pos' hp47 h
      refine g_true (c := trellislaw32_lent_c14) rfl _ rfl ((decide_eq_true hp47)) ?_
      refine g_skip (c := trellislaw32_lent_c15) rfl ?_
      refine g_seq (c := trellislaw32_lent_c12) rfl ?_
      refine g_block (c := trellislaw32_lent_c17) rfl ?_
      refine g_region (c := trellislaw32_lent_c19) rfl rfl ?_
      refine wl_v 0 rfl (v_move rfl) gn rfl ?_
      refine wl_v 1 rfl (v_move rfl) gn rfl ?_
      refine wl_v 2 rfl (v_bin rfl rfl rfl) gn rfl ?_
      refine wl_v 3 rfl (v_build #[.string (⟨#[109, 97, 114, 107]⟩ : ByteArray), .bool false, .string (⟨#[]⟩ : ByteArray), .int .i64 (w64 (900 + x34)), .int .i64 0, .int .i64 0, .int .i64 0] bd_39 rfl (by kernel_rfl)) gn rfl ?_
      refine wl_s 4 rfl (s_litO (xs := ([(⟨(⟨#[109, 97, 114, 107]⟩ : ByteArray), false, (⟨#[]⟩ : ByteArray), w64 (900 + x34), 0, 0, 0⟩ : api_Node)] : List api_Node)) [.string (⟨#[109, 97, 114, 107]⟩ : ByteArray), .bool false, .string (⟨#[]⟩ : ByteArray), .int .i64 (w64 (900 + x34)), .int .i64 0, .int .i64 0, .int .i64 0] bs_22_1 rfl (by kernel_rfl) rfl rfl rfl rfl fun gb49 h50 => ?_) gn
      obtain ⟨x54, hv55, h⟩ := h
      obtain ⟨hb56, h⟩ := h
      refine wl_s 5 rfl (s_app (zs := x54) (cells' := x54.flatMap enc_api_Node) 1 ap_22 rfl rfl rfl h33 (Nat.le_refl _) (Src.ownF (hl := hl_api_Node) (h1 := h1_api_Node) 0 rfl h50) (by rw [hv55, List.flatMap_append] <;> rfl) (app_len hv55 h50.hq) hb56 rfl rfl fun A51 c52 h53 => ?_) gn
      refine wl_v 6 rfl (v_assign rfl) gn rfl ?_
      refine w_end 7 rfl ?_
      refine g_inBlock ?_
      refine g_region (c := trellislaw32_lent_c18) rfl rfl ?_
      refine wl_v 0 rfl (v_move rfl) gn rfl ?_
      refine wl_v 1 rfl (v_bin rfl rfl rfl) gn rfl ?_
      refine wl_v 2 rfl (v_assign rfl) gn rfl ?_
      refine w_end 3 rfl ?_
      refine g_inLoop ?_
      have ih := Out.inl hO1 h
      exact g_go [0, 1] (ih A51 (n31 + 1) c52 h53) ⟨rfl, rfl, rfl, trivial⟩ (.cons _ (.cons_cons _ (.slnil))) rfl
    · have h := if_neg' hp47 h
      refine g_false (c := trellislaw32_lent_c14) rfl _ rfl ((decide_eq_false hp47)) ?_
      refine g_exit (c := trellislaw32_lent_c16) [.code trellislaw32_lent_c6] rfl rfl ?_
      refine g_seq (c := trellislaw32_lent_c6) rfl ?_
      refine g_region (c := trellislaw32_lent_c20) rfl rfl ?_
      refine wl_v 0 rfl (v_move rfl) gn rfl ?_
      refine wl_v 1 rfl (v_move rfl) gn rfl ?_
      refine wl_v 2 rfl (v_lenQ un_22 rfl h5.hq) gn rfl ?_
      obtain ⟨hb57, h⟩ := h
      have hle58 : ((x1.length : Int) : Int).toNat ≤ n31 := by have q := hb57; have q1 := h33.hq; omega
      refine wl_v 3 rfl (v_cutHi (i := (x1.length : Int)) slE_22 rfl rfl (by have q := hb57; have q1 := h33.hq; have q2 := h33.hn; omega) h33.hn rfl) gn rfl ?_
      refine wl_v 4 rfl (v_assign rfl) gn rfl ?_
      refine w_end 5 rfl ?_
      have h := Out.inr hO1 h
      refine g_retR (c := trellislaw32_lent_c21) [.slice A30 (((x1.length : Int) : Int).toNat) c32] rfl Try.func11 rfl (.tmp rfl (.nil)) fun wr hLr => ?_
      have hMr : B.Loc w wr [.own (.slice A30 n31 c32) 39 7 n31 (x29.flatMap enc_api_Node)] [St w []] := hLr.pick (rest := []) (perm_of_idx [0] [] rfl rfl (by kernel_rfl)) (sels [1] rfl)
      have hMi : ∀ e ∈ ([.own (.slice A30 n31 c32) 39 7 n31 (x29.flatMap enc_api_Node)] : List Ent), e ∈ ([.own (.slice A30 n31 c32) 39 7 n31 (x29.flatMap enc_api_Node)] : List Ent) := sels [0] rfl
      show trellislaw32_lent_R w F  r (.returned (packV [.slice A30 (((x1.length : Int) : Int).toNat) c32])) wr
      rw [h]
      exact ⟨A30, n31, c32, rfl, hMr, h33, hle58⟩
  exact g_go [0, 1] (key1 _ h A11 n12 c13 (Ow.weak hL7.env.size h14)) ⟨rfl, rfl, rfl, trivial⟩ (.cons_cons _ (.slnil)) rfl
noncomputable abbrev choose_taken_c0 : Code := bodyOf Try.f34
noncomputable abbrev choose_taken_c1 : Code := Code.fst choose_taken_c0
noncomputable abbrev choose_taken_c2 : Code := Code.snd choose_taken_c0
noncomputable abbrev choose_taken_c3 : Code := Code.fst choose_taken_c2
noncomputable abbrev choose_taken_c4 : Code := Code.snd choose_taken_c2
abbrev choose_taken_R (w : World) (F : Nat → Prop) (r : api_Range) : Ending → World → Prop := fun e w' => e = .returned (.agg #[.int .i64 r.from_, .int .i64 r.to]) ∧ B.Loc w w' [] [St w []]
noncomputable abbrev choose_taken_C (w : World) (F : Nat → Prop) (r : api_Range) : Cx := ⟨Try.prog, 34, Try.f34, 11, choose_taken_R w F  r, w⟩
theorem choose_taken_calls (w : World) (F : Nat → Prop) (x1 : api_Range) (hF : ∀ b, F b → b < w.heap.size ∧ ∀ o ∈ ([] : List (List Nat)), b ∉ o) (hL0 : B.Loc w w [] [Sm w.heap.size F w [], St w []]) (r : api_Range) (h : choose_taken x1 r) : Calls Try.prog 34 #[.agg #[.int .i64 x1.from_, .int .i64 x1.to]] w (choose_taken_R w F  r) := by
  unfold choose_taken at h
  refine calls_of_Loc (vs := [.agg #[.int .i64 x1.from_, .int .i64 x1.to]]) 11 Try.func34 rfl Try.ntmps34 rfl hL0 ?_
  show G (choose_taken_C w F r) _ _ _ _
  refine g_seq (c := choose_taken_c0) rfl ?_
  refine g_region (c := choose_taken_c1) rfl rfl ?_
  refine wl_s 0 rfl (s_box [.int .i64 x1.from_, .int .i64 x1.to] rfl rfl rfl fun gb2 => ?_) gn
  refine wl_s 1 rfl (s_alloc [.int .i64 0, .int .i64 0] zr_24 rfl fun gb4 => ?_) gn
  refine w_end 2 rfl ?_
  refine g_seq (c := choose_taken_c2) rfl ?_
  refine g_region (c := choose_taken_c3) rfl rfl ?_
  refine wl_v 0 rfl (v_fldB fo_24_0 rfl) gn rfl ?_
  refine wl_v 1 rfl (v_ldB1 1 ld_3 rfl rfl rfl) gn rfl ?_
  refine wl_v 2 rfl (v_fldB fo_24_0 rfl) gn rfl ?_
  refine wl_v 3 rfl (v_ldB1 1 ld_3 rfl rfl rfl) gn rfl ?_
  refine wl_v 4 rfl (v_fldB fo_24_1 rfl) gn rfl ?_
  refine wl_v 5 rfl (v_ldB1 1 ld_3 rfl rfl rfl) gn rfl ?_
  refine wl_v 6 rfl (v_max rfl rfl) gn rfl ?_
  refine wl_v 7 rfl (v_build #[.int .i64 x1.from_, .int .i64 (max x1.from_ x1.to)] bd_24 rfl (by kernel_rfl)) gn rfl ?_
  refine wl_s 8 rfl (s_stB (vs := [.int .i64 x1.from_, .int .i64 (max x1.from_ x1.to)]) (cs' := [.int .i64 x1.from_, .int .i64 (max x1.from_ x1.to)]) (M' := [.box gb4 24 [.int .i64 x1.from_, .int .i64 (max x1.from_ x1.to)], .box gb2 24 [.int .i64 x1.from_, .int .i64 x1.to]]) 0 sz_24 rfl rfl rfl rfl rfl rfl rfl rfl rfl ?_) gn
  refine w_end 9 rfl ?_
  refine g_retR (c := choose_taken_c4) [.agg #[.int .i64 x1.from_, .int .i64 (max x1.from_ x1.to)]] rfl Try.func34 rfl (.cell (cs := [.int .i64 x1.from_, .int .i64 (max x1.from_ x1.to)]) (us := [.int .i64 x1.from_, .int .i64 (max x1.from_ x1.to)]) 0 rfl ld_24 rfl rfl rfl (.nil)) fun wr hLr => ?_
  have hMr : B.Loc w wr [] [St w []] := hLr.pick (rest := [.box gb4 24 [.int .i64 x1.from_, .int .i64 (max x1.from_ x1.to)], .box gb2 24 [.int .i64 x1.from_, .int .i64 x1.to]]) (perm_of_idx [] [0, 1] rfl rfl (by kernel_rfl)) (sels [1] rfl)
  have hMi : ∀ e ∈ ([] : List Ent), e ∈ ([.box gb4 24 [.int .i64 x1.from_, .int .i64 (max x1.from_ x1.to)], .box gb2 24 [.int .i64 x1.from_, .int .i64 x1.to]] : List Ent) := sels [] rfl
  show choose_taken_R w F  r (.returned (packV [.agg #[.int .i64 x1.from_, .int .i64 (max x1.from_ x1.to)]])) wr
  rw [h]
  exact ⟨rfl, hMr⟩
noncomputable abbrev tree_plant_c0 : Code := bodyOf Try.f43
noncomputable abbrev tree_plant_c1 : Code := Code.fst tree_plant_c0
noncomputable abbrev tree_plant_c2 : Code := Code.snd tree_plant_c0
noncomputable abbrev tree_plant_c3 : Code := Code.fst tree_plant_c2
noncomputable abbrev tree_plant_c4 : Code := Code.snd tree_plant_c2
noncomputable abbrev tree_plant_c5 : Code := Code.fst tree_plant_c4
noncomputable abbrev tree_plant_c6 : Code := Code.snd tree_plant_c4
noncomputable abbrev tree_plant_c7 : Code := Code.fst tree_plant_c6
noncomputable abbrev tree_plant_c8 : Code := Code.snd tree_plant_c6
noncomputable abbrev tree_plant_c9 : Code := Code.fst tree_plant_c7
noncomputable abbrev tree_plant_c10 : Code := Code.snd tree_plant_c7
noncomputable abbrev tree_plant_c11 : Code := Code.fst tree_plant_c10
noncomputable abbrev tree_plant_c12 : Code := Code.fst tree_plant_c11
noncomputable abbrev tree_plant_c13 : Code := Code.fst tree_plant_c12
noncomputable abbrev tree_plant_c14 : Code := Code.snd tree_plant_c12
noncomputable abbrev tree_plant_c15 : Code := Code.fst tree_plant_c14
noncomputable abbrev tree_plant_c16 : Code := Code.snd tree_plant_c14
noncomputable abbrev tree_plant_c17 : Code := Code.fst tree_plant_c15
noncomputable abbrev tree_plant_c18 : Code := Code.snd tree_plant_c15
noncomputable abbrev tree_plant_c19 : Code := Code.fst tree_plant_c16
noncomputable abbrev tree_plant_c20 : Code := Code.snd tree_plant_c16
noncomputable abbrev tree_plant_c21 : Code := Code.fst tree_plant_c19
noncomputable abbrev tree_plant_c22 : Code := Code.fst tree_plant_c21
noncomputable abbrev tree_plant_c23 : Code := Code.snd tree_plant_c21
noncomputable abbrev tree_plant_c24 : Code := Code.fst tree_plant_c23
noncomputable abbrev tree_plant_c25 : Code := Code.snd tree_plant_c23
noncomputable abbrev tree_plant_c26 : Code := Code.fst tree_plant_c25
noncomputable abbrev tree_plant_c27 : Code := Code.snd tree_plant_c25
noncomputable abbrev tree_plant_c28 : Code := Code.fst tree_plant_c26
noncomputable abbrev tree_plant_c29 : Code := Code.snd tree_plant_c26
noncomputable abbrev tree_plant_c30 : Code := Code.fst tree_plant_c29
noncomputable abbrev tree_plant_c31 : Code := Code.snd tree_plant_c29
noncomputable abbrev tree_plant_c32 : Code := Code.fst tree_plant_c27
noncomputable abbrev tree_plant_c33 : Code := Code.snd tree_plant_c27
noncomputable abbrev tree_plant_c34 : Code := Code.fst tree_plant_c32
noncomputable abbrev tree_plant_c35 : Code := Code.snd tree_plant_c32
noncomputable abbrev tree_plant_c36 : Code := Code.fst tree_plant_c35
noncomputable abbrev tree_plant_c37 : Code := Code.snd tree_plant_c35
noncomputable abbrev tree_plant_c38 : Code := Code.fst tree_plant_c36
noncomputable abbrev tree_plant_c39 : Code := Code.snd tree_plant_c36
noncomputable abbrev tree_plant_c40 : Code := Code.fst tree_plant_c33
noncomputable abbrev tree_plant_c41 : Code := Code.snd tree_plant_c33
noncomputable abbrev tree_plant_c42 : Code := Code.fst tree_plant_c41
noncomputable abbrev tree_plant_c43 : Code := Code.fst tree_plant_c42
noncomputable abbrev tree_plant_c44 : Code := Code.fst tree_plant_c43
noncomputable abbrev tree_plant_c45 : Code := Code.snd tree_plant_c43
noncomputable abbrev tree_plant_c46 : Code := Code.fst tree_plant_c44
noncomputable abbrev tree_plant_c47 : Code := Code.snd tree_plant_c44
noncomputable abbrev tree_plant_c48 : Code := Code.fst tree_plant_c47
noncomputable abbrev tree_plant_c49 : Code := Code.snd tree_plant_c47
noncomputable abbrev tree_plant_c50 : Code := Code.fst tree_plant_c45
noncomputable abbrev tree_plant_c51 : Code := Code.fst tree_plant_c50
noncomputable abbrev tree_plant_c52 : Code := Code.snd tree_plant_c50
noncomputable abbrev tree_plant_c53 : Code := Code.fst tree_plant_c8
noncomputable abbrev tree_plant_c54 : Code := Code.snd tree_plant_c8
noncomputable abbrev tree_plant_c55 : Code := Code.fst tree_plant_c54
noncomputable abbrev tree_plant_c56 : Code := Code.snd tree_plant_c54
noncomputable abbrev tree_plant_c57 : Code := Code.fst tree_plant_c30
noncomputable abbrev tree_plant_c58 : Code := Code.snd tree_plant_c30
abbrev tree_plant_R (w : World) (F : Nat → Prop) (r : tree_forest) : Ending → World → Prop := fun e w' => ∃ A1 : Option Addr, ∃ n1 : Nat, ∃ c1 : Nat, ∃ A2 : Option Addr, ∃ n2 : Nat, ∃ c2 : Nat, ∃ A0 : Option Addr, ∃ n0 : Nat, ∃ c0 : Nat, e = .returned (.agg #[.slice A0 n0 c0, .slice A1 n1 c1, .slice A2 n2 c2, .bool r.ok]) ∧ B.Loc w w' [.own (.slice A1 n1 c1) 3 1 n1 (r.parent.flatMap (eI .i64)), .own (.slice A2 n2 c2) 3 1 n2 (r.end_.flatMap (eI .i64))] [St w []] ∧ Ow w.heap.size A1 n1 c1 r.parent ∧ Ow w.heap.size A2 n2 c2 r.end_ ∧ Rw k_api_Node w' (Nw w w' F [.own (.slice A1 n1 c1) 3 1 n1 (r.parent.flatMap (eI .i64)), .own (.slice A2 n2 c2) 3 1 n2 (r.end_.flatMap (eI .i64))]) A0 n0 c0 r.nodes
noncomputable abbrev tree_plant_C (w : World) (F : Nat → Prop) (r : tree_forest) : Cx := ⟨Try.prog, 43, Try.f43, 100, tree_plant_R w F  r, w⟩
theorem tree_plant_calls (w : World) (F : Nat → Prop) (x1 : List api_Node) (A2 : Option Addr) (n3 : Nat) (c4 : Nat) (h5 : Rw k_api_Node w F A2 n3 c4 x1) (hF : ∀ b, F b → b < w.heap.size ∧ ∀ o ∈ ([] : List (List Nat)), b ∉ o) (hL0 : B.Loc w w [] [Sm w.heap.size F w [], St w []]) (r : tree_forest) (h : tree_plant x1 r) : Calls Try.prog 43 #[.slice A2 n3 c4] w (tree_plant_R w F  r) := by
  unfold tree_plant at h
  have h5 := Rw.into (bs := []) hF h5
  refine calls_of_Loc (vs := [.slice A2 n3 c4]) 100 Try.func43 rfl Try.ntmps43 rfl hL0 ?_
  show G (tree_plant_C w F r) _ _ _ _
  refine g_seq (c := tree_plant_c0) rfl ?_
  refine g_region (c := tree_plant_c1) rfl rfl ?_
  refine wl_s 0 rfl (s_alloc [.slice none 0 0, .slice none 0 0, .slice none 0 0, .bool false] zr_54 rfl fun gb6 => ?_) gn
  refine w_end 1 rfl ?_
  refine g_seq (c := tree_plant_c2) rfl ?_
  obtain ⟨hb8, h⟩ := h
  obtain ⟨x12, hv13, h⟩ := h
  obtain ⟨x17, hv18, h⟩ := h
  have d1 : ∀ (gb76 : Nat) (A77 : Option Addr) (n78 : Nat) (c79 : Nat) (h80 : Ow w.heap.size A77 n78 c79 x12) (A81 : Option Addr) (n82 : Nat) (c83 : Nat) (h84 : Ow w.heap.size A81 n82 c83 x17), G (tree_plant_C w F r) [.code tree_plant_c4] [(0, .slice A2 n3 c4), (2, .pointer (some ⟨gb6, 0, none⟩)), (3, .pointer (some ⟨gb76, 0, none⟩))] [.box gb76 54 [.slice A2 n3 c4, .slice A77 n78 c79, .slice A81 n82 c83, .bool false], .own (.slice A81 n82 c83) 3 1 n82 (x17.flatMap (eI .i64)), .own (.slice A77 n78 c79) 3 1 n78 (x12.flatMap (eI .i64)), .box gb6 54 [.slice none 0 0, .slice none 0 0, .slice none 0 0, .bool false]] [Sm w.heap.size F w [], St w []] := by
    intro gb76 A77 n78 c79 h80 A81 n82 c83 h84
    refine g_seq (c := tree_plant_c4) rfl ?_
    refine g_region (c := tree_plant_c5) rfl rfl ?_
    refine wl_v 0 rfl (v_assign rfl) gn rfl ?_
    refine wl_v 1 rfl (v_assign rfl) gn rfl ?_
    refine w_end 2 rfl ?_
    refine g_seq (c := tree_plant_c6) rfl ?_
    refine g_seq (c := tree_plant_c7) rfl ?_
    refine g_region (c := tree_plant_c9) rfl rfl ?_
    refine wl_v 0 rfl (v_move rfl) gn rfl ?_
    refine wl_v 1 rfl (v_lenQ un_22 rfl h5.hq) gn rfl ?_
    refine wl_v 2 rfl (v_move rfl) gn rfl ?_
    refine w_end 3 rfl ?_
    refine g_block (c := tree_plant_c10) rfl ?_
    refine g_loop (c := tree_plant_c11) rfl ?_
    have key1 : ∀ s, Rounds (fun (s : (List Int) × (List Int) × Int × (List Int) × (List Int)) o => tree_plant_b1 x1 s.1 s.2.1 s.2.2.1 s.2.2.2.1 s.2.2.2.2 o) s r → (fun (s : (List Int) × (List Int) × Int × (List Int) × (List Int)) => ∀ (A346 : Option Addr) (n347 : Nat) (c348 : Nat) (h349 : Ow w.heap.size A346 n347 c348 s.1) (A351 : Option Addr) (n352 : Nat) (c353 : Nat) (h354 : Ow w.heap.size A351 n352 c353 s.2.1) (h357 : Ow w.heap.size A77 n78 c79 s.2.2.2.1) (h359 : Ow w.heap.size A81 n82 c83 s.2.2.2.2), G (tree_plant_C w F r) [.code tree_plant_c12, .inLoop tree_plant_c12, .inBlock 0, .code tree_plant_c8] [(2, .pointer (some ⟨gb6, 0, none⟩)), (3, .pointer (some ⟨gb76, 0, none⟩)), (4, .slice A346 n347 c348), (5, .slice A351 n352 c353), (16, .slice A2 n3 c4), (17, .int .i64 (x1.length : Int)), (18, .int .i64 s.2.2.1)] [.own (.slice A346 n347 c348) 3 1 n347 (s.1.flatMap (eI .i64)), .own (.slice A351 n352 c353) 3 1 n352 (s.2.1.flatMap (eI .i64)), .box gb76 54 [.slice A2 n3 c4, .slice A77 n78 c79, .slice A81 n82 c83, .bool false], .own (.slice A81 n82 c83) 3 1 n82 (s.2.2.2.2.flatMap (eI .i64)), .own (.slice A77 n78 c79) 3 1 n78 (s.2.2.2.1.flatMap (eI .i64)), .box gb6 54 [.slice none 0 0, .slice none 0 0, .slice none 0 0, .bool false]] [Sm w.heap.size F w [], St w []]) s := by
      intro s hs
      refine Rounds.ind (mot := (fun (s : (List Int) × (List Int) × Int × (List Int) × (List Int)) => ∀ (A346 : Option Addr) (n347 : Nat) (c348 : Nat) (h349 : Ow w.heap.size A346 n347 c348 s.1) (A351 : Option Addr) (n352 : Nat) (c353 : Nat) (h354 : Ow w.heap.size A351 n352 c353 s.2.1) (h357 : Ow w.heap.size A77 n78 c79 s.2.2.2.1) (h359 : Ow w.heap.size A81 n82 c83 s.2.2.2.2), G (tree_plant_C w F r) [.code tree_plant_c12, .inLoop tree_plant_c12, .inBlock 0, .code tree_plant_c8] [(2, .pointer (some ⟨gb6, 0, none⟩)), (3, .pointer (some ⟨gb76, 0, none⟩)), (4, .slice A346 n347 c348), (5, .slice A351 n352 c353), (16, .slice A2 n3 c4), (17, .int .i64 (x1.length : Int)), (18, .int .i64 s.2.2.1)] [.own (.slice A346 n347 c348) 3 1 n347 (s.1.flatMap (eI .i64)), .own (.slice A351 n352 c353) 3 1 n352 (s.2.1.flatMap (eI .i64)), .box gb76 54 [.slice A2 n3 c4, .slice A77 n78 c79, .slice A81 n82 c83, .bool false], .own (.slice A81 n82 c83) 3 1 n82 (s.2.2.2.2.flatMap (eI .i64)), .own (.slice A77 n78 c79) 3 1 n78 (s.2.2.2.1.flatMap (eI .i64)), .box gb6 54 [.slice none 0 0, .slice none 0 0, .slice none 0 0, .bool false]] [Sm w.heap.size F w [], St w []])) ?_ hs
      clear hs s
      intro s o1 h hO1
      obtain ⟨x345, x350, x355, x356, x358⟩ := s
      show ∀ (A346 : Option Addr) (n347 : Nat) (c348 : Nat) (h349 : Ow w.heap.size A346 n347 c348 x345) (A351 : Option Addr) (n352 : Nat) (c353 : Nat) (h354 : Ow w.heap.size A351 n352 c353 x350) (h357 : Ow w.heap.size A77 n78 c79 x356) (h359 : Ow w.heap.size A81 n82 c83 x358), G (tree_plant_C w F r) [.code tree_plant_c12, .inLoop tree_plant_c12, .inBlock 0, .code tree_plant_c8] [(2, .pointer (some ⟨gb6, 0, none⟩)), (3, .pointer (some ⟨gb76, 0, none⟩)), (4, .slice A346 n347 c348), (5, .slice A351 n352 c353), (16, .slice A2 n3 c4), (17, .int .i64 (x1.length : Int)), (18, .int .i64 x355)] [.own (.slice A346 n347 c348) 3 1 n347 (x345.flatMap (eI .i64)), .own (.slice A351 n352 c353) 3 1 n352 (x350.flatMap (eI .i64)), .box gb76 54 [.slice A2 n3 c4, .slice A77 n78 c79, .slice A81 n82 c83, .bool false], .own (.slice A81 n82 c83) 3 1 n82 (x358.flatMap (eI .i64)), .own (.slice A77 n78 c79) 3 1 n78 (x356.flatMap (eI .i64)), .box gb6 54 [.slice none 0 0, .slice none 0 0, .slice none 0 0, .bool false]] [Sm w.heap.size F w [], St w []]
      intro A346 n347 c348 h349 A351 n352 c353 h354 h357 h359
      have h : tree_plant_b1 x1 x345 x350 x355 x356 x358 o1 := h
      unfold tree_plant_b1 at h
      refine g_seq (c := tree_plant_c12) rfl ?_
      refine g_region (c := tree_plant_c13) rfl rfl ?_
      refine wl_v 0 rfl (v_bin rfl rfl rfl) gn rfl ?_
      refine w_end 1 rfl ?_
      refine g_seq (c := tree_plant_c14) rfl ?_
      by_cases hp630 : x355 < (x1.length : Int)
      · have h := if_pos' hp630 h
        refine g_true (c := tree_plant_c15) rfl _ rfl ((decide_eq_true hp630)) ?_
        refine g_skip (c := tree_plant_c17) rfl ?_
        refine g_seq (c := tree_plant_c16) rfl ?_
        refine g_block (c := tree_plant_c19) rfl ?_
        refine g_seq (c := tree_plant_c21) rfl ?_
        refine g_region (c := tree_plant_c22) rfl rfl ?_
        refine wl_v 0 rfl (v_move rfl) gn rfl ?_
        obtain ⟨hb631, h⟩ := h
        have hr632 := Rw.readF (s := Sm w.heap.size F w []) (hl := hl_api_Node) (h1 := h1_api_Node) h5 hb631
        refine wl_v 1 rfl (v_idxR (s := Sm w.heap.size F w []) slE_22 rfl rfl h5 hb631) gn rfl ?_
        refine wl_v 2 rfl (v_ldA (Sm w.heap.size F w []) ld_39 rfl hr632 rfl (me 0 rfl)) gn rfl ?_
        refine wl_s 3 rfl (s_alloc [.string (⟨#[]⟩ : ByteArray), .bool false, .string (⟨#[]⟩ : ByteArray), .int .i64 0, .int .i64 0, .int .i64 0, .int .i64 0] zr_39 rfl fun gb633 => ?_) gn
        refine wl_v 4 rfl (v_assign rfl) gn rfl ?_
        refine wl_s 5 rfl (s_stB (vs := [.string ((ix x1 x355).name), .bool ((ix x1 x355).named), .string ((ix x1 x355).field), .int .i64 ((ix x1 x355).from_), .int .i64 ((ix x1 x355).to), .int .i64 ((ix x1 x355).kids), .int .i64 ((ix x1 x355).leaf)]) (cs' := [.string ((ix x1 x355).name), .bool ((ix x1 x355).named), .string ((ix x1 x355).field), .int .i64 ((ix x1 x355).from_), .int .i64 ((ix x1 x355).to), .int .i64 ((ix x1 x355).kids), .int .i64 ((ix x1 x355).leaf)]) (M' := [.box gb633 39 [.string ((ix x1 x355).name), .bool ((ix x1 x355).named), .string ((ix x1 x355).field), .int .i64 ((ix x1 x355).from_), .int .i64 ((ix x1 x355).to), .int .i64 ((ix x1 x355).kids), .int .i64 ((ix x1 x355).leaf)], .own (.slice A346 n347 c348) 3 1 n347 (x345.flatMap (eI .i64)), .own (.slice A351 n352 c353) 3 1 n352 (x350.flatMap (eI .i64)), .box gb76 54 [.slice A2 n3 c4, .slice A77 n78 c79, .slice A81 n82 c83, .bool false], .own (.slice A81 n82 c83) 3 1 n82 (x358.flatMap (eI .i64)), .own (.slice A77 n78 c79) 3 1 n78 (x356.flatMap (eI .i64)), .box gb6 54 [.slice none 0 0, .slice none 0 0, .slice none 0 0, .bool false]]) 0 sz_39 rfl rfl rfl rfl rfl rfl rfl rfl rfl ?_) gn
        refine w_end 6 rfl ?_
        refine g_seq (c := tree_plant_c23) rfl ?_
        refine g_region (c := tree_plant_c24) rfl rfl ?_
        refine wl_v 0 rfl (v_fldB fo_54_1 rfl) gn rfl ?_
        refine wl_v 1 rfl (v_ldB1 3 ld_45 rfl rfl rfl) gn rfl ?_
        refine wl_v 2 rfl (v_move rfl) gn rfl ?_
        obtain ⟨hb635, h⟩ := h
        refine wl_v 3 rfl (v_idxO slE_45 rfl rfl h357 hb635) gn rfl ?_
        obtain ⟨x636, hv637, h⟩ := h
        refine wl_s 4 rfl (s_stF (enc := (eI .i64)) (o := 0) (z := (-1)) (vs := [.int .i64 (-1)]) (i := x355) 5 (hlI .i64) sz_3 rfl rfl rfl rfl rfl h357 hb635 rfl rfl rfl hv637 fun h638 => ?_) gn
        refine w_end 5 rfl ?_
        refine g_seq (c := tree_plant_c25) rfl ?_
        refine g_seq (c := tree_plant_c26) rfl ?_
        refine g_region (c := tree_plant_c28) rfl rfl ?_
        refine wl_v 0 rfl (v_move rfl) gn rfl ?_
        refine wl_v 1 rfl (v_lenQ un_45 rfl h349.hq) gn rfl ?_
        refine wl_v 2 rfl (v_bin rfl rfl rfl) gn rfl ?_
        refine w_end 3 rfl ?_
        have j2 : ∀ (x652 : List Int) (x654 : List Int) (h : tree_plant_j2 x1 x355 x358 x345 x652 x654 o1) (h653 : Ow w.heap.size A351 n352 c353 x652) (h655 : Ow w.heap.size A77 n78 c79 x654), G (tree_plant_C w F r) [.code tree_plant_c27, .inBlock 1, .code tree_plant_c20, .inLoop tree_plant_c12, .inBlock 0, .code tree_plant_c8] [(2, .pointer (some ⟨gb6, 0, none⟩)), (3, .pointer (some ⟨gb76, 0, none⟩)), (4, .slice A346 n347 c348), (5, .slice A351 n352 c353), (6, .int .i64 x355), (7, .pointer (some ⟨gb633, 0, none⟩)), (16, .slice A2 n3 c4), (17, .int .i64 (x1.length : Int)), (18, .int .i64 x355)] [.box gb633 39 [.string ((ix x1 x355).name), .bool ((ix x1 x355).named), .string ((ix x1 x355).field), .int .i64 ((ix x1 x355).from_), .int .i64 ((ix x1 x355).to), .int .i64 ((ix x1 x355).kids), .int .i64 ((ix x1 x355).leaf)], .own (.slice A346 n347 c348) 3 1 n347 (x345.flatMap (eI .i64)), .own (.slice A351 n352 c353) 3 1 n352 (x652.flatMap (eI .i64)), .box gb76 54 [.slice A2 n3 c4, .slice A77 n78 c79, .slice A81 n82 c83, .bool false], .own (.slice A81 n82 c83) 3 1 n82 (x358.flatMap (eI .i64)), .own (.slice A77 n78 c79) 3 1 n78 (x654.flatMap (eI .i64)), .box gb6 54 [.slice none 0 0, .slice none 0 0, .slice none 0 0, .bool false]] [Sm w.heap.size F w [], St w []] := by
          intro x652 x654 h h653 h655
          unfold tree_plant_j2 at h
          refine g_seq (c := tree_plant_c27) rfl ?_
          refine g_seq (c := tree_plant_c32) rfl ?_
          refine g_region (c := tree_plant_c34) rfl rfl ?_
          refine wl_v 0 rfl (v_fldB fo_39_5 rfl) gn rfl ?_
          refine wl_v 1 rfl (v_ldB1 0 ld_3 rfl rfl rfl) gn rfl ?_
          refine wl_v 2 rfl (v_bin rfl rfl rfl) gn rfl ?_
          refine w_end 3 rfl ?_
          by_cases hp656 : (ix x1 x355).kids < 0
          · have h := if_pos' hp656 h
            refine g_true (c := tree_plant_c35) rfl _ rfl ((decide_eq_true hp656)) ?_
            refine g_seq (c := tree_plant_c36) rfl ?_
            refine g_region (c := tree_plant_c38) rfl rfl ?_
            refine wl_v 0 rfl (v_ldB [.slice A2 n3 c4, .slice A77 n78 c79, .slice A81 n82 c83, .bool false] 3 ld_54 rfl rfl rfl rfl) gn rfl ?_
            refine wl_s 1 rfl (s_stB (vs := [.slice A2 n3 c4, .slice A77 n78 c79, .slice A81 n82 c83, .bool false]) (cs' := [.slice A2 n3 c4, .slice A77 n78 c79, .slice A81 n82 c83, .bool false]) (M' := [.box gb633 39 [.string ((ix x1 x355).name), .bool ((ix x1 x355).named), .string ((ix x1 x355).field), .int .i64 ((ix x1 x355).from_), .int .i64 ((ix x1 x355).to), .int .i64 ((ix x1 x355).kids), .int .i64 ((ix x1 x355).leaf)], .own (.slice A346 n347 c348) 3 1 n347 (x345.flatMap (eI .i64)), .own (.slice A351 n352 c353) 3 1 n352 (x652.flatMap (eI .i64)), .box gb76 54 [.slice A2 n3 c4, .slice A77 n78 c79, .slice A81 n82 c83, .bool false], .own (.slice A81 n82 c83) 3 1 n82 (x358.flatMap (eI .i64)), .own (.slice A77 n78 c79) 3 1 n78 (x654.flatMap (eI .i64)), .box gb6 54 [.slice A2 n3 c4, .slice A77 n78 c79, .slice A81 n82 c83, .bool false]]) 6 sz_54 rfl rfl rfl rfl rfl rfl rfl rfl rfl ?_) gn
            refine w_end 2 rfl ?_
            have h := Out.inr hO1 h
            refine g_retR (c := tree_plant_c39) [.agg #[.slice A2 n3 c4, .slice A77 n78 c79, .slice A81 n82 c83, .bool false]] rfl Try.func43 rfl (.cell (cs := [.slice A2 n3 c4, .slice A77 n78 c79, .slice A81 n82 c83, .bool false]) (us := [.slice A2 n3 c4, .slice A77 n78 c79, .slice A81 n82 c83, .bool false]) 6 rfl ld_54 rfl rfl rfl (.nil)) fun wr hLr => ?_
            have hMr : B.Loc w wr [.own (.slice A77 n78 c79) 3 1 n78 (x654.flatMap (eI .i64)), .own (.slice A81 n82 c83) 3 1 n82 (x358.flatMap (eI .i64))] [St w []] := hLr.pick (rest := [.box gb633 39 [.string ((ix x1 x355).name), .bool ((ix x1 x355).named), .string ((ix x1 x355).field), .int .i64 ((ix x1 x355).from_), .int .i64 ((ix x1 x355).to), .int .i64 ((ix x1 x355).kids), .int .i64 ((ix x1 x355).leaf)], .own (.slice A346 n347 c348) 3 1 n347 (x345.flatMap (eI .i64)), .own (.slice A351 n352 c353) 3 1 n352 (x652.flatMap (eI .i64)), .box gb76 54 [.slice A2 n3 c4, .slice A77 n78 c79, .slice A81 n82 c83, .bool false], .box gb6 54 [.slice A2 n3 c4, .slice A77 n78 c79, .slice A81 n82 c83, .bool false]]) (perm_of_idx [5, 4] [0, 1, 2, 3, 6] rfl rfl (by kernel_rfl)) (sels [1] rfl)
            have hMi : ∀ e ∈ ([.own (.slice A77 n78 c79) 3 1 n78 (x654.flatMap (eI .i64)), .own (.slice A81 n82 c83) 3 1 n82 (x358.flatMap (eI .i64))] : List Ent), e ∈ ([.box gb633 39 [.string ((ix x1 x355).name), .bool ((ix x1 x355).named), .string ((ix x1 x355).field), .int .i64 ((ix x1 x355).from_), .int .i64 ((ix x1 x355).to), .int .i64 ((ix x1 x355).kids), .int .i64 ((ix x1 x355).leaf)], .own (.slice A346 n347 c348) 3 1 n347 (x345.flatMap (eI .i64)), .own (.slice A351 n352 c353) 3 1 n352 (x652.flatMap (eI .i64)), .box gb76 54 [.slice A2 n3 c4, .slice A77 n78 c79, .slice A81 n82 c83, .bool false], .own (.slice A81 n82 c83) 3 1 n82 (x358.flatMap (eI .i64)), .own (.slice A77 n78 c79) 3 1 n78 (x654.flatMap (eI .i64)), .box gb6 54 [.slice A2 n3 c4, .slice A77 n78 c79, .slice A81 n82 c83, .bool false]] : List Ent) := sels [5, 4] rfl
            show tree_plant_R w F  r (.returned (packV [.agg #[.slice A2 n3 c4, .slice A77 n78 c79, .slice A81 n82 c83, .bool false]])) wr
            rw [h]
            exact ⟨A77, n78, c79, A81, n82, c83, A2, n3, c4, rfl, hMr, h655, h359, (hLr.outR (s := Sm w.heap.size F w []) hMi (me 0 rfl) Sm.ok h5)⟩
          · have h := if_neg' hp656 h
            refine g_false (c := tree_plant_c35) rfl _ rfl ((decide_eq_false hp656)) ?_
            refine g_skip (c := tree_plant_c37) rfl ?_
            refine g_seq (c := tree_plant_c33) rfl ?_
            obtain ⟨x663, hv664, h⟩ := h
            obtain ⟨hb665, h⟩ := h
            obtain ⟨x672, hv673, h⟩ := h
            obtain ⟨hb674, h⟩ := h
            have d4 : ∀ (A729 : Option Addr) (n730 : Nat) (c731 : Nat) (h732 : Ow w.heap.size A729 n730 c731 x663) (A733 : Option Addr) (n734 : Nat) (c735 : Nat) (h736 : Ow w.heap.size A733 n734 c735 x672), G (tree_plant_C w F r) [.code tree_plant_c41, .inBlock 1, .code tree_plant_c20, .inLoop tree_plant_c12, .inBlock 0, .code tree_plant_c8] [(2, .pointer (some ⟨gb6, 0, none⟩)), (3, .pointer (some ⟨gb76, 0, none⟩)), (4, .slice A729 n730 c731), (5, .slice A733 n734 c735), (6, .int .i64 x355), (16, .slice A2 n3 c4), (17, .int .i64 (x1.length : Int)), (18, .int .i64 x355)] [.own (.slice A729 n730 c731) 3 1 n730 (x663.flatMap (eI .i64)), .own (.slice A733 n734 c735) 3 1 n734 (x672.flatMap (eI .i64)), .box gb76 54 [.slice A2 n3 c4, .slice A77 n78 c79, .slice A81 n82 c83, .bool false], .own (.slice A81 n82 c83) 3 1 n82 (x358.flatMap (eI .i64)), .own (.slice A77 n78 c79) 3 1 n78 (x654.flatMap (eI .i64)), .box gb6 54 [.slice none 0 0, .slice none 0 0, .slice none 0 0, .bool false]] [Sm w.heap.size F w [], St w []] := by
              intro A729 n730 c731 h732 A733 n734 c735 h736
              refine g_block (c := tree_plant_c41) rfl ?_
              refine g_loop (c := tree_plant_c42) rfl ?_
              have key3 : ∀ s, Rounds (fun (s : (List Int) × (List Int) × (List Int)) o => tree_plant_b3 x355 x654 s.1 s.2.1 s.2.2 o) s o1 → (fun (s : (List Int) × (List Int) × (List Int)) => ∀ (A767 : Option Addr) (n768 : Nat) (c769 : Nat) (h770 : Ow w.heap.size A767 n768 c769 s.1) (A772 : Option Addr) (n773 : Nat) (c774 : Nat) (h775 : Ow w.heap.size A772 n773 c774 s.2.1) (h777 : Ow w.heap.size A81 n82 c83 s.2.2), G (tree_plant_C w F r) [.code tree_plant_c43, .inLoop tree_plant_c43, .inBlock 2, .inBlock 1, .code tree_plant_c20, .inLoop tree_plant_c12, .inBlock 0, .code tree_plant_c8] [(2, .pointer (some ⟨gb6, 0, none⟩)), (3, .pointer (some ⟨gb76, 0, none⟩)), (4, .slice A767 n768 c769), (5, .slice A772 n773 c774), (6, .int .i64 x355), (16, .slice A2 n3 c4), (17, .int .i64 (x1.length : Int)), (18, .int .i64 x355)] [.own (.slice A767 n768 c769) 3 1 n768 (s.1.flatMap (eI .i64)), .own (.slice A772 n773 c774) 3 1 n773 (s.2.1.flatMap (eI .i64)), .box gb76 54 [.slice A2 n3 c4, .slice A77 n78 c79, .slice A81 n82 c83, .bool false], .own (.slice A81 n82 c83) 3 1 n82 (s.2.2.flatMap (eI .i64)), .own (.slice A77 n78 c79) 3 1 n78 (x654.flatMap (eI .i64)), .box gb6 54 [.slice none 0 0, .slice none 0 0, .slice none 0 0, .bool false]] [Sm w.heap.size F w [], St w []]) s := by
                intro s hs
                refine Rounds.ind (mot := (fun (s : (List Int) × (List Int) × (List Int)) => ∀ (A767 : Option Addr) (n768 : Nat) (c769 : Nat) (h770 : Ow w.heap.size A767 n768 c769 s.1) (A772 : Option Addr) (n773 : Nat) (c774 : Nat) (h775 : Ow w.heap.size A772 n773 c774 s.2.1) (h777 : Ow w.heap.size A81 n82 c83 s.2.2), G (tree_plant_C w F r) [.code tree_plant_c43, .inLoop tree_plant_c43, .inBlock 2, .inBlock 1, .code tree_plant_c20, .inLoop tree_plant_c12, .inBlock 0, .code tree_plant_c8] [(2, .pointer (some ⟨gb6, 0, none⟩)), (3, .pointer (some ⟨gb76, 0, none⟩)), (4, .slice A767 n768 c769), (5, .slice A772 n773 c774), (6, .int .i64 x355), (16, .slice A2 n3 c4), (17, .int .i64 (x1.length : Int)), (18, .int .i64 x355)] [.own (.slice A767 n768 c769) 3 1 n768 (s.1.flatMap (eI .i64)), .own (.slice A772 n773 c774) 3 1 n773 (s.2.1.flatMap (eI .i64)), .box gb76 54 [.slice A2 n3 c4, .slice A77 n78 c79, .slice A81 n82 c83, .bool false], .own (.slice A81 n82 c83) 3 1 n82 (s.2.2.flatMap (eI .i64)), .own (.slice A77 n78 c79) 3 1 n78 (x654.flatMap (eI .i64)), .box gb6 54 [.slice none 0 0, .slice none 0 0, .slice none 0 0, .bool false]] [Sm w.heap.size F w [], St w []])) ?_ hs
                clear hs s
                intro s o2 h hO2
                obtain ⟨x766, x771, x776⟩ := s
                show ∀ (A767 : Option Addr) (n768 : Nat) (c769 : Nat) (h770 : Ow w.heap.size A767 n768 c769 x766) (A772 : Option Addr) (n773 : Nat) (c774 : Nat) (h775 : Ow w.heap.size A772 n773 c774 x771) (h777 : Ow w.heap.size A81 n82 c83 x776), G (tree_plant_C w F r) [.code tree_plant_c43, .inLoop tree_plant_c43, .inBlock 2, .inBlock 1, .code tree_plant_c20, .inLoop tree_plant_c12, .inBlock 0, .code tree_plant_c8] [(2, .pointer (some ⟨gb6, 0, none⟩)), (3, .pointer (some ⟨gb76, 0, none⟩)), (4, .slice A767 n768 c769), (5, .slice A772 n773 c774), (6, .int .i64 x355), (16, .slice A2 n3 c4), (17, .int .i64 (x1.length : Int)), (18, .int .i64 x355)] [.own (.slice A767 n768 c769) 3 1 n768 (x766.flatMap (eI .i64)), .own (.slice A772 n773 c774) 3 1 n773 (x771.flatMap (eI .i64)), .box gb76 54 [.slice A2 n3 c4, .slice A77 n78 c79, .slice A81 n82 c83, .bool false], .own (.slice A81 n82 c83) 3 1 n82 (x776.flatMap (eI .i64)), .own (.slice A77 n78 c79) 3 1 n78 (x654.flatMap (eI .i64)), .box gb6 54 [.slice none 0 0, .slice none 0 0, .slice none 0 0, .bool false]] [Sm w.heap.size F w [], St w []]
                intro A767 n768 c769 h770 A772 n773 c774 h775 h777
                have h : tree_plant_b3 x355 x654 x766 x771 x776 o2 := h
                unfold tree_plant_b3 at h
                refine g_seq (c := tree_plant_c43) rfl ?_
                refine g_seq (c := tree_plant_c44) rfl ?_
                refine g_region (c := tree_plant_c46) rfl rfl ?_
                refine wl_v 0 rfl (v_move rfl) gn rfl ?_
                refine wl_v 1 rfl (v_lenQ un_45 rfl h770.hq) gn rfl ?_
                refine wl_v 2 rfl (v_bin rfl rfl rfl) gn rfl ?_
                refine wl_v 3 rfl (v_move rfl) gn rfl ?_
                by_cases hp806 : (x766.length : Int) > 0
                · have h := if_pos' hp806 h
                  refine w_bool 64 rfl ((decide_eq_true hp806)) ?_
                  refine wl_v 4 rfl (v_move rfl) (gy 64 rfl rfl) rfl ?_
                  refine wl_v 5 rfl (v_move rfl) (gy 64 rfl rfl) rfl ?_
                  refine wl_v 6 rfl (v_lenQ un_45 rfl h775.hq) (gy 64 rfl rfl) rfl ?_
                  refine wl_v 7 rfl (v_bin rfl rfl rfl) (gy 64 rfl rfl) rfl ?_
                  obtain ⟨hb807, h⟩ := h
                  refine wl_v 8 rfl (v_idxO slE_45 rfl rfl h775 hb807) (gy 64 rfl rfl) rfl ?_
                  refine wl_v 9 rfl (v_ldO1 (.int .i64 (ix x771 (w64 ((x771.length : Int) - 1)))) 1 ld_3 rfl rfl (fm_get0 (hlI .i64) hb807 rfl)) (gy 64 rfl rfl) rfl ?_
                  refine wl_v 10 rfl (v_bin rfl rfl rfl) (gy 64 rfl rfl) rfl ?_
                  refine wl_v 11 rfl (v_pick (b := true) rfl rfl) gn rfl ?_
                  refine w_end 12 rfl ?_
                  by_cases hp808 : ix x771 (w64 ((x771.length : Int) - 1)) = 0
                  · have h := if_pos' hp808 h
                    refine g_true (c := tree_plant_c47) rfl _ rfl ((eqi hp808)) ?_
                    refine g_skip (c := tree_plant_c48) rfl ?_
                    refine g_block (c := tree_plant_c45) rfl ?_
                    refine g_seq (c := tree_plant_c50) rfl ?_
                    obtain ⟨hb809, h⟩ := h
                    obtain ⟨hb810, h⟩ := h
                    obtain ⟨x811, hv812, h⟩ := h
                    have hns : Region.noSelect (Code.ops tree_plant_c51) = true := by kernel_rfl
                    refine g_drawF (c := tree_plant_c51) [.own (.slice A767 n768 c769) 3 1 n768 (x766.flatMap (eI .i64)), .own (.slice A772 n773 c774) 3 1 n773 (x771.flatMap (eI .i64)), .box gb76 54 [.slice A2 n3 c4, .slice A77 n78 c79, .slice A81 n82 c83, .bool false], .own (.slice A81 n82 c83) 3 1 n82 (x776.flatMap (eI .i64)), .own (.slice A77 n78 c79) 3 1 n78 (x654.flatMap (eI .i64)), .box gb6 54 [.slice none 0 0, .slice none 0 0, .slice none 0 0, .bool false]] [Sm w.heap.size F w [], St w []] [11] 12 rfl rfl mix rfl (.cons_cons _ (.cons_cons _ (.cons_cons _ (.cons_cons _ (.cons_cons _ (.cons_cons _ (.slnil))))))) (sels [0, 1] rfl) ?_
                    refine wf_v 0 rfl (v_fldB fo_54_2 rfl) gn rfl hns (by kernel_rfl) (by kernel_rfl) (by kernel_rfl) rfl ?_
                    refine wf_v 1 rfl (v_ldB1 2 ld_45 rfl rfl rfl) gn rfl hns (by kernel_rfl) (by kernel_rfl) (by kernel_rfl) rfl ?_
                    refine wf_v 2 rfl (v_move rfl) gn rfl hns (by kernel_rfl) (by kernel_rfl) (by kernel_rfl) rfl ?_
                    refine wf_v 3 rfl (v_move rfl) gn rfl hns (by kernel_rfl) (by kernel_rfl) (by kernel_rfl) rfl ?_
                    refine wf_v 4 rfl (v_lenQ un_45 rfl h770.hq) gn rfl hns (by kernel_rfl) (by kernel_rfl) (by kernel_rfl) rfl ?_
                    refine wf_v 5 rfl (v_bin rfl rfl rfl) gn rfl hns (by kernel_rfl) (by kernel_rfl) (by kernel_rfl) rfl ?_
                    refine wf_v 6 rfl (v_idxO slE_45 rfl rfl h770 hb809) gn rfl hns (by kernel_rfl) (by kernel_rfl) (by kernel_rfl) rfl ?_
                    refine wf_v 7 rfl (v_ldO1 (.int .i64 (ix x766 (w64 ((x766.length : Int) - 1)))) 0 ld_3 rfl rfl (fm_get0 (hlI .i64) hb809 rfl)) gn rfl hns (by kernel_rfl) (by kernel_rfl) (by kernel_rfl) rfl ?_
                    refine wf_v 8 rfl (v_move rfl) gn rfl hns (by kernel_rfl) (by kernel_rfl) (by kernel_rfl) rfl ?_
                    refine wf_v 9 rfl (v_bin rfl rfl rfl) gn rfl hns (by kernel_rfl) (by kernel_rfl) (by kernel_rfl) rfl ?_
                    refine wf_v 10 rfl (v_idxO slE_45 rfl rfl h777 hb810) gn rfl hns (by kernel_rfl) (by kernel_rfl) (by kernel_rfl) rfl ?_
                    refine wf_all [11] (by kernel_rfl) rfl ⟨on_l 11 rfl gn rfl (s_stF (enc := (eI .i64)) (o := 0) (z := (w64 (x355 + 1))) (vs := [.int .i64 (w64 (x355 + 1))]) (i := (ix x766 (w64 ((x766.length : Int) - 1)))) 3 (hlI .i64) sz_3 rfl rfl rfl rfl rfl h777 hb810 rfl rfl rfl hv812 fun h815 => ?_), trivial⟩
                    unfold NxL
                    refine wf_end (by kernel_rfl) ?_
                    obtain ⟨hb816, h⟩ := h
                    obtain ⟨x818, hv819, h⟩ := h
                    obtain ⟨hb821, h⟩ := h
                    obtain ⟨x823, hv824, h⟩ := h
                    have hns : Region.noSelect (Code.ops tree_plant_c52) = true := by kernel_rfl
                    refine g_drawF (c := tree_plant_c52) [.own (.slice A767 n768 c769) 3 1 n768 (x766.flatMap (eI .i64)), .own (.slice A772 n773 c774) 3 1 n773 (x771.flatMap (eI .i64)), .box gb76 54 [.slice A2 n3 c4, .slice A77 n78 c79, .slice A81 n82 c83, .bool false], .own (.slice A81 n82 c83) 3 1 n82 (x811.flatMap (eI .i64)), .own (.slice A77 n78 c79) 3 1 n78 (x654.flatMap (eI .i64)), .box gb6 54 [.slice none 0 0, .slice none 0 0, .slice none 0 0, .bool false]] [Sm w.heap.size F w [], St w []] [] 12 rfl rfl mix rfl (.cons_cons _ (.cons_cons _ (.cons_cons _ (.cons_cons _ (.cons_cons _ (.cons_cons _ (.slnil))))))) (sels [0, 1] rfl) ?_
                    refine wf_v 0 rfl (v_move rfl) gn rfl hns (by kernel_rfl) (by kernel_rfl) rfl rfl ?_
                    refine wf_v 1 rfl (v_move rfl) gn rfl hns (by kernel_rfl) (by kernel_rfl) rfl rfl ?_
                    refine wf_v 2 rfl (v_lenQ un_45 rfl h770.hq) gn rfl hns (by kernel_rfl) (by kernel_rfl) rfl rfl ?_
                    refine wf_v 3 rfl (v_bin rfl rfl rfl) gn rfl hns (by kernel_rfl) (by kernel_rfl) rfl rfl ?_
                    have hle830 : (w64 ((x766.length : Int) - 1) : Int).toNat ≤ n768 := by have q := hb816; have q1 := h770.hq; omega
                    have h831 : Ow w.heap.size A767 (w64 ((x766.length : Int) - 1) : Int).toNat c769 x818 := Ow.w (Ow.cut h770 hle830) (by rw [hv819])
                    refine wf_v 4 rfl (v_cutHi (i := w64 ((x766.length : Int) - 1)) slE_45 rfl rfl (by have q := hb816; have q1 := h770.hq; have q2 := h770.hn; omega) h770.hn rfl) gn rfl hns (by kernel_rfl) (by kernel_rfl) rfl rfl ?_
                    refine wf_v 5 rfl (v_move rfl) gn rfl hns (by kernel_rfl) (by kernel_rfl) rfl rfl ?_
                    refine wf_v 6 rfl (v_move rfl) gn rfl hns (by kernel_rfl) (by kernel_rfl) rfl rfl ?_
                    refine wf_v 7 rfl (v_lenQ un_45 rfl h775.hq) gn rfl hns (by kernel_rfl) (by kernel_rfl) rfl rfl ?_
                    refine wf_v 8 rfl (v_bin rfl rfl rfl) gn rfl hns (by kernel_rfl) (by kernel_rfl) rfl rfl ?_
                    have hle832 : (w64 ((x771.length : Int) - 1) : Int).toNat ≤ n773 := by have q := hb821; have q1 := h775.hq; omega
                    have h833 : Ow w.heap.size A772 (w64 ((x771.length : Int) - 1) : Int).toNat c774 x823 := Ow.w (Ow.cut h775 hle832) (by rw [hv824])
                    refine wf_v 9 rfl (v_cutHi (i := w64 ((x771.length : Int) - 1)) slE_45 rfl rfl (by have q := hb821; have q1 := h775.hq; have q2 := h775.hn; omega) h775.hn rfl) gn rfl hns (by kernel_rfl) (by kernel_rfl) rfl rfl ?_
                    refine wf_v 10 rfl (v_assign rfl) gn rfl hns (by kernel_rfl) (by kernel_rfl) rfl rfl ?_
                    refine wf_v 11 rfl (v_assign rfl) gn rfl hns (by kernel_rfl) (by kernel_rfl) rfl rfl ?_
                    refine wf_end (by kernel_rfl) ?_
                    refine g_inBlock ?_
                    refine g_inLoop ?_
                    have h834 : Ow w.heap.size A767 ((w64 ((x766.length : Int) - 1) : Int).toNat) c769 x818 := (Ow.w (Ow.cut h770 hle830) (by rw [hv819]))
                    refine g_short (j := 0) (m := ((w64 ((x766.length : Int) - 1) : Int).toNat)) (cells' := x818.flatMap (eI .i64)) rfl hle830 (by rw [fm_take (hlI .i64), hv819]) ?_
                    have h835 : Ow w.heap.size A772 ((w64 ((x771.length : Int) - 1) : Int).toNat) c774 x823 := (Ow.w (Ow.cut h775 hle832) (by rw [hv824]))
                    refine g_short (j := 1) (m := ((w64 ((x771.length : Int) - 1) : Int).toNat)) (cells' := x823.flatMap (eI .i64)) rfl hle832 (by rw [fm_take (hlI .i64), hv824]) ?_
                    have ih := Out.inl hO2 h
                    exact g_go [0, 1] (ih A767 ((w64 ((x766.length : Int) - 1) : Int).toNat) c769 h834 A772 ((w64 ((x771.length : Int) - 1) : Int).toNat) c774 h835 h815) ⟨rfl, rfl, rfl, rfl, rfl, rfl, rfl, rfl, trivial⟩ (.cons_cons _ (.cons_cons _ (.cons_cons _ (.cons_cons _ (.cons_cons _ (.cons_cons _ (.slnil))))))) rfl
                  · have h := if_neg' hp808 h
                    refine g_false (c := tree_plant_c47) rfl _ rfl ((nei hp808)) ?_
                    refine g_exit (c := tree_plant_c49) [.inBlock 1, .code tree_plant_c20, .inLoop tree_plant_c12, .inBlock 0, .code tree_plant_c8] rfl rfl ?_
                    refine g_inBlock ?_
                    refine g_region (c := tree_plant_c20) rfl rfl ?_
                    refine wl_v 0 rfl (v_bin rfl rfl rfl) gn rfl ?_
                    refine wl_v 1 rfl (v_move rfl) gn rfl ?_
                    refine w_end 2 rfl ?_
                    refine g_inLoop ?_
                    have h := Out.inr hO2 h
                    have ih := Out.inl hO1 h
                    exact g_go [0, 1] (ih A767 n768 c769 h770 A772 n773 c774 h775 h655 h777) ⟨rfl, rfl, rfl, rfl, rfl, rfl, rfl, trivial⟩ (.cons_cons _ (.cons_cons _ (.cons_cons _ (.cons_cons _ (.cons_cons _ (.cons_cons _ (.slnil))))))) rfl
                · have h := if_neg' hp806 h
                  refine w_bool 64 rfl ((decide_eq_false hp806)) ?_
                  refine wl_pass 4 rfl (ps 64 rfl rfl rfl) ?_
                  refine wl_pass 5 rfl (ps 64 rfl rfl rfl) ?_
                  refine wl_pass 6 rfl (ps 64 rfl rfl rfl) ?_
                  refine wl_pass 7 rfl (ps 64 rfl rfl rfl) ?_
                  refine wl_pass 8 rfl (ps 64 rfl rfl rfl) ?_
                  refine wl_pass 9 rfl (ps 64 rfl rfl rfl) ?_
                  refine wl_pass 10 rfl (ps 64 rfl rfl rfl) ?_
                  refine wl_v 11 rfl (v_pick (b := false) rfl rfl) gn rfl ?_
                  refine w_end 12 rfl ?_
                  refine g_false (c := tree_plant_c47) rfl _ rfl (rfl) ?_
                  refine g_exit (c := tree_plant_c49) [.inBlock 1, .code tree_plant_c20, .inLoop tree_plant_c12, .inBlock 0, .code tree_plant_c8] rfl rfl ?_
                  refine g_inBlock ?_
                  refine g_region (c := tree_plant_c20) rfl rfl ?_
                  refine wl_v 0 rfl (v_bin rfl rfl rfl) gn rfl ?_
                  refine wl_v 1 rfl (v_move rfl) gn rfl ?_
                  refine w_end 2 rfl ?_
                  refine g_inLoop ?_
                  have h := Out.inr hO2 h
                  have ih := Out.inl hO1 h
                  exact g_go [0, 1] (ih A767 n768 c769 h770 A772 n773 c774 h775 h655 h777) ⟨rfl, rfl, rfl, rfl, rfl, rfl, rfl, trivial⟩ (.cons_cons _ (.cons_cons _ (.cons_cons _ (.cons_cons _ (.cons_cons _ (.cons_cons _ (.slnil))))))) rfl
              exact g_go [0, 1] (key3 _ h A729 n730 c731 h732 A733 n734 c735 h736 h359) ⟨rfl, rfl, rfl, rfl, rfl, rfl, rfl, rfl, trivial⟩ (.cons_cons _ (.cons_cons _ (.cons_cons _ (.cons_cons _ (.cons_cons _ (.cons_cons _ (.slnil))))))) rfl
            have hns : Region.noSelect (Code.ops tree_plant_c40) = true := by kernel_rfl
            refine g_drawF (c := tree_plant_c40) [.box gb633 39 [.string ((ix x1 x355).name), .bool ((ix x1 x355).named), .string ((ix x1 x355).field), .int .i64 ((ix x1 x355).from_), .int .i64 ((ix x1 x355).to), .int .i64 ((ix x1 x355).kids), .int .i64 ((ix x1 x355).leaf)], .own (.slice A351 n352 c353) 3 1 n352 (x652.flatMap (eI .i64)), .box gb76 54 [.slice A2 n3 c4, .slice A77 n78 c79, .slice A81 n82 c83, .bool false], .own (.slice A81 n82 c83) 3 1 n82 (x358.flatMap (eI .i64)), .own (.slice A77 n78 c79) 3 1 n78 (x654.flatMap (eI .i64)), .box gb6 54 [.slice none 0 0, .slice none 0 0, .slice none 0 0, .bool false]] [Sm w.heap.size F w [], St w []] [8, 9, 10] 11 rfl rfl mix rfl (.cons_cons _ (.cons _ (.cons_cons _ (.cons_cons _ (.cons_cons _ (.cons_cons _ (.cons_cons _ (.slnil)))))))) (sels [0, 1] rfl) ?_
            refine wf_v 0 rfl (v_move rfl) gn rfl hns (by kernel_rfl) (by kernel_rfl) (by kernel_rfl) rfl ?_
            refine wf_v 1 rfl (v_move rfl) gn rfl hns (by kernel_rfl) (by kernel_rfl) (by kernel_rfl) rfl ?_
            refine wf_v 4 rfl (v_move rfl) gn rfl hns (by kernel_rfl) (by kernel_rfl) (by kernel_rfl) rfl ?_
            refine wf_v 5 rfl (v_fldB fo_39_5 rfl) gn rfl hns (by kernel_rfl) (by kernel_rfl) (by kernel_rfl) rfl ?_
            refine wf_v 6 rfl (v_ldB1 0 ld_3 rfl rfl rfl) gn rfl hns (by kernel_rfl) (by kernel_rfl) (by kernel_rfl) rfl ?_
            refine wf_all [2, 7] (by kernel_rfl) rfl ⟨?_, ?_, trivial⟩
            · refine on_s 2 rfl gn rfl (s_litO (xs := ([x355] : List Int)) [.int .i64 x355] bs_45_1 rfl (by kernel_rfl) rfl rfl rfl rfl fun gb846 h847 => ?_)
              refine ⟨sels [1, 3, 4, 5, 6, 7] rfl, sels [0, 1] rfl, ?_⟩
              refine wf_all [3, 7] (by kernel_rfl) rfl ⟨?_, ?_, trivial⟩
              · refine on_s 3 rfl gn rfl (s_app (zs := x663) (cells' := x663.flatMap (eI .i64)) 2 ap_45 rfl rfl rfl h349 (Nat.le_refl _) (Src.ownF (hl := (hlI .i64)) (h1 := (hone_int .i64)) 0 rfl h847) (by rw [hv664, List.flatMap_append] <;> rfl) (app_len hv664 h847.hq) hb665 rfl rfl fun A853 c854 h855 => ?_)
                refine ⟨sels [1, 3, 4, 5, 6, 7] rfl, sels [0, 1] rfl, ?_⟩
                refine wf_all [7] (by kernel_rfl) rfl ⟨on_s 7 rfl gn rfl (s_litO (xs := ([(ix x1 x355).kids] : List Int)) [.int .i64 ((ix x1 x355).kids)] bs_45_1 rfl (by kernel_rfl) rfl rfl rfl rfl fun gb858 h859 => ?_), trivial⟩
                refine ⟨sels [2, 4, 5, 6, 7, 8] rfl, sels [0, 1] rfl, ?_⟩
                refine wf_all [8] (by kernel_rfl) rfl ⟨on_l 8 rfl gn rfl (s_app (zs := x672) (cells' := x672.flatMap (eI .i64)) 4 ap_45 rfl rfl rfl h653 (Nat.le_refl _) (Src.ownF (hl := (hlI .i64)) (h1 := (hone_int .i64)) 0 rfl h859) (by rw [hv673, List.flatMap_append] <;> rfl) (app_len hv673 h859.hq) hb674 rfl rfl fun A860 c861 h862 => ?_), trivial⟩
                unfold NxL
                refine wf_all [9] (by kernel_rfl) rfl ⟨on_l 9 rfl gn rfl (s_val (v_assign rfl) rfl ?_), trivial⟩
                unfold NxL
                refine wf_all [10] (by kernel_rfl) rfl ⟨on_l 10 rfl gn rfl (s_val (v_assign rfl) rfl ?_), trivial⟩
                unfold NxL
                refine wf_end (by kernel_rfl) ?_
                exact g_go [0, 1] (d4 A853 (n347 + 1) c854 h855 A860 (n352 + 1) c861 h862) ⟨rfl, rfl, rfl, rfl, rfl, rfl, rfl, rfl, trivial⟩ (.cons _ (.cons _ (.cons _ (.cons_cons _ (.cons_cons _ (.cons_cons _ (.cons_cons _ (.cons_cons _ (.cons_cons _ (.slnil)))))))))) rfl
              · refine on_s 7 rfl gn rfl (s_litO (xs := ([(ix x1 x355).kids] : List Int)) [.int .i64 ((ix x1 x355).kids)] bs_45_1 rfl (by kernel_rfl) rfl rfl rfl rfl fun gb863 h864 => ?_)
                refine ⟨sels [2, 4, 5, 6, 7, 8] rfl, sels [0, 1] rfl, ?_⟩
                refine wf_all [3] (by kernel_rfl) rfl ⟨on_s 3 rfl gn rfl (s_app (zs := x663) (cells' := x663.flatMap (eI .i64)) 3 ap_45 rfl rfl rfl h349 (Nat.le_refl _) (Src.ownF (hl := (hlI .i64)) (h1 := (hone_int .i64)) 1 rfl h847) (by rw [hv664, List.flatMap_append] <;> rfl) (app_len hv664 h847.hq) hb665 rfl rfl fun A868 c869 h870 => ?_), trivial⟩
                refine ⟨sels [2, 4, 5, 6, 7, 8] rfl, sels [0, 1] rfl, ?_⟩
                refine wf_all [8] (by kernel_rfl) rfl ⟨on_l 8 rfl gn rfl (s_app (zs := x672) (cells' := x672.flatMap (eI .i64)) 4 ap_45 rfl rfl rfl h653 (Nat.le_refl _) (Src.ownF (hl := (hlI .i64)) (h1 := (hone_int .i64)) 0 rfl h864) (by rw [hv673, List.flatMap_append] <;> rfl) (app_len hv673 h864.hq) hb674 rfl rfl fun A871 c872 h873 => ?_), trivial⟩
                unfold NxL
                refine wf_all [9] (by kernel_rfl) rfl ⟨on_l 9 rfl gn rfl (s_val (v_assign rfl) rfl ?_), trivial⟩
                unfold NxL
                refine wf_all [10] (by kernel_rfl) rfl ⟨on_l 10 rfl gn rfl (s_val (v_assign rfl) rfl ?_), trivial⟩
                unfold NxL
                refine wf_end (by kernel_rfl) ?_
                exact g_go [0, 1] (d4 A868 (n347 + 1) c869 h870 A871 (n352 + 1) c872 h873) ⟨rfl, rfl, rfl, rfl, rfl, rfl, rfl, rfl, trivial⟩ (.cons _ (.cons _ (.cons _ (.cons_cons _ (.cons_cons _ (.cons_cons _ (.cons_cons _ (.cons_cons _ (.cons_cons _ (.slnil)))))))))) rfl
            · refine on_s 7 rfl gn rfl (s_litO (xs := ([(ix x1 x355).kids] : List Int)) [.int .i64 ((ix x1 x355).kids)] bs_45_1 rfl (by kernel_rfl) rfl rfl rfl rfl fun gb874 h875 => ?_)
              refine ⟨sels [1, 3, 4, 5, 6, 7] rfl, sels [0, 1] rfl, ?_⟩
              refine wf_all [2] (by kernel_rfl) rfl ⟨on_s 2 rfl gn rfl (s_litO (xs := ([x355] : List Int)) [.int .i64 x355] bs_45_1 rfl (by kernel_rfl) rfl rfl rfl rfl fun gb878 h879 => ?_), trivial⟩
              refine ⟨sels [2, 4, 5, 6, 7, 8] rfl, sels [0, 1] rfl, ?_⟩
              refine wf_all [3] (by kernel_rfl) rfl ⟨on_s 3 rfl gn rfl (s_app (zs := x663) (cells' := x663.flatMap (eI .i64)) 3 ap_45 rfl rfl rfl h349 (Nat.le_refl _) (Src.ownF (hl := (hlI .i64)) (h1 := (hone_int .i64)) 0 rfl h879) (by rw [hv664, List.flatMap_append] <;> rfl) (app_len hv664 h879.hq) hb665 rfl rfl fun A883 c884 h885 => ?_), trivial⟩
              refine ⟨sels [2, 4, 5, 6, 7, 8] rfl, sels [0, 1] rfl, ?_⟩
              refine wf_all [8] (by kernel_rfl) rfl ⟨on_l 8 rfl gn rfl (s_app (zs := x672) (cells' := x672.flatMap (eI .i64)) 4 ap_45 rfl rfl rfl h653 (Nat.le_refl _) (Src.ownF (hl := (hlI .i64)) (h1 := (hone_int .i64)) 1 rfl h875) (by rw [hv673, List.flatMap_append] <;> rfl) (app_len hv673 h875.hq) hb674 rfl rfl fun A886 c887 h888 => ?_), trivial⟩
              unfold NxL
              refine wf_all [9] (by kernel_rfl) rfl ⟨on_l 9 rfl gn rfl (s_val (v_assign rfl) rfl ?_), trivial⟩
              unfold NxL
              refine wf_all [10] (by kernel_rfl) rfl ⟨on_l 10 rfl gn rfl (s_val (v_assign rfl) rfl ?_), trivial⟩
              unfold NxL
              refine wf_end (by kernel_rfl) ?_
              exact g_go [0, 1] (d4 A883 (n347 + 1) c884 h885 A886 (n352 + 1) c887 h888) ⟨rfl, rfl, rfl, rfl, rfl, rfl, rfl, rfl, trivial⟩ (.cons _ (.cons _ (.cons _ (.cons_cons _ (.cons_cons _ (.cons_cons _ (.cons_cons _ (.cons_cons _ (.cons_cons _ (.slnil)))))))))) rfl
        by_cases hp639 : (x345.length : Int) > 0
        · have h := if_pos' hp639 h
          refine g_true (c := tree_plant_c29) rfl _ rfl ((decide_eq_true hp639)) ?_
          refine g_seq (c := tree_plant_c30) rfl ?_
          obtain ⟨hb889, h⟩ := h
          obtain ⟨hb890, h⟩ := h
          obtain ⟨x891, hv892, h⟩ := h
          have hns : Region.noSelect (Code.ops tree_plant_c57) = true := by kernel_rfl
          refine g_drawF (c := tree_plant_c57) [.box gb633 39 [.string ((ix x1 x355).name), .bool ((ix x1 x355).named), .string ((ix x1 x355).field), .int .i64 ((ix x1 x355).from_), .int .i64 ((ix x1 x355).to), .int .i64 ((ix x1 x355).kids), .int .i64 ((ix x1 x355).leaf)], .own (.slice A346 n347 c348) 3 1 n347 (x345.flatMap (eI .i64)), .own (.slice A351 n352 c353) 3 1 n352 (x350.flatMap (eI .i64)), .box gb76 54 [.slice A2 n3 c4, .slice A77 n78 c79, .slice A81 n82 c83, .bool false], .own (.slice A81 n82 c83) 3 1 n82 (x358.flatMap (eI .i64)), .own (.slice A77 n78 c79) 3 1 n78 (x636.flatMap (eI .i64)), .box gb6 54 [.slice none 0 0, .slice none 0 0, .slice none 0 0, .bool false]] [Sm w.heap.size F w [], St w []] [10] 11 rfl rfl mix rfl (.cons_cons _ (.cons_cons _ (.cons_cons _ (.cons_cons _ (.cons_cons _ (.cons_cons _ (.cons_cons _ (.slnil)))))))) (sels [0, 1] rfl) ?_
          refine wf_v 0 rfl (v_fldB fo_54_1 rfl) gn rfl hns (by kernel_rfl) (by kernel_rfl) (by kernel_rfl) rfl ?_
          refine wf_v 1 rfl (v_ldB1 3 ld_45 rfl rfl rfl) gn rfl hns (by kernel_rfl) (by kernel_rfl) (by kernel_rfl) rfl ?_
          refine wf_v 2 rfl (v_move rfl) gn rfl hns (by kernel_rfl) (by kernel_rfl) (by kernel_rfl) rfl ?_
          refine wf_v 3 rfl (v_move rfl) gn rfl hns (by kernel_rfl) (by kernel_rfl) (by kernel_rfl) rfl ?_
          refine wf_v 4 rfl (v_move rfl) gn rfl hns (by kernel_rfl) (by kernel_rfl) (by kernel_rfl) rfl ?_
          refine wf_v 5 rfl (v_lenQ un_45 rfl h349.hq) gn rfl hns (by kernel_rfl) (by kernel_rfl) (by kernel_rfl) rfl ?_
          refine wf_v 6 rfl (v_bin rfl rfl rfl) gn rfl hns (by kernel_rfl) (by kernel_rfl) (by kernel_rfl) rfl ?_
          refine wf_v 7 rfl (v_idxO slE_45 rfl rfl h349 hb889) gn rfl hns (by kernel_rfl) (by kernel_rfl) (by kernel_rfl) rfl ?_
          refine wf_v 8 rfl (v_ldO1 (.int .i64 (ix x345 (w64 ((x345.length : Int) - 1)))) 1 ld_3 rfl rfl (fm_get0 (hlI .i64) hb889 rfl)) gn rfl hns (by kernel_rfl) (by kernel_rfl) (by kernel_rfl) rfl ?_
          refine wf_v 9 rfl (v_idxO slE_45 rfl rfl h638 hb890) gn rfl hns (by kernel_rfl) (by kernel_rfl) (by kernel_rfl) rfl ?_
          refine wf_all [10] (by kernel_rfl) rfl ⟨on_l 10 rfl gn rfl (s_stF (enc := (eI .i64)) (o := 0) (z := (ix x345 (w64 ((x345.length : Int) - 1)))) (vs := [.int .i64 (ix x345 (w64 ((x345.length : Int) - 1)))]) (i := x355) 5 (hlI .i64) sz_3 rfl rfl rfl rfl rfl h638 hb890 rfl rfl rfl hv892 fun h895 => ?_), trivial⟩
          unfold NxL
          refine wf_end (by kernel_rfl) ?_
          refine g_region (c := tree_plant_c58) rfl rfl ?_
          refine wl_v 0 rfl (v_move rfl) gn rfl ?_
          refine wl_v 1 rfl (v_move rfl) gn rfl ?_
          refine wl_v 2 rfl (v_lenQ un_45 rfl h354.hq) gn rfl ?_
          refine wl_v 3 rfl (v_bin rfl rfl rfl) gn rfl ?_
          obtain ⟨hb896, h⟩ := h
          refine wl_v 4 rfl (v_idxO slE_45 rfl rfl h354 hb896) gn rfl ?_
          refine wl_v 5 rfl (v_ldO1 (.int .i64 (ix x350 (w64 ((x350.length : Int) - 1)))) 2 ld_3 rfl rfl (fm_get0 (hlI .i64) hb896 rfl)) gn rfl ?_
          refine wl_v 6 rfl (v_bin rfl rfl rfl) gn rfl ?_
          refine wl_v 7 rfl (v_idxO slE_45 rfl rfl h354 hb896) gn rfl ?_
          obtain ⟨x897, hv898, h⟩ := h
          refine wl_s 8 rfl (s_stF (enc := (eI .i64)) (o := 0) (z := (w64 ((ix x350 (w64 ((x350.length : Int) - 1))) - 1))) (vs := [.int .i64 (w64 ((ix x350 (w64 ((x350.length : Int) - 1))) - 1))]) (i := (w64 ((x350.length : Int) - 1))) 2 (hlI .i64) sz_3 rfl rfl rfl rfl rfl h354 hb896 rfl rfl rfl hv898 fun h899 => ?_) gn
          refine w_end 9 rfl ?_
          exact g_go [0, 1] (j2 x897 x891 h h899 h895) ⟨rfl, rfl, rfl, rfl, rfl, rfl, rfl, rfl, rfl, trivial⟩ (.cons_cons _ (.cons_cons _ (.cons_cons _ (.cons_cons _ (.cons_cons _ (.cons_cons _ (.cons_cons _ (.slnil)))))))) rfl
        · have h := if_neg' hp639 h
          refine g_false (c := tree_plant_c29) rfl _ rfl ((decide_eq_false hp639)) ?_
          refine g_skip (c := tree_plant_c31) rfl ?_
          exact g_go [0, 1] (j2 x350 x636 h h354 h638) ⟨rfl, rfl, rfl, rfl, rfl, rfl, rfl, rfl, rfl, trivial⟩ (.cons_cons _ (.cons_cons _ (.cons_cons _ (.cons_cons _ (.cons_cons _ (.cons_cons _ (.cons_cons _ (.slnil)))))))) rfl
      · have h := if_neg' hp630 h
        refine g_false (c := tree_plant_c15) rfl _ rfl ((decide_eq_false hp630)) ?_
        refine g_exit (c := tree_plant_c18) [.code tree_plant_c8] rfl rfl ?_
        refine g_seq (c := tree_plant_c8) rfl ?_
        refine g_region (c := tree_plant_c53) rfl rfl ?_
        refine wl_v 0 rfl (v_move rfl) gn rfl ?_
        refine wl_v 1 rfl (v_lenQ un_45 rfl h349.hq) gn rfl ?_
        refine wl_v 2 rfl (v_bin rfl rfl rfl) gn rfl ?_
        refine wl_v 3 rfl (v_fldB fo_54_3 rfl) gn rfl ?_
        refine wl_s 4 rfl (s_stB (vs := [.bool ((x345.length : Int) == 0)]) (cs' := [.slice A2 n3 c4, .slice A77 n78 c79, .slice A81 n82 c83, .bool ((x345.length : Int) == 0)]) (M' := [.own (.slice A346 n347 c348) 3 1 n347 (x345.flatMap (eI .i64)), .own (.slice A351 n352 c353) 3 1 n352 (x350.flatMap (eI .i64)), .box gb76 54 [.slice A2 n3 c4, .slice A77 n78 c79, .slice A81 n82 c83, .bool ((x345.length : Int) == 0)], .own (.slice A81 n82 c83) 3 1 n82 (x358.flatMap (eI .i64)), .own (.slice A77 n78 c79) 3 1 n78 (x356.flatMap (eI .i64)), .box gb6 54 [.slice none 0 0, .slice none 0 0, .slice none 0 0, .bool false]]) 2 sz_4 rfl rfl rfl rfl rfl rfl rfl rfl rfl ?_) gn
        refine w_end 5 rfl ?_
        refine g_seq (c := tree_plant_c54) rfl ?_
        refine g_region (c := tree_plant_c55) rfl rfl ?_
        refine wl_v 0 rfl (v_ldB [.slice A2 n3 c4, .slice A77 n78 c79, .slice A81 n82 c83, .bool ((x345.length : Int) == 0)] 2 ld_54 rfl rfl rfl rfl) gn rfl ?_
        refine wl_s 1 rfl (s_stB (vs := [.slice A2 n3 c4, .slice A77 n78 c79, .slice A81 n82 c83, .bool ((x345.length : Int) == 0)]) (cs' := [.slice A2 n3 c4, .slice A77 n78 c79, .slice A81 n82 c83, .bool ((x345.length : Int) == 0)]) (M' := [.own (.slice A346 n347 c348) 3 1 n347 (x345.flatMap (eI .i64)), .own (.slice A351 n352 c353) 3 1 n352 (x350.flatMap (eI .i64)), .box gb76 54 [.slice A2 n3 c4, .slice A77 n78 c79, .slice A81 n82 c83, .bool ((x345.length : Int) == 0)], .own (.slice A81 n82 c83) 3 1 n82 (x358.flatMap (eI .i64)), .own (.slice A77 n78 c79) 3 1 n78 (x356.flatMap (eI .i64)), .box gb6 54 [.slice A2 n3 c4, .slice A77 n78 c79, .slice A81 n82 c83, .bool ((x345.length : Int) == 0)]]) 5 sz_54 rfl rfl rfl rfl rfl rfl rfl rfl rfl ?_) gn
        refine w_end 2 rfl ?_
        have h := Out.inr hO1 h
        refine g_retR (c := tree_plant_c56) [.agg #[.slice A2 n3 c4, .slice A77 n78 c79, .slice A81 n82 c83, .bool ((x345.length : Int) == 0)]] rfl Try.func43 rfl (.cell (cs := [.slice A2 n3 c4, .slice A77 n78 c79, .slice A81 n82 c83, .bool ((x345.length : Int) == 0)]) (us := [.slice A2 n3 c4, .slice A77 n78 c79, .slice A81 n82 c83, .bool ((x345.length : Int) == 0)]) 5 rfl ld_54 rfl rfl rfl (.nil)) fun wr hLr => ?_
        have hMr : B.Loc w wr [.own (.slice A77 n78 c79) 3 1 n78 (x356.flatMap (eI .i64)), .own (.slice A81 n82 c83) 3 1 n82 (x358.flatMap (eI .i64))] [St w []] := hLr.pick (rest := [.own (.slice A346 n347 c348) 3 1 n347 (x345.flatMap (eI .i64)), .own (.slice A351 n352 c353) 3 1 n352 (x350.flatMap (eI .i64)), .box gb76 54 [.slice A2 n3 c4, .slice A77 n78 c79, .slice A81 n82 c83, .bool ((x345.length : Int) == 0)], .box gb6 54 [.slice A2 n3 c4, .slice A77 n78 c79, .slice A81 n82 c83, .bool ((x345.length : Int) == 0)]]) (perm_of_idx [4, 3] [0, 1, 2, 5] rfl rfl (by kernel_rfl)) (sels [1] rfl)
        have hMi : ∀ e ∈ ([.own (.slice A77 n78 c79) 3 1 n78 (x356.flatMap (eI .i64)), .own (.slice A81 n82 c83) 3 1 n82 (x358.flatMap (eI .i64))] : List Ent), e ∈ ([.own (.slice A346 n347 c348) 3 1 n347 (x345.flatMap (eI .i64)), .own (.slice A351 n352 c353) 3 1 n352 (x350.flatMap (eI .i64)), .box gb76 54 [.slice A2 n3 c4, .slice A77 n78 c79, .slice A81 n82 c83, .bool ((x345.length : Int) == 0)], .own (.slice A81 n82 c83) 3 1 n82 (x358.flatMap (eI .i64)), .own (.slice A77 n78 c79) 3 1 n78 (x356.flatMap (eI .i64)), .box gb6 54 [.slice A2 n3 c4, .slice A77 n78 c79, .slice A81 n82 c83, .bool ((x345.length : Int) == 0)]] : List Ent) := sels [4, 3] rfl
        show tree_plant_R w F  r (.returned (packV [.agg #[.slice A2 n3 c4, .slice A77 n78 c79, .slice A81 n82 c83, .bool ((x345.length : Int) == 0)]])) wr
        rw [h]
        exact ⟨A77, n78, c79, A81, n82, c83, A2, n3, c4, rfl, hMr, h357, h359, (hLr.outR (s := Sm w.heap.size F w []) hMi (me 0 rfl) Sm.ok h5)⟩
    refine g_nil 3 1 ?_
    refine g_nil 3 1 ?_
    exact g_go [0, 1] (key1 _ h none 0 0 (Ow.nil (z := w.heap.size)) none 0 0 (Ow.nil (z := w.heap.size)) h80 h84) ⟨rfl, rfl, rfl, rfl, rfl, rfl, rfl, trivial⟩ (.cons_cons _ (.cons_cons _ (.cons_cons _ (.cons_cons _ (.cons_cons _ (.cons_cons _ (.slnil))))))) rfl
  have hns : Region.noSelect (Code.ops tree_plant_c3) = true := by kernel_rfl
  refine g_drawF (c := tree_plant_c3) [.box gb6 54 [.slice none 0 0, .slice none 0 0, .slice none 0 0, .bool false]] [Sm w.heap.size F w [], St w []] [] 10 rfl rfl mix rfl (.cons_cons _ (.slnil)) (sels [0, 1] rfl) ?_
  refine wf_v 0 rfl (v_move rfl) gn rfl hns (by kernel_rfl) (by kernel_rfl) rfl rfl ?_
  refine wf_v 1 rfl (v_move rfl) gn rfl hns (by kernel_rfl) (by kernel_rfl) rfl rfl ?_
  refine wf_v 2 rfl (v_lenQ un_22 rfl h5.hq) gn rfl hns (by kernel_rfl) (by kernel_rfl) rfl rfl ?_
  refine wf_v 4 rfl (v_move rfl) gn rfl hns (by kernel_rfl) (by kernel_rfl) rfl rfl ?_
  refine wf_v 5 rfl (v_lenQ un_22 rfl h5.hq) gn rfl hns (by kernel_rfl) (by kernel_rfl) rfl rfl ?_
  refine wf_all [3, 6, 8] (by kernel_rfl) rfl ⟨?_, ?_, ?_, trivial⟩
  · refine on_s 3 rfl gn rfl (s_makeX (enc := (eI .i64)) (z := 0) mk_45 rfl (by decide) rfl rfl hb8.1 hb8.2 (by decide) hv13 rfl fun A909 h910 => ?_)
    refine ⟨sels [1] rfl, sels [0, 1] rfl, ?_⟩
    refine wf_all [6, 8] (by kernel_rfl) rfl ⟨?_, ?_, trivial⟩
    · refine on_s 6 rfl gn rfl (s_makeX (enc := (eI .i64)) (z := 0) mk_45 rfl (by decide) rfl rfl hb8.1 hb8.2 (by decide) hv18 rfl fun A914 h915 => ?_)
      refine ⟨sels [2] rfl, sels [0, 1] rfl, ?_⟩
      refine wf_v 7 rfl (v_build #[.slice A2 n3 c4, .slice A909 (((x1.length : Int) : Int).toNat) (((x1.length : Int) : Int).toNat), .slice A914 (((x1.length : Int) : Int).toNat) (((x1.length : Int) : Int).toNat), .bool false] bd_54 rfl (by kernel_rfl)) gn rfl hns (by kernel_rfl) (by kernel_rfl) rfl rfl ?_
      refine wf_all [8] (by kernel_rfl) rfl ⟨on_s 8 rfl gn rfl (s_alloc [.slice none 0 0, .slice none 0 0, .slice none 0 0, .bool false] zr_54 rfl fun gb917 => ?_), trivial⟩
      refine ⟨sels [3] rfl, sels [0, 1] rfl, ?_⟩
      refine wf_all [9] (by kernel_rfl) rfl ⟨on_s 9 rfl gn rfl (s_stB (vs := [.slice A2 n3 c4, .slice A909 (((x1.length : Int) : Int).toNat) (((x1.length : Int) : Int).toNat), .slice A914 (((x1.length : Int) : Int).toNat) (((x1.length : Int) : Int).toNat), .bool false]) (cs' := [.slice A2 n3 c4, .slice A909 (((x1.length : Int) : Int).toNat) (((x1.length : Int) : Int).toNat), .slice A914 (((x1.length : Int) : Int).toNat) (((x1.length : Int) : Int).toNat), .bool false]) (M' := [.box gb917 54 [.slice A2 n3 c4, .slice A909 (((x1.length : Int) : Int).toNat) (((x1.length : Int) : Int).toNat), .slice A914 (((x1.length : Int) : Int).toNat) (((x1.length : Int) : Int).toNat), .bool false], .own (.slice A914 (((x1.length : Int) : Int).toNat) (((x1.length : Int) : Int).toNat)) 3 1 (((x1.length : Int) : Int).toNat) (x17.flatMap (eI .i64)), .own (.slice A909 (((x1.length : Int) : Int).toNat) (((x1.length : Int) : Int).toNat)) 3 1 (((x1.length : Int) : Int).toNat) (x12.flatMap (eI .i64)), .box gb6 54 [.slice none 0 0, .slice none 0 0, .slice none 0 0, .bool false]]) 0 sz_54 rfl rfl rfl rfl rfl rfl rfl rfl rfl ?_), trivial⟩
      refine ⟨sels [3] rfl, sels [0, 1] rfl, ?_⟩
      refine wf_end (by kernel_rfl) ?_
      exact g_go [0, 1] (d1 gb917 A909 (((x1.length : Int) : Int).toNat) (((x1.length : Int) : Int).toNat) h910 A914 (((x1.length : Int) : Int).toNat) (((x1.length : Int) : Int).toNat) h915) ⟨rfl, rfl, rfl, trivial⟩ (.cons_cons _ (.cons_cons _ (.cons_cons _ (.cons_cons _ (.slnil))))) rfl
    · refine on_s 8 rfl gn rfl (s_alloc [.slice none 0 0, .slice none 0 0, .slice none 0 0, .bool false] zr_54 rfl fun gb918 => ?_)
      refine ⟨sels [2] rfl, sels [0, 1] rfl, ?_⟩
      refine wf_all [6] (by kernel_rfl) rfl ⟨on_s 6 rfl gn rfl (s_makeX (enc := (eI .i64)) (z := 0) mk_45 rfl (by decide) rfl rfl hb8.1 hb8.2 (by decide) hv18 rfl fun A921 h922 => ?_), trivial⟩
      refine ⟨sels [3] rfl, sels [0, 1] rfl, ?_⟩
      refine wf_v 7 rfl (v_build #[.slice A2 n3 c4, .slice A909 (((x1.length : Int) : Int).toNat) (((x1.length : Int) : Int).toNat), .slice A921 (((x1.length : Int) : Int).toNat) (((x1.length : Int) : Int).toNat), .bool false] bd_54 rfl (by kernel_rfl)) gn rfl hns (by kernel_rfl) (by kernel_rfl) rfl rfl ?_
      refine wf_all [9] (by kernel_rfl) rfl ⟨on_s 9 rfl gn rfl (s_stB (vs := [.slice A2 n3 c4, .slice A909 (((x1.length : Int) : Int).toNat) (((x1.length : Int) : Int).toNat), .slice A921 (((x1.length : Int) : Int).toNat) (((x1.length : Int) : Int).toNat), .bool false]) (cs' := [.slice A2 n3 c4, .slice A909 (((x1.length : Int) : Int).toNat) (((x1.length : Int) : Int).toNat), .slice A921 (((x1.length : Int) : Int).toNat) (((x1.length : Int) : Int).toNat), .bool false]) (M' := [.own (.slice A921 (((x1.length : Int) : Int).toNat) (((x1.length : Int) : Int).toNat)) 3 1 (((x1.length : Int) : Int).toNat) (x17.flatMap (eI .i64)), .box gb918 54 [.slice A2 n3 c4, .slice A909 (((x1.length : Int) : Int).toNat) (((x1.length : Int) : Int).toNat), .slice A921 (((x1.length : Int) : Int).toNat) (((x1.length : Int) : Int).toNat), .bool false], .own (.slice A909 (((x1.length : Int) : Int).toNat) (((x1.length : Int) : Int).toNat)) 3 1 (((x1.length : Int) : Int).toNat) (x12.flatMap (eI .i64)), .box gb6 54 [.slice none 0 0, .slice none 0 0, .slice none 0 0, .bool false]]) 1 sz_54 rfl rfl rfl rfl rfl rfl rfl rfl rfl ?_), trivial⟩
      refine ⟨sels [3] rfl, sels [0, 1] rfl, ?_⟩
      refine wf_end (by kernel_rfl) ?_
      refine g_front 3 rfl ?_
      refine g_front 3 rfl ?_
      refine g_front 2 rfl ?_
      refine g_front 3 rfl ?_
      exact g_go [0, 1] (d1 gb918 A909 (((x1.length : Int) : Int).toNat) (((x1.length : Int) : Int).toNat) h910 A921 (((x1.length : Int) : Int).toNat) (((x1.length : Int) : Int).toNat) h922) ⟨rfl, rfl, rfl, trivial⟩ (.cons_cons _ (.cons_cons _ (.cons_cons _ (.cons_cons _ (.slnil))))) rfl
  · refine on_s 6 rfl gn rfl (s_makeX (enc := (eI .i64)) (z := 0) mk_45 rfl (by decide) rfl rfl hb8.1 hb8.2 (by decide) hv18 rfl fun A923 h924 => ?_)
    refine ⟨sels [1] rfl, sels [0, 1] rfl, ?_⟩
    refine wf_all [3, 8] (by kernel_rfl) rfl ⟨?_, ?_, trivial⟩
    · refine on_s 3 rfl gn rfl (s_makeX (enc := (eI .i64)) (z := 0) mk_45 rfl (by decide) rfl rfl hb8.1 hb8.2 (by decide) hv13 rfl fun A928 h929 => ?_)
      refine ⟨sels [2] rfl, sels [0, 1] rfl, ?_⟩
      refine wf_v 7 rfl (v_build #[.slice A2 n3 c4, .slice A928 (((x1.length : Int) : Int).toNat) (((x1.length : Int) : Int).toNat), .slice A923 (((x1.length : Int) : Int).toNat) (((x1.length : Int) : Int).toNat), .bool false] bd_54 rfl (by kernel_rfl)) gn rfl hns (by kernel_rfl) (by kernel_rfl) rfl rfl ?_
      refine wf_all [8] (by kernel_rfl) rfl ⟨on_s 8 rfl gn rfl (s_alloc [.slice none 0 0, .slice none 0 0, .slice none 0 0, .bool false] zr_54 rfl fun gb931 => ?_), trivial⟩
      refine ⟨sels [3] rfl, sels [0, 1] rfl, ?_⟩
      refine wf_all [9] (by kernel_rfl) rfl ⟨on_s 9 rfl gn rfl (s_stB (vs := [.slice A2 n3 c4, .slice A928 (((x1.length : Int) : Int).toNat) (((x1.length : Int) : Int).toNat), .slice A923 (((x1.length : Int) : Int).toNat) (((x1.length : Int) : Int).toNat), .bool false]) (cs' := [.slice A2 n3 c4, .slice A928 (((x1.length : Int) : Int).toNat) (((x1.length : Int) : Int).toNat), .slice A923 (((x1.length : Int) : Int).toNat) (((x1.length : Int) : Int).toNat), .bool false]) (M' := [.box gb931 54 [.slice A2 n3 c4, .slice A928 (((x1.length : Int) : Int).toNat) (((x1.length : Int) : Int).toNat), .slice A923 (((x1.length : Int) : Int).toNat) (((x1.length : Int) : Int).toNat), .bool false], .own (.slice A928 (((x1.length : Int) : Int).toNat) (((x1.length : Int) : Int).toNat)) 3 1 (((x1.length : Int) : Int).toNat) (x12.flatMap (eI .i64)), .own (.slice A923 (((x1.length : Int) : Int).toNat) (((x1.length : Int) : Int).toNat)) 3 1 (((x1.length : Int) : Int).toNat) (x17.flatMap (eI .i64)), .box gb6 54 [.slice none 0 0, .slice none 0 0, .slice none 0 0, .bool false]]) 0 sz_54 rfl rfl rfl rfl rfl rfl rfl rfl rfl ?_), trivial⟩
      refine ⟨sels [3] rfl, sels [0, 1] rfl, ?_⟩
      refine wf_end (by kernel_rfl) ?_
      refine g_front 3 rfl ?_
      refine g_front 2 rfl ?_
      refine g_front 3 rfl ?_
      refine g_front 3 rfl ?_
      exact g_go [0, 1] (d1 gb931 A928 (((x1.length : Int) : Int).toNat) (((x1.length : Int) : Int).toNat) h929 A923 (((x1.length : Int) : Int).toNat) (((x1.length : Int) : Int).toNat) h924) ⟨rfl, rfl, rfl, trivial⟩ (.cons_cons _ (.cons_cons _ (.cons_cons _ (.cons_cons _ (.slnil))))) rfl
    · refine on_s 8 rfl gn rfl (s_alloc [.slice none 0 0, .slice none 0 0, .slice none 0 0, .bool false] zr_54 rfl fun gb932 => ?_)
      refine ⟨sels [2] rfl, sels [0, 1] rfl, ?_⟩
      refine wf_all [3] (by kernel_rfl) rfl ⟨on_s 3 rfl gn rfl (s_makeX (enc := (eI .i64)) (z := 0) mk_45 rfl (by decide) rfl rfl hb8.1 hb8.2 (by decide) hv13 rfl fun A935 h936 => ?_), trivial⟩
      refine ⟨sels [3] rfl, sels [0, 1] rfl, ?_⟩
      refine wf_v 7 rfl (v_build #[.slice A2 n3 c4, .slice A935 (((x1.length : Int) : Int).toNat) (((x1.length : Int) : Int).toNat), .slice A923 (((x1.length : Int) : Int).toNat) (((x1.length : Int) : Int).toNat), .bool false] bd_54 rfl (by kernel_rfl)) gn rfl hns (by kernel_rfl) (by kernel_rfl) rfl rfl ?_
      refine wf_all [9] (by kernel_rfl) rfl ⟨on_s 9 rfl gn rfl (s_stB (vs := [.slice A2 n3 c4, .slice A935 (((x1.length : Int) : Int).toNat) (((x1.length : Int) : Int).toNat), .slice A923 (((x1.length : Int) : Int).toNat) (((x1.length : Int) : Int).toNat), .bool false]) (cs' := [.slice A2 n3 c4, .slice A935 (((x1.length : Int) : Int).toNat) (((x1.length : Int) : Int).toNat), .slice A923 (((x1.length : Int) : Int).toNat) (((x1.length : Int) : Int).toNat), .bool false]) (M' := [.own (.slice A935 (((x1.length : Int) : Int).toNat) (((x1.length : Int) : Int).toNat)) 3 1 (((x1.length : Int) : Int).toNat) (x12.flatMap (eI .i64)), .box gb932 54 [.slice A2 n3 c4, .slice A935 (((x1.length : Int) : Int).toNat) (((x1.length : Int) : Int).toNat), .slice A923 (((x1.length : Int) : Int).toNat) (((x1.length : Int) : Int).toNat), .bool false], .own (.slice A923 (((x1.length : Int) : Int).toNat) (((x1.length : Int) : Int).toNat)) 3 1 (((x1.length : Int) : Int).toNat) (x17.flatMap (eI .i64)), .box gb6 54 [.slice none 0 0, .slice none 0 0, .slice none 0 0, .bool false]]) 1 sz_54 rfl rfl rfl rfl rfl rfl rfl rfl rfl ?_), trivial⟩
      refine ⟨sels [3] rfl, sels [0, 1] rfl, ?_⟩
      refine wf_end (by kernel_rfl) ?_
      refine g_front 3 rfl ?_
      refine g_front 1 rfl ?_
      refine g_front 3 rfl ?_
      refine g_front 3 rfl ?_
      exact g_go [0, 1] (d1 gb932 A935 (((x1.length : Int) : Int).toNat) (((x1.length : Int) : Int).toNat) h936 A923 (((x1.length : Int) : Int).toNat) (((x1.length : Int) : Int).toNat) h924) ⟨rfl, rfl, rfl, trivial⟩ (.cons_cons _ (.cons_cons _ (.cons_cons _ (.cons_cons _ (.slnil))))) rfl
  · refine on_s 8 rfl gn rfl (s_alloc [.slice none 0 0, .slice none 0 0, .slice none 0 0, .bool false] zr_54 rfl fun gb937 => ?_)
    refine ⟨sels [1] rfl, sels [0, 1] rfl, ?_⟩
    refine wf_all [3, 6] (by kernel_rfl) rfl ⟨?_, ?_, trivial⟩
    · refine on_s 3 rfl gn rfl (s_makeX (enc := (eI .i64)) (z := 0) mk_45 rfl (by decide) rfl rfl hb8.1 hb8.2 (by decide) hv13 rfl fun A942 h943 => ?_)
      refine ⟨sels [2] rfl, sels [0, 1] rfl, ?_⟩
      refine wf_all [6] (by kernel_rfl) rfl ⟨on_s 6 rfl gn rfl (s_makeX (enc := (eI .i64)) (z := 0) mk_45 rfl (by decide) rfl rfl hb8.1 hb8.2 (by decide) hv18 rfl fun A946 h947 => ?_), trivial⟩
      refine ⟨sels [3] rfl, sels [0, 1] rfl, ?_⟩
      refine wf_v 7 rfl (v_build #[.slice A2 n3 c4, .slice A942 (((x1.length : Int) : Int).toNat) (((x1.length : Int) : Int).toNat), .slice A946 (((x1.length : Int) : Int).toNat) (((x1.length : Int) : Int).toNat), .bool false] bd_54 rfl (by kernel_rfl)) gn rfl hns (by kernel_rfl) (by kernel_rfl) rfl rfl ?_
      refine wf_all [9] (by kernel_rfl) rfl ⟨on_s 9 rfl gn rfl (s_stB (vs := [.slice A2 n3 c4, .slice A942 (((x1.length : Int) : Int).toNat) (((x1.length : Int) : Int).toNat), .slice A946 (((x1.length : Int) : Int).toNat) (((x1.length : Int) : Int).toNat), .bool false]) (cs' := [.slice A2 n3 c4, .slice A942 (((x1.length : Int) : Int).toNat) (((x1.length : Int) : Int).toNat), .slice A946 (((x1.length : Int) : Int).toNat) (((x1.length : Int) : Int).toNat), .bool false]) (M' := [.own (.slice A946 (((x1.length : Int) : Int).toNat) (((x1.length : Int) : Int).toNat)) 3 1 (((x1.length : Int) : Int).toNat) (x17.flatMap (eI .i64)), .own (.slice A942 (((x1.length : Int) : Int).toNat) (((x1.length : Int) : Int).toNat)) 3 1 (((x1.length : Int) : Int).toNat) (x12.flatMap (eI .i64)), .box gb937 54 [.slice A2 n3 c4, .slice A942 (((x1.length : Int) : Int).toNat) (((x1.length : Int) : Int).toNat), .slice A946 (((x1.length : Int) : Int).toNat) (((x1.length : Int) : Int).toNat), .bool false], .box gb6 54 [.slice none 0 0, .slice none 0 0, .slice none 0 0, .bool false]]) 2 sz_54 rfl rfl rfl rfl rfl rfl rfl rfl rfl ?_), trivial⟩
      refine ⟨sels [3] rfl, sels [0, 1] rfl, ?_⟩
      refine wf_end (by kernel_rfl) ?_
      refine g_front 3 rfl ?_
      refine g_front 2 rfl ?_
      refine g_front 2 rfl ?_
      refine g_front 3 rfl ?_
      exact g_go [0, 1] (d1 gb937 A942 (((x1.length : Int) : Int).toNat) (((x1.length : Int) : Int).toNat) h943 A946 (((x1.length : Int) : Int).toNat) (((x1.length : Int) : Int).toNat) h947) ⟨rfl, rfl, rfl, trivial⟩ (.cons_cons _ (.cons_cons _ (.cons_cons _ (.cons_cons _ (.slnil))))) rfl
    · refine on_s 6 rfl gn rfl (s_makeX (enc := (eI .i64)) (z := 0) mk_45 rfl (by decide) rfl rfl hb8.1 hb8.2 (by decide) hv18 rfl fun A948 h949 => ?_)
      refine ⟨sels [2] rfl, sels [0, 1] rfl, ?_⟩
      refine wf_all [3] (by kernel_rfl) rfl ⟨on_s 3 rfl gn rfl (s_makeX (enc := (eI .i64)) (z := 0) mk_45 rfl (by decide) rfl rfl hb8.1 hb8.2 (by decide) hv13 rfl fun A952 h953 => ?_), trivial⟩
      refine ⟨sels [3] rfl, sels [0, 1] rfl, ?_⟩
      refine wf_v 7 rfl (v_build #[.slice A2 n3 c4, .slice A952 (((x1.length : Int) : Int).toNat) (((x1.length : Int) : Int).toNat), .slice A948 (((x1.length : Int) : Int).toNat) (((x1.length : Int) : Int).toNat), .bool false] bd_54 rfl (by kernel_rfl)) gn rfl hns (by kernel_rfl) (by kernel_rfl) rfl rfl ?_
      refine wf_all [9] (by kernel_rfl) rfl ⟨on_s 9 rfl gn rfl (s_stB (vs := [.slice A2 n3 c4, .slice A952 (((x1.length : Int) : Int).toNat) (((x1.length : Int) : Int).toNat), .slice A948 (((x1.length : Int) : Int).toNat) (((x1.length : Int) : Int).toNat), .bool false]) (cs' := [.slice A2 n3 c4, .slice A952 (((x1.length : Int) : Int).toNat) (((x1.length : Int) : Int).toNat), .slice A948 (((x1.length : Int) : Int).toNat) (((x1.length : Int) : Int).toNat), .bool false]) (M' := [.own (.slice A952 (((x1.length : Int) : Int).toNat) (((x1.length : Int) : Int).toNat)) 3 1 (((x1.length : Int) : Int).toNat) (x12.flatMap (eI .i64)), .own (.slice A948 (((x1.length : Int) : Int).toNat) (((x1.length : Int) : Int).toNat)) 3 1 (((x1.length : Int) : Int).toNat) (x17.flatMap (eI .i64)), .box gb937 54 [.slice A2 n3 c4, .slice A952 (((x1.length : Int) : Int).toNat) (((x1.length : Int) : Int).toNat), .slice A948 (((x1.length : Int) : Int).toNat) (((x1.length : Int) : Int).toNat), .bool false], .box gb6 54 [.slice none 0 0, .slice none 0 0, .slice none 0 0, .bool false]]) 2 sz_54 rfl rfl rfl rfl rfl rfl rfl rfl rfl ?_), trivial⟩
      refine ⟨sels [3] rfl, sels [0, 1] rfl, ?_⟩
      refine wf_end (by kernel_rfl) ?_
      refine g_front 3 rfl ?_
      refine g_front 1 rfl ?_
      refine g_front 2 rfl ?_
      refine g_front 3 rfl ?_
      exact g_go [0, 1] (d1 gb937 A952 (((x1.length : Int) : Int).toNat) (((x1.length : Int) : Int).toNat) h953 A948 (((x1.length : Int) : Int).toNat) (((x1.length : Int) : Int).toNat) h949) ⟨rfl, rfl, rfl, trivial⟩ (.cons_cons _ (.cons_cons _ (.cons_cons _ (.cons_cons _ (.slnil))))) rfl
noncomputable abbrev tree_forest_beside_c0 : Code := bodyOf Try.f57
noncomputable abbrev tree_forest_beside_c1 : Code := Code.fst tree_forest_beside_c0
noncomputable abbrev tree_forest_beside_c2 : Code := Code.snd tree_forest_beside_c0
noncomputable abbrev tree_forest_beside_c3 : Code := Code.fst tree_forest_beside_c2
noncomputable abbrev tree_forest_beside_c4 : Code := Code.snd tree_forest_beside_c2
noncomputable abbrev tree_forest_beside_c5 : Code := Code.fst tree_forest_beside_c4
noncomputable abbrev tree_forest_beside_c6 : Code := Code.snd tree_forest_beside_c4
noncomputable abbrev tree_forest_beside_c7 : Code := Code.fst tree_forest_beside_c5
noncomputable abbrev tree_forest_beside_c8 : Code := Code.fst tree_forest_beside_c7
noncomputable abbrev tree_forest_beside_c9 : Code := Code.fst tree_forest_beside_c8
noncomputable abbrev tree_forest_beside_c10 : Code := Code.snd tree_forest_beside_c8
noncomputable abbrev tree_forest_beside_c11 : Code := Code.fst tree_forest_beside_c9
noncomputable abbrev tree_forest_beside_c12 : Code := Code.snd tree_forest_beside_c9
noncomputable abbrev tree_forest_beside_c13 : Code := Code.fst tree_forest_beside_c12
noncomputable abbrev tree_forest_beside_c14 : Code := Code.snd tree_forest_beside_c12
noncomputable abbrev tree_forest_beside_c15 : Code := Code.fst tree_forest_beside_c10
noncomputable abbrev tree_forest_beside_c16 : Code := Code.snd tree_forest_beside_c10
noncomputable abbrev tree_forest_beside_c17 : Code := Code.fst tree_forest_beside_c15
noncomputable abbrev tree_forest_beside_c18 : Code := Code.fst tree_forest_beside_c6
noncomputable abbrev tree_forest_beside_c19 : Code := Code.snd tree_forest_beside_c6
abbrev tree_forest_beside_R (w : World) (F : Nat → Prop) (r : List Int) : Ending → World → Prop := fun e w' => ∃ A0 : Option Addr, ∃ n0 : Nat, ∃ c0 : Nat, e = .returned (.slice A0 n0 c0) ∧ B.Loc w w' [.own (.slice A0 n0 c0) 3 1 n0 (r.flatMap (eI .i64))] [St w []] ∧ Ow w.heap.size A0 n0 c0 r
noncomputable abbrev tree_forest_beside_C (w : World) (F : Nat → Prop) (r : List Int) : Cx := ⟨Try.prog, 57, Try.f57, 21, tree_forest_beside_R w F  r, w⟩
theorem tree_forest_beside_calls (w : World) (F : Nat → Prop) (x1 : tree_forest) (x14 : Int) (x15 : Int) (A2 : Option Addr) (n3 : Nat) (c4 : Nat) (A6 : Option Addr) (n7 : Nat) (c8 : Nat) (A10 : Option Addr) (n11 : Nat) (c12 : Nat) (h5 : Rw k_api_Node w (St w []).av A2 n3 c4 x1.nodes) (h9 : Rw (kInt .i64) w (St w []).av A6 n7 c8 x1.parent) (h13 : Rw (kInt .i64) w (St w []).av A10 n11 c12 x1.end_) (hF : ∀ b, F b → b < w.heap.size ∧ ∀ o ∈ ([] : List (List Nat)), b ∉ o) (hL0 : B.Loc w w [] [Sm w.heap.size F w [], St w []]) (r : List Int) (h : tree_forest_beside x1 x14 x15 r) : Calls Try.prog 57 #[.agg #[.slice A2 n3 c4, .slice A6 n7 c8, .slice A10 n11 c12, .bool x1.ok], .int .i64 x14, .int .i64 x15] w (tree_forest_beside_R w F  r) := by
  unfold tree_forest_beside at h
  refine calls_of_Loc (vs := [.agg #[.slice A2 n3 c4, .slice A6 n7 c8, .slice A10 n11 c12, .bool x1.ok], .int .i64 x14, .int .i64 x15]) 21 Try.func57 rfl Try.ntmps57 rfl hL0 ?_
  show G (tree_forest_beside_C w F r) _ _ _ _
  refine g_seq (c := tree_forest_beside_c0) rfl ?_
  refine g_region (c := tree_forest_beside_c1) rfl rfl ?_
  refine wl_s 0 rfl (s_box [.slice A2 n3 c4, .slice A6 n7 c8, .slice A10 n11 c12, .bool x1.ok] rfl rfl rfl fun gb16 => ?_) gn
  refine wl_v 1 rfl (v_assign rfl) gn rfl ?_
  refine w_end 2 rfl ?_
  refine g_seq (c := tree_forest_beside_c2) rfl ?_
  refine g_region (c := tree_forest_beside_c3) rfl rfl ?_
  refine wl_v 0 rfl (v_assign rfl) gn rfl ?_
  refine w_end 1 rfl ?_
  refine g_seq (c := tree_forest_beside_c4) rfl ?_
  refine g_block (c := tree_forest_beside_c5) rfl ?_
  refine g_loop (c := tree_forest_beside_c7) rfl ?_
  have key1 : ∀ s, Rounds (fun (s : Int × (List Int)) o => tree_forest_beside_b1 x15 x1 s.1 s.2 o) s r → (fun (s : Int × (List Int)) => ∀ (A34 : Option Addr) (n35 : Nat) (c36 : Nat) (h37 : Ow w.heap.size A34 n35 c36 s.2), G (tree_forest_beside_C w F r) [.code tree_forest_beside_c8, .inLoop tree_forest_beside_c8, .inBlock 0, .code tree_forest_beside_c6] [(1, .int .i64 s.1), (2, .int .i64 x15), (3, .pointer (some ⟨gb16, 0, none⟩)), (7, .slice A34 n35 c36)] [.own (.slice A34 n35 c36) 3 1 n35 (s.2.flatMap (eI .i64)), .box gb16 54 [.slice A2 n3 c4, .slice A6 n7 c8, .slice A10 n11 c12, .bool x1.ok]] [Sm w.heap.size F w [], St w []]) s := by
    intro s hs
    refine Rounds.ind (mot := (fun (s : Int × (List Int)) => ∀ (A34 : Option Addr) (n35 : Nat) (c36 : Nat) (h37 : Ow w.heap.size A34 n35 c36 s.2), G (tree_forest_beside_C w F r) [.code tree_forest_beside_c8, .inLoop tree_forest_beside_c8, .inBlock 0, .code tree_forest_beside_c6] [(1, .int .i64 s.1), (2, .int .i64 x15), (3, .pointer (some ⟨gb16, 0, none⟩)), (7, .slice A34 n35 c36)] [.own (.slice A34 n35 c36) 3 1 n35 (s.2.flatMap (eI .i64)), .box gb16 54 [.slice A2 n3 c4, .slice A6 n7 c8, .slice A10 n11 c12, .bool x1.ok]] [Sm w.heap.size F w [], St w []])) ?_ hs
    clear hs s
    intro s o1 h hO1
    obtain ⟨x32, x33⟩ := s
    show ∀ (A34 : Option Addr) (n35 : Nat) (c36 : Nat) (h37 : Ow w.heap.size A34 n35 c36 x33), G (tree_forest_beside_C w F r) [.code tree_forest_beside_c8, .inLoop tree_forest_beside_c8, .inBlock 0, .code tree_forest_beside_c6] [(1, .int .i64 x32), (2, .int .i64 x15), (3, .pointer (some ⟨gb16, 0, none⟩)), (7, .slice A34 n35 c36)] [.own (.slice A34 n35 c36) 3 1 n35 (x33.flatMap (eI .i64)), .box gb16 54 [.slice A2 n3 c4, .slice A6 n7 c8, .slice A10 n11 c12, .bool x1.ok]] [Sm w.heap.size F w [], St w []]
    intro A34 n35 c36 h37
    have h : tree_forest_beside_b1 x15 x1 x32 x33 o1 := h
    unfold tree_forest_beside_b1 at h
    refine g_seq (c := tree_forest_beside_c8) rfl ?_
    refine g_seq (c := tree_forest_beside_c9) rfl ?_
    refine g_region (c := tree_forest_beside_c11) rfl rfl ?_
    refine wl_v 0 rfl (v_move rfl) gn rfl ?_
    refine wl_v 1 rfl (v_move rfl) gn rfl ?_
    refine wl_v 2 rfl (v_bin rfl rfl rfl) gn rfl ?_
    refine w_end 3 rfl ?_
    by_cases hp50 : x32 < x15
    · have h := if_pos' hp50 h
      refine g_true (c := tree_forest_beside_c12) rfl _ rfl ((decide_eq_true hp50)) ?_
      refine g_skip (c := tree_forest_beside_c13) rfl ?_
      refine g_seq (c := tree_forest_beside_c10) rfl ?_
      refine g_block (c := tree_forest_beside_c15) rfl ?_
      refine g_region (c := tree_forest_beside_c17) rfl rfl ?_
      refine wl_v 0 rfl (v_move rfl) gn rfl ?_
      refine wl_v 1 rfl (v_move rfl) gn rfl ?_
      refine wl_s 2 rfl (s_litO (xs := ([x32] : List Int)) [.int .i64 x32] bs_45_1 rfl (by kernel_rfl) rfl rfl rfl rfl fun gb52 h53 => ?_) gn
      obtain ⟨x57, hv58, h⟩ := h
      obtain ⟨hb59, h⟩ := h
      refine wl_s 3 rfl (s_app (zs := x57) (cells' := x57.flatMap (eI .i64)) 1 ap_45 rfl rfl rfl h37 (Nat.le_refl _) (Src.ownF (hl := (hlI .i64)) (h1 := (hone_int .i64)) 0 rfl h53) (by rw [hv58, List.flatMap_append] <;> rfl) (app_len hv58 h53.hq) hb59 rfl rfl fun A54 c55 h56 => ?_) gn
      refine wl_v 4 rfl (v_assign rfl) gn rfl ?_
      refine w_end 5 rfl ?_
      refine g_inBlock ?_
      refine g_region (c := tree_forest_beside_c16) rfl rfl ?_
      refine wl_v 0 rfl (v_fldB fo_54_2 rfl) gn rfl ?_
      refine wl_v 1 rfl (v_ldB1 2 ld_45 rfl rfl rfl) gn rfl ?_
      refine wl_v 2 rfl (v_move rfl) gn rfl ?_
      obtain ⟨hb60, h⟩ := h
      have hr61 := Rw.readF (s := St w []) (hl := (hlI .i64)) (h1 := (hone_int .i64)) h13 hb60
      refine wl_v 3 rfl (v_idxR (s := St w []) slE_45 rfl rfl h13 hb60) gn rfl ?_
      refine wl_v 4 rfl (v_ldA1 (kk := (x32 : Int).toNat * 1) (j := 0) (St w []) ld_3 rfl hr61 rfl (me 1 rfl)) gn rfl ?_
      refine wl_v 5 rfl (v_assign rfl) gn rfl ?_
      refine w_end 6 rfl ?_
      refine g_inLoop ?_
      have ih := Out.inl hO1 h
      exact g_go [0, 1] (ih A54 (n35 + 1) c55 h56) ⟨rfl, rfl, rfl, rfl, trivial⟩ (.cons _ (.cons_cons _ (.cons_cons _ (.slnil)))) rfl
    · have h := if_neg' hp50 h
      refine g_false (c := tree_forest_beside_c12) rfl _ rfl ((decide_eq_false hp50)) ?_
      refine g_exit (c := tree_forest_beside_c14) [.code tree_forest_beside_c6] rfl rfl ?_
      refine g_seq (c := tree_forest_beside_c6) rfl ?_
      refine g_region (c := tree_forest_beside_c18) rfl rfl ?_
      refine wl_v 0 rfl (v_move rfl) gn rfl ?_
      refine wl_v 1 rfl (v_assign rfl) gn rfl ?_
      refine w_end 2 rfl ?_
      have h := Out.inr hO1 h
      refine g_retR (c := tree_forest_beside_c19) [.slice A34 n35 c36] rfl Try.func57 rfl (.tmp rfl (.nil)) fun wr hLr => ?_
      have hMr : B.Loc w wr [.own (.slice A34 n35 c36) 3 1 n35 (x33.flatMap (eI .i64))] [St w []] := hLr.pick (rest := [.box gb16 54 [.slice A2 n3 c4, .slice A6 n7 c8, .slice A10 n11 c12, .bool x1.ok]]) (perm_of_idx [0] [1] rfl rfl (by kernel_rfl)) (sels [1] rfl)
      have hMi : ∀ e ∈ ([.own (.slice A34 n35 c36) 3 1 n35 (x33.flatMap (eI .i64))] : List Ent), e ∈ ([.own (.slice A34 n35 c36) 3 1 n35 (x33.flatMap (eI .i64)), .box gb16 54 [.slice A2 n3 c4, .slice A6 n7 c8, .slice A10 n11 c12, .bool x1.ok]] : List Ent) := sels [0] rfl
      show tree_forest_beside_R w F  r (.returned (packV [.slice A34 n35 c36])) wr
      rw [h]
      exact ⟨A34, n35, c36, rfl, hMr, h37⟩
  refine g_nil 3 1 ?_
  exact g_go [0, 1] (key1 _ h none 0 0 (Ow.nil (z := w.heap.size))) ⟨rfl, rfl, rfl, rfl, trivial⟩ (.cons_cons _ (.cons_cons _ (.slnil))) rfl
noncomputable abbrev tree_roots_c0 : Code := bodyOf Try.f44
noncomputable abbrev tree_roots_c1 : Code := Code.fst tree_roots_c0
noncomputable abbrev tree_roots_c2 : Code := Code.snd tree_roots_c0
noncomputable abbrev tree_roots_c3 : Code := Code.fst tree_roots_c2
noncomputable abbrev tree_roots_c4 : Code := Code.snd tree_roots_c2
noncomputable abbrev tree_roots_c5 : Code := Code.fst tree_roots_c4
noncomputable abbrev tree_roots_c6 : Code := Code.snd tree_roots_c4
noncomputable abbrev tree_roots_c7 : Code := Code.fst tree_roots_c5
noncomputable abbrev tree_roots_c8 : Code := Code.snd tree_roots_c5
noncomputable abbrev tree_roots_c9 : Code := Code.fst tree_roots_c8
noncomputable abbrev tree_roots_c10 : Code := Code.snd tree_roots_c8
noncomputable abbrev tree_roots_c11 : Code := Code.fst tree_roots_c6
noncomputable abbrev tree_roots_c12 : Code := Code.snd tree_roots_c6
noncomputable abbrev tree_roots_c13 : Code := Code.fst tree_roots_c9
noncomputable abbrev tree_roots_c14 : Code := Code.snd tree_roots_c9
abbrev tree_roots_R (w : World) (F : Nat → Prop) (r : List Int) : Ending → World → Prop := fun e w' => ∃ A0 : Option Addr, ∃ n0 : Nat, ∃ c0 : Nat, e = .returned (.slice A0 n0 c0) ∧ B.Loc w w' [.own (.slice A0 n0 c0) 3 1 n0 (r.flatMap (eI .i64))] [St w []] ∧ Ow w.heap.size A0 n0 c0 r
noncomputable abbrev tree_roots_C (w : World) (F : Nat → Prop) (r : List Int) : Cx := ⟨Try.prog, 44, Try.f44, 13, tree_roots_R w F  r, w⟩
theorem tree_roots_calls (w : World) (F : Nat → Prop) (x1 : List api_Node) (A2 : Option Addr) (n3 : Nat) (c4 : Nat) (h5 : Rw k_api_Node w (St w []).av A2 n3 c4 x1) (hF : ∀ b, F b → b < w.heap.size ∧ ∀ o ∈ ([] : List (List Nat)), b ∉ o) (hL0 : B.Loc w w [] [Sm w.heap.size F w [], St w []]) (r : List Int) (h : tree_roots x1 r) : Calls Try.prog 44 #[.slice A2 n3 c4] w (tree_roots_R w F  r) := by
  unfold tree_roots at h
  refine calls_of_Loc (vs := [.slice A2 n3 c4]) 13 Try.func44 rfl Try.ntmps44 rfl hL0 ?_
  show G (tree_roots_C w F r) _ _ _ _
  refine g_seq (c := tree_roots_c0) rfl ?_
  refine g_region (c := tree_roots_c1) rfl rfl ?_
  refine wl_v 0 rfl (v_assign rfl) gn rfl ?_
  refine w_end 1 rfl ?_
  refine g_seq (c := tree_roots_c2) rfl ?_
  refine g_region (c := tree_roots_c3) rfl rfl ?_
  refine wl_v 0 rfl (v_move rfl) gn rfl ?_
  obtain ⟨r9, hv10, h⟩ := h
  refine wl_s 1 rfl (s_call [.slice A2 n3 c4] rfl Try.func43 rfl rfl rfl fun w6 hL7 => ?_) gn
  have hp8 : List.Perm ([] : List Ent) (([] : List Ent) ++ ([] : List Ent)) := perm_of_idx [] [] rfl rfl (by kernel_rfl)
  refine Calls.mono (tree_plant_calls w6 (Fl ([St w []] : List Snap)) x1 A2 n3 c4 (Rw.mono h5 (hL7.toFl (me 1 rfl) (me 0 rfl))) (hL7.hFl (Sl := ([St w []] : List Snap)) hp8 (sels [1] rfl)) (hL7.into hp8 (Fl ([St w []] : List Snap))) r9 hv10) ?_
  rintro _ w25 ⟨A15, n16, c17, A20, n21, c22, A11, n12, c13, rfl, hM26, h18, h23, h14⟩
  obtain ⟨sv29, hL27, hv28⟩ := hL7.callN (Sl := ([St w []] : List Snap)) hp8 hM26 (sels [1] rfl)
  have h14 : At k_api_Node (sv29) A11 n12 c13 r9.nodes := Rw.mono h14 hv28
  refine ⟨_, _, _, rfl, hL27, ?_⟩
  refine wl_s 2 rfl (s_alloc [.slice none 0 0, .slice none 0 0, .slice none 0 0, .bool false] zr_54 rfl fun gb30 => ?_) gn
  refine wl_s 3 rfl (s_stB (vs := [.slice A11 n12 c13, .slice A15 n16 c17, .slice A20 n21 c22, .bool r9.ok]) (cs' := [.slice A11 n12 c13, .slice A15 n16 c17, .slice A20 n21 c22, .bool r9.ok]) (M' := [.box gb30 54 [.slice A11 n12 c13, .slice A15 n16 c17, .slice A20 n21 c22, .bool r9.ok], .own (.slice A15 n16 c17) 3 1 n16 (r9.parent.flatMap (eI .i64)), .own (.slice A20 n21 c22) 3 1 n21 (r9.end_.flatMap (eI .i64))]) 0 sz_54 rfl rfl rfl rfl rfl rfl rfl rfl rfl ?_) gn
  refine w_end 4 rfl ?_
  refine g_seq (c := tree_roots_c4) rfl ?_
  refine g_seq (c := tree_roots_c5) rfl ?_
  refine g_region (c := tree_roots_c7) rfl rfl ?_
  refine wl_v 0 rfl (v_fldB fo_54_3 rfl) gn rfl ?_
  refine wl_v 1 rfl (v_ldB1 0 ld_4 rfl rfl rfl) gn rfl ?_
  refine wl_v 2 rfl (v_not rfl) gn rfl ?_
  refine w_end 3 rfl ?_
  by_cases hp32 : r9.ok = true
  · have h := if_pos' hp32 h
    refine g_false (c := tree_roots_c8) rfl _ rfl ((nf hp32)) ?_
    refine g_skip (c := tree_roots_c10) rfl ?_
    refine g_seq (c := tree_roots_c6) rfl ?_
    refine g_region (c := tree_roots_c11) rfl rfl ?_
    refine wl_v 0 rfl (v_ldB [.slice A11 n12 c13, .slice A15 n16 c17, .slice A20 n21 c22, .bool r9.ok] 0 ld_54 rfl rfl rfl rfl) gn rfl ?_
    refine wl_v 1 rfl (v_move rfl) gn rfl ?_
    refine wl_v 2 rfl (v_lenQ un_22 rfl h5.hq) gn rfl ?_
    obtain ⟨r36, hv37, h⟩ := h
    refine wl_s 3 rfl (s_call [.agg #[.slice A11 n12 c13, .slice A15 n16 c17, .slice A20 n21 c22, .bool r9.ok], .int .i64 0, .int .i64 (x1.length : Int)] rfl Try.func57 rfl rfl rfl fun w33 hL34 => ?_) gn
    have hp35 : List.Perm ([.box gb30 54 [.slice A11 n12 c13, .slice A15 n16 c17, .slice A20 n21 c22, .bool r9.ok], .own (.slice A15 n16 c17) 3 1 n16 (r9.parent.flatMap (eI .i64)), .own (.slice A20 n21 c22) 3 1 n21 (r9.end_.flatMap (eI .i64))] : List Ent) (([] : List Ent) ++ ([.box gb30 54 [.slice A11 n12 c13, .slice A15 n16 c17, .slice A20 n21 c22, .bool r9.ok], .own (.slice A15 n16 c17) 3 1 n16 (r9.parent.flatMap (eI .i64)), .own (.slice A20 n21 c22) 3 1 n21 (r9.end_.flatMap (eI .i64))] : List Ent)) := perm_of_idx [] [0, 1, 2] rfl rfl (by kernel_rfl)
    refine Calls.mono (tree_forest_beside_calls w33 (Fl ([] : List Snap)) r9 0 (x1.length : Int) A11 n12 c13 A15 n16 c17 A20 n21 c22 (Rw.mono h14 (hL34.toSt hp35 (me 0 rfl))) (hL34.argO (dk := (kInt .i64)) hp35 [] rfl 1 rfl rfl (Ow.weak hL7.env.size h18) (me 1 rfl) (Cells.flat _)) (hL34.argO (dk := (kInt .i64)) hp35 [] rfl 2 rfl rfl (Ow.weak hL7.env.size h23) (me 1 rfl) (Cells.flat _)) (hL34.hFl (Sl := ([] : List Snap)) hp35 (sels [] rfl)) (hL34.into hp35 (Fl ([] : List Snap))) r36 hv37) ?_
    rintro _ w43 ⟨A38, n39, c40, rfl, hM44, h41⟩
    have hL45 := hL34.call hp35 hM44
    refine ⟨_, _, _, rfl, hL45, ?_⟩
    refine wl_v 4 rfl (v_assign rfl) gn rfl ?_
    refine w_end 5 rfl ?_
    refine g_retR (c := tree_roots_c12) [.slice A38 n39 c40] rfl Try.func44 rfl (.tmp rfl (.nil)) fun wr hLr => ?_
    have hMr : B.Loc w wr [.own (.slice A38 n39 c40) 3 1 n39 (r36.flatMap (eI .i64))] [St w []] := hLr.pick (rest := [.box gb30 54 [.slice A11 n12 c13, .slice A15 n16 c17, .slice A20 n21 c22, .bool r9.ok], .own (.slice A15 n16 c17) 3 1 n16 (r9.parent.flatMap (eI .i64)), .own (.slice A20 n21 c22) 3 1 n21 (r9.end_.flatMap (eI .i64))]) (perm_of_idx [0] [1, 2, 3] rfl rfl (by kernel_rfl)) (sels [2] rfl)
    have hMi : ∀ e ∈ ([.own (.slice A38 n39 c40) 3 1 n39 (r36.flatMap (eI .i64))] : List Ent), e ∈ ([.own (.slice A38 n39 c40) 3 1 n39 (r36.flatMap (eI .i64)), .box gb30 54 [.slice A11 n12 c13, .slice A15 n16 c17, .slice A20 n21 c22, .bool r9.ok], .own (.slice A15 n16 c17) 3 1 n16 (r9.parent.flatMap (eI .i64)), .own (.slice A20 n21 c22) 3 1 n21 (r9.end_.flatMap (eI .i64))] : List Ent) := sels [0] rfl
    show tree_roots_R w F  r (.returned (packV [.slice A38 n39 c40])) wr
    rw [h]
    exact ⟨A38, n39, c40, rfl, hMr, (Ow.weak hL34.env.size h41)⟩
  · have h := if_neg' hp32 h
    refine g_true (c := tree_roots_c8) rfl _ rfl ((nt (bf hp32))) ?_
    refine g_seq (c := tree_roots_c9) rfl ?_
    refine g_region (c := tree_roots_c13) rfl rfl ?_
    refine wl_v 0 rfl (v_assign rfl) gn rfl ?_
    refine w_end 1 rfl ?_
    refine g_nil 3 1 ?_
    refine g_retR (c := tree_roots_c14) [.slice none 0 0] rfl Try.func44 rfl (.tmp rfl (.nil)) fun wr hLr => ?_
    have hMr : B.Loc w wr [.own (.slice none 0 0) 3 1 0 (([] : List Int).flatMap (eI .i64))] [St w []] := hLr.pick (rest := [.box gb30 54 [.slice A11 n12 c13, .slice A15 n16 c17, .slice A20 n21 c22, .bool r9.ok], .own (.slice A15 n16 c17) 3 1 n16 (r9.parent.flatMap (eI .i64)), .own (.slice A20 n21 c22) 3 1 n21 (r9.end_.flatMap (eI .i64))]) (perm_of_idx [0] [1, 2, 3] rfl rfl (by kernel_rfl)) (sels [2] rfl)
    have hMi : ∀ e ∈ ([.own (.slice none 0 0) 3 1 0 (([] : List Int).flatMap (eI .i64))] : List Ent), e ∈ ([.own (.slice none 0 0) 3 1 0 (([] : List Int).flatMap (eI .i64)), .box gb30 54 [.slice A11 n12 c13, .slice A15 n16 c17, .slice A20 n21 c22, .bool r9.ok], .own (.slice A15 n16 c17) 3 1 n16 (r9.parent.flatMap (eI .i64)), .own (.slice A20 n21 c22) 3 1 n21 (r9.end_.flatMap (eI .i64))] : List Ent) := sels [0] rfl
    show tree_roots_R w F  r (.returned (packV [.slice none 0 0])) wr
    rw [h]
    exact ⟨none, 0, 0, rfl, hMr, (Ow.nil (z := w.heap.size))⟩
noncomputable abbrev tree_Roots_c0 : Code := bodyOf Try.f27
noncomputable abbrev tree_Roots_c1 : Code := Code.fst tree_Roots_c0
noncomputable abbrev tree_Roots_c2 : Code := Code.snd tree_Roots_c0
noncomputable abbrev tree_Roots_c3 : Code := Code.fst tree_Roots_c2
noncomputable abbrev tree_Roots_c4 : Code := Code.snd tree_Roots_c2
noncomputable abbrev tree_Roots_c5 : Code := Code.fst tree_Roots_c3
noncomputable abbrev tree_Roots_c6 : Code := Code.snd tree_Roots_c3
noncomputable abbrev tree_Roots_c7 : Code := Code.fst tree_Roots_c6
noncomputable abbrev tree_Roots_c8 : Code := Code.snd tree_Roots_c6
noncomputable abbrev tree_Roots_c9 : Code := Code.fst tree_Roots_c4
noncomputable abbrev tree_Roots_c10 : Code := Code.snd tree_Roots_c4
noncomputable abbrev tree_Roots_c11 : Code := Code.fst tree_Roots_c7
noncomputable abbrev tree_Roots_c12 : Code := Code.snd tree_Roots_c7
abbrev tree_Roots_R (w : World) (F : Nat → Prop) (r : Int) : Ending → World → Prop := fun e w' => e = .returned (.int .i64 r) ∧ B.Loc w w' [] [St w []]
noncomputable abbrev tree_Roots_C (w : World) (F : Nat → Prop) (r : Int) : Cx := ⟨Try.prog, 27, Try.f27, 10, tree_Roots_R w F  r, w⟩
theorem tree_Roots_calls (w : World) (F : Nat → Prop) (x1 : List api_Node) (A2 : Option Addr) (n3 : Nat) (c4 : Nat) (h5 : Rw k_api_Node w (St w []).av A2 n3 c4 x1) (hF : ∀ b, F b → b < w.heap.size ∧ ∀ o ∈ ([] : List (List Nat)), b ∉ o) (hL0 : B.Loc w w [] [Sm w.heap.size F w [], St w []]) (r : Int) (h : tree_Roots x1 r) : Calls Try.prog 27 #[.slice A2 n3 c4] w (tree_Roots_R w F  r) := by
  unfold tree_Roots at h
  refine calls_of_Loc (vs := [.slice A2 n3 c4]) 10 Try.func27 rfl Try.ntmps27 rfl hL0 ?_
  show G (tree_Roots_C w F r) _ _ _ _
  refine g_seq (c := tree_Roots_c0) rfl ?_
  refine g_region (c := tree_Roots_c1) rfl rfl ?_
  refine wl_v 0 rfl (v_assign rfl) gn rfl ?_
  refine w_end 1 rfl ?_
  refine g_seq (c := tree_Roots_c2) rfl ?_
  refine g_seq (c := tree_Roots_c3) rfl ?_
  refine g_region (c := tree_Roots_c5) rfl rfl ?_
  refine wl_v 0 rfl (v_move rfl) gn rfl ?_
  obtain ⟨r9, hv10, h⟩ := h
  refine wl_s 1 rfl (s_call [.slice A2 n3 c4] rfl Try.func43 rfl rfl rfl fun w6 hL7 => ?_) gn
  have hp8 : List.Perm ([] : List Ent) (([] : List Ent) ++ ([] : List Ent)) := perm_of_idx [] [] rfl rfl (by kernel_rfl)
  refine Calls.mono (tree_plant_calls w6 (Fl ([St w []] : List Snap)) x1 A2 n3 c4 (Rw.mono h5 (hL7.toFl (me 1 rfl) (me 0 rfl))) (hL7.hFl (Sl := ([St w []] : List Snap)) hp8 (sels [1] rfl)) (hL7.into hp8 (Fl ([St w []] : List Snap))) r9 hv10) ?_
  rintro _ w25 ⟨A15, n16, c17, A20, n21, c22, A11, n12, c13, rfl, hM26, h18, h23, h14⟩
  obtain ⟨sv29, hL27, hv28⟩ := hL7.callN (Sl := ([St w []] : List Snap)) hp8 hM26 (sels [1] rfl)
  have h14 : At k_api_Node (sv29) A11 n12 c13 r9.nodes := Rw.mono h14 hv28
  refine ⟨_, _, _, rfl, hL27, ?_⟩
  refine wl_v 2 rfl (v_field1 fd_54_3 rfl rfl) gn rfl ?_
  refine wl_v 3 rfl (v_not rfl) gn rfl ?_
  refine w_end 4 rfl ?_
  by_cases hp30 : r9.ok = true
  · have h := if_pos' hp30 h
    refine g_false (c := tree_Roots_c6) rfl _ rfl ((nf hp30)) ?_
    refine g_skip (c := tree_Roots_c8) rfl ?_
    refine g_seq (c := tree_Roots_c4) rfl ?_
    refine g_region (c := tree_Roots_c9) rfl rfl ?_
    refine wl_v 0 rfl (v_move rfl) gn rfl ?_
    obtain ⟨r34, hv35, h⟩ := h
    refine wl_s 1 rfl (s_call [.slice A2 n3 c4] rfl Try.func44 rfl rfl rfl fun w31 hL32 => ?_) gn
    have hp33 : List.Perm ([.own (.slice A15 n16 c17) 3 1 n16 (r9.parent.flatMap (eI .i64)), .own (.slice A20 n21 c22) 3 1 n21 (r9.end_.flatMap (eI .i64))] : List Ent) (([] : List Ent) ++ ([.own (.slice A15 n16 c17) 3 1 n16 (r9.parent.flatMap (eI .i64)), .own (.slice A20 n21 c22) 3 1 n21 (r9.end_.flatMap (eI .i64))] : List Ent)) := perm_of_idx [] [0, 1] rfl rfl (by kernel_rfl)
    refine Calls.mono (tree_roots_calls w31 (Fl ([] : List Snap)) x1 A2 n3 c4 (Rw.mono h5 (hL32.toSt hp33 (me 2 rfl))) (hL32.hFl (Sl := ([] : List Snap)) hp33 (sels [] rfl)) (hL32.into hp33 (Fl ([] : List Snap))) r34 hv35) ?_
    rintro _ w41 ⟨A36, n37, c38, rfl, hM42, h39⟩
    have hL43 := hL32.call hp33 hM42
    refine ⟨_, _, _, rfl, hL43, ?_⟩
    refine wl_v 2 rfl (v_lenQ un_45 rfl (Ow.weak hL32.env.size h39).hq) gn rfl ?_
    refine wl_v 3 rfl (v_assign rfl) gn rfl ?_
    refine w_end 4 rfl ?_
    refine g_retR (c := tree_Roots_c10) [.int .i64 (r34.length : Int)] rfl Try.func27 rfl (.tmp rfl (.nil)) fun wr hLr => ?_
    have hMr : B.Loc w wr [] [St w []] := hLr.pick (rest := [.own (.slice A36 n37 c38) 3 1 n37 (r34.flatMap (eI .i64)), .own (.slice A15 n16 c17) 3 1 n16 (r9.parent.flatMap (eI .i64)), .own (.slice A20 n21 c22) 3 1 n21 (r9.end_.flatMap (eI .i64))]) (perm_of_idx [] [0, 1, 2] rfl rfl (by kernel_rfl)) (sels [2] rfl)
    have hMi : ∀ e ∈ ([] : List Ent), e ∈ ([.own (.slice A36 n37 c38) 3 1 n37 (r34.flatMap (eI .i64)), .own (.slice A15 n16 c17) 3 1 n16 (r9.parent.flatMap (eI .i64)), .own (.slice A20 n21 c22) 3 1 n21 (r9.end_.flatMap (eI .i64))] : List Ent) := sels [] rfl
    show tree_Roots_R w F  r (.returned (packV [.int .i64 (r34.length : Int)])) wr
    rw [h]
    exact ⟨rfl, hMr⟩
  · have h := if_neg' hp30 h
    refine g_true (c := tree_Roots_c6) rfl _ rfl ((nt (bf hp30))) ?_
    refine g_seq (c := tree_Roots_c7) rfl ?_
    refine g_region (c := tree_Roots_c11) rfl rfl ?_
    refine wl_v 0 rfl (v_assign rfl) gn rfl ?_
    refine w_end 1 rfl ?_
    refine g_retR (c := tree_Roots_c12) [.int .i64 (-1)] rfl Try.func27 rfl (.tmp rfl (.nil)) fun wr hLr => ?_
    have hMr : B.Loc w wr [] [St w []] := hLr.pick (rest := [.own (.slice A15 n16 c17) 3 1 n16 (r9.parent.flatMap (eI .i64)), .own (.slice A20 n21 c22) 3 1 n21 (r9.end_.flatMap (eI .i64))]) (perm_of_idx [] [0, 1] rfl rfl (by kernel_rfl)) (sels [2] rfl)
    have hMi : ∀ e ∈ ([] : List Ent), e ∈ ([.own (.slice A15 n16 c17) 3 1 n16 (r9.parent.flatMap (eI .i64)), .own (.slice A20 n21 c22) 3 1 n21 (r9.end_.flatMap (eI .i64))] : List Ent) := sels [] rfl
    show tree_Roots_R w F  r (.returned (packV [.int .i64 (-1)])) wr
    rw [h]
    exact ⟨rfl, hMr⟩
noncomputable abbrev choose_sizes_c0 : Code := bodyOf Try.f49
noncomputable abbrev choose_sizes_c1 : Code := Code.fst choose_sizes_c0
noncomputable abbrev choose_sizes_c2 : Code := Code.snd choose_sizes_c0
noncomputable abbrev choose_sizes_c3 : Code := Code.fst choose_sizes_c2
noncomputable abbrev choose_sizes_c4 : Code := Code.snd choose_sizes_c2
noncomputable abbrev choose_sizes_c5 : Code := Code.fst choose_sizes_c3
noncomputable abbrev choose_sizes_c6 : Code := Code.snd choose_sizes_c3
noncomputable abbrev choose_sizes_c7 : Code := Code.fst choose_sizes_c6
noncomputable abbrev choose_sizes_c8 : Code := Code.snd choose_sizes_c6
noncomputable abbrev choose_sizes_c9 : Code := Code.fst choose_sizes_c7
noncomputable abbrev choose_sizes_c10 : Code := Code.snd choose_sizes_c7
noncomputable abbrev choose_sizes_c11 : Code := Code.fst choose_sizes_c4
noncomputable abbrev choose_sizes_c12 : Code := Code.snd choose_sizes_c4
noncomputable abbrev choose_sizes_c13 : Code := Code.fst choose_sizes_c12
noncomputable abbrev choose_sizes_c14 : Code := Code.snd choose_sizes_c12
noncomputable abbrev choose_sizes_c15 : Code := Code.fst choose_sizes_c13
noncomputable abbrev choose_sizes_c16 : Code := Code.snd choose_sizes_c13
noncomputable abbrev choose_sizes_c17 : Code := Code.fst choose_sizes_c16
noncomputable abbrev choose_sizes_c18 : Code := Code.fst choose_sizes_c17
noncomputable abbrev choose_sizes_c19 : Code := Code.fst choose_sizes_c18
noncomputable abbrev choose_sizes_c20 : Code := Code.snd choose_sizes_c18
noncomputable abbrev choose_sizes_c21 : Code := Code.fst choose_sizes_c19
noncomputable abbrev choose_sizes_c22 : Code := Code.snd choose_sizes_c19
noncomputable abbrev choose_sizes_c23 : Code := Code.fst choose_sizes_c22
noncomputable abbrev choose_sizes_c24 : Code := Code.snd choose_sizes_c22
noncomputable abbrev choose_sizes_c25 : Code := Code.fst choose_sizes_c20
noncomputable abbrev choose_sizes_c26 : Code := Code.snd choose_sizes_c20
noncomputable abbrev choose_sizes_c27 : Code := Code.fst choose_sizes_c25
noncomputable abbrev choose_sizes_c28 : Code := Code.fst choose_sizes_c27
noncomputable abbrev choose_sizes_c29 : Code := Code.snd choose_sizes_c27
noncomputable abbrev choose_sizes_c30 : Code := Code.fst choose_sizes_c29
noncomputable abbrev choose_sizes_c31 : Code := Code.snd choose_sizes_c29
noncomputable abbrev choose_sizes_c32 : Code := Code.fst choose_sizes_c31
noncomputable abbrev choose_sizes_c33 : Code := Code.fst choose_sizes_c32
noncomputable abbrev choose_sizes_c34 : Code := Code.fst choose_sizes_c33
noncomputable abbrev choose_sizes_c35 : Code := Code.snd choose_sizes_c33
noncomputable abbrev choose_sizes_c36 : Code := Code.fst choose_sizes_c35
noncomputable abbrev choose_sizes_c37 : Code := Code.snd choose_sizes_c35
noncomputable abbrev choose_sizes_c38 : Code := Code.fst choose_sizes_c36
noncomputable abbrev choose_sizes_c39 : Code := Code.snd choose_sizes_c36
noncomputable abbrev choose_sizes_c40 : Code := Code.fst choose_sizes_c37
noncomputable abbrev choose_sizes_c41 : Code := Code.snd choose_sizes_c37
noncomputable abbrev choose_sizes_c42 : Code := Code.fst choose_sizes_c40
noncomputable abbrev choose_sizes_c43 : Code := Code.fst choose_sizes_c14
noncomputable abbrev choose_sizes_c44 : Code := Code.snd choose_sizes_c14
abbrev choose_sizes_R (w : World) (F : Nat → Prop) (r : List Int) : Ending → World → Prop := fun e w' => ∃ A0 : Option Addr, ∃ n0 : Nat, ∃ c0 : Nat, e = .returned (.slice A0 n0 c0) ∧ B.Loc w w' [.own (.slice A0 n0 c0) 3 1 n0 (r.flatMap (eI .i64))] [St w []] ∧ Ow w.heap.size A0 n0 c0 r
noncomputable abbrev choose_sizes_C (w : World) (F : Nat → Prop) (r : List Int) : Cx := ⟨Try.prog, 49, Try.f49, 45, choose_sizes_R w F  r, w⟩
theorem choose_sizes_calls (w : World) (F : Nat → Prop) (x1 : List api_Node) (A2 : Option Addr) (n3 : Nat) (c4 : Nat) (h5 : Rw k_api_Node w (St w []).av A2 n3 c4 x1) (hF : ∀ b, F b → b < w.heap.size ∧ ∀ o ∈ ([] : List (List Nat)), b ∉ o) (hL0 : B.Loc w w [] [Sm w.heap.size F w [], St w []]) (r : List Int) (h : choose_sizes x1 r) : Calls Try.prog 49 #[.slice A2 n3 c4] w (choose_sizes_R w F  r) := by
  unfold choose_sizes at h
  refine calls_of_Loc (vs := [.slice A2 n3 c4]) 45 Try.func49 rfl Try.ntmps49 rfl hL0 ?_
  show G (choose_sizes_C w F r) _ _ _ _
  refine g_seq (c := choose_sizes_c0) rfl ?_
  refine g_region (c := choose_sizes_c1) rfl rfl ?_
  refine wl_v 0 rfl (v_assign rfl) gn rfl ?_
  refine w_end 1 rfl ?_
  refine g_seq (c := choose_sizes_c2) rfl ?_
  refine g_seq (c := choose_sizes_c3) rfl ?_
  refine g_region (c := choose_sizes_c5) rfl rfl ?_
  refine wl_v 0 rfl (v_move rfl) gn rfl ?_
  obtain ⟨r9, hv10, h⟩ := h
  refine wl_s 1 rfl (s_call [.slice A2 n3 c4] rfl Try.func27 rfl rfl rfl fun w6 hL7 => ?_) gn
  have hp8 : List.Perm ([] : List Ent) (([] : List Ent) ++ ([] : List Ent)) := perm_of_idx [] [] rfl rfl (by kernel_rfl)
  refine Calls.mono (tree_Roots_calls w6 (Fl ([] : List Snap)) x1 A2 n3 c4 (Rw.mono h5 (hL7.toSt hp8 (me 1 rfl))) (hL7.hFl (Sl := ([] : List Snap)) hp8 (sels [] rfl)) (hL7.into hp8 (Fl ([] : List Snap))) r9 hv10) ?_
  rintro _ w11 ⟨rfl, hM12⟩
  have hL13 := hL7.call hp8 hM12
  refine ⟨_, _, _, rfl, hL13, ?_⟩
  refine wl_v 2 rfl (v_bin rfl rfl rfl) gn rfl ?_
  refine w_end 3 rfl ?_
  by_cases hp14 : r9 < 0
  · have h := if_pos' hp14 h
    refine g_true (c := choose_sizes_c6) rfl _ rfl ((decide_eq_true hp14)) ?_
    refine g_seq (c := choose_sizes_c7) rfl ?_
    refine g_region (c := choose_sizes_c9) rfl rfl ?_
    refine wl_v 0 rfl (v_assign rfl) gn rfl ?_
    refine w_end 1 rfl ?_
    refine g_nil 3 1 ?_
    refine g_retR (c := choose_sizes_c10) [.slice none 0 0] rfl Try.func49 rfl (.tmp rfl (.nil)) fun wr hLr => ?_
    have hMr : B.Loc w wr [.own (.slice none 0 0) 3 1 0 (([] : List Int).flatMap (eI .i64))] [St w []] := hLr.pick (rest := []) (perm_of_idx [0] [] rfl rfl (by kernel_rfl)) (sels [1] rfl)
    have hMi : ∀ e ∈ ([.own (.slice none 0 0) 3 1 0 (([] : List Int).flatMap (eI .i64))] : List Ent), e ∈ ([.own (.slice none 0 0) 3 1 0 (([] : List Int).flatMap (eI .i64))] : List Ent) := sels [0] rfl
    show choose_sizes_R w F  r (.returned (packV [.slice none 0 0])) wr
    rw [h]
    exact ⟨none, 0, 0, rfl, hMr, (Ow.nil (z := w.heap.size))⟩
  · have h := if_neg' hp14 h
    refine g_false (c := choose_sizes_c6) rfl _ rfl ((decide_eq_false hp14)) ?_
    refine g_skip (c := choose_sizes_c8) rfl ?_
    refine g_seq (c := choose_sizes_c4) rfl ?_
    refine g_region (c := choose_sizes_c11) rfl rfl ?_
    refine wl_v 0 rfl (v_move rfl) gn rfl ?_
    refine wl_v 1 rfl (v_lenQ un_22 rfl h5.hq) gn rfl ?_
    obtain ⟨hb15, h⟩ := h
    obtain ⟨x19, hv20, h⟩ := h
    refine wl_s 2 rfl (s_makeX (enc := (eI .i64)) (z := 0) mk_45 rfl (by decide) rfl rfl hb15.1 hb15.2 (by decide) hv20 rfl fun A16 h17 => ?_) gn
    refine wl_v 3 rfl (v_assign rfl) gn rfl ?_
    refine w_end 4 rfl ?_
    refine g_seq (c := choose_sizes_c12) rfl ?_
    refine g_seq (c := choose_sizes_c13) rfl ?_
    refine g_region (c := choose_sizes_c15) rfl rfl ?_
    refine wl_v 0 rfl (v_move rfl) gn rfl ?_
    refine wl_v 1 rfl (v_lenQ un_22 rfl h5.hq) gn rfl ?_
    refine wl_v 2 rfl (v_bin rfl rfl rfl) gn rfl ?_
    refine wl_v 3 rfl (v_assign rfl) gn rfl ?_
    refine w_end 4 rfl ?_
    refine g_block (c := choose_sizes_c16) rfl ?_
    refine g_loop (c := choose_sizes_c17) rfl ?_
    have key1 : ∀ s, Rounds (fun (s : (List Int) × Int) o => choose_sizes_b1 x1 s.1 s.2 o) s r → (fun (s : (List Int) × Int) => ∀ (h58 : Ow w.heap.size A16 ((x1.length : Int) : Int).toNat ((x1.length : Int) : Int).toNat s.1), G (choose_sizes_C w F r) [.code choose_sizes_c18, .inLoop choose_sizes_c18, .inBlock 0, .code choose_sizes_c14] [(0, .slice A2 n3 c4), (3, .slice A16 (((x1.length : Int) : Int).toNat) (((x1.length : Int) : Int).toNat)), (4, .int .i64 s.2)] [.own (.slice A16 (((x1.length : Int) : Int).toNat) (((x1.length : Int) : Int).toNat)) 3 1 (((x1.length : Int) : Int).toNat) (s.1.flatMap (eI .i64))] [Sm w.heap.size F w [], St w []]) s := by
      intro s hs
      refine Rounds.ind (mot := (fun (s : (List Int) × Int) => ∀ (h58 : Ow w.heap.size A16 ((x1.length : Int) : Int).toNat ((x1.length : Int) : Int).toNat s.1), G (choose_sizes_C w F r) [.code choose_sizes_c18, .inLoop choose_sizes_c18, .inBlock 0, .code choose_sizes_c14] [(0, .slice A2 n3 c4), (3, .slice A16 (((x1.length : Int) : Int).toNat) (((x1.length : Int) : Int).toNat)), (4, .int .i64 s.2)] [.own (.slice A16 (((x1.length : Int) : Int).toNat) (((x1.length : Int) : Int).toNat)) 3 1 (((x1.length : Int) : Int).toNat) (s.1.flatMap (eI .i64))] [Sm w.heap.size F w [], St w []])) ?_ hs
      clear hs s
      intro s o1 h hO1
      obtain ⟨x57, x59⟩ := s
      show ∀ (h58 : Ow w.heap.size A16 ((x1.length : Int) : Int).toNat ((x1.length : Int) : Int).toNat x57), G (choose_sizes_C w F r) [.code choose_sizes_c18, .inLoop choose_sizes_c18, .inBlock 0, .code choose_sizes_c14] [(0, .slice A2 n3 c4), (3, .slice A16 (((x1.length : Int) : Int).toNat) (((x1.length : Int) : Int).toNat)), (4, .int .i64 x59)] [.own (.slice A16 (((x1.length : Int) : Int).toNat) (((x1.length : Int) : Int).toNat)) 3 1 (((x1.length : Int) : Int).toNat) (x57.flatMap (eI .i64))] [Sm w.heap.size F w [], St w []]
      intro h58
      have h : choose_sizes_b1 x1 x57 x59 o1 := h
      unfold choose_sizes_b1 at h
      refine g_seq (c := choose_sizes_c18) rfl ?_
      refine g_seq (c := choose_sizes_c19) rfl ?_
      refine g_region (c := choose_sizes_c21) rfl rfl ?_
      refine wl_v 0 rfl (v_move rfl) gn rfl ?_
      refine wl_v 1 rfl (v_bin rfl rfl rfl) gn rfl ?_
      refine w_end 2 rfl ?_
      by_cases hp95 : x59 ≥ 0
      · have h := if_pos' hp95 h
        refine g_true (c := choose_sizes_c22) rfl _ rfl ((decide_eq_true hp95)) ?_
        refine g_skip (c := choose_sizes_c23) rfl ?_
        refine g_seq (c := choose_sizes_c20) rfl ?_
        refine g_block (c := choose_sizes_c25) rfl ?_
        refine g_seq (c := choose_sizes_c27) rfl ?_
        refine g_region (c := choose_sizes_c28) rfl rfl ?_
        refine wl_v 0 rfl (v_move rfl) gn rfl ?_
        refine wl_v 1 rfl (v_move rfl) gn rfl ?_
        obtain ⟨hb96, h⟩ := h
        refine wl_v 2 rfl (v_idxO slE_45 rfl rfl h58 hb96) gn rfl ?_
        obtain ⟨x97, hv98, h⟩ := h
        refine wl_s 3 rfl (s_stF (enc := (eI .i64)) (o := 0) (z := 1) (vs := [.int .i64 1]) (i := x59) 0 (hlI .i64) sz_3 rfl rfl rfl rfl rfl h58 hb96 rfl rfl rfl hv98 fun h99 => ?_) gn
        refine w_end 4 rfl ?_
        refine g_seq (c := choose_sizes_c29) rfl ?_
        refine g_region (c := choose_sizes_c30) rfl rfl ?_
        refine wl_v 0 rfl (v_move rfl) gn rfl ?_
        refine wl_v 1 rfl (v_move rfl) gn rfl ?_
        obtain ⟨hb100, h⟩ := h
        have hr101 := Rw.readF (s := St w []) (hl := hl_api_Node) (h1 := h1_api_Node) h5 hb100
        refine wl_v 2 rfl (v_idxR (s := St w []) slE_22 rfl rfl h5 hb100) gn rfl ?_
        refine wl_v 3 rfl (v_fldA fo_39_5 rfl) gn rfl ?_
        refine wl_v 4 rfl (v_ldA1 (kk := (x59 : Int).toNat * 7) (j := 5) (St w []) ld_3 rfl hr101 rfl (me 1 rfl)) gn rfl ?_
        refine wl_v 5 rfl (v_move rfl) gn rfl ?_
        refine w_end 6 rfl ?_
        refine g_block (c := choose_sizes_c31) rfl ?_
        refine g_loop (c := choose_sizes_c32) rfl ?_
        have key2 : ∀ s, Rounds (fun (s : (List Int) × Int) o => choose_sizes_b2 x1 x59 s.1 s.2 o) s o1 → (fun (s : (List Int) × Int) => ∀ (h112 : Ow w.heap.size A16 ((x1.length : Int) : Int).toNat ((x1.length : Int) : Int).toNat s.1), G (choose_sizes_C w F r) [.code choose_sizes_c33, .inLoop choose_sizes_c33, .inBlock 2, .inBlock 1, .code choose_sizes_c26, .inLoop choose_sizes_c18, .inBlock 0, .code choose_sizes_c14] [(0, .slice A2 n3 c4), (3, .slice A16 (((x1.length : Int) : Int).toNat) (((x1.length : Int) : Int).toNat)), (4, .int .i64 x59), (25, .int .i64 ((ix x1 x59).kids)), (26, .int .i64 s.2)] [.own (.slice A16 (((x1.length : Int) : Int).toNat) (((x1.length : Int) : Int).toNat)) 3 1 (((x1.length : Int) : Int).toNat) (s.1.flatMap (eI .i64))] [Sm w.heap.size F w [], St w []]) s := by
          intro s hs
          refine Rounds.ind (mot := (fun (s : (List Int) × Int) => ∀ (h112 : Ow w.heap.size A16 ((x1.length : Int) : Int).toNat ((x1.length : Int) : Int).toNat s.1), G (choose_sizes_C w F r) [.code choose_sizes_c33, .inLoop choose_sizes_c33, .inBlock 2, .inBlock 1, .code choose_sizes_c26, .inLoop choose_sizes_c18, .inBlock 0, .code choose_sizes_c14] [(0, .slice A2 n3 c4), (3, .slice A16 (((x1.length : Int) : Int).toNat) (((x1.length : Int) : Int).toNat)), (4, .int .i64 x59), (25, .int .i64 ((ix x1 x59).kids)), (26, .int .i64 s.2)] [.own (.slice A16 (((x1.length : Int) : Int).toNat) (((x1.length : Int) : Int).toNat)) 3 1 (((x1.length : Int) : Int).toNat) (s.1.flatMap (eI .i64))] [Sm w.heap.size F w [], St w []])) ?_ hs
          clear hs s
          intro s o2 h hO2
          obtain ⟨x111, x113⟩ := s
          show ∀ (h112 : Ow w.heap.size A16 ((x1.length : Int) : Int).toNat ((x1.length : Int) : Int).toNat x111), G (choose_sizes_C w F r) [.code choose_sizes_c33, .inLoop choose_sizes_c33, .inBlock 2, .inBlock 1, .code choose_sizes_c26, .inLoop choose_sizes_c18, .inBlock 0, .code choose_sizes_c14] [(0, .slice A2 n3 c4), (3, .slice A16 (((x1.length : Int) : Int).toNat) (((x1.length : Int) : Int).toNat)), (4, .int .i64 x59), (25, .int .i64 ((ix x1 x59).kids)), (26, .int .i64 x113)] [.own (.slice A16 (((x1.length : Int) : Int).toNat) (((x1.length : Int) : Int).toNat)) 3 1 (((x1.length : Int) : Int).toNat) (x111.flatMap (eI .i64))] [Sm w.heap.size F w [], St w []]
          intro h112
          have h : choose_sizes_b2 x1 x59 x111 x113 o2 := h
          unfold choose_sizes_b2 at h
          refine g_seq (c := choose_sizes_c33) rfl ?_
          refine g_region (c := choose_sizes_c34) rfl rfl ?_
          refine wl_v 0 rfl (v_bin rfl rfl rfl) gn rfl ?_
          refine w_end 1 rfl ?_
          refine g_seq (c := choose_sizes_c35) rfl ?_
          by_cases hp122 : x113 < (ix x1 x59).kids
          · have h := if_pos' hp122 h
            refine g_true (c := choose_sizes_c36) rfl _ rfl ((decide_eq_true hp122)) ?_
            refine g_skip (c := choose_sizes_c38) rfl ?_
            refine g_seq (c := choose_sizes_c37) rfl ?_
            refine g_block (c := choose_sizes_c40) rfl ?_
            obtain ⟨hb123, h⟩ := h
            obtain ⟨hb124, h⟩ := h
            obtain ⟨x125, hv126, h⟩ := h
            have hns : Region.noSelect (Code.ops choose_sizes_c42) = true := by kernel_rfl
            refine g_drawF (c := choose_sizes_c42) [.own (.slice A16 (((x1.length : Int) : Int).toNat) (((x1.length : Int) : Int).toNat)) 3 1 (((x1.length : Int) : Int).toNat) (x111.flatMap (eI .i64))] [Sm w.heap.size F w [], St w []] [15] 16 rfl rfl mix rfl (.cons_cons _ (.slnil)) (sels [0, 1] rfl) ?_
            refine wf_v 0 rfl (v_move rfl) gn rfl hns (by kernel_rfl) (by kernel_rfl) (by kernel_rfl) rfl ?_
            refine wf_v 1 rfl (v_move rfl) gn rfl hns (by kernel_rfl) (by kernel_rfl) (by kernel_rfl) rfl ?_
            refine wf_v 2 rfl (v_idxO slE_45 rfl rfl h112 hb123) gn rfl hns (by kernel_rfl) (by kernel_rfl) (by kernel_rfl) rfl ?_
            refine wf_v 3 rfl (v_ldO1 (.int .i64 (ix x111 x59)) 0 ld_3 rfl rfl (fm_get0 (hlI .i64) hb123 rfl)) gn rfl hns (by kernel_rfl) (by kernel_rfl) (by kernel_rfl) rfl ?_
            refine wf_v 4 rfl (v_move rfl) gn rfl hns (by kernel_rfl) (by kernel_rfl) (by kernel_rfl) rfl ?_
            refine wf_v 5 rfl (v_move rfl) gn rfl hns (by kernel_rfl) (by kernel_rfl) (by kernel_rfl) rfl ?_
            refine wf_v 6 rfl (v_move rfl) gn rfl hns (by kernel_rfl) (by kernel_rfl) (by kernel_rfl) rfl ?_
            refine wf_v 7 rfl (v_move rfl) gn rfl hns (by kernel_rfl) (by kernel_rfl) (by kernel_rfl) rfl ?_
            refine wf_v 8 rfl (v_idxO slE_45 rfl rfl h112 hb123) gn rfl hns (by kernel_rfl) (by kernel_rfl) (by kernel_rfl) rfl ?_
            refine wf_v 9 rfl (v_ldO1 (.int .i64 (ix x111 x59)) 0 ld_3 rfl rfl (fm_get0 (hlI .i64) hb123 rfl)) gn rfl hns (by kernel_rfl) (by kernel_rfl) (by kernel_rfl) rfl ?_
            refine wf_v 10 rfl (v_bin rfl rfl rfl) gn rfl hns (by kernel_rfl) (by kernel_rfl) (by kernel_rfl) rfl ?_
            refine wf_v 11 rfl (v_idxO slE_45 rfl rfl h112 hb124) gn rfl hns (by kernel_rfl) (by kernel_rfl) (by kernel_rfl) rfl ?_
            refine wf_v 12 rfl (v_ldO1 (.int .i64 (ix x111 (w64 (x59 + (ix x111 x59))))) 0 ld_3 rfl rfl (fm_get0 (hlI .i64) hb124 rfl)) gn rfl hns (by kernel_rfl) (by kernel_rfl) (by kernel_rfl) rfl ?_
            refine wf_v 13 rfl (v_bin rfl rfl rfl) gn rfl hns (by kernel_rfl) (by kernel_rfl) (by kernel_rfl) rfl ?_
            refine wf_v 14 rfl (v_idxO slE_45 rfl rfl h112 hb123) gn rfl hns (by kernel_rfl) (by kernel_rfl) (by kernel_rfl) rfl ?_
            refine wf_all [15] (by kernel_rfl) rfl ⟨on_l 15 rfl gn rfl (s_stF (enc := (eI .i64)) (o := 0) (z := (w64 ((ix x111 x59) + (ix x111 (w64 (x59 + (ix x111 x59))))))) (vs := [.int .i64 (w64 ((ix x111 x59) + (ix x111 (w64 (x59 + (ix x111 x59))))))]) (i := x59) 0 (hlI .i64) sz_3 rfl rfl rfl rfl rfl h112 hb123 rfl rfl rfl hv126 fun h129 => ?_), trivial⟩
            unfold NxL
            refine wf_end (by kernel_rfl) ?_
            refine g_inBlock ?_
            refine g_region (c := choose_sizes_c41) rfl rfl ?_
            refine wl_v 0 rfl (v_bin rfl rfl rfl) gn rfl ?_
            refine wl_v 1 rfl (v_move rfl) gn rfl ?_
            refine w_end 2 rfl ?_
            refine g_inLoop ?_
            have ih := Out.inl hO2 h
            exact g_go [0, 1] (ih h129) ⟨rfl, rfl, rfl, rfl, rfl, trivial⟩ (.cons_cons _ (.slnil)) rfl
          · have h := if_neg' hp122 h
            refine g_false (c := choose_sizes_c36) rfl _ rfl ((decide_eq_false hp122)) ?_
            refine g_exit (c := choose_sizes_c39) [.inBlock 1, .code choose_sizes_c26, .inLoop choose_sizes_c18, .inBlock 0, .code choose_sizes_c14] rfl rfl ?_
            refine g_inBlock ?_
            refine g_region (c := choose_sizes_c26) rfl rfl ?_
            refine wl_v 0 rfl (v_move rfl) gn rfl ?_
            refine wl_v 1 rfl (v_bin rfl rfl rfl) gn rfl ?_
            refine wl_v 2 rfl (v_assign rfl) gn rfl ?_
            refine w_end 3 rfl ?_
            refine g_inLoop ?_
            have h := Out.inr hO2 h
            have ih := Out.inl hO1 h
            exact g_go [0, 1] (ih h112) ⟨rfl, rfl, rfl, trivial⟩ (.cons_cons _ (.slnil)) rfl
        exact g_go [0, 1] (key2 _ h h99) ⟨rfl, rfl, rfl, rfl, rfl, trivial⟩ (.cons_cons _ (.slnil)) rfl
      · have h := if_neg' hp95 h
        refine g_false (c := choose_sizes_c22) rfl _ rfl ((decide_eq_false hp95)) ?_
        refine g_exit (c := choose_sizes_c24) [.code choose_sizes_c14] rfl rfl ?_
        refine g_seq (c := choose_sizes_c14) rfl ?_
        refine g_region (c := choose_sizes_c43) rfl rfl ?_
        refine wl_v 0 rfl (v_move rfl) gn rfl ?_
        refine wl_v 1 rfl (v_assign rfl) gn rfl ?_
        refine w_end 2 rfl ?_
        have h := Out.inr hO1 h
        refine g_retR (c := choose_sizes_c44) [.slice A16 (((x1.length : Int) : Int).toNat) (((x1.length : Int) : Int).toNat)] rfl Try.func49 rfl (.tmp rfl (.nil)) fun wr hLr => ?_
        have hMr : B.Loc w wr [.own (.slice A16 (((x1.length : Int) : Int).toNat) (((x1.length : Int) : Int).toNat)) 3 1 (((x1.length : Int) : Int).toNat) (x57.flatMap (eI .i64))] [St w []] := hLr.pick (rest := []) (perm_of_idx [0] [] rfl rfl (by kernel_rfl)) (sels [1] rfl)
        have hMi : ∀ e ∈ ([.own (.slice A16 (((x1.length : Int) : Int).toNat) (((x1.length : Int) : Int).toNat)) 3 1 (((x1.length : Int) : Int).toNat) (x57.flatMap (eI .i64))] : List Ent), e ∈ ([.own (.slice A16 (((x1.length : Int) : Int).toNat) (((x1.length : Int) : Int).toNat)) 3 1 (((x1.length : Int) : Int).toNat) (x57.flatMap (eI .i64))] : List Ent) := sels [0] rfl
        show choose_sizes_R w F  r (.returned (packV [.slice A16 (((x1.length : Int) : Int).toNat) (((x1.length : Int) : Int).toNat)])) wr
        rw [h]
        exact ⟨A16, ((x1.length : Int) : Int).toNat, ((x1.length : Int) : Int).toNat, rfl, hMr, h58⟩
    exact g_go [0, 1] (key1 _ h h17) ⟨rfl, rfl, rfl, trivial⟩ (.cons_cons _ (.slnil)) rfl
noncomputable abbrev choose_has_c0 : Code := bodyOf Try.f50
noncomputable abbrev choose_has_c1 : Code := Code.fst choose_has_c0
noncomputable abbrev choose_has_c2 : Code := Code.snd choose_has_c0
noncomputable abbrev choose_has_c3 : Code := Code.fst choose_has_c2
noncomputable abbrev choose_has_c4 : Code := Code.snd choose_has_c2
abbrev choose_has_R (w : World) (F : Nat → Prop) (r : Bool) : Ending → World → Prop := fun e w' => e = .returned (.bool r) ∧ B.Loc w w' [] [St w []]
noncomputable abbrev choose_has_C (w : World) (F : Nat → Prop) (r : Bool) : Cx := ⟨Try.prog, 50, Try.f50, 17, choose_has_R w F  r, w⟩
theorem choose_has_calls (w : World) (F : Nat → Prop) (x1 : api_Node) (x2 : api_Range) (hF : ∀ b, F b → b < w.heap.size ∧ ∀ o ∈ ([] : List (List Nat)), b ∉ o) (hL0 : B.Loc w w [] [Sm w.heap.size F w [], St w []]) (r : Bool) (h : choose_has x1 x2 r) : Calls Try.prog 50 #[.agg #[.string x1.name, .bool x1.named, .string x1.field, .int .i64 x1.from_, .int .i64 x1.to, .int .i64 x1.kids, .int .i64 x1.leaf], .agg #[.int .i64 x2.from_, .int .i64 x2.to]] w (choose_has_R w F  r) := by
  unfold choose_has at h
  refine calls_of_Loc (vs := [.agg #[.string x1.name, .bool x1.named, .string x1.field, .int .i64 x1.from_, .int .i64 x1.to, .int .i64 x1.kids, .int .i64 x1.leaf], .agg #[.int .i64 x2.from_, .int .i64 x2.to]]) 17 Try.func50 rfl Try.ntmps50 rfl hL0 ?_
  show G (choose_has_C w F r) _ _ _ _
  refine g_seq (c := choose_has_c0) rfl ?_
  refine g_region (c := choose_has_c1) rfl rfl ?_
  refine wl_s 0 rfl (s_box [.string x1.name, .bool x1.named, .string x1.field, .int .i64 x1.from_, .int .i64 x1.to, .int .i64 x1.kids, .int .i64 x1.leaf] rfl rfl rfl fun gb3 => ?_) gn
  refine wl_s 1 rfl (s_box [.int .i64 x2.from_, .int .i64 x2.to] rfl rfl rfl fun gb5 => ?_) gn
  refine wl_v 2 rfl (v_assign rfl) gn rfl ?_
  refine w_end 3 rfl ?_
  refine g_seq (c := choose_has_c2) rfl ?_
  refine g_region (c := choose_has_c3) rfl rfl ?_
  refine wl_v 0 rfl (v_fldB fo_39_3 rfl) gn rfl ?_
  refine wl_v 1 rfl (v_ldB1 1 ld_3 rfl rfl rfl) gn rfl ?_
  refine wl_v 2 rfl (v_fldB fo_24_0 rfl) gn rfl ?_
  refine wl_v 3 rfl (v_ldB1 0 ld_3 rfl rfl rfl) gn rfl ?_
  refine wl_v 4 rfl (v_bin rfl rfl rfl) gn rfl ?_
  refine wl_v 5 rfl (v_move rfl) gn rfl ?_
  by_cases hp7 : x1.from_ ≤ x2.from_
  · have h := if_pos' hp7 h
    refine w_bool 10 rfl ((decide_eq_true hp7)) ?_
    refine wl_v 6 rfl (v_fldB fo_39_4 rfl) (gy 10 rfl rfl) rfl ?_
    refine wl_v 7 rfl (v_ldB1 1 ld_3 rfl rfl rfl) (gy 10 rfl rfl) rfl ?_
    refine wl_v 8 rfl (v_fldB fo_24_1 rfl) (gy 10 rfl rfl) rfl ?_
    refine wl_v 9 rfl (v_ldB1 0 ld_3 rfl rfl rfl) (gy 10 rfl rfl) rfl ?_
    refine wl_v 10 rfl (v_bin rfl rfl rfl) (gy 10 rfl rfl) rfl ?_
    refine wl_v 11 rfl (v_pick (b := true) rfl rfl) gn rfl ?_
    refine wl_v 12 rfl (v_assign rfl) gn rfl ?_
    refine w_end 13 rfl ?_
    refine g_retR (c := choose_has_c4) [.bool (decide (x1.to ≥ x2.to))] rfl Try.func50 rfl (.tmp rfl (.nil)) fun wr hLr => ?_
    have hMr : B.Loc w wr [] [St w []] := hLr.pick (rest := [.box gb5 24 [.int .i64 x2.from_, .int .i64 x2.to], .box gb3 39 [.string x1.name, .bool x1.named, .string x1.field, .int .i64 x1.from_, .int .i64 x1.to, .int .i64 x1.kids, .int .i64 x1.leaf]]) (perm_of_idx [] [0, 1] rfl rfl (by kernel_rfl)) (sels [1] rfl)
    have hMi : ∀ e ∈ ([] : List Ent), e ∈ ([.box gb5 24 [.int .i64 x2.from_, .int .i64 x2.to], .box gb3 39 [.string x1.name, .bool x1.named, .string x1.field, .int .i64 x1.from_, .int .i64 x1.to, .int .i64 x1.kids, .int .i64 x1.leaf]] : List Ent) := sels [] rfl
    show choose_has_R w F  r (.returned (packV [.bool (decide (x1.to ≥ x2.to))])) wr
    rw [h]
    exact ⟨rfl, hMr⟩
  · have h := if_neg' hp7 h
    refine w_bool 10 rfl ((decide_eq_false hp7)) ?_
    refine wl_pass 6 rfl (ps 10 rfl rfl rfl) ?_
    refine wl_pass 7 rfl (ps 10 rfl rfl rfl) ?_
    refine wl_pass 8 rfl (ps 10 rfl rfl rfl) ?_
    refine wl_pass 9 rfl (ps 10 rfl rfl rfl) ?_
    refine wl_pass 10 rfl (ps 10 rfl rfl rfl) ?_
    refine wl_v 11 rfl (v_pick (b := false) rfl rfl) gn rfl ?_
    refine wl_v 12 rfl (v_assign rfl) gn rfl ?_
    refine w_end 13 rfl ?_
    refine g_retR (c := choose_has_c4) [.bool false] rfl Try.func50 rfl (.tmp rfl (.nil)) fun wr hLr => ?_
    have hMr : B.Loc w wr [] [St w []] := hLr.pick (rest := [.box gb5 24 [.int .i64 x2.from_, .int .i64 x2.to], .box gb3 39 [.string x1.name, .bool x1.named, .string x1.field, .int .i64 x1.from_, .int .i64 x1.to, .int .i64 x1.kids, .int .i64 x1.leaf]]) (perm_of_idx [] [0, 1] rfl rfl (by kernel_rfl)) (sels [1] rfl)
    have hMi : ∀ e ∈ ([] : List Ent), e ∈ ([.box gb5 24 [.int .i64 x2.from_, .int .i64 x2.to], .box gb3 39 [.string x1.name, .bool x1.named, .string x1.field, .int .i64 x1.from_, .int .i64 x1.to, .int .i64 x1.kids, .int .i64 x1.leaf]] : List Ent) := sels [] rfl
    show choose_has_R w F  r (.returned (packV [.bool false])) wr
    rw [h]
    exact ⟨rfl, hMr⟩
noncomputable abbrev choose_way_c0 : Code := bodyOf Try.f33
noncomputable abbrev choose_way_c1 : Code := Code.fst choose_way_c0
noncomputable abbrev choose_way_c2 : Code := Code.snd choose_way_c0
noncomputable abbrev choose_way_c3 : Code := Code.fst choose_way_c2
noncomputable abbrev choose_way_c4 : Code := Code.snd choose_way_c2
noncomputable abbrev choose_way_c5 : Code := Code.fst choose_way_c4
noncomputable abbrev choose_way_c6 : Code := Code.snd choose_way_c4
noncomputable abbrev choose_way_c7 : Code := Code.fst choose_way_c6
noncomputable abbrev choose_way_c8 : Code := Code.snd choose_way_c6
noncomputable abbrev choose_way_c9 : Code := Code.fst choose_way_c7
noncomputable abbrev choose_way_c10 : Code := Code.snd choose_way_c7
noncomputable abbrev choose_way_c11 : Code := Code.fst choose_way_c10
noncomputable abbrev choose_way_c12 : Code := Code.fst choose_way_c11
noncomputable abbrev choose_way_c13 : Code := Code.fst choose_way_c12
noncomputable abbrev choose_way_c14 : Code := Code.snd choose_way_c12
noncomputable abbrev choose_way_c15 : Code := Code.fst choose_way_c13
noncomputable abbrev choose_way_c16 : Code := Code.snd choose_way_c13
noncomputable abbrev choose_way_c17 : Code := Code.fst choose_way_c16
noncomputable abbrev choose_way_c18 : Code := Code.snd choose_way_c16
noncomputable abbrev choose_way_c19 : Code := Code.fst choose_way_c14
noncomputable abbrev choose_way_c20 : Code := Code.fst choose_way_c19
noncomputable abbrev choose_way_c21 : Code := Code.snd choose_way_c19
noncomputable abbrev choose_way_c22 : Code := Code.fst choose_way_c21
noncomputable abbrev choose_way_c23 : Code := Code.snd choose_way_c21
noncomputable abbrev choose_way_c24 : Code := Code.fst choose_way_c22
noncomputable abbrev choose_way_c25 : Code := Code.snd choose_way_c22
noncomputable abbrev choose_way_c26 : Code := Code.fst choose_way_c8
noncomputable abbrev choose_way_c27 : Code := Code.snd choose_way_c8
abbrev choose_way_R (w : World) (F : Nat → Prop) (r : List Int) : Ending → World → Prop := fun e w' => ∃ A0 : Option Addr, ∃ n0 : Nat, ∃ c0 : Nat, e = .returned (.slice A0 n0 c0) ∧ B.Loc w w' [.own (.slice A0 n0 c0) 3 1 n0 (r.flatMap (eI .i64))] [St w []] ∧ Ow w.heap.size A0 n0 c0 r
noncomputable abbrev choose_way_C (w : World) (F : Nat → Prop) (r : List Int) : Cx := ⟨Try.prog, 33, Try.f33, 41, choose_way_R w F  r, w⟩
theorem choose_way_calls (w : World) (F : Nat → Prop) (x1 : List api_Node) (x6 : api_Range) (A2 : Option Addr) (n3 : Nat) (c4 : Nat) (h5 : Rw k_api_Node w (St w []).av A2 n3 c4 x1) (hF : ∀ b, F b → b < w.heap.size ∧ ∀ o ∈ ([] : List (List Nat)), b ∉ o) (hL0 : B.Loc w w [] [Sm w.heap.size F w [], St w []]) (r : List Int) (h : choose_way x1 x6 r) : Calls Try.prog 33 #[.slice A2 n3 c4, .agg #[.int .i64 x6.from_, .int .i64 x6.to]] w (choose_way_R w F  r) := by
  unfold choose_way at h
  refine calls_of_Loc (vs := [.slice A2 n3 c4, .agg #[.int .i64 x6.from_, .int .i64 x6.to]]) 41 Try.func33 rfl Try.ntmps33 rfl hL0 ?_
  show G (choose_way_C w F r) _ _ _ _
  refine g_seq (c := choose_way_c0) rfl ?_
  refine g_region (c := choose_way_c1) rfl rfl ?_
  refine wl_s 0 rfl (s_box [.int .i64 x6.from_, .int .i64 x6.to] rfl rfl rfl fun gb7 => ?_) gn
  refine wl_v 1 rfl (v_assign rfl) gn rfl ?_
  refine w_end 2 rfl ?_
  refine g_seq (c := choose_way_c2) rfl ?_
  refine g_region (c := choose_way_c3) rfl rfl ?_
  refine wl_v 0 rfl (v_move rfl) gn rfl ?_
  obtain ⟨r12, hv13, h⟩ := h
  refine wl_s 1 rfl (s_call [.slice A2 n3 c4] rfl Try.func49 rfl rfl rfl fun w9 hL10 => ?_) gn
  have hp11 : List.Perm ([.box gb7 24 [.int .i64 x6.from_, .int .i64 x6.to]] : List Ent) (([] : List Ent) ++ ([.box gb7 24 [.int .i64 x6.from_, .int .i64 x6.to]] : List Ent)) := perm_of_idx [] [0] rfl rfl (by kernel_rfl)
  refine Calls.mono (choose_sizes_calls w9 (Fl ([] : List Snap)) x1 A2 n3 c4 (Rw.mono h5 (hL10.toSt hp11 (me 1 rfl))) (hL10.hFl (Sl := ([] : List Snap)) hp11 (sels [] rfl)) (hL10.into hp11 (Fl ([] : List Snap))) r12 hv13) ?_
  rintro _ w19 ⟨A14, n15, c16, rfl, hM20, h17⟩
  have hL21 := hL10.call hp11 hM20
  refine ⟨_, _, _, rfl, hL21, ?_⟩
  refine wl_v 2 rfl (v_assign rfl) gn rfl ?_
  refine w_end 3 rfl ?_
  refine g_seq (c := choose_way_c4) rfl ?_
  refine g_region (c := choose_way_c5) rfl rfl ?_
  refine wl_v 0 rfl (v_assign rfl) gn rfl ?_
  refine w_end 1 rfl ?_
  refine g_seq (c := choose_way_c6) rfl ?_
  refine g_seq (c := choose_way_c7) rfl ?_
  refine g_region (c := choose_way_c9) rfl rfl ?_
  refine wl_v 0 rfl (v_move rfl) gn rfl ?_
  refine wl_v 1 rfl (v_lenQ un_45 rfl (Ow.weak hL10.env.size h17).hq) gn rfl ?_
  refine wl_v 2 rfl (v_assign rfl) gn rfl ?_
  refine wl_v 3 rfl (v_assign rfl) gn rfl ?_
  refine w_end 4 rfl ?_
  refine g_block (c := choose_way_c10) rfl ?_
  refine g_loop (c := choose_way_c11) rfl ?_
  have key1 : ∀ s, Rounds (fun (s : (List Int) × Int × Int) o => choose_way_b1 x1 x6 r12 s.1 s.2.1 s.2.2 o) s r → (fun (s : (List Int) × Int × Int) => ∀ (A74 : Option Addr) (n75 : Nat) (c76 : Nat) (h77 : Ow w.heap.size A74 n75 c76 s.1), G (choose_way_C w F r) [.code choose_way_c12, .inLoop choose_way_c12, .inBlock 0, .code choose_way_c8] [(0, .slice A2 n3 c4), (3, .pointer (some ⟨gb7, 0, none⟩)), (5, .slice A14 n15 c16), (6, .slice A74 n75 c76), (7, .int .i64 s.2.1), (8, .int .i64 s.2.2)] [.own (.slice A74 n75 c76) 3 1 n75 (s.1.flatMap (eI .i64)), .own (.slice A14 n15 c16) 3 1 n15 (r12.flatMap (eI .i64)), .box gb7 24 [.int .i64 x6.from_, .int .i64 x6.to]] [Sm w.heap.size F w [], St w []]) s := by
    intro s hs
    refine Rounds.ind (mot := (fun (s : (List Int) × Int × Int) => ∀ (A74 : Option Addr) (n75 : Nat) (c76 : Nat) (h77 : Ow w.heap.size A74 n75 c76 s.1), G (choose_way_C w F r) [.code choose_way_c12, .inLoop choose_way_c12, .inBlock 0, .code choose_way_c8] [(0, .slice A2 n3 c4), (3, .pointer (some ⟨gb7, 0, none⟩)), (5, .slice A14 n15 c16), (6, .slice A74 n75 c76), (7, .int .i64 s.2.1), (8, .int .i64 s.2.2)] [.own (.slice A74 n75 c76) 3 1 n75 (s.1.flatMap (eI .i64)), .own (.slice A14 n15 c16) 3 1 n15 (r12.flatMap (eI .i64)), .box gb7 24 [.int .i64 x6.from_, .int .i64 x6.to]] [Sm w.heap.size F w [], St w []])) ?_ hs
    clear hs s
    intro s o1 h hO1
    obtain ⟨x73, x78, x79⟩ := s
    show ∀ (A74 : Option Addr) (n75 : Nat) (c76 : Nat) (h77 : Ow w.heap.size A74 n75 c76 x73), G (choose_way_C w F r) [.code choose_way_c12, .inLoop choose_way_c12, .inBlock 0, .code choose_way_c8] [(0, .slice A2 n3 c4), (3, .pointer (some ⟨gb7, 0, none⟩)), (5, .slice A14 n15 c16), (6, .slice A74 n75 c76), (7, .int .i64 x78), (8, .int .i64 x79)] [.own (.slice A74 n75 c76) 3 1 n75 (x73.flatMap (eI .i64)), .own (.slice A14 n15 c16) 3 1 n15 (r12.flatMap (eI .i64)), .box gb7 24 [.int .i64 x6.from_, .int .i64 x6.to]] [Sm w.heap.size F w [], St w []]
    intro A74 n75 c76 h77
    have h : choose_way_b1 x1 x6 r12 x73 x78 x79 o1 := h
    unfold choose_way_b1 at h
    refine g_seq (c := choose_way_c12) rfl ?_
    refine g_seq (c := choose_way_c13) rfl ?_
    refine g_region (c := choose_way_c15) rfl rfl ?_
    refine wl_v 0 rfl (v_move rfl) gn rfl ?_
    refine wl_v 1 rfl (v_move rfl) gn rfl ?_
    refine wl_v 2 rfl (v_bin rfl rfl rfl) gn rfl ?_
    refine w_end 3 rfl ?_
    by_cases hp129 : x78 < x79
    · have h := if_pos' hp129 h
      refine g_true (c := choose_way_c16) rfl _ rfl ((decide_eq_true hp129)) ?_
      refine g_skip (c := choose_way_c17) rfl ?_
      refine g_block (c := choose_way_c14) rfl ?_
      refine g_seq (c := choose_way_c19) rfl ?_
      obtain ⟨hb130, h⟩ := h
      obtain ⟨r135, hv136, h⟩ := h
      have hns : Region.noSelect (Code.ops choose_way_c20) = true := by kernel_rfl
      refine g_drawF (c := choose_way_c20) [.own (.slice A74 n75 c76) 3 1 n75 (x73.flatMap (eI .i64)), .own (.slice A14 n15 c16) 3 1 n15 (r12.flatMap (eI .i64)), .box gb7 24 [.int .i64 x6.from_, .int .i64 x6.to]] [Sm w.heap.size F w [], St w []] [] 6 rfl rfl mix rfl (.cons_cons _ (.cons_cons _ (.cons_cons _ (.slnil)))) (sels [0, 1] rfl) ?_
      refine wf_v 0 rfl (v_move rfl) gn rfl hns (by kernel_rfl) (by kernel_rfl) rfl rfl ?_
      refine wf_v 1 rfl (v_move rfl) gn rfl hns (by kernel_rfl) (by kernel_rfl) rfl rfl ?_
      have hr153 := Rw.readF (s := St w []) (hl := hl_api_Node) (h1 := h1_api_Node) h5 hb130
      refine wf_v 2 rfl (v_idxR (s := St w []) slE_22 rfl rfl h5 hb130) gn rfl hns (by kernel_rfl) (by kernel_rfl) rfl rfl ?_
      refine wf_v 3 rfl (v_ldA (St w []) ld_39 rfl hr153 rfl (me 1 rfl)) gn rfl hns (by kernel_rfl) (by kernel_rfl) rfl rfl ?_
      refine wf_v 4 rfl (v_ldB [.int .i64 x6.from_, .int .i64 x6.to] 2 ld_24 rfl rfl rfl rfl) gn rfl hns (by kernel_rfl) (by kernel_rfl) rfl rfl ?_
      refine wf_all [5] (by kernel_rfl) rfl ⟨on_s 5 rfl gn rfl (s_call [.agg #[.string ((ix x1 x78).name), .bool ((ix x1 x78).named), .string ((ix x1 x78).field), .int .i64 ((ix x1 x78).from_), .int .i64 ((ix x1 x78).to), .int .i64 ((ix x1 x78).kids), .int .i64 ((ix x1 x78).leaf)], .agg #[.int .i64 x6.from_, .int .i64 x6.to]] rfl Try.func50 rfl rfl rfl fun w160 hL161 => ?_), trivial⟩
      have hp162 : List.Perm ([.own (.slice A74 n75 c76) 3 1 n75 (x73.flatMap (eI .i64)), .own (.slice A14 n15 c16) 3 1 n15 (r12.flatMap (eI .i64)), .box gb7 24 [.int .i64 x6.from_, .int .i64 x6.to]] : List Ent) (([] : List Ent) ++ ([.own (.slice A74 n75 c76) 3 1 n75 (x73.flatMap (eI .i64)), .own (.slice A14 n15 c16) 3 1 n15 (r12.flatMap (eI .i64)), .box gb7 24 [.int .i64 x6.from_, .int .i64 x6.to]] : List Ent)) := perm_of_idx [] [0, 1, 2] rfl rfl (by kernel_rfl)
      refine Calls.mono (choose_has_calls w160 (Fl ([] : List Snap)) (ix x1 x78) x6 (hL161.hFl (Sl := ([] : List Snap)) hp162 (sels [] rfl)) (hL161.into hp162 (Fl ([] : List Snap))) r135 hv136) ?_
      rintro _ w163 ⟨rfl, hM164⟩
      have hL165 := hL161.call hp162 hM164
      refine ⟨_, _, _, rfl, hL165, ?_⟩
      refine ⟨sels [0, 1, 2] rfl, sels [0, 1] rfl, ?_⟩
      refine wf_end (by kernel_rfl) ?_
      by_cases hp166 : r135 = true
      · have h := if_pos' hp166 h
        refine g_true (c := choose_way_c21) rfl _ rfl (hp166) ?_
        refine g_seq (c := choose_way_c22) rfl ?_
        refine g_region (c := choose_way_c24) rfl rfl ?_
        refine wl_v 0 rfl (v_move rfl) gn rfl ?_
        refine wl_v 1 rfl (v_move rfl) gn rfl ?_
        refine wl_s 2 rfl (s_litO (xs := ([x78] : List Int)) [.int .i64 x78] bs_45_1 rfl (by kernel_rfl) rfl rfl rfl rfl fun gb168 h169 => ?_) gn
        obtain ⟨x173, hv174, h⟩ := h
        obtain ⟨hb175, h⟩ := h
        refine wl_s 3 rfl (s_app (zs := x173) (cells' := x173.flatMap (eI .i64)) 1 ap_45 rfl rfl rfl h77 (Nat.le_refl _) (Src.ownF (hl := (hlI .i64)) (h1 := (hone_int .i64)) 0 rfl h169) (by rw [hv174, List.flatMap_append] <;> rfl) (app_len hv174 h169.hq) hb175 rfl rfl fun A170 c171 h172 => ?_) gn
        refine wl_v 4 rfl (v_assign rfl) gn rfl ?_
        refine w_end 5 rfl ?_
        obtain ⟨hb176, h⟩ := h
        have hns : Region.noSelect (Code.ops choose_way_c25) = true := by kernel_rfl
        refine g_drawF (c := choose_way_c25) [.own (.slice (some ⟨gb168, 0, none⟩) 1 1) 3 1 1 (([x78] : List Int).flatMap (eI .i64)), .own (.slice A170 (n75 + 1) c171) 3 1 (n75 + 1) (x173.flatMap (eI .i64)), .own (.slice A14 n15 c16) 3 1 n15 (r12.flatMap (eI .i64)), .box gb7 24 [.int .i64 x6.from_, .int .i64 x6.to]] [Sm w.heap.size F w [], St w []] [] 10 rfl rfl mix rfl (.cons_cons _ (.cons_cons _ (.cons_cons _ (.cons_cons _ (.slnil))))) (sels [0, 1] rfl) ?_
        refine wf_v 0 rfl (v_move rfl) gn rfl hns (by kernel_rfl) (by kernel_rfl) rfl rfl ?_
        refine wf_v 1 rfl (v_bin rfl rfl rfl) gn rfl hns (by kernel_rfl) (by kernel_rfl) rfl rfl ?_
        refine wf_v 2 rfl (v_move rfl) gn rfl hns (by kernel_rfl) (by kernel_rfl) rfl rfl ?_
        refine wf_v 3 rfl (v_move rfl) gn rfl hns (by kernel_rfl) (by kernel_rfl) rfl rfl ?_
        refine wf_v 4 rfl (v_move rfl) gn rfl hns (by kernel_rfl) (by kernel_rfl) rfl rfl ?_
        refine wf_v 5 rfl (v_idxO slE_45 rfl rfl (Ow.weak hL10.env.size h17) hb176) gn rfl hns (by kernel_rfl) (by kernel_rfl) rfl rfl ?_
        refine wf_v 6 rfl (v_ldO1 (.int .i64 (ix r12 x78)) 2 ld_3 rfl rfl (fm_get0 (hlI .i64) hb176 rfl)) gn rfl hns (by kernel_rfl) (by kernel_rfl) rfl rfl ?_
        refine wf_v 7 rfl (v_bin rfl rfl rfl) gn rfl hns (by kernel_rfl) (by kernel_rfl) rfl rfl ?_
        refine wf_v 8 rfl (v_assign rfl) gn rfl hns (by kernel_rfl) (by kernel_rfl) rfl rfl ?_
        refine wf_v 9 rfl (v_assign rfl) gn rfl hns (by kernel_rfl) (by kernel_rfl) rfl rfl ?_
        refine wf_end (by kernel_rfl) ?_
        refine g_inBlock ?_
        refine g_inLoop ?_
        have ih := Out.inl hO1 h
        exact g_go [0, 1] (ih A170 (n75 + 1) c171 h172) ⟨rfl, rfl, rfl, rfl, rfl, rfl, trivial⟩ (.cons _ (.cons_cons _ (.cons_cons _ (.cons_cons _ (.slnil))))) rfl
      · have h := if_neg' hp166 h
        refine g_false (c := choose_way_c21) rfl _ rfl ((bf hp166)) ?_
        refine g_region (c := choose_way_c23) rfl rfl ?_
        refine wl_v 0 rfl (v_move rfl) gn rfl ?_
        refine wl_v 1 rfl (v_move rfl) gn rfl ?_
        refine wl_v 2 rfl (v_move rfl) gn rfl ?_
        obtain ⟨hb177, h⟩ := h
        refine wl_v 3 rfl (v_idxO slE_45 rfl rfl (Ow.weak hL10.env.size h17) hb177) gn rfl ?_
        refine wl_v 4 rfl (v_ldO1 (.int .i64 (ix r12 x78)) 1 ld_3 rfl rfl (fm_get0 (hlI .i64) hb177 rfl)) gn rfl ?_
        refine wl_v 5 rfl (v_bin rfl rfl rfl) gn rfl ?_
        refine wl_v 6 rfl (v_assign rfl) gn rfl ?_
        refine w_end 7 rfl ?_
        refine g_inBlock ?_
        refine g_inLoop ?_
        have ih := Out.inl hO1 h
        exact g_go [0, 1] (ih A74 n75 c76 h77) ⟨rfl, rfl, rfl, rfl, rfl, rfl, trivial⟩ (.cons_cons _ (.cons_cons _ (.cons_cons _ (.slnil)))) rfl
    · have h := if_neg' hp129 h
      refine g_false (c := choose_way_c16) rfl _ rfl ((decide_eq_false hp129)) ?_
      refine g_exit (c := choose_way_c18) [.code choose_way_c8] rfl rfl ?_
      refine g_seq (c := choose_way_c8) rfl ?_
      refine g_region (c := choose_way_c26) rfl rfl ?_
      refine wl_v 0 rfl (v_move rfl) gn rfl ?_
      refine wl_v 1 rfl (v_assign rfl) gn rfl ?_
      refine w_end 2 rfl ?_
      have h := Out.inr hO1 h
      refine g_retR (c := choose_way_c27) [.slice A74 n75 c76] rfl Try.func33 rfl (.tmp rfl (.nil)) fun wr hLr => ?_
      have hMr : B.Loc w wr [.own (.slice A74 n75 c76) 3 1 n75 (x73.flatMap (eI .i64))] [St w []] := hLr.pick (rest := [.own (.slice A14 n15 c16) 3 1 n15 (r12.flatMap (eI .i64)), .box gb7 24 [.int .i64 x6.from_, .int .i64 x6.to]]) (perm_of_idx [0] [1, 2] rfl rfl (by kernel_rfl)) (sels [1] rfl)
      have hMi : ∀ e ∈ ([.own (.slice A74 n75 c76) 3 1 n75 (x73.flatMap (eI .i64))] : List Ent), e ∈ ([.own (.slice A74 n75 c76) 3 1 n75 (x73.flatMap (eI .i64)), .own (.slice A14 n15 c16) 3 1 n15 (r12.flatMap (eI .i64)), .box gb7 24 [.int .i64 x6.from_, .int .i64 x6.to]] : List Ent) := sels [0] rfl
      show choose_way_R w F  r (.returned (packV [.slice A74 n75 c76])) wr
      rw [h]
      exact ⟨A74, n75, c76, rfl, hMr, h77⟩
  refine g_nil 3 1 ?_
  exact g_go [0, 1] (key1 _ h none 0 0 (Ow.nil (z := w.heap.size))) ⟨rfl, rfl, rfl, rfl, rfl, rfl, trivial⟩ (.cons_cons _ (.cons_cons _ (.cons_cons _ (.slnil)))) rfl
noncomputable abbrev choose_Cover_c0 : Code := bodyOf Try.f12
noncomputable abbrev choose_Cover_c1 : Code := Code.fst choose_Cover_c0
noncomputable abbrev choose_Cover_c2 : Code := Code.snd choose_Cover_c0
noncomputable abbrev choose_Cover_c3 : Code := Code.fst choose_Cover_c2
noncomputable abbrev choose_Cover_c4 : Code := Code.snd choose_Cover_c2
noncomputable abbrev choose_Cover_c5 : Code := Code.fst choose_Cover_c4
noncomputable abbrev choose_Cover_c6 : Code := Code.snd choose_Cover_c4
noncomputable abbrev choose_Cover_c7 : Code := Code.fst choose_Cover_c5
noncomputable abbrev choose_Cover_c8 : Code := Code.snd choose_Cover_c5
noncomputable abbrev choose_Cover_c9 : Code := Code.fst choose_Cover_c8
noncomputable abbrev choose_Cover_c10 : Code := Code.snd choose_Cover_c8
noncomputable abbrev choose_Cover_c11 : Code := Code.fst choose_Cover_c9
noncomputable abbrev choose_Cover_c12 : Code := Code.snd choose_Cover_c9
noncomputable abbrev choose_Cover_c13 : Code := Code.fst choose_Cover_c6
noncomputable abbrev choose_Cover_c14 : Code := Code.snd choose_Cover_c6
abbrev choose_Cover_R (w : World) (F : Nat → Prop) (r : Int) : Ending → World → Prop := fun e w' => e = .returned (.int .i64 r) ∧ B.Loc w w' [] [St w []]
noncomputable abbrev choose_Cover_C (w : World) (F : Nat → Prop) (r : Int) : Cx := ⟨Try.prog, 12, Try.f12, 19, choose_Cover_R w F  r, w⟩
theorem choose_Cover_calls (w : World) (F : Nat → Prop) (x1 : List api_Node) (x6 : api_Range) (A2 : Option Addr) (n3 : Nat) (c4 : Nat) (h5 : Rw k_api_Node w (St w []).av A2 n3 c4 x1) (hF : ∀ b, F b → b < w.heap.size ∧ ∀ o ∈ ([] : List (List Nat)), b ∉ o) (hL0 : B.Loc w w [] [Sm w.heap.size F w [], St w []]) (r : Int) (h : choose_Cover x1 x6 r) : Calls Try.prog 12 #[.slice A2 n3 c4, .agg #[.int .i64 x6.from_, .int .i64 x6.to]] w (choose_Cover_R w F  r) := by
  unfold choose_Cover at h
  refine calls_of_Loc (vs := [.slice A2 n3 c4, .agg #[.int .i64 x6.from_, .int .i64 x6.to]]) 19 Try.func12 rfl Try.ntmps12 rfl hL0 ?_
  show G (choose_Cover_C w F r) _ _ _ _
  refine g_seq (c := choose_Cover_c0) rfl ?_
  refine g_region (c := choose_Cover_c1) rfl rfl ?_
  refine wl_s 0 rfl (s_box [.int .i64 x6.from_, .int .i64 x6.to] rfl rfl rfl fun gb7 => ?_) gn
  refine wl_v 1 rfl (v_assign rfl) gn rfl ?_
  refine w_end 2 rfl ?_
  refine g_seq (c := choose_Cover_c2) rfl ?_
  refine g_region (c := choose_Cover_c3) rfl rfl ?_
  refine wl_v 0 rfl (v_move rfl) gn rfl ?_
  refine wl_v 1 rfl (v_ldB [.int .i64 x6.from_, .int .i64 x6.to] 0 ld_24 rfl rfl rfl rfl) gn rfl ?_
  obtain ⟨r12, hv13, h⟩ := h
  refine wl_s 2 rfl (s_call [.agg #[.int .i64 x6.from_, .int .i64 x6.to]] rfl Try.func34 rfl rfl rfl fun w9 hL10 => ?_) gn
  have hp11 : List.Perm ([.box gb7 24 [.int .i64 x6.from_, .int .i64 x6.to]] : List Ent) (([] : List Ent) ++ ([.box gb7 24 [.int .i64 x6.from_, .int .i64 x6.to]] : List Ent)) := perm_of_idx [] [0] rfl rfl (by kernel_rfl)
  refine Calls.mono (choose_taken_calls w9 (Fl ([] : List Snap)) x6 (hL10.hFl (Sl := ([] : List Snap)) hp11 (sels [] rfl)) (hL10.into hp11 (Fl ([] : List Snap))) r12 hv13) ?_
  rintro _ w14 ⟨rfl, hM15⟩
  have hL16 := hL10.call hp11 hM15
  refine ⟨_, _, _, rfl, hL16, ?_⟩
  obtain ⟨r20, hv21, h⟩ := h
  refine wl_s 3 rfl (s_call [.slice A2 n3 c4, .agg #[.int .i64 r12.from_, .int .i64 r12.to]] rfl Try.func33 rfl rfl rfl fun w17 hL18 => ?_) gn
  have hp19 : List.Perm ([.box gb7 24 [.int .i64 x6.from_, .int .i64 x6.to]] : List Ent) (([] : List Ent) ++ ([.box gb7 24 [.int .i64 x6.from_, .int .i64 x6.to]] : List Ent)) := perm_of_idx [] [0] rfl rfl (by kernel_rfl)
  refine Calls.mono (choose_way_calls w17 (Fl ([] : List Snap)) x1 r12 A2 n3 c4 (Rw.mono h5 (hL18.toSt hp19 (me 1 rfl))) (hL18.hFl (Sl := ([] : List Snap)) hp19 (sels [] rfl)) (hL18.into hp19 (Fl ([] : List Snap))) r20 hv21) ?_
  rintro _ w27 ⟨A22, n23, c24, rfl, hM28, h25⟩
  have hL29 := hL18.call hp19 hM28
  refine ⟨_, _, _, rfl, hL29, ?_⟩
  refine wl_v 4 rfl (v_assign rfl) gn rfl ?_
  refine w_end 5 rfl ?_
  refine g_seq (c := choose_Cover_c4) rfl ?_
  refine g_seq (c := choose_Cover_c5) rfl ?_
  refine g_region (c := choose_Cover_c7) rfl rfl ?_
  refine wl_v 0 rfl (v_move rfl) gn rfl ?_
  refine wl_v 1 rfl (v_lenQ un_45 rfl (Ow.weak hL18.env.size h25).hq) gn rfl ?_
  refine wl_v 2 rfl (v_bin rfl rfl rfl) gn rfl ?_
  refine w_end 3 rfl ?_
  by_cases hp30 : (r20.length : Int) = 0
  · have h := if_pos' hp30 h
    refine g_true (c := choose_Cover_c8) rfl _ rfl ((eqi hp30)) ?_
    refine g_seq (c := choose_Cover_c9) rfl ?_
    refine g_region (c := choose_Cover_c11) rfl rfl ?_
    refine wl_v 0 rfl (v_assign rfl) gn rfl ?_
    refine w_end 1 rfl ?_
    refine g_retR (c := choose_Cover_c12) [.int .i64 (-1)] rfl Try.func12 rfl (.tmp rfl (.nil)) fun wr hLr => ?_
    have hMr : B.Loc w wr [] [St w []] := hLr.pick (rest := [.own (.slice A22 n23 c24) 3 1 n23 (r20.flatMap (eI .i64)), .box gb7 24 [.int .i64 x6.from_, .int .i64 x6.to]]) (perm_of_idx [] [0, 1] rfl rfl (by kernel_rfl)) (sels [1] rfl)
    have hMi : ∀ e ∈ ([] : List Ent), e ∈ ([.own (.slice A22 n23 c24) 3 1 n23 (r20.flatMap (eI .i64)), .box gb7 24 [.int .i64 x6.from_, .int .i64 x6.to]] : List Ent) := sels [] rfl
    show choose_Cover_R w F  r (.returned (packV [.int .i64 (-1)])) wr
    rw [h]
    exact ⟨rfl, hMr⟩
  · have h := if_neg' hp30 h
    refine g_false (c := choose_Cover_c8) rfl _ rfl ((nei hp30)) ?_
    refine g_skip (c := choose_Cover_c10) rfl ?_
    refine g_seq (c := choose_Cover_c6) rfl ?_
    refine g_region (c := choose_Cover_c13) rfl rfl ?_
    refine wl_v 0 rfl (v_move rfl) gn rfl ?_
    refine wl_v 1 rfl (v_move rfl) gn rfl ?_
    refine wl_v 2 rfl (v_lenQ un_45 rfl (Ow.weak hL18.env.size h25).hq) gn rfl ?_
    refine wl_v 3 rfl (v_bin rfl rfl rfl) gn rfl ?_
    obtain ⟨hb31, h⟩ := h
    refine wl_v 4 rfl (v_idxO slE_45 rfl rfl (Ow.weak hL18.env.size h25) hb31) gn rfl ?_
    refine wl_v 5 rfl (v_ldO1 (.int .i64 (ix r20 (w64 ((r20.length : Int) - 1)))) 0 ld_3 rfl rfl (fm_get0 (hlI .i64) hb31 rfl)) gn rfl ?_
    refine wl_v 6 rfl (v_assign rfl) gn rfl ?_
    refine w_end 7 rfl ?_
    refine g_retR (c := choose_Cover_c14) [.int .i64 (ix r20 (w64 ((r20.length : Int) - 1)))] rfl Try.func12 rfl (.tmp rfl (.nil)) fun wr hLr => ?_
    have hMr : B.Loc w wr [] [St w []] := hLr.pick (rest := [.own (.slice A22 n23 c24) 3 1 n23 (r20.flatMap (eI .i64)), .box gb7 24 [.int .i64 x6.from_, .int .i64 x6.to]]) (perm_of_idx [] [0, 1] rfl rfl (by kernel_rfl)) (sels [1] rfl)
    have hMi : ∀ e ∈ ([] : List Ent), e ∈ ([.own (.slice A22 n23 c24) 3 1 n23 (r20.flatMap (eI .i64)), .box gb7 24 [.int .i64 x6.from_, .int .i64 x6.to]] : List Ent) := sels [] rfl
    show choose_Cover_R w F  r (.returned (packV [.int .i64 (ix r20 (w64 ((r20.length : Int) - 1)))])) wr
    rw [h]
    exact ⟨rfl, hMr⟩
noncomputable abbrev choose_bytes_c0 : Code := bodyOf Try.f36
noncomputable abbrev choose_bytes_c1 : Code := Code.fst choose_bytes_c0
noncomputable abbrev choose_bytes_c2 : Code := Code.snd choose_bytes_c0
noncomputable abbrev choose_bytes_c3 : Code := Code.fst choose_bytes_c2
noncomputable abbrev choose_bytes_c4 : Code := Code.snd choose_bytes_c2
abbrev choose_bytes_R (w : World) (F : Nat → Prop) (r : api_Range) : Ending → World → Prop := fun e w' => e = .returned (.agg #[.int .i64 r.from_, .int .i64 r.to]) ∧ B.Loc w w' [] [St w []]
noncomputable abbrev choose_bytes_C (w : World) (F : Nat → Prop) (r : api_Range) : Cx := ⟨Try.prog, 36, Try.f36, 8, choose_bytes_R w F  r, w⟩
theorem choose_bytes_calls (w : World) (F : Nat → Prop) (x1 : api_Node) (hF : ∀ b, F b → b < w.heap.size ∧ ∀ o ∈ ([] : List (List Nat)), b ∉ o) (hL0 : B.Loc w w [] [Sm w.heap.size F w [], St w []]) (r : api_Range) (h : choose_bytes x1 r) : Calls Try.prog 36 #[.agg #[.string x1.name, .bool x1.named, .string x1.field, .int .i64 x1.from_, .int .i64 x1.to, .int .i64 x1.kids, .int .i64 x1.leaf]] w (choose_bytes_R w F  r) := by
  unfold choose_bytes at h
  refine calls_of_Loc (vs := [.agg #[.string x1.name, .bool x1.named, .string x1.field, .int .i64 x1.from_, .int .i64 x1.to, .int .i64 x1.kids, .int .i64 x1.leaf]]) 8 Try.func36 rfl Try.ntmps36 rfl hL0 ?_
  show G (choose_bytes_C w F r) _ _ _ _
  refine g_seq (c := choose_bytes_c0) rfl ?_
  refine g_region (c := choose_bytes_c1) rfl rfl ?_
  refine wl_s 0 rfl (s_box [.string x1.name, .bool x1.named, .string x1.field, .int .i64 x1.from_, .int .i64 x1.to, .int .i64 x1.kids, .int .i64 x1.leaf] rfl rfl rfl fun gb2 => ?_) gn
  refine wl_s 1 rfl (s_alloc [.int .i64 0, .int .i64 0] zr_24 rfl fun gb4 => ?_) gn
  refine w_end 2 rfl ?_
  refine g_seq (c := choose_bytes_c2) rfl ?_
  refine g_region (c := choose_bytes_c3) rfl rfl ?_
  refine wl_v 0 rfl (v_fldB fo_39_3 rfl) gn rfl ?_
  refine wl_v 1 rfl (v_ldB1 1 ld_3 rfl rfl rfl) gn rfl ?_
  refine wl_v 2 rfl (v_fldB fo_39_4 rfl) gn rfl ?_
  refine wl_v 3 rfl (v_ldB1 1 ld_3 rfl rfl rfl) gn rfl ?_
  refine wl_v 4 rfl (v_build #[.int .i64 x1.from_, .int .i64 x1.to] bd_24 rfl (by kernel_rfl)) gn rfl ?_
  refine wl_s 5 rfl (s_stB (vs := [.int .i64 x1.from_, .int .i64 x1.to]) (cs' := [.int .i64 x1.from_, .int .i64 x1.to]) (M' := [.box gb4 24 [.int .i64 x1.from_, .int .i64 x1.to], .box gb2 39 [.string x1.name, .bool x1.named, .string x1.field, .int .i64 x1.from_, .int .i64 x1.to, .int .i64 x1.kids, .int .i64 x1.leaf]]) 0 sz_24 rfl rfl rfl rfl rfl rfl rfl rfl rfl ?_) gn
  refine w_end 6 rfl ?_
  refine g_retR (c := choose_bytes_c4) [.agg #[.int .i64 x1.from_, .int .i64 x1.to]] rfl Try.func36 rfl (.cell (cs := [.int .i64 x1.from_, .int .i64 x1.to]) (us := [.int .i64 x1.from_, .int .i64 x1.to]) 0 rfl ld_24 rfl rfl rfl (.nil)) fun wr hLr => ?_
  have hMr : B.Loc w wr [] [St w []] := hLr.pick (rest := [.box gb4 24 [.int .i64 x1.from_, .int .i64 x1.to], .box gb2 39 [.string x1.name, .bool x1.named, .string x1.field, .int .i64 x1.from_, .int .i64 x1.to, .int .i64 x1.kids, .int .i64 x1.leaf]]) (perm_of_idx [] [0, 1] rfl rfl (by kernel_rfl)) (sels [1] rfl)
  have hMi : ∀ e ∈ ([] : List Ent), e ∈ ([.box gb4 24 [.int .i64 x1.from_, .int .i64 x1.to], .box gb2 39 [.string x1.name, .bool x1.named, .string x1.field, .int .i64 x1.from_, .int .i64 x1.to, .int .i64 x1.kids, .int .i64 x1.leaf]] : List Ent) := sels [] rfl
  show choose_bytes_R w F  r (.returned (packV [.agg #[.int .i64 x1.from_, .int .i64 x1.to]])) wr
  rw [h]
  exact ⟨rfl, hMr⟩
noncomputable abbrev choose_Grow_c0 : Code := bodyOf Try.f13
abbrev choose_Grow_R (w : World) (F : Nat → Prop) (r : api_Range) : Ending → World → Prop := fun e w' => e = .returned (.agg #[.int .i64 r.from_, .int .i64 r.to]) ∧ B.Loc w w' [] [St w []]
noncomputable abbrev choose_Grow_C (w : World) (F : Nat → Prop) (r : api_Range) : Cx := ⟨Try.prog, 13, Try.f13, 26, choose_Grow_R w F  r, w⟩
theorem choose_Grow_calls (w : World) (F : Nat → Prop) (x1 : List api_Node) (x6 : api_Range) (A2 : Option Addr) (n3 : Nat) (c4 : Nat) (h5 : Rw k_api_Node w (St w []).av A2 n3 c4 x1) (hF : ∀ b, F b → b < w.heap.size ∧ ∀ o ∈ ([] : List (List Nat)), b ∉ o) (hL0 : B.Loc w w [] [Sm w.heap.size F w [], St w []]) (r : api_Range) (h : choose_Grow x1 x6 r) : Calls Try.prog 13 #[.slice A2 n3 c4, .agg #[.int .i64 x6.from_, .int .i64 x6.to]] w (choose_Grow_R w F  r) := by
  unfold choose_Grow at h
  obtain ⟨q, hq, l, hl, hin, hll, hr⟩ := h
  exact W.grow_calls h5 (fun w1 => choose_taken_calls w1 _ x6 (fun _ h => h.elim) (W.loc0 w1 (fun _ => False)) q hq) (fun w1 hR => choose_way_calls w1 _ x1 q A2 n3 c4 hR (fun _ h => h.elim) (W.loc0 w1 (fun _ => False)) l hl) (fun w1 x => choose_bytes_calls w1 _ x (fun _ h => h.elim) (W.loc0 w1 (fun _ => False)) (byt x) rfl) hin hll hr
end Go.Proofs.Ytoifgnogoddmlaa.K
