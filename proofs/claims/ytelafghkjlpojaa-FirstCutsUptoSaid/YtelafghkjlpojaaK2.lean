/- What the machine's calls do, function by function, printed by my own tool. Condition of each: its relation holds of the answer, and what is handed in lies in memory as told. -/
import Derived.Test.YtelafghkjlpojaaK1
set_option linter.unusedVariables false
set_option maxRecDepth 100000
set_option maxHeartbeats 4000000
namespace Go.Proofs.Ytelafghkjlpojaa.K
open Go.Proofs.Ytelafghkjlpojaa.B Go.Proofs.Ytelafghkjlpojaa.R Go.RowKit
noncomputable abbrev trellisref11_Nullable_c0 : Code := bodyOf Try.f16
noncomputable abbrev trellisref11_Nullable_c1 : Code := Code.fst trellisref11_Nullable_c0
noncomputable abbrev trellisref11_Nullable_c2 : Code := Code.snd trellisref11_Nullable_c0
noncomputable abbrev trellisref11_Nullable_c3 : Code := Code.fst trellisref11_Nullable_c2
noncomputable abbrev trellisref11_Nullable_c4 : Code := Code.snd trellisref11_Nullable_c2
noncomputable abbrev trellisref11_Nullable_c5 : Code := Code.fst trellisref11_Nullable_c3
noncomputable abbrev trellisref11_Nullable_c6 : Code := Code.snd trellisref11_Nullable_c3
noncomputable abbrev trellisref11_Nullable_c7 : Code := Code.fst trellisref11_Nullable_c6
noncomputable abbrev trellisref11_Nullable_c8 : Code := Code.snd trellisref11_Nullable_c6
noncomputable abbrev trellisref11_Nullable_c9 : Code := Code.fst trellisref11_Nullable_c4
noncomputable abbrev trellisref11_Nullable_c10 : Code := Code.snd trellisref11_Nullable_c4
noncomputable abbrev trellisref11_Nullable_c11 : Code := Code.fst trellisref11_Nullable_c10
noncomputable abbrev trellisref11_Nullable_c12 : Code := Code.snd trellisref11_Nullable_c10
noncomputable abbrev trellisref11_Nullable_c13 : Code := Code.fst trellisref11_Nullable_c11
noncomputable abbrev trellisref11_Nullable_c14 : Code := Code.snd trellisref11_Nullable_c11
noncomputable abbrev trellisref11_Nullable_c15 : Code := Code.fst trellisref11_Nullable_c14
noncomputable abbrev trellisref11_Nullable_c16 : Code := Code.fst trellisref11_Nullable_c15
noncomputable abbrev trellisref11_Nullable_c17 : Code := Code.fst trellisref11_Nullable_c16
noncomputable abbrev trellisref11_Nullable_c18 : Code := Code.snd trellisref11_Nullable_c16
noncomputable abbrev trellisref11_Nullable_c19 : Code := Code.fst trellisref11_Nullable_c17
noncomputable abbrev trellisref11_Nullable_c20 : Code := Code.snd trellisref11_Nullable_c17
noncomputable abbrev trellisref11_Nullable_c21 : Code := Code.fst trellisref11_Nullable_c20
noncomputable abbrev trellisref11_Nullable_c22 : Code := Code.snd trellisref11_Nullable_c20
noncomputable abbrev trellisref11_Nullable_c23 : Code := Code.fst trellisref11_Nullable_c18
noncomputable abbrev trellisref11_Nullable_c24 : Code := Code.snd trellisref11_Nullable_c18
noncomputable abbrev trellisref11_Nullable_c25 : Code := Code.fst trellisref11_Nullable_c23
noncomputable abbrev trellisref11_Nullable_c26 : Code := Code.fst trellisref11_Nullable_c25
noncomputable abbrev trellisref11_Nullable_c27 : Code := Code.snd trellisref11_Nullable_c25
noncomputable abbrev trellisref11_Nullable_c28 : Code := Code.fst trellisref11_Nullable_c27
noncomputable abbrev trellisref11_Nullable_c29 : Code := Code.fst trellisref11_Nullable_c28
noncomputable abbrev trellisref11_Nullable_c30 : Code := Code.fst trellisref11_Nullable_c29
noncomputable abbrev trellisref11_Nullable_c31 : Code := Code.snd trellisref11_Nullable_c29
noncomputable abbrev trellisref11_Nullable_c32 : Code := Code.fst trellisref11_Nullable_c30
noncomputable abbrev trellisref11_Nullable_c33 : Code := Code.snd trellisref11_Nullable_c30
noncomputable abbrev trellisref11_Nullable_c34 : Code := Code.fst trellisref11_Nullable_c33
noncomputable abbrev trellisref11_Nullable_c35 : Code := Code.snd trellisref11_Nullable_c33
noncomputable abbrev trellisref11_Nullable_c36 : Code := Code.fst trellisref11_Nullable_c31
noncomputable abbrev trellisref11_Nullable_c37 : Code := Code.snd trellisref11_Nullable_c31
noncomputable abbrev trellisref11_Nullable_c38 : Code := Code.fst trellisref11_Nullable_c36
noncomputable abbrev trellisref11_Nullable_c39 : Code := Code.fst trellisref11_Nullable_c38
noncomputable abbrev trellisref11_Nullable_c40 : Code := Code.snd trellisref11_Nullable_c38
noncomputable abbrev trellisref11_Nullable_c41 : Code := Code.fst trellisref11_Nullable_c40
noncomputable abbrev trellisref11_Nullable_c42 : Code := Code.snd trellisref11_Nullable_c40
noncomputable abbrev trellisref11_Nullable_c43 : Code := Code.fst trellisref11_Nullable_c42
noncomputable abbrev trellisref11_Nullable_c44 : Code := Code.snd trellisref11_Nullable_c42
noncomputable abbrev trellisref11_Nullable_c45 : Code := Code.fst trellisref11_Nullable_c12
noncomputable abbrev trellisref11_Nullable_c46 : Code := Code.snd trellisref11_Nullable_c12
noncomputable abbrev trellisref11_Nullable_c47 : Code := Code.fst trellisref11_Nullable_c7
noncomputable abbrev trellisref11_Nullable_c48 : Code := Code.snd trellisref11_Nullable_c7
abbrev trellisref11_Nullable_R (w : World) (F : Nat → Prop) (r : List Bool) : Ending → World → Prop := fun e w' => ∃ A0 : Option Addr, ∃ n0 : Nat, ∃ c0 : Nat, e = .returned (.slice A0 n0 c0) ∧ B.Loc w w' [.own (.slice A0 n0 c0) 4 1 n0 (r.flatMap eB)] [St w []] ∧ Ow w.heap.size A0 n0 c0 r
noncomputable abbrev trellisref11_Nullable_C (w : World) (F : Nat → Prop) (r : List Bool) : Cx := ⟨Try.prog, 16, Try.f16, 55, trellisref11_Nullable_R w F  r, w⟩
theorem trellisref11_Nullable_calls (w : World) (F : Nat → Prop) (x1 : api_Gram) (A2 : Option Addr) (n3 : Nat) (c4 : Nat) (A6 : Option Addr) (n7 : Nat) (c8 : Nat) (A10 : Option Addr) (n11 : Nat) (c12 : Nat) (h5 : Rw k_api_TermDef w (St w []).av A2 n3 c4 x1.terms) (h9 : Rw k_api_Sym w (St w []).av A6 n7 c8 x1.syms) (h13 : Rw k_api_Prod w (St w []).av A10 n11 c12 x1.prods) (hF : ∀ b, F b → b < w.heap.size ∧ ∀ o ∈ ([] : List (List Nat)), b ∉ o) (hL0 : B.Loc w w [] [Sm w.heap.size F w [], St w []]) (r : List Bool) (h : trellisref11_Nullable x1 r) : Calls Try.prog 16 #[.agg #[.slice A2 n3 c4, .slice A6 n7 c8, .slice A10 n11 c12]] w (trellisref11_Nullable_R w F  r) := by
  unfold trellisref11_Nullable at h
  refine calls_of_Loc (vs := [.agg #[.slice A2 n3 c4, .slice A6 n7 c8, .slice A10 n11 c12]]) 55 Try.func16 rfl Try.ntmps16 rfl hL0 ?_
  show G (trellisref11_Nullable_C w F r) _ _ _ _
  refine g_seq (c := trellisref11_Nullable_c0) rfl ?_
  refine g_region (c := trellisref11_Nullable_c1) rfl rfl ?_
  refine wl_s 0 rfl (s_box [.slice A2 n3 c4, .slice A6 n7 c8, .slice A10 n11 c12] rfl rfl rfl fun gb14 => ?_) gn
  refine wl_v 1 rfl (v_assign rfl) gn rfl ?_
  refine w_end 2 rfl ?_
  refine g_seq (c := trellisref11_Nullable_c2) rfl ?_
  refine g_seq (c := trellisref11_Nullable_c3) rfl ?_
  refine g_region (c := trellisref11_Nullable_c5) rfl rfl ?_
  refine wl_v 0 rfl (v_ldB [.slice A2 n3 c4, .slice A6 n7 c8, .slice A10 n11 c12] 0 ld_26 rfl rfl rfl rfl) gn rfl ?_
  obtain ⟨r19, hv20, h⟩ := h
  refine wl_s 1 rfl (s_call [.agg #[.slice A2 n3 c4, .slice A6 n7 c8, .slice A10 n11 c12]] rfl Try.func27 rfl rfl rfl fun w16 hL17 => ?_) gn
  have hp18 : List.Perm ([.box gb14 26 [.slice A2 n3 c4, .slice A6 n7 c8, .slice A10 n11 c12]] : List Ent) (([] : List Ent) ++ ([.box gb14 26 [.slice A2 n3 c4, .slice A6 n7 c8, .slice A10 n11 c12]] : List Ent)) := perm_of_idx [] [0] rfl rfl (by kernel_rfl)
  refine Calls.mono (trellisref11_Sound_calls w16 (Fl ([] : List Snap)) x1 A2 n3 c4 A6 n7 c8 A10 n11 c12 (Rw.mono h5 (hL17.toSt hp18 (me 1 rfl))) (Rw.mono h9 (hL17.toSt hp18 (me 1 rfl))) (Rw.mono h13 (hL17.toSt hp18 (me 1 rfl))) (hL17.hFl (Sl := ([] : List Snap)) hp18 (sels [] rfl)) (hL17.into hp18 (Fl ([] : List Snap))) r19 hv20) ?_
  rintro _ w21 ⟨rfl, hM22⟩
  have hL23 := hL17.call hp18 hM22
  refine ⟨_, _, _, rfl, hL23, ?_⟩
  refine wl_v 2 rfl (v_not rfl) gn rfl ?_
  refine w_end 3 rfl ?_
  by_cases hp24 : r19 = true
  · have h := if_pos' hp24 h
    refine g_false (c := trellisref11_Nullable_c6) rfl _ rfl ((nf hp24)) ?_
    refine g_skip (c := trellisref11_Nullable_c8) rfl ?_
    refine g_seq (c := trellisref11_Nullable_c4) rfl ?_
    refine g_region (c := trellisref11_Nullable_c9) rfl rfl ?_
    refine wl_v 0 rfl (v_fldB fo_26_0 rfl) gn rfl ?_
    refine wl_v 1 rfl (v_ldB1 0 ld_22 rfl rfl rfl) gn rfl ?_
    refine wl_v 2 rfl (v_lenQ un_22 rfl h5.hq) gn rfl ?_
    refine wl_v 3 rfl (v_fldB fo_26_1 rfl) gn rfl ?_
    refine wl_v 4 rfl (v_ldB1 0 ld_23 rfl rfl rfl) gn rfl ?_
    refine wl_v 5 rfl (v_lenQ un_23 rfl h9.hq) gn rfl ?_
    refine wl_v 6 rfl (v_bin rfl rfl rfl) gn rfl ?_
    obtain ⟨hb25, h⟩ := h
    obtain ⟨x29, hv30, h⟩ := h
    refine wl_s 7 rfl (s_makeX (enc := eB) (z := false) mk_40 rfl (by decide) rfl rfl hb25.1 hb25.2 (by decide) hv30 rfl fun A26 h27 => ?_) gn
    refine wl_v 8 rfl (v_assign rfl) gn rfl ?_
    refine w_end 9 rfl ?_
    refine g_seq (c := trellisref11_Nullable_c10) rfl ?_
    refine g_seq (c := trellisref11_Nullable_c11) rfl ?_
    refine g_region (c := trellisref11_Nullable_c13) rfl rfl ?_
    refine wl_v 0 rfl (v_assign rfl) gn rfl ?_
    refine w_end 1 rfl ?_
    refine g_block (c := trellisref11_Nullable_c14) rfl ?_
    refine g_loop (c := trellisref11_Nullable_c15) rfl ?_
    have key1 : ∀ s, Rounds (fun (s : (List Bool) × Int) o => trellisref11_Nullable_b1 x1 s.1 s.2 o) s r → (fun (s : (List Bool) × Int) => ∀ (A116 : Option Addr) (n117 : Nat) (c118 : Nat) (h119 : Ow w.heap.size A116 n117 c118 s.1), G (trellisref11_Nullable_C w F r) [.code trellisref11_Nullable_c16, .inLoop trellisref11_Nullable_c16, .inBlock 0, .code trellisref11_Nullable_c12] [(1, .pointer (some ⟨gb14, 0, none⟩)), (3, .slice A116 n117 c118), (4, .int .i64 s.2)] [.own (.slice A116 n117 c118) 4 1 n117 (s.1.flatMap eB), .box gb14 26 [.slice A2 n3 c4, .slice A6 n7 c8, .slice A10 n11 c12]] [Sm w.heap.size F w [], St w []]) s := by
      intro s hs
      refine Rounds.ind (mot := (fun (s : (List Bool) × Int) => ∀ (A116 : Option Addr) (n117 : Nat) (c118 : Nat) (h119 : Ow w.heap.size A116 n117 c118 s.1), G (trellisref11_Nullable_C w F r) [.code trellisref11_Nullable_c16, .inLoop trellisref11_Nullable_c16, .inBlock 0, .code trellisref11_Nullable_c12] [(1, .pointer (some ⟨gb14, 0, none⟩)), (3, .slice A116 n117 c118), (4, .int .i64 s.2)] [.own (.slice A116 n117 c118) 4 1 n117 (s.1.flatMap eB), .box gb14 26 [.slice A2 n3 c4, .slice A6 n7 c8, .slice A10 n11 c12]] [Sm w.heap.size F w [], St w []])) ?_ hs
      clear hs s
      intro s o1 h hO1
      obtain ⟨x115, x120⟩ := s
      show ∀ (A116 : Option Addr) (n117 : Nat) (c118 : Nat) (h119 : Ow w.heap.size A116 n117 c118 x115), G (trellisref11_Nullable_C w F r) [.code trellisref11_Nullable_c16, .inLoop trellisref11_Nullable_c16, .inBlock 0, .code trellisref11_Nullable_c12] [(1, .pointer (some ⟨gb14, 0, none⟩)), (3, .slice A116 n117 c118), (4, .int .i64 x120)] [.own (.slice A116 n117 c118) 4 1 n117 (x115.flatMap eB), .box gb14 26 [.slice A2 n3 c4, .slice A6 n7 c8, .slice A10 n11 c12]] [Sm w.heap.size F w [], St w []]
      intro A116 n117 c118 h119
      have h : trellisref11_Nullable_b1 x1 x115 x120 o1 := h
      unfold trellisref11_Nullable_b1 at h
      refine g_seq (c := trellisref11_Nullable_c16) rfl ?_
      refine g_seq (c := trellisref11_Nullable_c17) rfl ?_
      refine g_region (c := trellisref11_Nullable_c19) rfl rfl ?_
      refine wl_v 0 rfl (v_move rfl) gn rfl ?_
      refine wl_v 1 rfl (v_fldB fo_26_1 rfl) gn rfl ?_
      refine wl_v 2 rfl (v_ldB1 1 ld_23 rfl rfl rfl) gn rfl ?_
      refine wl_v 3 rfl (v_lenQ un_23 rfl h9.hq) gn rfl ?_
      refine wl_v 4 rfl (v_bin rfl rfl rfl) gn rfl ?_
      refine w_end 5 rfl ?_
      by_cases hp204 : x120 < (x1.syms.length : Int)
      · have h := if_pos' hp204 h
        refine g_true (c := trellisref11_Nullable_c20) rfl _ rfl ((decide_eq_true hp204)) ?_
        refine g_skip (c := trellisref11_Nullable_c21) rfl ?_
        refine g_seq (c := trellisref11_Nullable_c18) rfl ?_
        refine g_block (c := trellisref11_Nullable_c23) rfl ?_
        refine g_seq (c := trellisref11_Nullable_c25) rfl ?_
        refine g_region (c := trellisref11_Nullable_c26) rfl rfl ?_
        refine wl_v 0 rfl (v_assign rfl) gn rfl ?_
        refine w_end 1 rfl ?_
        refine g_block (c := trellisref11_Nullable_c27) rfl ?_
        refine g_loop (c := trellisref11_Nullable_c28) rfl ?_
        have key2 : ∀ s, Rounds (fun (s : (List Bool) × Int) o => trellisref11_Nullable_b2 x1 x120 s.1 s.2 o) s o1 → (fun (s : (List Bool) × Int) => ∀ (A232 : Option Addr) (n233 : Nat) (c234 : Nat) (h235 : Ow w.heap.size A232 n233 c234 s.1), G (trellisref11_Nullable_C w F r) [.code trellisref11_Nullable_c29, .inLoop trellisref11_Nullable_c29, .inBlock 2, .inBlock 1, .code trellisref11_Nullable_c24, .inLoop trellisref11_Nullable_c16, .inBlock 0, .code trellisref11_Nullable_c12] [(1, .pointer (some ⟨gb14, 0, none⟩)), (3, .slice A232 n233 c234), (4, .int .i64 x120), (5, .int .i64 s.2)] [.own (.slice A232 n233 c234) 4 1 n233 (s.1.flatMap eB), .box gb14 26 [.slice A2 n3 c4, .slice A6 n7 c8, .slice A10 n11 c12]] [Sm w.heap.size F w [], St w []]) s := by
          intro s hs
          refine Rounds.ind (mot := (fun (s : (List Bool) × Int) => ∀ (A232 : Option Addr) (n233 : Nat) (c234 : Nat) (h235 : Ow w.heap.size A232 n233 c234 s.1), G (trellisref11_Nullable_C w F r) [.code trellisref11_Nullable_c29, .inLoop trellisref11_Nullable_c29, .inBlock 2, .inBlock 1, .code trellisref11_Nullable_c24, .inLoop trellisref11_Nullable_c16, .inBlock 0, .code trellisref11_Nullable_c12] [(1, .pointer (some ⟨gb14, 0, none⟩)), (3, .slice A232 n233 c234), (4, .int .i64 x120), (5, .int .i64 s.2)] [.own (.slice A232 n233 c234) 4 1 n233 (s.1.flatMap eB), .box gb14 26 [.slice A2 n3 c4, .slice A6 n7 c8, .slice A10 n11 c12]] [Sm w.heap.size F w [], St w []])) ?_ hs
          clear hs s
          intro s o2 h hO2
          obtain ⟨x231, x236⟩ := s
          show ∀ (A232 : Option Addr) (n233 : Nat) (c234 : Nat) (h235 : Ow w.heap.size A232 n233 c234 x231), G (trellisref11_Nullable_C w F r) [.code trellisref11_Nullable_c29, .inLoop trellisref11_Nullable_c29, .inBlock 2, .inBlock 1, .code trellisref11_Nullable_c24, .inLoop trellisref11_Nullable_c16, .inBlock 0, .code trellisref11_Nullable_c12] [(1, .pointer (some ⟨gb14, 0, none⟩)), (3, .slice A232 n233 c234), (4, .int .i64 x120), (5, .int .i64 x236)] [.own (.slice A232 n233 c234) 4 1 n233 (x231.flatMap eB), .box gb14 26 [.slice A2 n3 c4, .slice A6 n7 c8, .slice A10 n11 c12]] [Sm w.heap.size F w [], St w []]
          intro A232 n233 c234 h235
          have h : trellisref11_Nullable_b2 x1 x120 x231 x236 o2 := h
          unfold trellisref11_Nullable_b2 at h
          refine g_seq (c := trellisref11_Nullable_c29) rfl ?_
          refine g_seq (c := trellisref11_Nullable_c30) rfl ?_
          refine g_region (c := trellisref11_Nullable_c32) rfl rfl ?_
          refine wl_v 0 rfl (v_move rfl) gn rfl ?_
          refine wl_v 1 rfl (v_fldB fo_26_2 rfl) gn rfl ?_
          refine wl_v 2 rfl (v_ldB1 1 ld_24 rfl rfl rfl) gn rfl ?_
          refine wl_v 3 rfl (v_lenQ un_24 rfl h13.hq) gn rfl ?_
          refine wl_v 4 rfl (v_bin rfl rfl rfl) gn rfl ?_
          refine w_end 5 rfl ?_
          by_cases hp262 : x236 < (x1.prods.length : Int)
          · have h := if_pos' hp262 h
            refine g_true (c := trellisref11_Nullable_c33) rfl _ rfl ((decide_eq_true hp262)) ?_
            refine g_skip (c := trellisref11_Nullable_c34) rfl ?_
            refine g_seq (c := trellisref11_Nullable_c31) rfl ?_
            refine g_block (c := trellisref11_Nullable_c36) rfl ?_
            refine g_seq (c := trellisref11_Nullable_c38) rfl ?_
            refine g_region (c := trellisref11_Nullable_c39) rfl rfl ?_
            refine wl_v 0 rfl (v_fldB fo_26_2 rfl) gn rfl ?_
            refine wl_v 1 rfl (v_ldB1 1 ld_24 rfl rfl rfl) gn rfl ?_
            refine wl_v 2 rfl (v_move rfl) gn rfl ?_
            obtain ⟨hb263, h⟩ := h
            obtain ⟨ce265, hK266, hr264⟩ := Rw.read (s := St w []) h13 hb263
            obtain ⟨A267, n268, c269, rfl, h270⟩ := hK266
            refine wl_v 3 rfl (v_idxR (s := St w []) slE_24 rfl rfl h13 hb263) gn rfl ?_
            refine wl_v 4 rfl (v_ldA (St w []) ld_38 rfl hr264 rfl (me 1 rfl)) gn rfl ?_
            refine wl_s 5 rfl (s_alloc [.int .i64 0, .slice none 0 0] zr_38 rfl fun gb271 => ?_) gn
            refine wl_s 6 rfl (s_stB (vs := [.int .i64 ((ix x1.prods x236).lhs), .slice A267 n268 c269]) (cs' := [.int .i64 ((ix x1.prods x236).lhs), .slice A267 n268 c269]) (M' := [.box gb271 38 [.int .i64 ((ix x1.prods x236).lhs), .slice A267 n268 c269], .own (.slice A232 n233 c234) 4 1 n233 (x231.flatMap eB), .box gb14 26 [.slice A2 n3 c4, .slice A6 n7 c8, .slice A10 n11 c12]]) 0 sz_38 rfl rfl rfl rfl rfl rfl rfl rfl rfl ?_) gn
            refine w_end 7 rfl ?_
            refine g_seq (c := trellisref11_Nullable_c40) rfl ?_
            refine g_region (c := trellisref11_Nullable_c41) rfl rfl ?_
            refine wl_v 0 rfl (v_fldB fo_38_0 rfl) gn rfl ?_
            refine wl_v 1 rfl (v_ldB1 0 ld_3 rfl rfl rfl) gn rfl ?_
            refine wl_v 2 rfl (v_bin rfl rfl rfl) gn rfl ?_
            refine wl_v 3 rfl (v_move rfl) gn rfl ?_
            by_cases hp273 : (ix x1.prods x236).lhs ≥ 0
            · have h := if_pos' hp273 h
              refine w_bool 40 rfl ((decide_eq_true hp273)) ?_
              refine wl_v 4 rfl (v_move rfl) (gy 40 rfl rfl) rfl ?_
              refine wl_v 5 rfl (v_fldB fo_38_1 rfl) (gy 40 rfl rfl) rfl ?_
              refine wl_v 6 rfl (v_ldB1 0 ld_27 rfl rfl rfl) (gy 40 rfl rfl) rfl ?_
              obtain ⟨r277, hv278, h⟩ := h
              refine wl_s 7 rfl (s_call [.slice A232 n233 c234, .slice A267 n268 c269] rfl Try.func30 rfl rfl rfl fun w274 hL275 => ?_) (gy 40 rfl rfl)
              have hp276 : List.Perm ([.box gb271 38 [.int .i64 ((ix x1.prods x236).lhs), .slice A267 n268 c269], .own (.slice A232 n233 c234) 4 1 n233 (x231.flatMap eB), .box gb14 26 [.slice A2 n3 c4, .slice A6 n7 c8, .slice A10 n11 c12]] : List Ent) (([] : List Ent) ++ ([.box gb271 38 [.int .i64 ((ix x1.prods x236).lhs), .slice A267 n268 c269], .own (.slice A232 n233 c234) 4 1 n233 (x231.flatMap eB), .box gb14 26 [.slice A2 n3 c4, .slice A6 n7 c8, .slice A10 n11 c12]] : List Ent)) := perm_of_idx [] [0, 1, 2] rfl rfl (by kernel_rfl)
              refine Calls.mono (trellisref11_goes_calls w274 (Fl ([] : List Snap)) x231 ((ix x1.prods x236).rhs) A232 n233 c234 A267 n268 c269 (hL275.argO (dk := kBool) hp276 [] rfl 1 rfl rfl h235 (me 0 rfl) (Cells.flat _)) (Rw.mono h270 (hL275.toSt hp276 (me 1 rfl))) (hL275.hFl (Sl := ([] : List Snap)) hp276 (sels [] rfl)) (hL275.into hp276 (Fl ([] : List Snap))) r277 hv278) ?_
              rintro _ w279 ⟨rfl, hM280⟩
              have hL281 := hL275.call hp276 hM280
              refine ⟨_, _, _, rfl, hL281, ?_⟩
              refine wl_v 8 rfl (v_pick (b := true) rfl rfl) gn rfl ?_
              refine w_end 9 rfl ?_
              by_cases hp282 : r277 = true
              · have h := if_pos' hp282 h
                refine g_true (c := trellisref11_Nullable_c42) rfl _ rfl (hp282) ?_
                refine g_region (c := trellisref11_Nullable_c43) rfl rfl ?_
                refine wl_v 0 rfl (v_move rfl) gn rfl ?_
                refine wl_v 1 rfl (v_fldB fo_26_0 rfl) gn rfl ?_
                refine wl_v 2 rfl (v_ldB1 2 ld_22 rfl rfl rfl) gn rfl ?_
                refine wl_v 3 rfl (v_lenQ un_22 rfl h5.hq) gn rfl ?_
                refine wl_v 4 rfl (v_fldB fo_38_0 rfl) gn rfl ?_
                refine wl_v 5 rfl (v_ldB1 0 ld_3 rfl rfl rfl) gn rfl ?_
                refine wl_v 6 rfl (v_bin rfl rfl rfl) gn rfl ?_
                obtain ⟨hb283, h⟩ := h
                refine wl_v 7 rfl (v_idxO slE_40 rfl rfl h235 hb283) gn rfl ?_
                obtain ⟨x284, hv285, h⟩ := h
                refine wl_s 8 rfl (s_stF (enc := eB) (o := 0) (z := true) (vs := [.bool true]) (i := (w64 ((x1.terms.length : Int) + ((ix x1.prods x236).lhs)))) 1 hlB sz_4 rfl rfl rfl rfl rfl h235 hb283 rfl rfl rfl hv285 fun h286 => ?_) gn
                refine w_end 9 rfl ?_
                refine g_inBlock ?_
                refine g_region (c := trellisref11_Nullable_c37) rfl rfl ?_
                refine wl_v 0 rfl (v_move rfl) gn rfl ?_
                refine wl_v 1 rfl (v_bin rfl rfl rfl) gn rfl ?_
                refine wl_v 2 rfl (v_assign rfl) gn rfl ?_
                refine w_end 3 rfl ?_
                refine g_inLoop ?_
                have ih := Out.inl hO2 h
                exact g_go [0, 1] (ih A232 n233 c234 h286) ⟨rfl, rfl, rfl, rfl, trivial⟩ (.cons _ (.cons_cons _ (.cons_cons _ (.slnil)))) rfl
              · have h := if_neg' hp282 h
                refine g_false (c := trellisref11_Nullable_c42) rfl _ rfl ((bf hp282)) ?_
                refine g_skip (c := trellisref11_Nullable_c44) rfl ?_
                refine g_inBlock ?_
                refine g_region (c := trellisref11_Nullable_c37) rfl rfl ?_
                refine wl_v 0 rfl (v_move rfl) gn rfl ?_
                refine wl_v 1 rfl (v_bin rfl rfl rfl) gn rfl ?_
                refine wl_v 2 rfl (v_assign rfl) gn rfl ?_
                refine w_end 3 rfl ?_
                refine g_inLoop ?_
                have ih := Out.inl hO2 h
                exact g_go [0, 1] (ih A232 n233 c234 h235) ⟨rfl, rfl, rfl, rfl, trivial⟩ (.cons _ (.cons_cons _ (.cons_cons _ (.slnil)))) rfl
            · have h := if_neg' hp273 h
              refine w_bool 40 rfl ((decide_eq_false hp273)) ?_
              refine wl_pass 4 rfl (ps 40 rfl rfl rfl) ?_
              refine wl_pass 5 rfl (ps 40 rfl rfl rfl) ?_
              refine wl_pass 6 rfl (ps 40 rfl rfl rfl) ?_
              refine wl_pass 7 rfl (ps 40 rfl rfl rfl) ?_
              refine wl_v 8 rfl (v_pick (b := false) rfl rfl) gn rfl ?_
              refine w_end 9 rfl ?_
              refine g_false (c := trellisref11_Nullable_c42) rfl _ rfl (rfl) ?_
              refine g_skip (c := trellisref11_Nullable_c44) rfl ?_
              refine g_inBlock ?_
              refine g_region (c := trellisref11_Nullable_c37) rfl rfl ?_
              refine wl_v 0 rfl (v_move rfl) gn rfl ?_
              refine wl_v 1 rfl (v_bin rfl rfl rfl) gn rfl ?_
              refine wl_v 2 rfl (v_assign rfl) gn rfl ?_
              refine w_end 3 rfl ?_
              refine g_inLoop ?_
              have ih := Out.inl hO2 h
              exact g_go [0, 1] (ih A232 n233 c234 h235) ⟨rfl, rfl, rfl, rfl, trivial⟩ (.cons _ (.cons_cons _ (.cons_cons _ (.slnil)))) rfl
          · have h := if_neg' hp262 h
            refine g_false (c := trellisref11_Nullable_c33) rfl _ rfl ((decide_eq_false hp262)) ?_
            refine g_exit (c := trellisref11_Nullable_c35) [.inBlock 1, .code trellisref11_Nullable_c24, .inLoop trellisref11_Nullable_c16, .inBlock 0, .code trellisref11_Nullable_c12] rfl rfl ?_
            refine g_inBlock ?_
            refine g_region (c := trellisref11_Nullable_c24) rfl rfl ?_
            refine wl_v 0 rfl (v_move rfl) gn rfl ?_
            refine wl_v 1 rfl (v_bin rfl rfl rfl) gn rfl ?_
            refine wl_v 2 rfl (v_assign rfl) gn rfl ?_
            refine w_end 3 rfl ?_
            refine g_inLoop ?_
            have h := Out.inr hO2 h
            have ih := Out.inl hO1 h
            exact g_go [0, 1] (ih A232 n233 c234 h235) ⟨rfl, rfl, rfl, trivial⟩ (.cons_cons _ (.cons_cons _ (.slnil))) rfl
        exact g_go [0, 1] (key2 _ h A116 n117 c118 h119) ⟨rfl, rfl, rfl, rfl, trivial⟩ (.cons_cons _ (.cons_cons _ (.slnil))) rfl
      · have h := if_neg' hp204 h
        refine g_false (c := trellisref11_Nullable_c20) rfl _ rfl ((decide_eq_false hp204)) ?_
        refine g_exit (c := trellisref11_Nullable_c22) [.code trellisref11_Nullable_c12] rfl rfl ?_
        refine g_seq (c := trellisref11_Nullable_c12) rfl ?_
        refine g_region (c := trellisref11_Nullable_c45) rfl rfl ?_
        refine wl_v 0 rfl (v_move rfl) gn rfl ?_
        refine wl_v 1 rfl (v_assign rfl) gn rfl ?_
        refine w_end 2 rfl ?_
        have h := Out.inr hO1 h
        refine g_retR (c := trellisref11_Nullable_c46) [.slice A116 n117 c118] rfl Try.func16 rfl (.tmp rfl (.nil)) fun wr hLr => ?_
        have hMr : B.Loc w wr [.own (.slice A116 n117 c118) 4 1 n117 (x115.flatMap eB)] [St w []] := hLr.pick (rest := [.box gb14 26 [.slice A2 n3 c4, .slice A6 n7 c8, .slice A10 n11 c12]]) (perm_of_idx [0] [1] rfl rfl (by kernel_rfl)) (sels [1] rfl)
        have hMi : ∀ e ∈ ([.own (.slice A116 n117 c118) 4 1 n117 (x115.flatMap eB)] : List Ent), e ∈ ([.own (.slice A116 n117 c118) 4 1 n117 (x115.flatMap eB), .box gb14 26 [.slice A2 n3 c4, .slice A6 n7 c8, .slice A10 n11 c12]] : List Ent) := sels [0] rfl
        show trellisref11_Nullable_R w F  r (.returned (packV [.slice A116 n117 c118])) wr
        rw [h]
        exact ⟨A116, n117, c118, rfl, hMr, h119⟩
    exact g_go [0, 1] (key1 _ h A26 ((w64 ((x1.terms.length : Int) + (x1.syms.length : Int)) : Int).toNat) ((w64 ((x1.terms.length : Int) + (x1.syms.length : Int)) : Int).toNat) h27) ⟨rfl, rfl, rfl, trivial⟩ (.cons_cons _ (.cons_cons _ (.slnil))) rfl
  · have h := if_neg' hp24 h
    refine g_true (c := trellisref11_Nullable_c6) rfl _ rfl ((nt (bf hp24))) ?_
    refine g_seq (c := trellisref11_Nullable_c7) rfl ?_
    refine g_region (c := trellisref11_Nullable_c47) rfl rfl ?_
    refine wl_v 0 rfl (v_assign rfl) gn rfl ?_
    refine w_end 1 rfl ?_
    refine g_nil 4 1 ?_
    refine g_retR (c := trellisref11_Nullable_c48) [.slice none 0 0] rfl Try.func16 rfl (.tmp rfl (.nil)) fun wr hLr => ?_
    have hMr : B.Loc w wr [.own (.slice none 0 0) 4 1 0 (([] : List Bool).flatMap eB)] [St w []] := hLr.pick (rest := [.box gb14 26 [.slice A2 n3 c4, .slice A6 n7 c8, .slice A10 n11 c12]]) (perm_of_idx [0] [1] rfl rfl (by kernel_rfl)) (sels [1] rfl)
    have hMi : ∀ e ∈ ([.own (.slice none 0 0) 4 1 0 (([] : List Bool).flatMap eB)] : List Ent), e ∈ ([.own (.slice none 0 0) 4 1 0 (([] : List Bool).flatMap eB), .box gb14 26 [.slice A2 n3 c4, .slice A6 n7 c8, .slice A10 n11 c12]] : List Ent) := sels [0] rfl
    show trellisref11_Nullable_R w F  r (.returned (packV [.slice none 0 0])) wr
    rw [h]
    exact ⟨none, 0, 0, rfl, hMr, (Ow.nil (z := w.heap.size))⟩
noncomputable abbrev trellisref11_leads_c0 : Code := bodyOf Try.f39
noncomputable abbrev trellisref11_leads_c1 : Code := Code.fst trellisref11_leads_c0
noncomputable abbrev trellisref11_leads_c2 : Code := Code.snd trellisref11_leads_c0
noncomputable abbrev trellisref11_leads_c3 : Code := Code.fst trellisref11_leads_c2
noncomputable abbrev trellisref11_leads_c4 : Code := Code.snd trellisref11_leads_c2
noncomputable abbrev trellisref11_leads_c5 : Code := Code.fst trellisref11_leads_c3
noncomputable abbrev trellisref11_leads_c6 : Code := Code.snd trellisref11_leads_c3
noncomputable abbrev trellisref11_leads_c7 : Code := Code.fst trellisref11_leads_c6
noncomputable abbrev trellisref11_leads_c8 : Code := Code.fst trellisref11_leads_c7
noncomputable abbrev trellisref11_leads_c9 : Code := Code.fst trellisref11_leads_c8
noncomputable abbrev trellisref11_leads_c10 : Code := Code.snd trellisref11_leads_c8
noncomputable abbrev trellisref11_leads_c11 : Code := Code.fst trellisref11_leads_c9
noncomputable abbrev trellisref11_leads_c12 : Code := Code.snd trellisref11_leads_c9
noncomputable abbrev trellisref11_leads_c13 : Code := Code.fst trellisref11_leads_c12
noncomputable abbrev trellisref11_leads_c14 : Code := Code.snd trellisref11_leads_c12
noncomputable abbrev trellisref11_leads_c15 : Code := Code.fst trellisref11_leads_c10
noncomputable abbrev trellisref11_leads_c16 : Code := Code.snd trellisref11_leads_c10
noncomputable abbrev trellisref11_leads_c17 : Code := Code.fst trellisref11_leads_c15
noncomputable abbrev trellisref11_leads_c18 : Code := Code.fst trellisref11_leads_c17
noncomputable abbrev trellisref11_leads_c19 : Code := Code.snd trellisref11_leads_c17
noncomputable abbrev trellisref11_leads_c20 : Code := Code.fst trellisref11_leads_c19
noncomputable abbrev trellisref11_leads_c21 : Code := Code.snd trellisref11_leads_c19
noncomputable abbrev trellisref11_leads_c22 : Code := Code.fst trellisref11_leads_c20
noncomputable abbrev trellisref11_leads_c23 : Code := Code.snd trellisref11_leads_c20
noncomputable abbrev trellisref11_leads_c24 : Code := Code.fst trellisref11_leads_c23
noncomputable abbrev trellisref11_leads_c25 : Code := Code.snd trellisref11_leads_c23
noncomputable abbrev trellisref11_leads_c26 : Code := Code.fst trellisref11_leads_c24
noncomputable abbrev trellisref11_leads_c27 : Code := Code.snd trellisref11_leads_c24
noncomputable abbrev trellisref11_leads_c28 : Code := Code.fst trellisref11_leads_c27
noncomputable abbrev trellisref11_leads_c29 : Code := Code.snd trellisref11_leads_c27
noncomputable abbrev trellisref11_leads_c30 : Code := Code.fst trellisref11_leads_c29
noncomputable abbrev trellisref11_leads_c31 : Code := Code.fst trellisref11_leads_c30
noncomputable abbrev trellisref11_leads_c32 : Code := Code.fst trellisref11_leads_c31
noncomputable abbrev trellisref11_leads_c33 : Code := Code.snd trellisref11_leads_c31
noncomputable abbrev trellisref11_leads_c34 : Code := Code.fst trellisref11_leads_c32
noncomputable abbrev trellisref11_leads_c35 : Code := Code.snd trellisref11_leads_c32
noncomputable abbrev trellisref11_leads_c36 : Code := Code.fst trellisref11_leads_c35
noncomputable abbrev trellisref11_leads_c37 : Code := Code.snd trellisref11_leads_c35
noncomputable abbrev trellisref11_leads_c38 : Code := Code.fst trellisref11_leads_c33
noncomputable abbrev trellisref11_leads_c39 : Code := Code.snd trellisref11_leads_c33
noncomputable abbrev trellisref11_leads_c40 : Code := Code.fst trellisref11_leads_c38
noncomputable abbrev trellisref11_leads_c41 : Code := Code.fst trellisref11_leads_c40
noncomputable abbrev trellisref11_leads_c42 : Code := Code.snd trellisref11_leads_c40
noncomputable abbrev trellisref11_leads_c43 : Code := Code.fst trellisref11_leads_c42
noncomputable abbrev trellisref11_leads_c44 : Code := Code.snd trellisref11_leads_c42
noncomputable abbrev trellisref11_leads_c45 : Code := Code.fst trellisref11_leads_c21
noncomputable abbrev trellisref11_leads_c46 : Code := Code.snd trellisref11_leads_c21
noncomputable abbrev trellisref11_leads_c47 : Code := Code.fst trellisref11_leads_c46
noncomputable abbrev trellisref11_leads_c48 : Code := Code.snd trellisref11_leads_c46
noncomputable abbrev trellisref11_leads_c49 : Code := Code.fst trellisref11_leads_c47
noncomputable abbrev trellisref11_leads_c50 : Code := Code.snd trellisref11_leads_c47
noncomputable abbrev trellisref11_leads_c51 : Code := Code.fst trellisref11_leads_c4
noncomputable abbrev trellisref11_leads_c52 : Code := Code.snd trellisref11_leads_c4
abbrev trellisref11_leads_R (w : World) (F : Nat → Prop) (A25 : Option Addr) (n26 : Nat) (c27 : Nat) (z29 : Nat) (r : List Bool) : Ending → World → Prop := fun e w' => ∃ A0 : Option Addr, ∃ n0 : Nat, ∃ c0 : Nat, e = .returned (.slice A0 n0 c0) ∧ B.Loc w w' [.own (.slice A0 n0 c0) 4 1 n0 (r.flatMap eB)] [St w [(Value.slice A25 n26 c27).ownBlock.toList]] ∧ Ow z29 A0 n0 c0 r
noncomputable abbrev trellisref11_leads_C (w : World) (F : Nat → Prop) (A25 : Option Addr) (n26 : Nat) (c27 : Nat) (z29 : Nat) (r : List Bool) : Cx := ⟨Try.prog, 39, Try.f39, 76, trellisref11_leads_R w F A25 n26 c27 z29 r, w⟩
def trellisref11_leads_st (rl : api_Gram → (List Bool) → (List api_Ref) → (List Bool) → (List Bool) → Prop) : Prop := ∀ (w : World) (F : Nat → Prop) (x1 : api_Gram) (x14 : List Bool) (x19 : List api_Ref) (x24 : List Bool) (A2 : Option Addr) (n3 : Nat) (c4 : Nat) (A6 : Option Addr) (n7 : Nat) (c8 : Nat) (A10 : Option Addr) (n11 : Nat) (c12 : Nat) (A15 : Option Addr) (n16 : Nat) (c17 : Nat) (A20 : Option Addr) (n21 : Nat) (c22 : Nat) (z29 : Nat) (A25 : Option Addr) (n26 : Nat) (c27 : Nat) (h5 : Rw k_api_TermDef w (St w [(Value.slice A25 n26 c27).ownBlock.toList]).av A2 n3 c4 x1.terms) (h9 : Rw k_api_Sym w (St w [(Value.slice A25 n26 c27).ownBlock.toList]).av A6 n7 c8 x1.syms) (h13 : Rw k_api_Prod w (St w [(Value.slice A25 n26 c27).ownBlock.toList]).av A10 n11 c12 x1.prods) (h18 : Rw kBool w (St w [(Value.slice A25 n26 c27).ownBlock.toList]).av A15 n16 c17 x14) (h23 : Rw k_api_Ref w (St w [(Value.slice A25 n26 c27).ownBlock.toList]).av A20 n21 c22 x19) (hz30 : z29 ≤ w.heap.size) (h28 : Ow z29 A25 n26 c27 x24) (hF : ∀ b, F b → b < w.heap.size ∧ ∀ o ∈ ([(Value.slice A25 n26 c27).ownBlock.toList] : List (List Nat)), b ∉ o) (hL0 : B.Loc w w [.own (.slice A25 n26 c27) 4 1 n26 (x24.flatMap eB)] [Sm w.heap.size F w [(Value.slice A25 n26 c27).ownBlock.toList], St w [(Value.slice A25 n26 c27).ownBlock.toList]]) (r : List Bool) (h : rl x1 x14 x19 x24 r), Calls Try.prog 39 #[.agg #[.slice A2 n3 c4, .slice A6 n7 c8, .slice A10 n11 c12], .slice A15 n16 c17, .slice A20 n21 c22, .slice A25 n26 c27] w (trellisref11_leads_R w F A25 n26 c27 z29 r)
theorem trellisref11_leads_step (rc_trellisref11_leads : api_Gram → (List Bool) → (List api_Ref) → (List Bool) → (List Bool) → Prop) (ih_trellisref11_leads : trellisref11_leads_st rc_trellisref11_leads) : trellisref11_leads_st (trellisref11_leads_body rc_trellisref11_leads) := by
  intro w F x1 x14 x19 x24 A2 n3 c4 A6 n7 c8 A10 n11 c12 A15 n16 c17 A20 n21 c22 z29 A25 n26 c27 h5 h9 h13 h18 h23 hz30 h28 hF hL0 r h
  unfold trellisref11_leads_body at h
  refine calls_of_Loc (vs := [.agg #[.slice A2 n3 c4, .slice A6 n7 c8, .slice A10 n11 c12], .slice A15 n16 c17, .slice A20 n21 c22, .slice A25 n26 c27]) 76 Try.func39 rfl Try.ntmps39 rfl hL0 ?_
  show G (trellisref11_leads_C w F A25 n26 c27 z29 r) _ _ _ _
  refine g_seq (c := trellisref11_leads_c0) rfl ?_
  refine g_region (c := trellisref11_leads_c1) rfl rfl ?_
  refine wl_s 0 rfl (s_box [.slice A2 n3 c4, .slice A6 n7 c8, .slice A10 n11 c12] rfl rfl rfl fun gb31 => ?_) gn
  refine wl_v 1 rfl (v_assign rfl) gn rfl ?_
  refine w_end 2 rfl ?_
  refine g_seq (c := trellisref11_leads_c2) rfl ?_
  refine g_seq (c := trellisref11_leads_c3) rfl ?_
  refine g_region (c := trellisref11_leads_c5) rfl rfl ?_
  refine wl_v 0 rfl (v_assign rfl) gn rfl ?_
  refine w_end 1 rfl ?_
  refine g_block (c := trellisref11_leads_c6) rfl ?_
  refine g_loop (c := trellisref11_leads_c7) rfl ?_
  have key1 : ∀ s, Rounds (fun (s : (List Bool) × Int) o => trellisref11_leads_b1 x19 x14 x1 rc_trellisref11_leads s.1 s.2 o) s r → (fun (s : (List Bool) × Int) => ∀ (A759 : Option Addr) (n760 : Nat) (c761 : Nat) (h762 : Ow z29 A759 n760 c761 s.1), G (trellisref11_leads_C w F A25 n26 c27 z29 r) [.code trellisref11_leads_c8, .inLoop trellisref11_leads_c8, .inBlock 0, .code trellisref11_leads_c4] [(1, .slice A15 n16 c17), (2, .slice A20 n21 c22), (3, .slice A759 n760 c761), (4, .pointer (some ⟨gb31, 0, none⟩)), (9, .int .i64 s.2)] [.own (.slice A759 n760 c761) 4 1 n760 (s.1.flatMap eB), .box gb31 26 [.slice A2 n3 c4, .slice A6 n7 c8, .slice A10 n11 c12]] [Sm w.heap.size F w [(Value.slice A25 n26 c27).ownBlock.toList], St w [(Value.slice A25 n26 c27).ownBlock.toList]]) s := by
    intro s hs
    refine Rounds.ind (mot := (fun (s : (List Bool) × Int) => ∀ (A759 : Option Addr) (n760 : Nat) (c761 : Nat) (h762 : Ow z29 A759 n760 c761 s.1), G (trellisref11_leads_C w F A25 n26 c27 z29 r) [.code trellisref11_leads_c8, .inLoop trellisref11_leads_c8, .inBlock 0, .code trellisref11_leads_c4] [(1, .slice A15 n16 c17), (2, .slice A20 n21 c22), (3, .slice A759 n760 c761), (4, .pointer (some ⟨gb31, 0, none⟩)), (9, .int .i64 s.2)] [.own (.slice A759 n760 c761) 4 1 n760 (s.1.flatMap eB), .box gb31 26 [.slice A2 n3 c4, .slice A6 n7 c8, .slice A10 n11 c12]] [Sm w.heap.size F w [(Value.slice A25 n26 c27).ownBlock.toList], St w [(Value.slice A25 n26 c27).ownBlock.toList]])) ?_ hs
    clear hs s
    intro s o1 h hO1
    obtain ⟨x758, x763⟩ := s
    show ∀ (A759 : Option Addr) (n760 : Nat) (c761 : Nat) (h762 : Ow z29 A759 n760 c761 x758), G (trellisref11_leads_C w F A25 n26 c27 z29 r) [.code trellisref11_leads_c8, .inLoop trellisref11_leads_c8, .inBlock 0, .code trellisref11_leads_c4] [(1, .slice A15 n16 c17), (2, .slice A20 n21 c22), (3, .slice A759 n760 c761), (4, .pointer (some ⟨gb31, 0, none⟩)), (9, .int .i64 x763)] [.own (.slice A759 n760 c761) 4 1 n760 (x758.flatMap eB), .box gb31 26 [.slice A2 n3 c4, .slice A6 n7 c8, .slice A10 n11 c12]] [Sm w.heap.size F w [(Value.slice A25 n26 c27).ownBlock.toList], St w [(Value.slice A25 n26 c27).ownBlock.toList]]
    intro A759 n760 c761 h762
    have h : trellisref11_leads_b1 x19 x14 x1 rc_trellisref11_leads x758 x763 o1 := h
    unfold trellisref11_leads_b1 at h
    refine g_seq (c := trellisref11_leads_c8) rfl ?_
    refine g_seq (c := trellisref11_leads_c9) rfl ?_
    refine g_region (c := trellisref11_leads_c11) rfl rfl ?_
    refine wl_v 0 rfl (v_move rfl) gn rfl ?_
    refine wl_v 1 rfl (v_move rfl) gn rfl ?_
    refine wl_v 2 rfl (v_lenQ un_27 rfl h23.hq) gn rfl ?_
    refine wl_v 3 rfl (v_bin rfl rfl rfl) gn rfl ?_
    refine w_end 4 rfl ?_
    by_cases hp1488 : x763 < (x19.length : Int)
    · have h := if_pos' hp1488 h
      refine g_true (c := trellisref11_leads_c12) rfl _ rfl ((decide_eq_true hp1488)) ?_
      refine g_skip (c := trellisref11_leads_c13) rfl ?_
      refine g_seq (c := trellisref11_leads_c10) rfl ?_
      refine g_block (c := trellisref11_leads_c15) rfl ?_
      refine g_seq (c := trellisref11_leads_c17) rfl ?_
      refine g_region (c := trellisref11_leads_c18) rfl rfl ?_
      refine wl_v 0 rfl (v_move rfl) gn rfl ?_
      refine wl_v 1 rfl (v_move rfl) gn rfl ?_
      obtain ⟨hb1489, h⟩ := h
      have hr1490 := Rw.readF (s := St w [(Value.slice A25 n26 c27).ownBlock.toList]) (hl := hl_api_Ref) (h1 := h1_api_Ref) h23 hb1489
      refine wl_v 2 rfl (v_idxR (s := St w [(Value.slice A25 n26 c27).ownBlock.toList]) slE_27 rfl rfl h23 hb1489) gn rfl ?_
      refine wl_v 3 rfl (v_fldA fo_36_0 rfl) gn rfl ?_
      refine wl_v 4 rfl (v_ldA1 (kk := (x763 : Int).toNat * 3) (j := 0) (St w [(Value.slice A25 n26 c27).ownBlock.toList]) ld_3 rfl hr1490 rfl (me 1 rfl)) gn rfl ?_
      refine wl_v 5 rfl (v_assign rfl) gn rfl ?_
      refine w_end 6 rfl ?_
      refine g_seq (c := trellisref11_leads_c19) rfl ?_
      refine g_seq (c := trellisref11_leads_c20) rfl ?_
      refine g_region (c := trellisref11_leads_c22) rfl rfl ?_
      refine wl_v 0 rfl (v_move rfl) gn rfl ?_
      refine wl_v 1 rfl (v_move rfl) gn rfl ?_
      obtain ⟨hb1491, h⟩ := h
      refine wl_v 2 rfl (v_idxO slE_40 rfl rfl h762 hb1491) gn rfl ?_
      refine wl_v 3 rfl (v_ldO1 (.bool (ix x758 ((ix x19 x763).sym))) 0 ld_4 rfl rfl (fm_get0 hlB hb1491 rfl)) gn rfl ?_
      refine wl_v 4 rfl (v_not rfl) gn rfl ?_
      refine w_end 5 rfl ?_
      have j2 : ∀ (x1846 : List Bool) (h : trellisref11_leads_j2 x19 x763 x14 x1846 o1) (A1847 : Option Addr) (n1848 : Nat) (c1849 : Nat) (h1850 : Ow z29 A1847 n1848 c1849 x1846), G (trellisref11_leads_C w F A25 n26 c27 z29 r) [.code trellisref11_leads_c21, .inBlock 1, .code trellisref11_leads_c16, .inLoop trellisref11_leads_c8, .inBlock 0, .code trellisref11_leads_c4] [(1, .slice A15 n16 c17), (2, .slice A20 n21 c22), (3, .slice A1847 n1848 c1849), (4, .pointer (some ⟨gb31, 0, none⟩)), (9, .int .i64 x763), (10, .int .i64 ((ix x19 x763).sym))] [.own (.slice A1847 n1848 c1849) 4 1 n1848 (x1846.flatMap eB), .box gb31 26 [.slice A2 n3 c4, .slice A6 n7 c8, .slice A10 n11 c12]] [Sm w.heap.size F w [(Value.slice A25 n26 c27).ownBlock.toList], St w [(Value.slice A25 n26 c27).ownBlock.toList]] := by
        intro x1846 h A1847 n1848 c1849 h1850
        unfold trellisref11_leads_j2 at h
        refine g_seq (c := trellisref11_leads_c21) rfl ?_
        refine g_region (c := trellisref11_leads_c45) rfl rfl ?_
        refine wl_v 0 rfl (v_move rfl) gn rfl ?_
        refine wl_v 1 rfl (v_move rfl) gn rfl ?_
        obtain ⟨hb1851, h⟩ := h
        have hr1852 := Rw.readF (s := St w [(Value.slice A25 n26 c27).ownBlock.toList]) (hl := hlB) (h1 := hone_bool) h18 hb1851
        refine wl_v 2 rfl (v_idxR (s := St w [(Value.slice A25 n26 c27).ownBlock.toList]) slE_40 rfl rfl h18 hb1851) gn rfl ?_
        refine wl_v 3 rfl (v_ldA1 (kk := ((ix x19 x763).sym : Int).toNat * 1) (j := 0) (St w [(Value.slice A25 n26 c27).ownBlock.toList]) ld_4 rfl hr1852 rfl (me 1 rfl)) gn rfl ?_
        refine wl_v 4 rfl (v_not rfl) gn rfl ?_
        refine w_end 5 rfl ?_
        by_cases hp1853 : (ix x14 ((ix x19 x763).sym)) = true
        · have h := if_pos' hp1853 h
          refine g_false (c := trellisref11_leads_c46) rfl _ rfl ((nf hp1853)) ?_
          refine g_skip (c := trellisref11_leads_c48) rfl ?_
          refine g_inBlock ?_
          refine g_region (c := trellisref11_leads_c16) rfl rfl ?_
          refine wl_v 0 rfl (v_move rfl) gn rfl ?_
          refine wl_v 1 rfl (v_bin rfl rfl rfl) gn rfl ?_
          refine wl_v 2 rfl (v_assign rfl) gn rfl ?_
          refine w_end 3 rfl ?_
          refine g_inLoop ?_
          have ih := Out.inl hO1 h
          exact g_go [0, 1] (ih A1847 n1848 c1849 h1850) ⟨rfl, rfl, rfl, rfl, rfl, trivial⟩ (.cons_cons _ (.cons_cons _ (.slnil))) rfl
        · have h := if_neg' hp1853 h
          refine g_true (c := trellisref11_leads_c46) rfl _ rfl ((nt (bf hp1853))) ?_
          refine g_seq (c := trellisref11_leads_c47) rfl ?_
          refine g_region (c := trellisref11_leads_c49) rfl rfl ?_
          refine wl_v 0 rfl (v_move rfl) gn rfl ?_
          refine wl_v 1 rfl (v_assign rfl) gn rfl ?_
          refine w_end 2 rfl ?_
          have h := Out.inr hO1 h
          refine g_retR (c := trellisref11_leads_c50) [.slice A1847 n1848 c1849] rfl Try.func39 rfl (.tmp rfl (.nil)) fun wr hLr => ?_
          have hMr : B.Loc w wr [.own (.slice A1847 n1848 c1849) 4 1 n1848 (x1846.flatMap eB)] [St w [(Value.slice A25 n26 c27).ownBlock.toList]] := hLr.pick (rest := [.box gb31 26 [.slice A2 n3 c4, .slice A6 n7 c8, .slice A10 n11 c12]]) (perm_of_idx [0] [1] rfl rfl (by kernel_rfl)) (sels [1] rfl)
          have hMi : ∀ e ∈ ([.own (.slice A1847 n1848 c1849) 4 1 n1848 (x1846.flatMap eB)] : List Ent), e ∈ ([.own (.slice A1847 n1848 c1849) 4 1 n1848 (x1846.flatMap eB), .box gb31 26 [.slice A2 n3 c4, .slice A6 n7 c8, .slice A10 n11 c12]] : List Ent) := sels [0] rfl
          show trellisref11_leads_R w F A25 n26 c27 z29 r (.returned (packV [.slice A1847 n1848 c1849])) wr
          rw [h]
          exact ⟨A1847, n1848, c1849, rfl, hMr, h1850⟩
      by_cases hp1492 : (ix x758 ((ix x19 x763).sym)) = true
      · have h := if_pos' hp1492 h
        refine g_false (c := trellisref11_leads_c23) rfl _ rfl ((nf hp1492)) ?_
        refine g_skip (c := trellisref11_leads_c25) rfl ?_
        exact g_go [0, 1] (j2 x758 h A759 n760 c761 h762) ⟨rfl, rfl, rfl, rfl, rfl, rfl, trivial⟩ (.cons_cons _ (.cons_cons _ (.slnil))) rfl
      · have h := if_neg' hp1492 h
        refine g_true (c := trellisref11_leads_c23) rfl _ rfl ((nt (bf hp1492))) ?_
        refine g_seq (c := trellisref11_leads_c24) rfl ?_
        refine g_region (c := trellisref11_leads_c26) rfl rfl ?_
        refine wl_v 0 rfl (v_move rfl) gn rfl ?_
        refine wl_v 1 rfl (v_move rfl) gn rfl ?_
        refine wl_v 2 rfl (v_idxO slE_40 rfl rfl h762 hb1491) gn rfl ?_
        obtain ⟨x1854, hv1855, h⟩ := h
        refine wl_s 3 rfl (s_stF (enc := eB) (o := 0) (z := true) (vs := [.bool true]) (i := ((ix x19 x763).sym)) 0 hlB sz_4 rfl rfl rfl rfl rfl h762 hb1491 rfl rfl rfl hv1855 fun h1856 => ?_) gn
        refine w_end 4 rfl ?_
        refine g_seq (c := trellisref11_leads_c27) rfl ?_
        refine g_region (c := trellisref11_leads_c28) rfl rfl ?_
        refine wl_v 0 rfl (v_assign rfl) gn rfl ?_
        refine w_end 1 rfl ?_
        refine g_block (c := trellisref11_leads_c29) rfl ?_
        refine g_loop (c := trellisref11_leads_c30) rfl ?_
        have key3 : ∀ s, Rounds (fun (s : (List Bool) × Int) o => trellisref11_leads_b3 x1 x19 x763 rc_trellisref11_leads x14 s.1 s.2 o) s o1 → (fun (s : (List Bool) × Int) => ∀ (A1975 : Option Addr) (n1976 : Nat) (c1977 : Nat) (h1978 : Ow z29 A1975 n1976 c1977 s.1), G (trellisref11_leads_C w F A25 n26 c27 z29 r) [.code trellisref11_leads_c31, .inLoop trellisref11_leads_c31, .inBlock 2, .code trellisref11_leads_c21, .inBlock 1, .code trellisref11_leads_c16, .inLoop trellisref11_leads_c8, .inBlock 0, .code trellisref11_leads_c4] [(1, .slice A15 n16 c17), (2, .slice A20 n21 c22), (3, .slice A1975 n1976 c1977), (4, .pointer (some ⟨gb31, 0, none⟩)), (9, .int .i64 x763), (10, .int .i64 ((ix x19 x763).sym)), (11, .int .i64 s.2)] [.own (.slice A1975 n1976 c1977) 4 1 n1976 (s.1.flatMap eB), .box gb31 26 [.slice A2 n3 c4, .slice A6 n7 c8, .slice A10 n11 c12]] [Sm w.heap.size F w [(Value.slice A25 n26 c27).ownBlock.toList], St w [(Value.slice A25 n26 c27).ownBlock.toList]]) s := by
          intro s hs
          refine Rounds.ind (mot := (fun (s : (List Bool) × Int) => ∀ (A1975 : Option Addr) (n1976 : Nat) (c1977 : Nat) (h1978 : Ow z29 A1975 n1976 c1977 s.1), G (trellisref11_leads_C w F A25 n26 c27 z29 r) [.code trellisref11_leads_c31, .inLoop trellisref11_leads_c31, .inBlock 2, .code trellisref11_leads_c21, .inBlock 1, .code trellisref11_leads_c16, .inLoop trellisref11_leads_c8, .inBlock 0, .code trellisref11_leads_c4] [(1, .slice A15 n16 c17), (2, .slice A20 n21 c22), (3, .slice A1975 n1976 c1977), (4, .pointer (some ⟨gb31, 0, none⟩)), (9, .int .i64 x763), (10, .int .i64 ((ix x19 x763).sym)), (11, .int .i64 s.2)] [.own (.slice A1975 n1976 c1977) 4 1 n1976 (s.1.flatMap eB), .box gb31 26 [.slice A2 n3 c4, .slice A6 n7 c8, .slice A10 n11 c12]] [Sm w.heap.size F w [(Value.slice A25 n26 c27).ownBlock.toList], St w [(Value.slice A25 n26 c27).ownBlock.toList]])) ?_ hs
          clear hs s
          intro s o2 h hO2
          obtain ⟨x1974, x1979⟩ := s
          show ∀ (A1975 : Option Addr) (n1976 : Nat) (c1977 : Nat) (h1978 : Ow z29 A1975 n1976 c1977 x1974), G (trellisref11_leads_C w F A25 n26 c27 z29 r) [.code trellisref11_leads_c31, .inLoop trellisref11_leads_c31, .inBlock 2, .code trellisref11_leads_c21, .inBlock 1, .code trellisref11_leads_c16, .inLoop trellisref11_leads_c8, .inBlock 0, .code trellisref11_leads_c4] [(1, .slice A15 n16 c17), (2, .slice A20 n21 c22), (3, .slice A1975 n1976 c1977), (4, .pointer (some ⟨gb31, 0, none⟩)), (9, .int .i64 x763), (10, .int .i64 ((ix x19 x763).sym)), (11, .int .i64 x1979)] [.own (.slice A1975 n1976 c1977) 4 1 n1976 (x1974.flatMap eB), .box gb31 26 [.slice A2 n3 c4, .slice A6 n7 c8, .slice A10 n11 c12]] [Sm w.heap.size F w [(Value.slice A25 n26 c27).ownBlock.toList], St w [(Value.slice A25 n26 c27).ownBlock.toList]]
          intro A1975 n1976 c1977 h1978
          have h : trellisref11_leads_b3 x1 x19 x763 rc_trellisref11_leads x14 x1974 x1979 o2 := h
          unfold trellisref11_leads_b3 at h
          refine g_seq (c := trellisref11_leads_c31) rfl ?_
          refine g_seq (c := trellisref11_leads_c32) rfl ?_
          refine g_region (c := trellisref11_leads_c34) rfl rfl ?_
          refine wl_v 0 rfl (v_move rfl) gn rfl ?_
          refine wl_v 1 rfl (v_fldB fo_26_2 rfl) gn rfl ?_
          refine wl_v 2 rfl (v_ldB1 1 ld_24 rfl rfl rfl) gn rfl ?_
          refine wl_v 3 rfl (v_lenQ un_24 rfl h13.hq) gn rfl ?_
          refine wl_v 4 rfl (v_bin rfl rfl rfl) gn rfl ?_
          refine w_end 5 rfl ?_
          by_cases hp2096 : x1979 < (x1.prods.length : Int)
          · have h := if_pos' hp2096 h
            refine g_true (c := trellisref11_leads_c35) rfl _ rfl ((decide_eq_true hp2096)) ?_
            refine g_skip (c := trellisref11_leads_c36) rfl ?_
            refine g_seq (c := trellisref11_leads_c33) rfl ?_
            refine g_block (c := trellisref11_leads_c38) rfl ?_
            refine g_seq (c := trellisref11_leads_c40) rfl ?_
            obtain ⟨hb2097, h⟩ := h
            by_cases hp2105 : (ix x1.prods x1979).lhs ≥ 0
            · have h := if_pos' hp2105 h
              have hns : Region.noSelect (Code.ops trellisref11_leads_c41) = true := by kernel_rfl
              refine g_drawF (c := trellisref11_leads_c41) [.own (.slice A1975 n1976 c1977) 4 1 n1976 (x1974.flatMap eB), .box gb31 26 [.slice A2 n3 c4, .slice A6 n7 c8, .slice A10 n11 c12]] [Sm w.heap.size F w [(Value.slice A25 n26 c27).ownBlock.toList], St w [(Value.slice A25 n26 c27).ownBlock.toList]] [] 21 rfl rfl mix rfl (.cons_cons _ (.cons_cons _ (.slnil))) (sels [0, 1] rfl) ?_
              refine wf_v 0 rfl (v_fldB fo_26_2 rfl) gn rfl hns (by kernel_rfl) (by kernel_rfl) rfl rfl ?_
              refine wf_v 1 rfl (v_ldB1 1 ld_24 rfl rfl rfl) gn rfl hns (by kernel_rfl) (by kernel_rfl) rfl rfl ?_
              refine wf_v 2 rfl (v_move rfl) gn rfl hns (by kernel_rfl) (by kernel_rfl) rfl rfl ?_
              obtain ⟨ce2128, hK2129, hr2127⟩ := Rw.read (s := St w [(Value.slice A25 n26 c27).ownBlock.toList]) h13 hb2097
              obtain ⟨A2130, n2131, c2132, rfl, h2133⟩ := hK2129
              refine wf_v 3 rfl (v_idxR (s := St w [(Value.slice A25 n26 c27).ownBlock.toList]) slE_24 rfl rfl h13 hb2097) gn rfl hns (by kernel_rfl) (by kernel_rfl) rfl rfl ?_
              refine wf_v 4 rfl (v_fldA fo_38_0 rfl) gn rfl hns (by kernel_rfl) (by kernel_rfl) rfl rfl ?_
              refine wf_v 5 rfl (v_ldA1 (kk := (x1979 : Int).toNat * 2) (j := 0) (St w [(Value.slice A25 n26 c27).ownBlock.toList]) ld_3 rfl hr2127 rfl (me 1 rfl)) gn rfl hns (by kernel_rfl) (by kernel_rfl) rfl rfl ?_
              refine wf_v 6 rfl (v_bin rfl rfl rfl) gn rfl hns (by kernel_rfl) (by kernel_rfl) rfl rfl ?_
              refine wf_v 7 rfl (v_move rfl) gn rfl hns (by kernel_rfl) (by kernel_rfl) rfl rfl ?_
              refine wf_bool 45 rfl ((decide_eq_true hp2105)) ?_
              refine wf_v 8 rfl (v_fldB fo_26_2 rfl) (gy 45 rfl rfl) rfl hns (by kernel_rfl) (by kernel_rfl) rfl rfl ?_
              refine wf_v 9 rfl (v_ldB1 1 ld_24 rfl rfl rfl) (gy 45 rfl rfl) rfl hns (by kernel_rfl) (by kernel_rfl) rfl rfl ?_
              refine wf_v 10 rfl (v_move rfl) (gy 45 rfl rfl) rfl hns (by kernel_rfl) (by kernel_rfl) rfl rfl ?_
              obtain ⟨ce2135, hK2136, hr2134⟩ := Rw.read (s := St w [(Value.slice A25 n26 c27).ownBlock.toList]) h13 hb2097
              obtain ⟨A2137, n2138, c2139, rfl, h2140⟩ := hK2136
              refine wf_v 11 rfl (v_idxR (s := St w [(Value.slice A25 n26 c27).ownBlock.toList]) slE_24 rfl rfl h13 hb2097) (gy 45 rfl rfl) rfl hns (by kernel_rfl) (by kernel_rfl) rfl rfl ?_
              refine wf_v 12 rfl (v_fldA fo_38_0 rfl) (gy 45 rfl rfl) rfl hns (by kernel_rfl) (by kernel_rfl) rfl rfl ?_
              refine wf_v 13 rfl (v_ldA1 (kk := (x1979 : Int).toNat * 2) (j := 0) (St w [(Value.slice A25 n26 c27).ownBlock.toList]) ld_3 rfl hr2134 rfl (me 1 rfl)) (gy 45 rfl rfl) rfl hns (by kernel_rfl) (by kernel_rfl) rfl rfl ?_
              refine wf_v 14 rfl (v_move rfl) (gy 45 rfl rfl) rfl hns (by kernel_rfl) (by kernel_rfl) rfl rfl ?_
              refine wf_v 15 rfl (v_fldB fo_26_0 rfl) (gy 45 rfl rfl) rfl hns (by kernel_rfl) (by kernel_rfl) rfl rfl ?_
              refine wf_v 16 rfl (v_ldB1 1 ld_22 rfl rfl rfl) (gy 45 rfl rfl) rfl hns (by kernel_rfl) (by kernel_rfl) rfl rfl ?_
              refine wf_v 17 rfl (v_lenQ un_22 rfl h5.hq) (gy 45 rfl rfl) rfl hns (by kernel_rfl) (by kernel_rfl) rfl rfl ?_
              refine wf_v 18 rfl (v_bin rfl rfl rfl) (gy 45 rfl rfl) rfl hns (by kernel_rfl) (by kernel_rfl) rfl rfl ?_
              refine wf_v 19 rfl (v_bin rfl rfl rfl) (gy 45 rfl rfl) rfl hns (by kernel_rfl) (by kernel_rfl) rfl rfl ?_
              refine wf_v 20 rfl (v_pick (b := true) rfl rfl) gn rfl hns (by kernel_rfl) (by kernel_rfl) rfl rfl ?_
              refine wf_end (by kernel_rfl) ?_
              by_cases hp2141 : (ix x1.prods x1979).lhs = w64 (((ix x19 x763).sym) - (x1.terms.length : Int))
              · have h := if_pos' hp2141 h
                refine g_true (c := trellisref11_leads_c42) rfl _ rfl ((eqi hp2141)) ?_
                obtain ⟨r2152, hv2153, h⟩ := h
                have hns : Region.noSelect (Code.ops trellisref11_leads_c43) = true := by kernel_rfl
                refine g_drawF (c := trellisref11_leads_c43) [.own (.slice A1975 n1976 c1977) 4 1 n1976 (x1974.flatMap eB), .box gb31 26 [.slice A2 n3 c4, .slice A6 n7 c8, .slice A10 n11 c12]] [Sm w.heap.size F w [(Value.slice A25 n26 c27).ownBlock.toList], St w [(Value.slice A25 n26 c27).ownBlock.toList]] [9, 10] 11 rfl rfl mix rfl (.cons_cons _ (.cons_cons _ (.slnil))) (sels [0, 1] rfl) ?_
                refine wf_v 0 rfl (v_ldB [.slice A2 n3 c4, .slice A6 n7 c8, .slice A10 n11 c12] 1 ld_26 rfl rfl rfl rfl) gn rfl hns (by kernel_rfl) (by kernel_rfl) (by kernel_rfl) rfl ?_
                refine wf_v 1 rfl (v_move rfl) gn rfl hns (by kernel_rfl) (by kernel_rfl) (by kernel_rfl) rfl ?_
                refine wf_v 2 rfl (v_fldB fo_26_2 rfl) gn rfl hns (by kernel_rfl) (by kernel_rfl) (by kernel_rfl) rfl ?_
                refine wf_v 3 rfl (v_ldB1 1 ld_24 rfl rfl rfl) gn rfl hns (by kernel_rfl) (by kernel_rfl) (by kernel_rfl) rfl ?_
                refine wf_v 4 rfl (v_move rfl) gn rfl hns (by kernel_rfl) (by kernel_rfl) (by kernel_rfl) rfl ?_
                obtain ⟨ce2180, hK2181, hr2179⟩ := Rw.read (s := St w [(Value.slice A25 n26 c27).ownBlock.toList]) h13 hb2097
                obtain ⟨A2182, n2183, c2184, rfl, h2185⟩ := hK2181
                refine wf_v 5 rfl (v_idxR (s := St w [(Value.slice A25 n26 c27).ownBlock.toList]) slE_24 rfl rfl h13 hb2097) gn rfl hns (by kernel_rfl) (by kernel_rfl) (by kernel_rfl) rfl ?_
                refine wf_v 6 rfl (v_fldA fo_38_1 rfl) gn rfl hns (by kernel_rfl) (by kernel_rfl) (by kernel_rfl) rfl ?_
                refine wf_v 7 rfl (v_ldA1 (kk := (x1979 : Int).toNat * 2) (j := 1) (St w [(Value.slice A25 n26 c27).ownBlock.toList]) ld_27 rfl hr2179 rfl (me 1 rfl)) gn rfl hns (by kernel_rfl) (by kernel_rfl) (by kernel_rfl) rfl ?_
                refine wf_v 8 rfl (v_move rfl) gn rfl hns (by kernel_rfl) (by kernel_rfl) (by kernel_rfl) rfl ?_
                refine wf_all [9] (by kernel_rfl) rfl ⟨on_l 9 rfl gn rfl (s_call [.agg #[.slice A2 n3 c4, .slice A6 n7 c8, .slice A10 n11 c12], .slice A15 n16 c17, .slice A2182 n2183 c2184, .slice A1975 n1976 c1977] rfl Try.func39 rfl rfl rfl fun w2186 hL2187 => ?_), trivial⟩
                have hp2188 : List.Perm ([.own (.slice A1975 n1976 c1977) 4 1 n1976 (x1974.flatMap eB), .box gb31 26 [.slice A2 n3 c4, .slice A6 n7 c8, .slice A10 n11 c12]] : List Ent) (([.own (.slice A1975 n1976 c1977) 4 1 n1976 (x1974.flatMap eB)] : List Ent) ++ ([.box gb31 26 [.slice A2 n3 c4, .slice A6 n7 c8, .slice A10 n11 c12]] : List Ent)) := perm_of_idx [0] [1] rfl rfl (by kernel_rfl)
                refine Calls.mono (ih_trellisref11_leads w2186 (Fl ([] : List Snap)) x1 x14 ((ix x1.prods x1979).rhs) x1974 A2 n3 c4 A6 n7 c8 A10 n11 c12 A15 n16 c17 A2182 n2183 c2184 z29 A1975 n1976 c1977 (Rw.mono h5 (hL2187.toSt hp2188 (me 1 rfl))) (Rw.mono h9 (hL2187.toSt hp2188 (me 1 rfl))) (Rw.mono h13 (hL2187.toSt hp2188 (me 1 rfl))) (Rw.mono h18 (hL2187.toSt hp2188 (me 1 rfl))) (Rw.mono h2185 (hL2187.toSt hp2188 (me 1 rfl))) (Nat.le_trans hz30 hL2187.env.size) h1978 (hL2187.hFl (Sl := ([] : List Snap)) hp2188 (sels [] rfl)) (hL2187.into hp2188 (Fl ([] : List Snap))) r2152 hv2153) ?_
                rintro _ w2193 ⟨A2189, n2190, c2191, rfl, hM2194, h2192⟩
                have hL2195 := hL2187.call hp2188 hM2194
                refine ⟨_, _, _, rfl, hL2195, ?_⟩
                unfold NxL
                refine wf_all [10] (by kernel_rfl) rfl ⟨on_l 10 rfl gn rfl (s_val (v_assign rfl) rfl ?_), trivial⟩
                unfold NxL
                refine wf_end (by kernel_rfl) ?_
                refine g_inBlock ?_
                refine g_region (c := trellisref11_leads_c39) rfl rfl ?_
                refine wl_v 0 rfl (v_move rfl) gn rfl ?_
                refine wl_v 1 rfl (v_bin rfl rfl rfl) gn rfl ?_
                refine wl_v 2 rfl (v_assign rfl) gn rfl ?_
                refine w_end 3 rfl ?_
                refine g_inLoop ?_
                have ih := Out.inl hO2 h
                exact g_go [0, 1] (ih A2189 n2190 c2191 h2192) ⟨rfl, rfl, rfl, rfl, rfl, rfl, rfl, trivial⟩ (.cons_cons _ (.cons_cons _ (.slnil))) rfl
              · have h := if_neg' hp2141 h
                refine g_false (c := trellisref11_leads_c42) rfl _ rfl ((nei hp2141)) ?_
                refine g_skip (c := trellisref11_leads_c44) rfl ?_
                refine g_inBlock ?_
                refine g_region (c := trellisref11_leads_c39) rfl rfl ?_
                refine wl_v 0 rfl (v_move rfl) gn rfl ?_
                refine wl_v 1 rfl (v_bin rfl rfl rfl) gn rfl ?_
                refine wl_v 2 rfl (v_assign rfl) gn rfl ?_
                refine w_end 3 rfl ?_
                refine g_inLoop ?_
                have ih := Out.inl hO2 h
                exact g_go [0, 1] (ih A1975 n1976 c1977 h1978) ⟨rfl, rfl, rfl, rfl, rfl, rfl, rfl, trivial⟩ (.cons_cons _ (.cons_cons _ (.slnil))) rfl
            · have h := if_neg' hp2105 h
              have hns : Region.noSelect (Code.ops trellisref11_leads_c41) = true := by kernel_rfl
              refine g_drawF (c := trellisref11_leads_c41) [.own (.slice A1975 n1976 c1977) 4 1 n1976 (x1974.flatMap eB), .box gb31 26 [.slice A2 n3 c4, .slice A6 n7 c8, .slice A10 n11 c12]] [Sm w.heap.size F w [(Value.slice A25 n26 c27).ownBlock.toList], St w [(Value.slice A25 n26 c27).ownBlock.toList]] [] 21 rfl rfl mix rfl (.cons_cons _ (.cons_cons _ (.slnil))) (sels [0, 1] rfl) ?_
              refine wf_v 0 rfl (v_fldB fo_26_2 rfl) gn rfl hns (by kernel_rfl) (by kernel_rfl) rfl rfl ?_
              refine wf_v 1 rfl (v_ldB1 1 ld_24 rfl rfl rfl) gn rfl hns (by kernel_rfl) (by kernel_rfl) rfl rfl ?_
              refine wf_v 2 rfl (v_move rfl) gn rfl hns (by kernel_rfl) (by kernel_rfl) rfl rfl ?_
              obtain ⟨ce2204, hK2205, hr2203⟩ := Rw.read (s := St w [(Value.slice A25 n26 c27).ownBlock.toList]) h13 hb2097
              obtain ⟨A2206, n2207, c2208, rfl, h2209⟩ := hK2205
              refine wf_v 3 rfl (v_idxR (s := St w [(Value.slice A25 n26 c27).ownBlock.toList]) slE_24 rfl rfl h13 hb2097) gn rfl hns (by kernel_rfl) (by kernel_rfl) rfl rfl ?_
              refine wf_v 4 rfl (v_fldA fo_38_0 rfl) gn rfl hns (by kernel_rfl) (by kernel_rfl) rfl rfl ?_
              refine wf_v 5 rfl (v_ldA1 (kk := (x1979 : Int).toNat * 2) (j := 0) (St w [(Value.slice A25 n26 c27).ownBlock.toList]) ld_3 rfl hr2203 rfl (me 1 rfl)) gn rfl hns (by kernel_rfl) (by kernel_rfl) rfl rfl ?_
              refine wf_v 6 rfl (v_bin rfl rfl rfl) gn rfl hns (by kernel_rfl) (by kernel_rfl) rfl rfl ?_
              refine wf_v 7 rfl (v_move rfl) gn rfl hns (by kernel_rfl) (by kernel_rfl) rfl rfl ?_
              refine wf_bool 45 rfl ((decide_eq_false hp2105)) ?_
              refine wf_pass 8 rfl (ps 45 rfl rfl rfl) hns (by kernel_rfl) (by kernel_rfl) rfl rfl ?_
              refine wf_pass 9 rfl (ps 45 rfl rfl rfl) hns (by kernel_rfl) (by kernel_rfl) rfl rfl ?_
              refine wf_pass 10 rfl (ps 45 rfl rfl rfl) hns (by kernel_rfl) (by kernel_rfl) rfl rfl ?_
              refine wf_pass 11 rfl (ps 45 rfl rfl rfl) hns (by kernel_rfl) (by kernel_rfl) rfl rfl ?_
              refine wf_pass 12 rfl (ps 45 rfl rfl rfl) hns (by kernel_rfl) (by kernel_rfl) rfl rfl ?_
              refine wf_pass 13 rfl (ps 45 rfl rfl rfl) hns (by kernel_rfl) (by kernel_rfl) rfl rfl ?_
              refine wf_pass 14 rfl (ps 45 rfl rfl rfl) hns (by kernel_rfl) (by kernel_rfl) rfl rfl ?_
              refine wf_pass 15 rfl (ps 45 rfl rfl rfl) hns (by kernel_rfl) (by kernel_rfl) rfl rfl ?_
              refine wf_pass 16 rfl (ps 45 rfl rfl rfl) hns (by kernel_rfl) (by kernel_rfl) rfl rfl ?_
              refine wf_pass 17 rfl (ps 45 rfl rfl rfl) hns (by kernel_rfl) (by kernel_rfl) rfl rfl ?_
              refine wf_pass 18 rfl (ps 45 rfl rfl rfl) hns (by kernel_rfl) (by kernel_rfl) rfl rfl ?_
              refine wf_pass 19 rfl (ps 45 rfl rfl rfl) hns (by kernel_rfl) (by kernel_rfl) rfl rfl ?_
              refine wf_v 20 rfl (v_pick (b := false) rfl rfl) gn rfl hns (by kernel_rfl) (by kernel_rfl) rfl rfl ?_
              refine wf_end (by kernel_rfl) ?_
              refine g_false (c := trellisref11_leads_c42) rfl _ rfl (rfl) ?_
              refine g_skip (c := trellisref11_leads_c44) rfl ?_
              refine g_inBlock ?_
              refine g_region (c := trellisref11_leads_c39) rfl rfl ?_
              refine wl_v 0 rfl (v_move rfl) gn rfl ?_
              refine wl_v 1 rfl (v_bin rfl rfl rfl) gn rfl ?_
              refine wl_v 2 rfl (v_assign rfl) gn rfl ?_
              refine w_end 3 rfl ?_
              refine g_inLoop ?_
              have ih := Out.inl hO2 h
              exact g_go [0, 1] (ih A1975 n1976 c1977 h1978) ⟨rfl, rfl, rfl, rfl, rfl, rfl, rfl, trivial⟩ (.cons_cons _ (.cons_cons _ (.slnil))) rfl
          · have h := if_neg' hp2096 h
            refine g_false (c := trellisref11_leads_c35) rfl _ rfl ((decide_eq_false hp2096)) ?_
            refine g_exit (c := trellisref11_leads_c37) [.code trellisref11_leads_c21, .inBlock 1, .code trellisref11_leads_c16, .inLoop trellisref11_leads_c8, .inBlock 0, .code trellisref11_leads_c4] rfl rfl ?_
            obtain ⟨q2210, hq2211, h⟩ := h
            have hq2211 := Out.inr hO2 hq2211
            rw [← hq2211] at h
            exact g_go [0, 1] (j2 x1974 h A1975 n1976 c1977 h1978) ⟨rfl, rfl, rfl, rfl, rfl, rfl, trivial⟩ (.cons_cons _ (.cons_cons _ (.slnil))) rfl
        exact g_go [0, 1] (key3 _ h A759 n760 c761 h1856) ⟨rfl, rfl, rfl, rfl, rfl, rfl, rfl, trivial⟩ (.cons_cons _ (.cons_cons _ (.slnil))) rfl
    · have h := if_neg' hp1488 h
      refine g_false (c := trellisref11_leads_c12) rfl _ rfl ((decide_eq_false hp1488)) ?_
      refine g_exit (c := trellisref11_leads_c14) [.code trellisref11_leads_c4] rfl rfl ?_
      refine g_seq (c := trellisref11_leads_c4) rfl ?_
      refine g_region (c := trellisref11_leads_c51) rfl rfl ?_
      refine wl_v 0 rfl (v_move rfl) gn rfl ?_
      refine wl_v 1 rfl (v_assign rfl) gn rfl ?_
      refine w_end 2 rfl ?_
      have h := Out.inr hO1 h
      refine g_retR (c := trellisref11_leads_c52) [.slice A759 n760 c761] rfl Try.func39 rfl (.tmp rfl (.nil)) fun wr hLr => ?_
      have hMr : B.Loc w wr [.own (.slice A759 n760 c761) 4 1 n760 (x758.flatMap eB)] [St w [(Value.slice A25 n26 c27).ownBlock.toList]] := hLr.pick (rest := [.box gb31 26 [.slice A2 n3 c4, .slice A6 n7 c8, .slice A10 n11 c12]]) (perm_of_idx [0] [1] rfl rfl (by kernel_rfl)) (sels [1] rfl)
      have hMi : ∀ e ∈ ([.own (.slice A759 n760 c761) 4 1 n760 (x758.flatMap eB)] : List Ent), e ∈ ([.own (.slice A759 n760 c761) 4 1 n760 (x758.flatMap eB), .box gb31 26 [.slice A2 n3 c4, .slice A6 n7 c8, .slice A10 n11 c12]] : List Ent) := sels [0] rfl
      show trellisref11_leads_R w F A25 n26 c27 z29 r (.returned (packV [.slice A759 n760 c761])) wr
      rw [h]
      exact ⟨A759, n760, c761, rfl, hMr, h762⟩
  refine g_front 0 rfl ?_
  refine g_front 1 rfl ?_
  exact g_go [0, 1] (key1 _ h A25 n26 c27 h28) ⟨rfl, rfl, rfl, rfl, rfl, trivial⟩ (.cons_cons _ (.cons_cons _ (.slnil))) rfl
theorem trellisref11_leads_ind : ∀ n, trellisref11_leads_st (trellisref11_leads_n n)
  | 0 => fun w F x1 x14 x19 x24 A2 n3 c4 A6 n7 c8 A10 n11 c12 A15 n16 c17 A20 n21 c22 z29 A25 n26 c27 h5 h9 h13 h18 h23 hz30 h28 hF hL0 r h => h.elim
  | n + 1 => by
    have ih := trellisref11_leads_ind n
    exact trellisref11_leads_step _ ih
theorem trellisref11_leads_calls (w : World) (F : Nat → Prop) (x1 : api_Gram) (x14 : List Bool) (x19 : List api_Ref) (x24 : List Bool) (A2 : Option Addr) (n3 : Nat) (c4 : Nat) (A6 : Option Addr) (n7 : Nat) (c8 : Nat) (A10 : Option Addr) (n11 : Nat) (c12 : Nat) (A15 : Option Addr) (n16 : Nat) (c17 : Nat) (A20 : Option Addr) (n21 : Nat) (c22 : Nat) (z29 : Nat) (A25 : Option Addr) (n26 : Nat) (c27 : Nat) (h5 : Rw k_api_TermDef w (St w [(Value.slice A25 n26 c27).ownBlock.toList]).av A2 n3 c4 x1.terms) (h9 : Rw k_api_Sym w (St w [(Value.slice A25 n26 c27).ownBlock.toList]).av A6 n7 c8 x1.syms) (h13 : Rw k_api_Prod w (St w [(Value.slice A25 n26 c27).ownBlock.toList]).av A10 n11 c12 x1.prods) (h18 : Rw kBool w (St w [(Value.slice A25 n26 c27).ownBlock.toList]).av A15 n16 c17 x14) (h23 : Rw k_api_Ref w (St w [(Value.slice A25 n26 c27).ownBlock.toList]).av A20 n21 c22 x19) (hz30 : z29 ≤ w.heap.size) (h28 : Ow z29 A25 n26 c27 x24) (hF : ∀ b, F b → b < w.heap.size ∧ ∀ o ∈ ([(Value.slice A25 n26 c27).ownBlock.toList] : List (List Nat)), b ∉ o) (hL0 : B.Loc w w [.own (.slice A25 n26 c27) 4 1 n26 (x24.flatMap eB)] [Sm w.heap.size F w [(Value.slice A25 n26 c27).ownBlock.toList], St w [(Value.slice A25 n26 c27).ownBlock.toList]]) (r : List Bool) (h : trellisref11_leads x1 x14 x19 x24 r) : Calls Try.prog 39 #[.agg #[.slice A2 n3 c4, .slice A6 n7 c8, .slice A10 n11 c12], .slice A15 n16 c17, .slice A20 n21 c22, .slice A25 n26 c27] w (trellisref11_leads_R w F A25 n26 c27 z29 r) := by
  obtain ⟨n, h⟩ := h
  exact (trellisref11_leads_ind n) w F x1 x14 x19 x24 A2 n3 c4 A6 n7 c8 A10 n11 c12 A15 n16 c17 A20 n21 c22 z29 A25 n26 c27 h5 h9 h13 h18 h23 hz30 h28 hF hL0 r h
noncomputable abbrev trellisref11_begins_c0 : Code := bodyOf Try.f29
noncomputable abbrev trellisref11_begins_c1 : Code := Code.fst trellisref11_begins_c0
noncomputable abbrev trellisref11_begins_c2 : Code := Code.snd trellisref11_begins_c0
noncomputable abbrev trellisref11_begins_c3 : Code := Code.fst trellisref11_begins_c2
noncomputable abbrev trellisref11_begins_c4 : Code := Code.snd trellisref11_begins_c2
noncomputable abbrev trellisref11_begins_c5 : Code := Code.fst trellisref11_begins_c4
noncomputable abbrev trellisref11_begins_c6 : Code := Code.snd trellisref11_begins_c4
noncomputable abbrev trellisref11_begins_c7 : Code := Code.fst trellisref11_begins_c6
noncomputable abbrev trellisref11_begins_c8 : Code := Code.snd trellisref11_begins_c6
noncomputable abbrev trellisref11_begins_c9 : Code := Code.fst trellisref11_begins_c8
noncomputable abbrev trellisref11_begins_c10 : Code := Code.snd trellisref11_begins_c8
noncomputable abbrev trellisref11_begins_c11 : Code := Code.fst trellisref11_begins_c9
noncomputable abbrev trellisref11_begins_c12 : Code := Code.snd trellisref11_begins_c9
noncomputable abbrev trellisref11_begins_c13 : Code := Code.fst trellisref11_begins_c12
noncomputable abbrev trellisref11_begins_c14 : Code := Code.fst trellisref11_begins_c13
noncomputable abbrev trellisref11_begins_c15 : Code := Code.fst trellisref11_begins_c14
noncomputable abbrev trellisref11_begins_c16 : Code := Code.snd trellisref11_begins_c14
noncomputable abbrev trellisref11_begins_c17 : Code := Code.fst trellisref11_begins_c15
noncomputable abbrev trellisref11_begins_c18 : Code := Code.snd trellisref11_begins_c15
noncomputable abbrev trellisref11_begins_c19 : Code := Code.fst trellisref11_begins_c18
noncomputable abbrev trellisref11_begins_c20 : Code := Code.snd trellisref11_begins_c18
noncomputable abbrev trellisref11_begins_c21 : Code := Code.fst trellisref11_begins_c16
noncomputable abbrev trellisref11_begins_c22 : Code := Code.snd trellisref11_begins_c16
noncomputable abbrev trellisref11_begins_c23 : Code := Code.fst trellisref11_begins_c21
noncomputable abbrev trellisref11_begins_c24 : Code := Code.fst trellisref11_begins_c23
noncomputable abbrev trellisref11_begins_c25 : Code := Code.snd trellisref11_begins_c23
noncomputable abbrev trellisref11_begins_c26 : Code := Code.fst trellisref11_begins_c25
noncomputable abbrev trellisref11_begins_c27 : Code := Code.snd trellisref11_begins_c25
noncomputable abbrev trellisref11_begins_c28 : Code := Code.fst trellisref11_begins_c10
noncomputable abbrev trellisref11_begins_c29 : Code := Code.snd trellisref11_begins_c10
abbrev trellisref11_begins_R (w : World) (F : Nat → Prop) (r : Int) : Ending → World → Prop := fun e w' => e = .returned (.int .u64 r) ∧ B.Loc w w' [] [St w []]
noncomputable abbrev trellisref11_begins_C (w : World) (F : Nat → Prop) (r : Int) : Cx := ⟨Try.prog, 29, Try.f29, 40, trellisref11_begins_R w F  r, w⟩
theorem trellisref11_begins_calls (w : World) (F : Nat → Prop) (x1 : api_Gram) (x14 : List Bool) (x19 : List api_Ref) (A2 : Option Addr) (n3 : Nat) (c4 : Nat) (A6 : Option Addr) (n7 : Nat) (c8 : Nat) (A10 : Option Addr) (n11 : Nat) (c12 : Nat) (A15 : Option Addr) (n16 : Nat) (c17 : Nat) (A20 : Option Addr) (n21 : Nat) (c22 : Nat) (h5 : Rw k_api_TermDef w (St w []).av A2 n3 c4 x1.terms) (h9 : Rw k_api_Sym w (St w []).av A6 n7 c8 x1.syms) (h13 : Rw k_api_Prod w (St w []).av A10 n11 c12 x1.prods) (h18 : Rw kBool w (St w []).av A15 n16 c17 x14) (h23 : Rw k_api_Ref w (St w []).av A20 n21 c22 x19) (hF : ∀ b, F b → b < w.heap.size ∧ ∀ o ∈ ([] : List (List Nat)), b ∉ o) (hL0 : B.Loc w w [] [Sm w.heap.size F w [], St w []]) (r : Int) (h : trellisref11_begins x1 x14 x19 r) : Calls Try.prog 29 #[.agg #[.slice A2 n3 c4, .slice A6 n7 c8, .slice A10 n11 c12], .slice A15 n16 c17, .slice A20 n21 c22] w (trellisref11_begins_R w F  r) := by
  unfold trellisref11_begins at h
  refine calls_of_Loc (vs := [.agg #[.slice A2 n3 c4, .slice A6 n7 c8, .slice A10 n11 c12], .slice A15 n16 c17, .slice A20 n21 c22]) 40 Try.func29 rfl Try.ntmps29 rfl hL0 ?_
  show G (trellisref11_begins_C w F r) _ _ _ _
  refine g_seq (c := trellisref11_begins_c0) rfl ?_
  refine g_region (c := trellisref11_begins_c1) rfl rfl ?_
  refine wl_s 0 rfl (s_box [.slice A2 n3 c4, .slice A6 n7 c8, .slice A10 n11 c12] rfl rfl rfl fun gb24 => ?_) gn
  refine wl_v 1 rfl (v_assign rfl) gn rfl ?_
  refine w_end 2 rfl ?_
  refine g_seq (c := trellisref11_begins_c2) rfl ?_
  refine g_region (c := trellisref11_begins_c3) rfl rfl ?_
  refine wl_v 0 rfl (v_fldB fo_26_0 rfl) gn rfl ?_
  refine wl_v 1 rfl (v_ldB1 0 ld_22 rfl rfl rfl) gn rfl ?_
  refine wl_v 2 rfl (v_lenQ un_22 rfl h5.hq) gn rfl ?_
  refine wl_v 3 rfl (v_fldB fo_26_1 rfl) gn rfl ?_
  refine wl_v 4 rfl (v_ldB1 0 ld_23 rfl rfl rfl) gn rfl ?_
  refine wl_v 5 rfl (v_lenQ un_23 rfl h9.hq) gn rfl ?_
  refine wl_v 6 rfl (v_bin rfl rfl rfl) gn rfl ?_
  obtain ⟨hb26, h⟩ := h
  obtain ⟨x30, hv31, h⟩ := h
  refine wl_s 7 rfl (s_makeX (enc := eB) (z := false) mk_40 rfl (by decide) rfl rfl hb26.1 hb26.2 (by decide) hv31 rfl fun A27 h28 => ?_) gn
  refine wl_v 8 rfl (v_assign rfl) gn rfl ?_
  refine w_end 9 rfl ?_
  refine g_seq (c := trellisref11_begins_c4) rfl ?_
  refine g_region (c := trellisref11_begins_c5) rfl rfl ?_
  refine wl_v 0 rfl (v_ldB [.slice A2 n3 c4, .slice A6 n7 c8, .slice A10 n11 c12] 1 ld_26 rfl rfl rfl rfl) gn rfl ?_
  refine wl_v 1 rfl (v_move rfl) gn rfl ?_
  refine wl_v 2 rfl (v_move rfl) gn rfl ?_
  refine wl_v 3 rfl (v_move rfl) gn rfl ?_
  obtain ⟨r35, hv36, h⟩ := h
  refine wl_s 4 rfl (s_call [.agg #[.slice A2 n3 c4, .slice A6 n7 c8, .slice A10 n11 c12], .slice A15 n16 c17, .slice A20 n21 c22, .slice A27 ((w64 ((x1.terms.length : Int) + (x1.syms.length : Int)) : Int).toNat) ((w64 ((x1.terms.length : Int) + (x1.syms.length : Int)) : Int).toNat)] rfl Try.func39 rfl rfl rfl fun w32 hL33 => ?_) gn
  have hp34 : List.Perm ([.own (.slice A27 ((w64 ((x1.terms.length : Int) + (x1.syms.length : Int)) : Int).toNat) ((w64 ((x1.terms.length : Int) + (x1.syms.length : Int)) : Int).toNat)) 4 1 ((w64 ((x1.terms.length : Int) + (x1.syms.length : Int)) : Int).toNat) (x30.flatMap eB), .box gb24 26 [.slice A2 n3 c4, .slice A6 n7 c8, .slice A10 n11 c12]] : List Ent) (([.own (.slice A27 ((w64 ((x1.terms.length : Int) + (x1.syms.length : Int)) : Int).toNat) ((w64 ((x1.terms.length : Int) + (x1.syms.length : Int)) : Int).toNat)) 4 1 ((w64 ((x1.terms.length : Int) + (x1.syms.length : Int)) : Int).toNat) (x30.flatMap eB)] : List Ent) ++ ([.box gb24 26 [.slice A2 n3 c4, .slice A6 n7 c8, .slice A10 n11 c12]] : List Ent)) := perm_of_idx [0] [1] rfl rfl (by kernel_rfl)
  refine Calls.mono (trellisref11_leads_calls w32 (Fl ([] : List Snap)) x1 x14 x19 x30 A2 n3 c4 A6 n7 c8 A10 n11 c12 A15 n16 c17 A20 n21 c22 w.heap.size A27 ((w64 ((x1.terms.length : Int) + (x1.syms.length : Int)) : Int).toNat) ((w64 ((x1.terms.length : Int) + (x1.syms.length : Int)) : Int).toNat) (Rw.mono h5 (hL33.toSt hp34 (me 1 rfl))) (Rw.mono h9 (hL33.toSt hp34 (me 1 rfl))) (Rw.mono h13 (hL33.toSt hp34 (me 1 rfl))) (Rw.mono h18 (hL33.toSt hp34 (me 1 rfl))) (Rw.mono h23 (hL33.toSt hp34 (me 1 rfl))) hL33.env.size h28 (hL33.hFl (Sl := ([] : List Snap)) hp34 (sels [] rfl)) (hL33.into hp34 (Fl ([] : List Snap))) r35 hv36) ?_
  rintro _ w42 ⟨A37, n38, c39, rfl, hM43, h40⟩
  have hL44 := hL33.call hp34 hM43
  refine ⟨_, _, _, rfl, hL44, ?_⟩
  refine wl_v 5 rfl (v_assign rfl) gn rfl ?_
  refine w_end 6 rfl ?_
  refine g_seq (c := trellisref11_begins_c6) rfl ?_
  refine g_region (c := trellisref11_begins_c7) rfl rfl ?_
  refine wl_v 0 rfl (v_assign rfl) gn rfl ?_
  refine w_end 1 rfl ?_
  refine g_seq (c := trellisref11_begins_c8) rfl ?_
  refine g_seq (c := trellisref11_begins_c9) rfl ?_
  refine g_region (c := trellisref11_begins_c11) rfl rfl ?_
  refine wl_v 0 rfl (v_assign rfl) gn rfl ?_
  refine w_end 1 rfl ?_
  refine g_block (c := trellisref11_begins_c12) rfl ?_
  refine g_loop (c := trellisref11_begins_c13) rfl ?_
  have key1 : ∀ s, Rounds (fun (s : Int × Int) o => trellisref11_begins_b1 x1 r35 s.1 s.2 o) s r → (fun (s : Int × Int) => ∀ (_ : Unit), G (trellisref11_begins_C w F r) [.code trellisref11_begins_c14, .inLoop trellisref11_begins_c14, .inBlock 0, .code trellisref11_begins_c10] [(3, .pointer (some ⟨gb24, 0, none⟩)), (7, .slice A37 n38 c39), (8, .int .u64 s.1), (9, .int .i64 s.2)] [.own (.slice A37 n38 c39) 4 1 n38 (r35.flatMap eB), .box gb24 26 [.slice A2 n3 c4, .slice A6 n7 c8, .slice A10 n11 c12]] [Sm w.heap.size F w [], St w []]) s := by
    intro s hs
    refine Rounds.ind (mot := (fun (s : Int × Int) => ∀ (_ : Unit), G (trellisref11_begins_C w F r) [.code trellisref11_begins_c14, .inLoop trellisref11_begins_c14, .inBlock 0, .code trellisref11_begins_c10] [(3, .pointer (some ⟨gb24, 0, none⟩)), (7, .slice A37 n38 c39), (8, .int .u64 s.1), (9, .int .i64 s.2)] [.own (.slice A37 n38 c39) 4 1 n38 (r35.flatMap eB), .box gb24 26 [.slice A2 n3 c4, .slice A6 n7 c8, .slice A10 n11 c12]] [Sm w.heap.size F w [], St w []])) ?_ hs
    clear hs s
    intro s o1 h hO1
    obtain ⟨x50, x51⟩ := s
    show ∀ (_ : Unit), G (trellisref11_begins_C w F r) [.code trellisref11_begins_c14, .inLoop trellisref11_begins_c14, .inBlock 0, .code trellisref11_begins_c10] [(3, .pointer (some ⟨gb24, 0, none⟩)), (7, .slice A37 n38 c39), (8, .int .u64 x50), (9, .int .i64 x51)] [.own (.slice A37 n38 c39) 4 1 n38 (r35.flatMap eB), .box gb24 26 [.slice A2 n3 c4, .slice A6 n7 c8, .slice A10 n11 c12]] [Sm w.heap.size F w [], St w []]
    intro _
    have h : trellisref11_begins_b1 x1 r35 x50 x51 o1 := h
    unfold trellisref11_begins_b1 at h
    refine g_seq (c := trellisref11_begins_c14) rfl ?_
    refine g_seq (c := trellisref11_begins_c15) rfl ?_
    refine g_region (c := trellisref11_begins_c17) rfl rfl ?_
    refine wl_v 0 rfl (v_move rfl) gn rfl ?_
    refine wl_v 1 rfl (v_fldB fo_26_0 rfl) gn rfl ?_
    refine wl_v 2 rfl (v_ldB1 1 ld_22 rfl rfl rfl) gn rfl ?_
    refine wl_v 3 rfl (v_lenQ un_22 rfl h5.hq) gn rfl ?_
    refine wl_v 4 rfl (v_bin rfl rfl rfl) gn rfl ?_
    refine w_end 5 rfl ?_
    by_cases hp56 : x51 < (x1.terms.length : Int)
    · have h := if_pos' hp56 h
      refine g_true (c := trellisref11_begins_c18) rfl _ rfl ((decide_eq_true hp56)) ?_
      refine g_skip (c := trellisref11_begins_c19) rfl ?_
      refine g_seq (c := trellisref11_begins_c16) rfl ?_
      refine g_block (c := trellisref11_begins_c21) rfl ?_
      refine g_seq (c := trellisref11_begins_c23) rfl ?_
      refine g_region (c := trellisref11_begins_c24) rfl rfl ?_
      refine wl_v 0 rfl (v_move rfl) gn rfl ?_
      refine wl_v 1 rfl (v_move rfl) gn rfl ?_
      obtain ⟨hb57, h⟩ := h
      refine wl_v 2 rfl (v_idxO slE_40 rfl rfl h40 hb57) gn rfl ?_
      refine wl_v 3 rfl (v_ldO1 (.bool (ix r35 x51)) 0 ld_4 rfl rfl (fm_get0 hlB hb57 rfl)) gn rfl ?_
      refine w_end 4 rfl ?_
      by_cases hp58 : (ix r35 x51) = true
      · have h := if_pos' hp58 h
        refine g_true (c := trellisref11_begins_c25) rfl _ rfl (hp58) ?_
        refine g_region (c := trellisref11_begins_c26) rfl rfl ?_
        refine wl_v 0 rfl (v_move rfl) gn rfl ?_
        refine wl_v 1 rfl (v_move rfl) gn rfl ?_
        refine wl_v 2 rfl (v_conv ⟨_, un_3⟩ un_49 rfl) gn rfl ?_
        obtain ⟨hb59, h⟩ := h
        refine wl_v 3 rfl (v_shl rfl rfl hb59) gn rfl ?_
        refine wl_v 4 rfl (v_bin rfl rfl rfl) gn rfl ?_
        refine wl_v 5 rfl (v_assign rfl) gn rfl ?_
        refine w_end 6 rfl ?_
        refine g_inBlock ?_
        refine g_region (c := trellisref11_begins_c22) rfl rfl ?_
        refine wl_v 0 rfl (v_move rfl) gn rfl ?_
        refine wl_v 1 rfl (v_bin rfl rfl rfl) gn rfl ?_
        refine wl_v 2 rfl (v_assign rfl) gn rfl ?_
        refine w_end 3 rfl ?_
        refine g_inLoop ?_
        have ih := Out.inl hO1 h
        exact g_go [0, 1] (ih ()) ⟨rfl, rfl, rfl, rfl, trivial⟩ (.cons_cons _ (.cons_cons _ (.slnil))) rfl
      · have h := if_neg' hp58 h
        refine g_false (c := trellisref11_begins_c25) rfl _ rfl ((bf hp58)) ?_
        refine g_skip (c := trellisref11_begins_c27) rfl ?_
        refine g_inBlock ?_
        refine g_region (c := trellisref11_begins_c22) rfl rfl ?_
        refine wl_v 0 rfl (v_move rfl) gn rfl ?_
        refine wl_v 1 rfl (v_bin rfl rfl rfl) gn rfl ?_
        refine wl_v 2 rfl (v_assign rfl) gn rfl ?_
        refine w_end 3 rfl ?_
        refine g_inLoop ?_
        have ih := Out.inl hO1 h
        exact g_go [0, 1] (ih ()) ⟨rfl, rfl, rfl, rfl, trivial⟩ (.cons_cons _ (.cons_cons _ (.slnil))) rfl
    · have h := if_neg' hp56 h
      refine g_false (c := trellisref11_begins_c18) rfl _ rfl ((decide_eq_false hp56)) ?_
      refine g_exit (c := trellisref11_begins_c20) [.code trellisref11_begins_c10] rfl rfl ?_
      refine g_seq (c := trellisref11_begins_c10) rfl ?_
      refine g_region (c := trellisref11_begins_c28) rfl rfl ?_
      refine wl_v 0 rfl (v_move rfl) gn rfl ?_
      refine wl_v 1 rfl (v_assign rfl) gn rfl ?_
      refine w_end 2 rfl ?_
      have h := Out.inr hO1 h
      refine g_retR (c := trellisref11_begins_c29) [.int .u64 x50] rfl Try.func29 rfl (.tmp rfl (.nil)) fun wr hLr => ?_
      have hMr : B.Loc w wr [] [St w []] := hLr.pick (rest := [.own (.slice A37 n38 c39) 4 1 n38 (r35.flatMap eB), .box gb24 26 [.slice A2 n3 c4, .slice A6 n7 c8, .slice A10 n11 c12]]) (perm_of_idx [] [0, 1] rfl rfl (by kernel_rfl)) (sels [1] rfl)
      have hMi : ∀ e ∈ ([] : List Ent), e ∈ ([.own (.slice A37 n38 c39) 4 1 n38 (r35.flatMap eB), .box gb24 26 [.slice A2 n3 c4, .slice A6 n7 c8, .slice A10 n11 c12]] : List Ent) := sels [] rfl
      show trellisref11_begins_R w F  r (.returned (packV [.int .u64 x50])) wr
      rw [h]
      exact ⟨rfl, hMr⟩
  exact g_go [0, 1] (key1 _ h ()) ⟨rfl, rfl, rfl, rfl, trivial⟩ (.cons_cons _ (.cons_cons _ (.slnil))) rfl
noncomputable abbrev trellisref11_Of_c0 : Code := bodyOf Try.f10
noncomputable abbrev trellisref11_Of_c1 : Code := Code.fst trellisref11_Of_c0
noncomputable abbrev trellisref11_Of_c2 : Code := Code.snd trellisref11_Of_c0
noncomputable abbrev trellisref11_Of_c3 : Code := Code.fst trellisref11_Of_c2
noncomputable abbrev trellisref11_Of_c4 : Code := Code.snd trellisref11_Of_c2
noncomputable abbrev trellisref11_Of_c5 : Code := Code.fst trellisref11_Of_c3
noncomputable abbrev trellisref11_Of_c6 : Code := Code.snd trellisref11_Of_c3
noncomputable abbrev trellisref11_Of_c7 : Code := Code.fst trellisref11_Of_c6
noncomputable abbrev trellisref11_Of_c8 : Code := Code.snd trellisref11_Of_c6
noncomputable abbrev trellisref11_Of_c9 : Code := Code.fst trellisref11_Of_c7
noncomputable abbrev trellisref11_Of_c10 : Code := Code.snd trellisref11_Of_c7
noncomputable abbrev trellisref11_Of_c11 : Code := Code.fst trellisref11_Of_c4
noncomputable abbrev trellisref11_Of_c12 : Code := Code.snd trellisref11_Of_c4
noncomputable abbrev trellisref11_Of_c13 : Code := Code.fst trellisref11_Of_c12
noncomputable abbrev trellisref11_Of_c14 : Code := Code.snd trellisref11_Of_c12
noncomputable abbrev trellisref11_Of_c15 : Code := Code.fst trellisref11_Of_c14
noncomputable abbrev trellisref11_Of_c16 : Code := Code.snd trellisref11_Of_c14
noncomputable abbrev trellisref11_Of_c17 : Code := Code.fst trellisref11_Of_c15
noncomputable abbrev trellisref11_Of_c18 : Code := Code.snd trellisref11_Of_c15
noncomputable abbrev trellisref11_Of_c19 : Code := Code.fst trellisref11_Of_c18
noncomputable abbrev trellisref11_Of_c20 : Code := Code.snd trellisref11_Of_c18
noncomputable abbrev trellisref11_Of_c21 : Code := Code.fst trellisref11_Of_c16
noncomputable abbrev trellisref11_Of_c22 : Code := Code.snd trellisref11_Of_c16
abbrev trellisref11_Of_R (w : World) (F : Nat → Prop) (r : Int) : Ending → World → Prop := fun e w' => e = .returned (.int .u64 r) ∧ B.Loc w w' [] [St w []]
noncomputable abbrev trellisref11_Of_C (w : World) (F : Nat → Prop) (r : Int) : Cx := ⟨Try.prog, 10, Try.f10, 31, trellisref11_Of_R w F  r, w⟩
theorem trellisref11_Of_calls (w : World) (F : Nat → Prop) (x1 : api_Gram) (x14 : List api_Ref) (x19 : Int) (A2 : Option Addr) (n3 : Nat) (c4 : Nat) (A6 : Option Addr) (n7 : Nat) (c8 : Nat) (A10 : Option Addr) (n11 : Nat) (c12 : Nat) (A15 : Option Addr) (n16 : Nat) (c17 : Nat) (h5 : Rw k_api_TermDef w (St w []).av A2 n3 c4 x1.terms) (h9 : Rw k_api_Sym w (St w []).av A6 n7 c8 x1.syms) (h13 : Rw k_api_Prod w (St w []).av A10 n11 c12 x1.prods) (h18 : Rw k_api_Ref w (St w []).av A15 n16 c17 x14) (hF : ∀ b, F b → b < w.heap.size ∧ ∀ o ∈ ([] : List (List Nat)), b ∉ o) (hL0 : B.Loc w w [] [Sm w.heap.size F w [], St w []]) (r : Int) (h : trellisref11_Of x1 x14 x19 r) : Calls Try.prog 10 #[.agg #[.slice A2 n3 c4, .slice A6 n7 c8, .slice A10 n11 c12], .slice A15 n16 c17, .int .u64 x19] w (trellisref11_Of_R w F  r) := by
  unfold trellisref11_Of at h
  refine calls_of_Loc (vs := [.agg #[.slice A2 n3 c4, .slice A6 n7 c8, .slice A10 n11 c12], .slice A15 n16 c17, .int .u64 x19]) 31 Try.func10 rfl Try.ntmps10 rfl hL0 ?_
  show G (trellisref11_Of_C w F r) _ _ _ _
  refine g_seq (c := trellisref11_Of_c0) rfl ?_
  refine g_region (c := trellisref11_Of_c1) rfl rfl ?_
  refine wl_s 0 rfl (s_box [.slice A2 n3 c4, .slice A6 n7 c8, .slice A10 n11 c12] rfl rfl rfl fun gb20 => ?_) gn
  refine wl_v 1 rfl (v_assign rfl) gn rfl ?_
  refine w_end 2 rfl ?_
  refine g_seq (c := trellisref11_Of_c2) rfl ?_
  refine g_seq (c := trellisref11_Of_c3) rfl ?_
  have j1 : ∀ (x40 : Bool) (h : trellisref11_Of_j1 x1 x14 x19 x40 r) , G (trellisref11_Of_C w F r) [.code trellisref11_Of_c6, .code trellisref11_Of_c4] [(1, .slice A15 n16 c17), (2, .int .u64 x19), (3, .pointer (some ⟨gb20, 0, none⟩)), (17, .bool x40)] [.box gb20 26 [.slice A2 n3 c4, .slice A6 n7 c8, .slice A10 n11 c12]] [Sm w.heap.size F w [], St w []] := by
    intro x40 h
    unfold trellisref11_Of_j1 at h
    by_cases hp41 : x40 = true
    · have h := if_pos' hp41 h
      refine g_true (c := trellisref11_Of_c6) rfl _ rfl (hp41) ?_
      refine g_seq (c := trellisref11_Of_c7) rfl ?_
      refine g_region (c := trellisref11_Of_c9) rfl rfl ?_
      refine wl_v 0 rfl (v_assign rfl) gn rfl ?_
      refine w_end 1 rfl ?_
      refine g_retR (c := trellisref11_Of_c10) [.int .u64 0] rfl Try.func10 rfl (.tmp rfl (.nil)) fun wr hLr => ?_
      have hMr : B.Loc w wr [] [St w []] := hLr.pick (rest := [.box gb20 26 [.slice A2 n3 c4, .slice A6 n7 c8, .slice A10 n11 c12]]) (perm_of_idx [] [0] rfl rfl (by kernel_rfl)) (sels [1] rfl)
      have hMi : ∀ e ∈ ([] : List Ent), e ∈ ([.box gb20 26 [.slice A2 n3 c4, .slice A6 n7 c8, .slice A10 n11 c12]] : List Ent) := sels [] rfl
      show trellisref11_Of_R w F  r (.returned (packV [.int .u64 0])) wr
      rw [h]
      exact ⟨rfl, hMr⟩
    · have h := if_neg' hp41 h
      refine g_false (c := trellisref11_Of_c6) rfl _ rfl ((bf hp41)) ?_
      refine g_skip (c := trellisref11_Of_c8) rfl ?_
      refine g_seq (c := trellisref11_Of_c4) rfl ?_
      refine g_region (c := trellisref11_Of_c11) rfl rfl ?_
      refine wl_v 0 rfl (v_ldB [.slice A2 n3 c4, .slice A6 n7 c8, .slice A10 n11 c12] 0 ld_26 rfl rfl rfl rfl) gn rfl ?_
      obtain ⟨r45, hv46, h⟩ := h
      refine wl_s 1 rfl (s_call [.agg #[.slice A2 n3 c4, .slice A6 n7 c8, .slice A10 n11 c12]] rfl Try.func16 rfl rfl rfl fun w42 hL43 => ?_) gn
      have hp44 : List.Perm ([.box gb20 26 [.slice A2 n3 c4, .slice A6 n7 c8, .slice A10 n11 c12]] : List Ent) (([] : List Ent) ++ ([.box gb20 26 [.slice A2 n3 c4, .slice A6 n7 c8, .slice A10 n11 c12]] : List Ent)) := perm_of_idx [] [0] rfl rfl (by kernel_rfl)
      refine Calls.mono (trellisref11_Nullable_calls w42 (Fl ([] : List Snap)) x1 A2 n3 c4 A6 n7 c8 A10 n11 c12 (Rw.mono h5 (hL43.toSt hp44 (me 1 rfl))) (Rw.mono h9 (hL43.toSt hp44 (me 1 rfl))) (Rw.mono h13 (hL43.toSt hp44 (me 1 rfl))) (hL43.hFl (Sl := ([] : List Snap)) hp44 (sels [] rfl)) (hL43.into hp44 (Fl ([] : List Snap))) r45 hv46) ?_
      rintro _ w52 ⟨A47, n48, c49, rfl, hM53, h50⟩
      have hL54 := hL43.call hp44 hM53
      refine ⟨_, _, _, rfl, hL54, ?_⟩
      refine wl_v 2 rfl (v_assign rfl) gn rfl ?_
      refine w_end 3 rfl ?_
      refine g_seq (c := trellisref11_Of_c12) rfl ?_
      refine g_region (c := trellisref11_Of_c13) rfl rfl ?_
      refine wl_v 0 rfl (v_ldB [.slice A2 n3 c4, .slice A6 n7 c8, .slice A10 n11 c12] 1 ld_26 rfl rfl rfl rfl) gn rfl ?_
      refine wl_v 1 rfl (v_move rfl) gn rfl ?_
      refine wl_v 2 rfl (v_move rfl) gn rfl ?_
      obtain ⟨r58, hv59, h⟩ := h
      refine wl_s 3 rfl (s_call [.agg #[.slice A2 n3 c4, .slice A6 n7 c8, .slice A10 n11 c12], .slice A47 n48 c49, .slice A15 n16 c17] rfl Try.func29 rfl rfl rfl fun w55 hL56 => ?_) gn
      have hp57 : List.Perm ([.own (.slice A47 n48 c49) 4 1 n48 (r45.flatMap eB), .box gb20 26 [.slice A2 n3 c4, .slice A6 n7 c8, .slice A10 n11 c12]] : List Ent) (([] : List Ent) ++ ([.own (.slice A47 n48 c49) 4 1 n48 (r45.flatMap eB), .box gb20 26 [.slice A2 n3 c4, .slice A6 n7 c8, .slice A10 n11 c12]] : List Ent)) := perm_of_idx [] [0, 1] rfl rfl (by kernel_rfl)
      refine Calls.mono (trellisref11_begins_calls w55 (Fl ([] : List Snap)) x1 r45 x14 A2 n3 c4 A6 n7 c8 A10 n11 c12 A47 n48 c49 A15 n16 c17 (Rw.mono h5 (hL56.toSt hp57 (me 1 rfl))) (Rw.mono h9 (hL56.toSt hp57 (me 1 rfl))) (Rw.mono h13 (hL56.toSt hp57 (me 1 rfl))) (hL56.argO (dk := kBool) hp57 [] rfl 0 rfl rfl (Ow.weak hL43.env.size h50) (me 0 rfl) (Cells.flat _)) (Rw.mono h18 (hL56.toSt hp57 (me 1 rfl))) (hL56.hFl (Sl := ([] : List Snap)) hp57 (sels [] rfl)) (hL56.into hp57 (Fl ([] : List Snap))) r58 hv59) ?_
      rintro _ w60 ⟨rfl, hM61⟩
      have hL62 := hL56.call hp57 hM61
      refine ⟨_, _, _, rfl, hL62, ?_⟩
      refine wl_v 4 rfl (v_assign rfl) gn rfl ?_
      refine w_end 5 rfl ?_
      refine g_seq (c := trellisref11_Of_c14) rfl ?_
      refine g_seq (c := trellisref11_Of_c15) rfl ?_
      refine g_region (c := trellisref11_Of_c17) rfl rfl ?_
      refine wl_v 0 rfl (v_move rfl) gn rfl ?_
      refine wl_v 1 rfl (v_move rfl) gn rfl ?_
      obtain ⟨r66, hv67, h⟩ := h
      refine wl_s 2 rfl (s_call [.slice A47 n48 c49, .slice A15 n16 c17] rfl Try.func30 rfl rfl rfl fun w63 hL64 => ?_) gn
      have hp65 : List.Perm ([.own (.slice A47 n48 c49) 4 1 n48 (r45.flatMap eB), .box gb20 26 [.slice A2 n3 c4, .slice A6 n7 c8, .slice A10 n11 c12]] : List Ent) (([] : List Ent) ++ ([.own (.slice A47 n48 c49) 4 1 n48 (r45.flatMap eB), .box gb20 26 [.slice A2 n3 c4, .slice A6 n7 c8, .slice A10 n11 c12]] : List Ent)) := perm_of_idx [] [0, 1] rfl rfl (by kernel_rfl)
      refine Calls.mono (trellisref11_goes_calls w63 (Fl ([] : List Snap)) r45 x14 A47 n48 c49 A15 n16 c17 (hL64.argO (dk := kBool) hp65 [] rfl 0 rfl rfl (Ow.weak hL43.env.size h50) (me 0 rfl) (Cells.flat _)) (Rw.mono h18 (hL64.toSt hp65 (me 1 rfl))) (hL64.hFl (Sl := ([] : List Snap)) hp65 (sels [] rfl)) (hL64.into hp65 (Fl ([] : List Snap))) r66 hv67) ?_
      rintro _ w68 ⟨rfl, hM69⟩
      have hL70 := hL64.call hp65 hM69
      refine ⟨_, _, _, rfl, hL70, ?_⟩
      refine w_end 3 rfl ?_
      by_cases hp71 : r66 = true
      · have h := if_pos' hp71 h
        refine g_true (c := trellisref11_Of_c18) rfl _ rfl (hp71) ?_
        refine g_region (c := trellisref11_Of_c19) rfl rfl ?_
        refine wl_v 0 rfl (v_move rfl) gn rfl ?_
        refine wl_v 1 rfl (v_move rfl) gn rfl ?_
        refine wl_v 2 rfl (v_bin rfl rfl rfl) gn rfl ?_
        refine wl_v 3 rfl (v_assign rfl) gn rfl ?_
        refine w_end 4 rfl ?_
        refine g_seq (c := trellisref11_Of_c16) rfl ?_
        refine g_region (c := trellisref11_Of_c21) rfl rfl ?_
        refine wl_v 0 rfl (v_move rfl) gn rfl ?_
        refine wl_v 1 rfl (v_assign rfl) gn rfl ?_
        refine w_end 2 rfl ?_
        refine g_retR (c := trellisref11_Of_c22) [.int .u64 (bits .or .u64 r58 x19)] rfl Try.func10 rfl (.tmp rfl (.nil)) fun wr hLr => ?_
        have hMr : B.Loc w wr [] [St w []] := hLr.pick (rest := [.own (.slice A47 n48 c49) 4 1 n48 (r45.flatMap eB), .box gb20 26 [.slice A2 n3 c4, .slice A6 n7 c8, .slice A10 n11 c12]]) (perm_of_idx [] [0, 1] rfl rfl (by kernel_rfl)) (sels [1] rfl)
        have hMi : ∀ e ∈ ([] : List Ent), e ∈ ([.own (.slice A47 n48 c49) 4 1 n48 (r45.flatMap eB), .box gb20 26 [.slice A2 n3 c4, .slice A6 n7 c8, .slice A10 n11 c12]] : List Ent) := sels [] rfl
        show trellisref11_Of_R w F  r (.returned (packV [.int .u64 (bits .or .u64 r58 x19)])) wr
        rw [h]
        exact ⟨rfl, hMr⟩
      · have h := if_neg' hp71 h
        refine g_false (c := trellisref11_Of_c18) rfl _ rfl ((bf hp71)) ?_
        refine g_skip (c := trellisref11_Of_c20) rfl ?_
        refine g_seq (c := trellisref11_Of_c16) rfl ?_
        refine g_region (c := trellisref11_Of_c21) rfl rfl ?_
        refine wl_v 0 rfl (v_move rfl) gn rfl ?_
        refine wl_v 1 rfl (v_assign rfl) gn rfl ?_
        refine w_end 2 rfl ?_
        refine g_retR (c := trellisref11_Of_c22) [.int .u64 r58] rfl Try.func10 rfl (.tmp rfl (.nil)) fun wr hLr => ?_
        have hMr : B.Loc w wr [] [St w []] := hLr.pick (rest := [.own (.slice A47 n48 c49) 4 1 n48 (r45.flatMap eB), .box gb20 26 [.slice A2 n3 c4, .slice A6 n7 c8, .slice A10 n11 c12]]) (perm_of_idx [] [0, 1] rfl rfl (by kernel_rfl)) (sels [1] rfl)
        have hMi : ∀ e ∈ ([] : List Ent), e ∈ ([.own (.slice A47 n48 c49) 4 1 n48 (r45.flatMap eB), .box gb20 26 [.slice A2 n3 c4, .slice A6 n7 c8, .slice A10 n11 c12]] : List Ent) := sels [] rfl
        show trellisref11_Of_R w F  r (.returned (packV [.int .u64 r58])) wr
        rw [h]
        exact ⟨rfl, hMr⟩
  refine g_region (c := trellisref11_Of_c5) rfl rfl ?_
  refine wl_v 0 rfl (v_ldB [.slice A2 n3 c4, .slice A6 n7 c8, .slice A10 n11 c12] 0 ld_26 rfl rfl rfl rfl) gn rfl ?_
  obtain ⟨r75, hv76, h⟩ := h
  refine wl_s 1 rfl (s_call [.agg #[.slice A2 n3 c4, .slice A6 n7 c8, .slice A10 n11 c12]] rfl Try.func27 rfl rfl rfl fun w72 hL73 => ?_) gn
  have hp74 : List.Perm ([.box gb20 26 [.slice A2 n3 c4, .slice A6 n7 c8, .slice A10 n11 c12]] : List Ent) (([] : List Ent) ++ ([.box gb20 26 [.slice A2 n3 c4, .slice A6 n7 c8, .slice A10 n11 c12]] : List Ent)) := perm_of_idx [] [0] rfl rfl (by kernel_rfl)
  refine Calls.mono (trellisref11_Sound_calls w72 (Fl ([] : List Snap)) x1 A2 n3 c4 A6 n7 c8 A10 n11 c12 (Rw.mono h5 (hL73.toSt hp74 (me 1 rfl))) (Rw.mono h9 (hL73.toSt hp74 (me 1 rfl))) (Rw.mono h13 (hL73.toSt hp74 (me 1 rfl))) (hL73.hFl (Sl := ([] : List Snap)) hp74 (sels [] rfl)) (hL73.into hp74 (Fl ([] : List Snap))) r75 hv76) ?_
  rintro _ w77 ⟨rfl, hM78⟩
  have hL79 := hL73.call hp74 hM78
  refine ⟨_, _, _, rfl, hL79, ?_⟩
  refine wl_v 2 rfl (v_not rfl) gn rfl ?_
  refine wl_v 3 rfl (v_move rfl) gn rfl ?_
  by_cases hp80 : r75 = true
  · have h := if_pos' hp80 h
    refine w_bool 12 rfl ((nf hp80)) ?_
    refine wl_v 4 rfl (v_ldB [.slice A2 n3 c4, .slice A6 n7 c8, .slice A10 n11 c12] 0 ld_26 rfl rfl rfl rfl) (gy 12 rfl rfl) rfl ?_
    refine wl_v 5 rfl (v_move rfl) (gy 12 rfl rfl) rfl ?_
    obtain ⟨r84, hv85, h⟩ := h
    refine wl_s 6 rfl (s_call [.agg #[.slice A2 n3 c4, .slice A6 n7 c8, .slice A10 n11 c12], .slice A15 n16 c17] rfl Try.func28 rfl rfl rfl fun w81 hL82 => ?_) (gy 12 rfl rfl)
    have hp83 : List.Perm ([.box gb20 26 [.slice A2 n3 c4, .slice A6 n7 c8, .slice A10 n11 c12]] : List Ent) (([] : List Ent) ++ ([.box gb20 26 [.slice A2 n3 c4, .slice A6 n7 c8, .slice A10 n11 c12]] : List Ent)) := perm_of_idx [] [0] rfl rfl (by kernel_rfl)
    refine Calls.mono (trellisref11_Row_calls w81 (Fl ([] : List Snap)) x1 x14 A2 n3 c4 A6 n7 c8 A10 n11 c12 A15 n16 c17 (Rw.mono h5 (hL82.toSt hp83 (me 1 rfl))) (Rw.mono h9 (hL82.toSt hp83 (me 1 rfl))) (Rw.mono h13 (hL82.toSt hp83 (me 1 rfl))) (Rw.mono h18 (hL82.toSt hp83 (me 1 rfl))) (hL82.hFl (Sl := ([] : List Snap)) hp83 (sels [] rfl)) (hL82.into hp83 (Fl ([] : List Snap))) r84 hv85) ?_
    rintro _ w86 ⟨rfl, hM87⟩
    have hL88 := hL82.call hp83 hM87
    refine ⟨_, _, _, rfl, hL88, ?_⟩
    refine wl_v 7 rfl (v_not rfl) (gy 12 rfl rfl) rfl ?_
    refine wl_v 8 rfl (v_pick (b := false) rfl rfl) gn rfl ?_
    refine w_end 9 rfl ?_
    exact g_go [0, 1] (j1 (!r84) h) ⟨rfl, rfl, rfl, rfl, trivial⟩ (.cons_cons _ (.slnil)) rfl
  · have h := if_neg' hp80 h
    refine w_bool 12 rfl ((nt (bf hp80))) ?_
    refine wl_pass 4 rfl (ps 12 rfl rfl rfl) ?_
    refine wl_pass 5 rfl (ps 12 rfl rfl rfl) ?_
    refine wl_pass 6 rfl (ps 12 rfl rfl rfl) ?_
    refine wl_pass 7 rfl (ps 12 rfl rfl rfl) ?_
    refine wl_v 8 rfl (v_pick (b := true) rfl rfl) gn rfl ?_
    refine w_end 9 rfl ?_
    exact g_go [0, 1] (j1 true h) ⟨rfl, rfl, rfl, rfl, trivial⟩ (.cons_cons _ (.slnil)) rfl
noncomputable abbrev trellislaw11_lentRow_c0 : Code := bodyOf Try.f12
noncomputable abbrev trellislaw11_lentRow_c1 : Code := Code.fst trellislaw11_lentRow_c0
noncomputable abbrev trellislaw11_lentRow_c2 : Code := Code.snd trellislaw11_lentRow_c0
noncomputable abbrev trellislaw11_lentRow_c3 : Code := Code.fst trellislaw11_lentRow_c2
noncomputable abbrev trellislaw11_lentRow_c4 : Code := Code.snd trellislaw11_lentRow_c2
noncomputable abbrev trellislaw11_lentRow_c5 : Code := Code.fst trellislaw11_lentRow_c4
noncomputable abbrev trellislaw11_lentRow_c6 : Code := Code.snd trellislaw11_lentRow_c4
noncomputable abbrev trellislaw11_lentRow_c7 : Code := Code.fst trellislaw11_lentRow_c5
noncomputable abbrev trellislaw11_lentRow_c8 : Code := Code.snd trellislaw11_lentRow_c5
noncomputable abbrev trellislaw11_lentRow_c9 : Code := Code.fst trellislaw11_lentRow_c8
noncomputable abbrev trellislaw11_lentRow_c10 : Code := Code.fst trellislaw11_lentRow_c9
noncomputable abbrev trellislaw11_lentRow_c11 : Code := Code.fst trellislaw11_lentRow_c10
noncomputable abbrev trellislaw11_lentRow_c12 : Code := Code.snd trellislaw11_lentRow_c10
noncomputable abbrev trellislaw11_lentRow_c13 : Code := Code.fst trellislaw11_lentRow_c11
noncomputable abbrev trellislaw11_lentRow_c14 : Code := Code.snd trellislaw11_lentRow_c11
noncomputable abbrev trellislaw11_lentRow_c15 : Code := Code.fst trellislaw11_lentRow_c14
noncomputable abbrev trellislaw11_lentRow_c16 : Code := Code.snd trellislaw11_lentRow_c14
noncomputable abbrev trellislaw11_lentRow_c17 : Code := Code.fst trellislaw11_lentRow_c12
noncomputable abbrev trellislaw11_lentRow_c18 : Code := Code.snd trellislaw11_lentRow_c12
noncomputable abbrev trellislaw11_lentRow_c19 : Code := Code.fst trellislaw11_lentRow_c17
noncomputable abbrev trellislaw11_lentRow_c20 : Code := Code.fst trellislaw11_lentRow_c6
noncomputable abbrev trellislaw11_lentRow_c21 : Code := Code.snd trellislaw11_lentRow_c6
abbrev trellislaw11_lentRow_R (w : World) (F : Nat → Prop) (r : List api_Ref) : Ending → World → Prop := fun e w' => ∃ A0 : Option Addr, ∃ n0 : Nat, ∃ c0 : Nat, e = .returned (.slice A0 n0 c0) ∧ B.Loc w w' [.own (.slice A0 n0 c0) 36 3 n0 (r.flatMap enc_api_Ref)] [St w []] ∧ Ow w.heap.size A0 n0 c0 r
noncomputable abbrev trellislaw11_lentRow_C (w : World) (F : Nat → Prop) (r : List api_Ref) : Cx := ⟨Try.prog, 12, Try.f12, 21, trellislaw11_lentRow_R w F  r, w⟩
theorem trellislaw11_lentRow_calls (w : World) (F : Nat → Prop) (x1 : List api_Ref) (A2 : Option Addr) (n3 : Nat) (c4 : Nat) (h5 : Rw k_api_Ref w (St w []).av A2 n3 c4 x1) (hF : ∀ b, F b → b < w.heap.size ∧ ∀ o ∈ ([] : List (List Nat)), b ∉ o) (hL0 : B.Loc w w [] [Sm w.heap.size F w [], St w []]) (r : List api_Ref) (h : trellislaw11_lentRow x1 r) : Calls Try.prog 12 #[.slice A2 n3 c4] w (trellislaw11_lentRow_R w F  r) := by
  unfold trellislaw11_lentRow at h
  refine calls_of_Loc (vs := [.slice A2 n3 c4]) 21 Try.func12 rfl Try.ntmps12 rfl hL0 ?_
  show G (trellislaw11_lentRow_C w F r) _ _ _ _
  refine g_seq (c := trellislaw11_lentRow_c0) rfl ?_
  refine g_region (c := trellislaw11_lentRow_c1) rfl rfl ?_
  refine wl_v 0 rfl (v_assign rfl) gn rfl ?_
  refine w_end 1 rfl ?_
  refine g_seq (c := trellislaw11_lentRow_c2) rfl ?_
  refine g_region (c := trellislaw11_lentRow_c3) rfl rfl ?_
  refine wl_v 0 rfl (v_move rfl) gn rfl ?_
  obtain ⟨r9, hv10, h⟩ := h
  refine wl_s 1 rfl (s_call [.slice A2 n3 c4] rfl Try.func9 rfl rfl rfl fun w6 hL7 => ?_) gn
  have hp8 : List.Perm ([] : List Ent) (([] : List Ent) ++ ([] : List Ent)) := perm_of_idx [] [] rfl rfl (by kernel_rfl)
  refine Calls.mono (trellislaw11_twinRow_calls w6 (Fl ([] : List Snap)) x1 A2 n3 c4 (Rw.mono h5 (hL7.toSt hp8 (me 1 rfl))) (hL7.hFl (Sl := ([] : List Snap)) hp8 (sels [] rfl)) (hL7.into hp8 (Fl ([] : List Snap))) r9 hv10) ?_
  rintro _ w16 ⟨A11, n12, c13, rfl, hM17, h14⟩
  have hL18 := hL7.call hp8 hM17
  refine ⟨_, _, _, rfl, hL18, ?_⟩
  refine wl_v 2 rfl (v_assign rfl) gn rfl ?_
  refine w_end 3 rfl ?_
  refine g_seq (c := trellislaw11_lentRow_c4) rfl ?_
  refine g_seq (c := trellislaw11_lentRow_c5) rfl ?_
  refine g_region (c := trellislaw11_lentRow_c7) rfl rfl ?_
  refine wl_v 0 rfl (v_assign rfl) gn rfl ?_
  refine w_end 1 rfl ?_
  refine g_block (c := trellislaw11_lentRow_c8) rfl ?_
  refine g_loop (c := trellislaw11_lentRow_c9) rfl ?_
  have key1 : ∀ s, Rounds (fun (s : (List api_Ref) × Int) o => trellislaw11_lentRow_b1 x1 s.1 s.2 o) s r → (fun (s : (List api_Ref) × Int) => ∀ (A30 : Option Addr) (n31 : Nat) (c32 : Nat) (h33 : Ow w.heap.size A30 n31 c32 s.1), G (trellislaw11_lentRow_C w F r) [.code trellislaw11_lentRow_c10, .inLoop trellislaw11_lentRow_c10, .inBlock 0, .code trellislaw11_lentRow_c6] [(0, .slice A2 n3 c4), (3, .slice A30 n31 c32), (4, .int .i64 s.2)] [.own (.slice A30 n31 c32) 36 3 n31 (s.1.flatMap enc_api_Ref)] [Sm w.heap.size F w [], St w []]) s := by
    intro s hs
    refine Rounds.ind (mot := (fun (s : (List api_Ref) × Int) => ∀ (A30 : Option Addr) (n31 : Nat) (c32 : Nat) (h33 : Ow w.heap.size A30 n31 c32 s.1), G (trellislaw11_lentRow_C w F r) [.code trellislaw11_lentRow_c10, .inLoop trellislaw11_lentRow_c10, .inBlock 0, .code trellislaw11_lentRow_c6] [(0, .slice A2 n3 c4), (3, .slice A30 n31 c32), (4, .int .i64 s.2)] [.own (.slice A30 n31 c32) 36 3 n31 (s.1.flatMap enc_api_Ref)] [Sm w.heap.size F w [], St w []])) ?_ hs
    clear hs s
    intro s o1 h hO1
    obtain ⟨x29, x34⟩ := s
    show ∀ (A30 : Option Addr) (n31 : Nat) (c32 : Nat) (h33 : Ow w.heap.size A30 n31 c32 x29), G (trellislaw11_lentRow_C w F r) [.code trellislaw11_lentRow_c10, .inLoop trellislaw11_lentRow_c10, .inBlock 0, .code trellislaw11_lentRow_c6] [(0, .slice A2 n3 c4), (3, .slice A30 n31 c32), (4, .int .i64 x34)] [.own (.slice A30 n31 c32) 36 3 n31 (x29.flatMap enc_api_Ref)] [Sm w.heap.size F w [], St w []]
    intro A30 n31 c32 h33
    have h : trellislaw11_lentRow_b1 x1 x29 x34 o1 := h
    unfold trellislaw11_lentRow_b1 at h
    refine g_seq (c := trellislaw11_lentRow_c10) rfl ?_
    refine g_seq (c := trellislaw11_lentRow_c11) rfl ?_
    refine g_region (c := trellislaw11_lentRow_c13) rfl rfl ?_
    refine wl_v 0 rfl (v_move rfl) gn rfl ?_
    refine wl_v 1 rfl (v_bin rfl rfl rfl) gn rfl ?_
    refine w_end 2 rfl ?_
    by_cases hp51 : x34 < 20
    · have h := if_pos' hp51 h
      refine g_true (c := trellislaw11_lentRow_c14) rfl _ rfl ((decide_eq_true hp51)) ?_
      refine g_skip (c := trellislaw11_lentRow_c15) rfl ?_
      refine g_seq (c := trellislaw11_lentRow_c12) rfl ?_
      refine g_block (c := trellislaw11_lentRow_c17) rfl ?_
      refine g_region (c := trellislaw11_lentRow_c19) rfl rfl ?_
      refine wl_v 0 rfl (v_move rfl) gn rfl ?_
      refine wl_v 1 rfl (v_move rfl) gn rfl ?_
      refine wl_v 2 rfl (v_bin rfl rfl rfl) gn rfl ?_
      refine wl_v 3 rfl (v_build #[.int .i64 (w64 (900 + x34)), .string (⟨#[109, 97, 114, 107]⟩ : ByteArray), .string (⟨#[]⟩ : ByteArray)] bd_36 rfl (by kernel_rfl)) gn rfl ?_
      refine wl_s 4 rfl (s_litO (xs := ([(⟨w64 (900 + x34), (⟨#[109, 97, 114, 107]⟩ : ByteArray), (⟨#[]⟩ : ByteArray)⟩ : api_Ref)] : List api_Ref)) [.int .i64 (w64 (900 + x34)), .string (⟨#[109, 97, 114, 107]⟩ : ByteArray), .string (⟨#[]⟩ : ByteArray)] bs_27_1 rfl (by kernel_rfl) rfl rfl rfl rfl fun gb53 h54 => ?_) gn
      obtain ⟨x58, hv59, h⟩ := h
      obtain ⟨hb60, h⟩ := h
      refine wl_s 5 rfl (s_app (zs := x58) (cells' := x58.flatMap enc_api_Ref) 1 ap_27 rfl rfl rfl h33 (Nat.le_refl _) (Src.ownF (hl := hl_api_Ref) (h1 := h1_api_Ref) 0 rfl h54) (by rw [hv59, List.flatMap_append] <;> rfl) (app_len hv59 h54.hq) hb60 rfl rfl fun A55 c56 h57 => ?_) gn
      refine wl_v 6 rfl (v_assign rfl) gn rfl ?_
      refine w_end 7 rfl ?_
      refine g_inBlock ?_
      refine g_region (c := trellislaw11_lentRow_c18) rfl rfl ?_
      refine wl_v 0 rfl (v_move rfl) gn rfl ?_
      refine wl_v 1 rfl (v_bin rfl rfl rfl) gn rfl ?_
      refine wl_v 2 rfl (v_assign rfl) gn rfl ?_
      refine w_end 3 rfl ?_
      refine g_inLoop ?_
      have ih := Out.inl hO1 h
      exact g_go [0, 1] (ih A55 (n31 + 1) c56 h57) ⟨rfl, rfl, rfl, trivial⟩ (.cons _ (.cons_cons _ (.slnil))) rfl
    · have h := if_neg' hp51 h
      refine g_false (c := trellislaw11_lentRow_c14) rfl _ rfl ((decide_eq_false hp51)) ?_
      refine g_exit (c := trellislaw11_lentRow_c16) [.code trellislaw11_lentRow_c6] rfl rfl ?_
      refine g_seq (c := trellislaw11_lentRow_c6) rfl ?_
      refine g_region (c := trellislaw11_lentRow_c20) rfl rfl ?_
      refine wl_v 0 rfl (v_move rfl) gn rfl ?_
      refine wl_v 1 rfl (v_move rfl) gn rfl ?_
      refine wl_v 2 rfl (v_lenQ un_27 rfl h5.hq) gn rfl ?_
      obtain ⟨hb61, h⟩ := h
      obtain ⟨x63, hv64, h⟩ := h
      have hle62 : ((x1.length : Int) : Int).toNat ≤ n31 := by have q := hb61; have q1 := h33.hq; omega
      have h65 : Ow w.heap.size A30 ((x1.length : Int) : Int).toNat c32 x63 := Ow.w (Ow.cut h33 hle62) (by rw [hv64])
      refine wl_v 3 rfl (v_cutHi (i := (x1.length : Int)) slE_27 rfl rfl (by have q := hb61; have q1 := h33.hq; have q2 := h33.hn; omega) h33.hn rfl) gn rfl ?_
      refine wl_v 4 rfl (v_assign rfl) gn rfl ?_
      refine w_end 5 rfl ?_
      have h66 : Ow w.heap.size A30 (((x1.length : Int) : Int).toNat) c32 x63 := (Ow.w (Ow.cut h33 hle62) (by rw [hv64]))
      refine g_short (j := 0) (m := (((x1.length : Int) : Int).toNat)) (cells' := x63.flatMap enc_api_Ref) rfl hle62 (by rw [fm_take hl_api_Ref, hv64]) ?_
      have h := Out.inr hO1 h
      refine g_retR (c := trellislaw11_lentRow_c21) [.slice A30 (((x1.length : Int) : Int).toNat) c32] rfl Try.func12 rfl (.tmp rfl (.nil)) fun wr hLr => ?_
      have hMr : B.Loc w wr [.own (.slice A30 (((x1.length : Int) : Int).toNat) c32) 36 3 (((x1.length : Int) : Int).toNat) (x63.flatMap enc_api_Ref)] [St w []] := hLr.pick (rest := []) (perm_of_idx [0] [] rfl rfl (by kernel_rfl)) (sels [1] rfl)
      have hMi : ∀ e ∈ ([.own (.slice A30 (((x1.length : Int) : Int).toNat) c32) 36 3 (((x1.length : Int) : Int).toNat) (x63.flatMap enc_api_Ref)] : List Ent), e ∈ ([.own (.slice A30 (((x1.length : Int) : Int).toNat) c32) 36 3 (((x1.length : Int) : Int).toNat) (x63.flatMap enc_api_Ref)] : List Ent) := sels [0] rfl
      show trellislaw11_lentRow_R w F  r (.returned (packV [.slice A30 (((x1.length : Int) : Int).toNat) c32])) wr
      rw [h]
      exact ⟨A30, ((x1.length : Int) : Int).toNat, c32, rfl, hMr, h66⟩
  exact g_go [0, 1] (key1 _ h A11 n12 c13 (Ow.weak hL7.env.size h14)) ⟨rfl, rfl, rfl, trivial⟩ (.cons_cons _ (.slnil)) rfl
noncomputable abbrev trellislaw11_lent_c0 : Code := bodyOf Try.f11
noncomputable abbrev trellislaw11_lent_c1 : Code := Code.fst trellislaw11_lent_c0
noncomputable abbrev trellislaw11_lent_c2 : Code := Code.snd trellislaw11_lent_c0
noncomputable abbrev trellislaw11_lent_c3 : Code := Code.fst trellislaw11_lent_c2
noncomputable abbrev trellislaw11_lent_c4 : Code := Code.snd trellislaw11_lent_c2
noncomputable abbrev trellislaw11_lent_c5 : Code := Code.fst trellislaw11_lent_c4
noncomputable abbrev trellislaw11_lent_c6 : Code := Code.snd trellislaw11_lent_c4
noncomputable abbrev trellislaw11_lent_c7 : Code := Code.fst trellislaw11_lent_c5
noncomputable abbrev trellislaw11_lent_c8 : Code := Code.snd trellislaw11_lent_c5
noncomputable abbrev trellislaw11_lent_c9 : Code := Code.fst trellislaw11_lent_c8
noncomputable abbrev trellislaw11_lent_c10 : Code := Code.fst trellislaw11_lent_c9
noncomputable abbrev trellislaw11_lent_c11 : Code := Code.fst trellislaw11_lent_c10
noncomputable abbrev trellislaw11_lent_c12 : Code := Code.snd trellislaw11_lent_c10
noncomputable abbrev trellislaw11_lent_c13 : Code := Code.fst trellislaw11_lent_c11
noncomputable abbrev trellislaw11_lent_c14 : Code := Code.snd trellislaw11_lent_c11
noncomputable abbrev trellislaw11_lent_c15 : Code := Code.fst trellislaw11_lent_c14
noncomputable abbrev trellislaw11_lent_c16 : Code := Code.snd trellislaw11_lent_c14
noncomputable abbrev trellislaw11_lent_c17 : Code := Code.fst trellislaw11_lent_c12
noncomputable abbrev trellislaw11_lent_c18 : Code := Code.snd trellislaw11_lent_c12
noncomputable abbrev trellislaw11_lent_c19 : Code := Code.fst trellislaw11_lent_c17
noncomputable abbrev trellislaw11_lent_c20 : Code := Code.fst trellislaw11_lent_c19
noncomputable abbrev trellislaw11_lent_c21 : Code := Code.snd trellislaw11_lent_c19
noncomputable abbrev trellislaw11_lent_c22 : Code := Code.fst trellislaw11_lent_c21
noncomputable abbrev trellislaw11_lent_c23 : Code := Code.snd trellislaw11_lent_c21
noncomputable abbrev trellislaw11_lent_c24 : Code := Code.fst trellislaw11_lent_c6
noncomputable abbrev trellislaw11_lent_c25 : Code := Code.snd trellislaw11_lent_c6
noncomputable abbrev trellislaw11_lent_c26 : Code := Code.fst trellislaw11_lent_c25
noncomputable abbrev trellislaw11_lent_c27 : Code := Code.snd trellislaw11_lent_c25
noncomputable abbrev trellislaw11_lent_c28 : Code := Code.fst trellislaw11_lent_c27
noncomputable abbrev trellislaw11_lent_c29 : Code := Code.snd trellislaw11_lent_c27
noncomputable abbrev trellislaw11_lent_c30 : Code := Code.fst trellislaw11_lent_c29
noncomputable abbrev trellislaw11_lent_c31 : Code := Code.snd trellislaw11_lent_c29
noncomputable abbrev trellislaw11_lent_c32 : Code := Code.fst trellislaw11_lent_c30
noncomputable abbrev trellislaw11_lent_c33 : Code := Code.snd trellislaw11_lent_c30
noncomputable abbrev trellislaw11_lent_c34 : Code := Code.fst trellislaw11_lent_c33
noncomputable abbrev trellislaw11_lent_c35 : Code := Code.fst trellislaw11_lent_c34
noncomputable abbrev trellislaw11_lent_c36 : Code := Code.fst trellislaw11_lent_c35
noncomputable abbrev trellislaw11_lent_c37 : Code := Code.snd trellislaw11_lent_c35
noncomputable abbrev trellislaw11_lent_c38 : Code := Code.fst trellislaw11_lent_c36
noncomputable abbrev trellislaw11_lent_c39 : Code := Code.snd trellislaw11_lent_c36
noncomputable abbrev trellislaw11_lent_c40 : Code := Code.fst trellislaw11_lent_c39
noncomputable abbrev trellislaw11_lent_c41 : Code := Code.snd trellislaw11_lent_c39
noncomputable abbrev trellislaw11_lent_c42 : Code := Code.fst trellislaw11_lent_c37
noncomputable abbrev trellislaw11_lent_c43 : Code := Code.snd trellislaw11_lent_c37
noncomputable abbrev trellislaw11_lent_c44 : Code := Code.fst trellislaw11_lent_c42
noncomputable abbrev trellislaw11_lent_c45 : Code := Code.fst trellislaw11_lent_c31
noncomputable abbrev trellislaw11_lent_c46 : Code := Code.snd trellislaw11_lent_c31
abbrev trellislaw11_lent_R (w : World) (F : Nat → Prop) (r : api_Gram) : Ending → World → Prop := fun e w' => ∃ A0 : Option Addr, ∃ n0 : Nat, ∃ c0 : Nat, ∃ A1 : Option Addr, ∃ n1 : Nat, ∃ c1 : Nat, ∃ A2 : Option Addr, ∃ n2 : Nat, ∃ c2 : Nat, ∃ cs2 : List Value, e = .returned (.agg #[.slice A0 n0 c0, .slice A1 n1 c1, .slice A2 n2 c2]) ∧ B.Loc w w' [.own (.slice A0 n0 c0) 58 2 n0 (r.terms.flatMap enc_api_TermDef), .own (.slice A1 n1 c1) 61 2 n1 (r.syms.flatMap enc_api_Sym), .own (.slice A2 n2 c2) 38 2 n2 cs2] [St w []] ∧ Ow w.heap.size A0 n0 c0 r.terms ∧ Ow w.heap.size A1 n1 c1 r.syms ∧ Ow w.heap.size A2 n2 c2 r.prods ∧ Cells k_api_Prod w' (Nw w w' F [.own (.slice A0 n0 c0) 58 2 n0 (r.terms.flatMap enc_api_TermDef), .own (.slice A1 n1 c1) 61 2 n1 (r.syms.flatMap enc_api_Sym), .own (.slice A2 n2 c2) 38 2 n2 cs2]) r.prods cs2
noncomputable abbrev trellislaw11_lent_C (w : World) (F : Nat → Prop) (r : api_Gram) : Cx := ⟨Try.prog, 11, Try.f11, 73, trellislaw11_lent_R w F  r, w⟩
theorem trellislaw11_lent_calls (w : World) (F : Nat → Prop) (x1 : api_Gram) (A2 : Option Addr) (n3 : Nat) (c4 : Nat) (A6 : Option Addr) (n7 : Nat) (c8 : Nat) (A10 : Option Addr) (n11 : Nat) (c12 : Nat) (h5 : Rw k_api_TermDef w (St w []).av A2 n3 c4 x1.terms) (h9 : Rw k_api_Sym w (St w []).av A6 n7 c8 x1.syms) (h13 : Rw k_api_Prod w (St w []).av A10 n11 c12 x1.prods) (hF : ∀ b, F b → b < w.heap.size ∧ ∀ o ∈ ([] : List (List Nat)), b ∉ o) (hL0 : B.Loc w w [] [Sm w.heap.size F w [], St w []]) (r : api_Gram) (h : trellislaw11_lent x1 r) : Calls Try.prog 11 #[.agg #[.slice A2 n3 c4, .slice A6 n7 c8, .slice A10 n11 c12]] w (trellislaw11_lent_R w F  r) := by
  unfold trellislaw11_lent at h
  refine calls_of_Loc (vs := [.agg #[.slice A2 n3 c4, .slice A6 n7 c8, .slice A10 n11 c12]]) 73 Try.func11 rfl Try.ntmps11 rfl hL0 ?_
  show G (trellislaw11_lent_C w F r) _ _ _ _
  refine g_seq (c := trellislaw11_lent_c0) rfl ?_
  refine g_region (c := trellislaw11_lent_c1) rfl rfl ?_
  refine wl_s 0 rfl (s_box [.slice A2 n3 c4, .slice A6 n7 c8, .slice A10 n11 c12] rfl rfl rfl fun gb14 => ?_) gn
  refine wl_s 1 rfl (s_alloc [.slice none 0 0, .slice none 0 0, .slice none 0 0] zr_26 rfl fun gb16 => ?_) gn
  refine w_end 2 rfl ?_
  refine g_seq (c := trellislaw11_lent_c2) rfl ?_
  refine g_region (c := trellislaw11_lent_c3) rfl rfl ?_
  refine wl_v 0 rfl (v_ldB [.slice A2 n3 c4, .slice A6 n7 c8, .slice A10 n11 c12] 1 ld_26 rfl rfl rfl rfl) gn rfl ?_
  obtain ⟨r21, hv22, h⟩ := h
  refine wl_s 1 rfl (s_call [.agg #[.slice A2 n3 c4, .slice A6 n7 c8, .slice A10 n11 c12]] rfl Try.func8 rfl rfl rfl fun w18 hL19 => ?_) gn
  have hp20 : List.Perm ([.box gb16 26 [.slice none 0 0, .slice none 0 0, .slice none 0 0], .box gb14 26 [.slice A2 n3 c4, .slice A6 n7 c8, .slice A10 n11 c12]] : List Ent) (([] : List Ent) ++ ([.box gb16 26 [.slice none 0 0, .slice none 0 0, .slice none 0 0], .box gb14 26 [.slice A2 n3 c4, .slice A6 n7 c8, .slice A10 n11 c12]] : List Ent)) := perm_of_idx [] [0, 1] rfl rfl (by kernel_rfl)
  refine Calls.mono (trellislaw11_twin_calls w18 (Fl ([] : List Snap)) x1 A2 n3 c4 A6 n7 c8 A10 n11 c12 (Rw.mono h5 (hL19.toSt hp20 (me 1 rfl))) (Rw.mono h9 (hL19.toSt hp20 (me 1 rfl))) (Rw.mono h13 (hL19.toSt hp20 (me 1 rfl))) (hL19.hFl (Sl := ([] : List Snap)) hp20 (sels [] rfl)) (hL19.into hp20 (Fl ([] : List Snap))) r21 hv22) ?_
  rintro _ w40 ⟨A23, n24, c25, A28, n29, c30, A33, n34, c35, cs38, rfl, hM41, h26, h31, h36, hC39⟩
  obtain ⟨sb44, hL42, hv43⟩ := hL19.callB (Sl := ([] : List Snap)) hp20 hM41 F (sels [] rfl) trivial
  have hC39 : Cells k_api_Prod (Sm w.heap.size F w40 sb44).w (Sm w.heap.size F w40 sb44).av r21.prods cs38 := Cells.mono hv43 hC39
  refine ⟨_, _, _, rfl, hL42, ?_⟩
  refine wl_s 2 rfl (s_alloc [.slice none 0 0, .slice none 0 0, .slice none 0 0] zr_26 rfl fun gb45 => ?_) gn
  refine wl_s 3 rfl (s_stB (vs := [.slice A23 n24 c25, .slice A28 n29 c30, .slice A33 n34 c35]) (cs' := [.slice A23 n24 c25, .slice A28 n29 c30, .slice A33 n34 c35]) (M' := [.box gb45 26 [.slice A23 n24 c25, .slice A28 n29 c30, .slice A33 n34 c35], .own (.slice A23 n24 c25) 58 2 n24 (r21.terms.flatMap enc_api_TermDef), .own (.slice A28 n29 c30) 61 2 n29 (r21.syms.flatMap enc_api_Sym), .own (.slice A33 n34 c35) 38 2 n34 cs38, .box gb16 26 [.slice none 0 0, .slice none 0 0, .slice none 0 0], .box gb14 26 [.slice A2 n3 c4, .slice A6 n7 c8, .slice A10 n11 c12]]) 0 sz_26 rfl rfl rfl rfl rfl rfl rfl rfl rfl ?_) gn
  refine w_end 4 rfl ?_
  refine g_seq (c := trellislaw11_lent_c4) rfl ?_
  refine g_seq (c := trellislaw11_lent_c5) rfl ?_
  refine g_region (c := trellislaw11_lent_c7) rfl rfl ?_
  refine wl_v 0 rfl (v_assign rfl) gn rfl ?_
  refine w_end 1 rfl ?_
  refine g_block (c := trellislaw11_lent_c8) rfl ?_
  refine g_loop (c := trellislaw11_lent_c9) rfl ?_
  have key1 : ∀ s, Rounds (fun (s : Int × (List api_TermDef) × (List api_Sym) × (List api_Prod)) o => trellislaw11_lent_b1 x1 s.1 s.2.1 s.2.2.1 s.2.2.2 o) s r → (fun (s : Int × (List api_TermDef) × (List api_Sym) × (List api_Prod)) => ∀ (A84 : Option Addr) (n85 : Nat) (c86 : Nat) (h87 : Ow w.heap.size A84 n85 c86 s.2.1) (A89 : Option Addr) (n90 : Nat) (c91 : Nat) (h92 : Ow w.heap.size A89 n90 c91 s.2.2.1) (A94 : Option Addr) (n95 : Nat) (c96 : Nat) (h97 : Ow w.heap.size A94 n95 c96 s.2.2.2) (cs98 : List Value) (sw99 : World) (sb100 : List (List Nat)) (hC101 : Cells k_api_Prod (Sm w.heap.size F sw99 sb100).w (Sm w.heap.size F sw99 sb100).av s.2.2.2 cs98), G (trellislaw11_lent_C w F r) [.code trellislaw11_lent_c10, .inLoop trellislaw11_lent_c10, .inBlock 0, .code trellislaw11_lent_c6] [(1, .pointer (some ⟨gb14, 0, none⟩)), (2, .pointer (some ⟨gb16, 0, none⟩)), (3, .pointer (some ⟨gb45, 0, none⟩)), (4, .int .i64 s.1)] [.box gb45 26 [.slice A84 n85 c86, .slice A89 n90 c91, .slice A94 n95 c96], .own (.slice A84 n85 c86) 58 2 n85 (s.2.1.flatMap enc_api_TermDef), .own (.slice A89 n90 c91) 61 2 n90 (s.2.2.1.flatMap enc_api_Sym), .own (.slice A94 n95 c96) 38 2 n95 cs98, .box gb16 26 [.slice none 0 0, .slice none 0 0, .slice none 0 0], .box gb14 26 [.slice A2 n3 c4, .slice A6 n7 c8, .slice A10 n11 c12]] [Sm w.heap.size F sw99 sb100, Sm w.heap.size F w40 sb44, Sm w.heap.size F w [], St w []]) s := by
    intro s hs
    refine Rounds.ind (mot := (fun (s : Int × (List api_TermDef) × (List api_Sym) × (List api_Prod)) => ∀ (A84 : Option Addr) (n85 : Nat) (c86 : Nat) (h87 : Ow w.heap.size A84 n85 c86 s.2.1) (A89 : Option Addr) (n90 : Nat) (c91 : Nat) (h92 : Ow w.heap.size A89 n90 c91 s.2.2.1) (A94 : Option Addr) (n95 : Nat) (c96 : Nat) (h97 : Ow w.heap.size A94 n95 c96 s.2.2.2) (cs98 : List Value) (sw99 : World) (sb100 : List (List Nat)) (hC101 : Cells k_api_Prod (Sm w.heap.size F sw99 sb100).w (Sm w.heap.size F sw99 sb100).av s.2.2.2 cs98), G (trellislaw11_lent_C w F r) [.code trellislaw11_lent_c10, .inLoop trellislaw11_lent_c10, .inBlock 0, .code trellislaw11_lent_c6] [(1, .pointer (some ⟨gb14, 0, none⟩)), (2, .pointer (some ⟨gb16, 0, none⟩)), (3, .pointer (some ⟨gb45, 0, none⟩)), (4, .int .i64 s.1)] [.box gb45 26 [.slice A84 n85 c86, .slice A89 n90 c91, .slice A94 n95 c96], .own (.slice A84 n85 c86) 58 2 n85 (s.2.1.flatMap enc_api_TermDef), .own (.slice A89 n90 c91) 61 2 n90 (s.2.2.1.flatMap enc_api_Sym), .own (.slice A94 n95 c96) 38 2 n95 cs98, .box gb16 26 [.slice none 0 0, .slice none 0 0, .slice none 0 0], .box gb14 26 [.slice A2 n3 c4, .slice A6 n7 c8, .slice A10 n11 c12]] [Sm w.heap.size F sw99 sb100, Sm w.heap.size F w40 sb44, Sm w.heap.size F w [], St w []])) ?_ hs
    clear hs s
    intro s o1 h hO1
    obtain ⟨x82, x83, x88, x93⟩ := s
    show ∀ (A84 : Option Addr) (n85 : Nat) (c86 : Nat) (h87 : Ow w.heap.size A84 n85 c86 x83) (A89 : Option Addr) (n90 : Nat) (c91 : Nat) (h92 : Ow w.heap.size A89 n90 c91 x88) (A94 : Option Addr) (n95 : Nat) (c96 : Nat) (h97 : Ow w.heap.size A94 n95 c96 x93) (cs98 : List Value) (sw99 : World) (sb100 : List (List Nat)) (hC101 : Cells k_api_Prod (Sm w.heap.size F sw99 sb100).w (Sm w.heap.size F sw99 sb100).av x93 cs98), G (trellislaw11_lent_C w F r) [.code trellislaw11_lent_c10, .inLoop trellislaw11_lent_c10, .inBlock 0, .code trellislaw11_lent_c6] [(1, .pointer (some ⟨gb14, 0, none⟩)), (2, .pointer (some ⟨gb16, 0, none⟩)), (3, .pointer (some ⟨gb45, 0, none⟩)), (4, .int .i64 x82)] [.box gb45 26 [.slice A84 n85 c86, .slice A89 n90 c91, .slice A94 n95 c96], .own (.slice A84 n85 c86) 58 2 n85 (x83.flatMap enc_api_TermDef), .own (.slice A89 n90 c91) 61 2 n90 (x88.flatMap enc_api_Sym), .own (.slice A94 n95 c96) 38 2 n95 cs98, .box gb16 26 [.slice none 0 0, .slice none 0 0, .slice none 0 0], .box gb14 26 [.slice A2 n3 c4, .slice A6 n7 c8, .slice A10 n11 c12]] [Sm w.heap.size F sw99 sb100, Sm w.heap.size F w40 sb44, Sm w.heap.size F w [], St w []]
    intro A84 n85 c86 h87 A89 n90 c91 h92 A94 n95 c96 h97 cs98 sw99 sb100 hC101
    have h : trellislaw11_lent_b1 x1 x82 x83 x88 x93 o1 := h
    unfold trellislaw11_lent_b1 at h
    refine g_seq (c := trellislaw11_lent_c10) rfl ?_
    refine g_seq (c := trellislaw11_lent_c11) rfl ?_
    refine g_region (c := trellislaw11_lent_c13) rfl rfl ?_
    refine wl_v 0 rfl (v_move rfl) gn rfl ?_
    refine wl_v 1 rfl (v_bin rfl rfl rfl) gn rfl ?_
    refine w_end 2 rfl ?_
    by_cases hp574 : x82 < 20
    · have h := if_pos' hp574 h
      refine g_true (c := trellislaw11_lent_c14) rfl _ rfl ((decide_eq_true hp574)) ?_
      refine g_skip (c := trellislaw11_lent_c15) rfl ?_
      refine g_seq (c := trellislaw11_lent_c12) rfl ?_
      refine g_block (c := trellislaw11_lent_c17) rfl ?_
      refine g_seq (c := trellislaw11_lent_c19) rfl ?_
      refine g_region (c := trellislaw11_lent_c20) rfl rfl ?_
      refine wl_v 0 rfl (v_fldB fo_26_0 rfl) gn rfl ?_
      refine wl_v 1 rfl (v_ldB1 0 ld_22 rfl rfl rfl) gn rfl ?_
      refine wl_v 2 rfl (v_build #[.string (⟨#[109, 97, 114, 107]⟩ : ByteArray), .bool false] bd_58 rfl (by kernel_rfl)) gn rfl ?_
      refine wl_s 3 rfl (s_litO (xs := ([(⟨(⟨#[109, 97, 114, 107]⟩ : ByteArray), false⟩ : api_TermDef)] : List api_TermDef)) [.string (⟨#[109, 97, 114, 107]⟩ : ByteArray), .bool false] bs_22_1 rfl (by kernel_rfl) rfl rfl rfl rfl fun gb576 h577 => ?_) gn
      obtain ⟨x581, hv582, h⟩ := h
      obtain ⟨hb583, h⟩ := h
      refine wl_s 4 rfl (s_app (zs := x581) (cells' := x581.flatMap enc_api_TermDef) 2 ap_22 rfl rfl rfl h87 (Nat.le_refl _) (Src.ownF (hl := hl_api_TermDef) (h1 := h1_api_TermDef) 0 rfl h577) (by rw [hv582, List.flatMap_append] <;> rfl) (app_len hv582 h577.hq) hb583 rfl rfl fun A578 c579 h580 => ?_) gn
      refine wl_v 5 rfl (v_fldB fo_26_0 rfl) gn rfl ?_
      refine wl_s 6 rfl (s_stB (vs := [.slice A578 (n85 + 1) c579]) (cs' := [.slice A578 (n85 + 1) c579, .slice A89 n90 c91, .slice A94 n95 c96]) (M' := [.own (.slice (some ⟨gb576, 0, none⟩) 1 1) 58 2 1 (([(⟨(⟨#[109, 97, 114, 107]⟩ : ByteArray), false⟩ : api_TermDef)] : List api_TermDef).flatMap enc_api_TermDef), .box gb45 26 [.slice A578 (n85 + 1) c579, .slice A89 n90 c91, .slice A94 n95 c96], .own (.slice A578 (n85 + 1) c579) 58 2 (n85 + 1) (x581.flatMap enc_api_TermDef), .own (.slice A89 n90 c91) 61 2 n90 (x88.flatMap enc_api_Sym), .own (.slice A94 n95 c96) 38 2 n95 cs98, .box gb16 26 [.slice none 0 0, .slice none 0 0, .slice none 0 0], .box gb14 26 [.slice A2 n3 c4, .slice A6 n7 c8, .slice A10 n11 c12]]) 1 sz_22 rfl rfl rfl rfl rfl rfl rfl rfl rfl ?_) gn
      refine w_end 7 rfl ?_
      refine g_seq (c := trellislaw11_lent_c21) rfl ?_
      refine g_region (c := trellislaw11_lent_c22) rfl rfl ?_
      refine wl_v 0 rfl (v_fldB fo_26_1 rfl) gn rfl ?_
      refine wl_v 1 rfl (v_ldB1 1 ld_23 rfl rfl rfl) gn rfl ?_
      refine wl_v 2 rfl (v_build #[.string (⟨#[109, 97, 114, 107]⟩ : ByteArray), .int .i64 0] bd_61 rfl (by kernel_rfl)) gn rfl ?_
      refine wl_s 3 rfl (s_litO (xs := ([(⟨(⟨#[109, 97, 114, 107]⟩ : ByteArray), 0⟩ : api_Sym)] : List api_Sym)) [.string (⟨#[109, 97, 114, 107]⟩ : ByteArray), .int .i64 0] bs_23_1 rfl (by kernel_rfl) rfl rfl rfl rfl fun gb585 h586 => ?_) gn
      obtain ⟨x590, hv591, h⟩ := h
      obtain ⟨hb592, h⟩ := h
      refine wl_s 4 rfl (s_app (zs := x590) (cells' := x590.flatMap enc_api_Sym) 4 ap_23 rfl rfl rfl h92 (Nat.le_refl _) (Src.ownF (hl := hl_api_Sym) (h1 := h1_api_Sym) 0 rfl h586) (by rw [hv591, List.flatMap_append] <;> rfl) (app_len hv591 h586.hq) hb592 rfl rfl fun A587 c588 h589 => ?_) gn
      refine wl_v 5 rfl (v_fldB fo_26_1 rfl) gn rfl ?_
      refine wl_s 6 rfl (s_stB (vs := [.slice A587 (n90 + 1) c588]) (cs' := [.slice A578 (n85 + 1) c579, .slice A587 (n90 + 1) c588, .slice A94 n95 c96]) (M' := [.own (.slice (some ⟨gb585, 0, none⟩) 1 1) 61 2 1 (([(⟨(⟨#[109, 97, 114, 107]⟩ : ByteArray), 0⟩ : api_Sym)] : List api_Sym).flatMap enc_api_Sym), .own (.slice (some ⟨gb576, 0, none⟩) 1 1) 58 2 1 (([(⟨(⟨#[109, 97, 114, 107]⟩ : ByteArray), false⟩ : api_TermDef)] : List api_TermDef).flatMap enc_api_TermDef), .box gb45 26 [.slice A578 (n85 + 1) c579, .slice A587 (n90 + 1) c588, .slice A94 n95 c96], .own (.slice A578 (n85 + 1) c579) 58 2 (n85 + 1) (x581.flatMap enc_api_TermDef), .own (.slice A587 (n90 + 1) c588) 61 2 (n90 + 1) (x590.flatMap enc_api_Sym), .own (.slice A94 n95 c96) 38 2 n95 cs98, .box gb16 26 [.slice none 0 0, .slice none 0 0, .slice none 0 0], .box gb14 26 [.slice A2 n3 c4, .slice A6 n7 c8, .slice A10 n11 c12]]) 2 sz_23 rfl rfl rfl rfl rfl rfl rfl rfl rfl ?_) gn
      refine w_end 7 rfl ?_
      refine g_region (c := trellislaw11_lent_c23) rfl rfl ?_
      refine wl_v 0 rfl (v_fldB fo_26_2 rfl) gn rfl ?_
      refine wl_v 1 rfl (v_ldB1 2 ld_24 rfl rfl rfl) gn rfl ?_
      refine wl_v 2 rfl (v_move rfl) gn rfl ?_
      refine wl_v 3 rfl (v_bin rfl rfl rfl) gn rfl ?_
      refine wl_v 4 rfl (v_build #[.int .i64 (w64 (900 + x82)), .slice none 0 0] bd_38 rfl (by kernel_rfl)) gn rfl ?_
      have hC594 : Cells k_api_Prod (Sm w.heap.size F w []).w (Sm w.heap.size F w []).av ([(⟨w64 (900 + x82), ([] : List api_Ref)⟩ : api_Prod)] : List api_Prod) [.int .i64 (w64 (900 + x82)), .slice none 0 0] := (Cells.cons (c1 := [.int .i64 (w64 (900 + x82)), .slice none 0 0]) ⟨none, 0, 0, rfl, Rw.nil⟩ Cells.nil)
      refine wl_s 5 rfl (s_litO (xs := ([(⟨w64 (900 + x82), ([] : List api_Ref)⟩ : api_Prod)] : List api_Prod)) [.int .i64 (w64 (900 + x82)), .slice none 0 0] bs_24_1 rfl (by kernel_rfl) rfl rfl rfl rfl fun gb595 h596 => ?_) gn
      obtain ⟨x603, hv604, h⟩ := h
      obtain ⟨hb605, h⟩ := h
      refine w_mark (F := F) fun sw600 sb601 ho602 => ?_
      obtain ⟨cs606, hc607⟩ : ∃ x : List Value, x = cs98 ++ [.int .i64 (w64 (900 + x82)), .slice none 0 0] := ⟨_, rfl⟩
      have hC608 : Cells k_api_Prod (Sm w.heap.size F sw600 sb601).w (Sm w.heap.size F sw600 sb601).av x603 cs606 := by rw [hv604, hc607]; exact Cells.app (Cells.older (s := Sm w.heap.size F sw99 sb100) hC101 (ho602 _ (me 0 rfl) Sm.ok)) (Cells.older (s := Sm w.heap.size F w []) hC594 (ho602 _ (me 2 rfl) Sm.ok))
      refine wl_s 6 rfl (s_app (zs := x603) 6 ap_24 rfl rfl rfl h97 (Nat.le_refl _) (Src.ownAll 0 rfl h596 hC594) hc607.symm (app_len hv604 h596.hq) hb605 rfl rfl fun A597 c598 h599 => ?_) gn
      refine wl_v 7 rfl (v_fldB fo_26_2 rfl) gn rfl ?_
      refine wl_s 8 rfl (s_stB (vs := [.slice A597 (n95 + 1) c598]) (cs' := [.slice A578 (n85 + 1) c579, .slice A587 (n90 + 1) c588, .slice A597 (n95 + 1) c598]) (M' := [.own (.slice (some ⟨gb595, 0, none⟩) 1 1) 38 2 1 [.int .i64 (w64 (900 + x82)), .slice none 0 0], .own (.slice (some ⟨gb585, 0, none⟩) 1 1) 61 2 1 (([(⟨(⟨#[109, 97, 114, 107]⟩ : ByteArray), 0⟩ : api_Sym)] : List api_Sym).flatMap enc_api_Sym), .own (.slice (some ⟨gb576, 0, none⟩) 1 1) 58 2 1 (([(⟨(⟨#[109, 97, 114, 107]⟩ : ByteArray), false⟩ : api_TermDef)] : List api_TermDef).flatMap enc_api_TermDef), .box gb45 26 [.slice A578 (n85 + 1) c579, .slice A587 (n90 + 1) c588, .slice A597 (n95 + 1) c598], .own (.slice A578 (n85 + 1) c579) 58 2 (n85 + 1) (x581.flatMap enc_api_TermDef), .own (.slice A587 (n90 + 1) c588) 61 2 (n90 + 1) (x590.flatMap enc_api_Sym), .own (.slice A597 (n95 + 1) c598) 38 2 (n95 + 1) cs606, .box gb16 26 [.slice none 0 0, .slice none 0 0, .slice none 0 0], .box gb14 26 [.slice A2 n3 c4, .slice A6 n7 c8, .slice A10 n11 c12]]) 3 sz_24 rfl rfl rfl rfl rfl rfl rfl rfl rfl ?_) gn
      refine w_end 9 rfl ?_
      refine g_inBlock ?_
      refine g_region (c := trellislaw11_lent_c18) rfl rfl ?_
      refine wl_v 0 rfl (v_move rfl) gn rfl ?_
      refine wl_v 1 rfl (v_bin rfl rfl rfl) gn rfl ?_
      refine wl_v 2 rfl (v_assign rfl) gn rfl ?_
      refine w_end 3 rfl ?_
      refine g_inLoop ?_
      have ih := Out.inl hO1 h
      exact g_go [0, 2, 3, 4] (ih A578 (n85 + 1) c579 h580 A587 (n90 + 1) c588 h589 A597 (n95 + 1) c598 h599 cs606 sw600 sb601 hC608) ⟨rfl, rfl, rfl, rfl, trivial⟩ (.cons _ (.cons _ (.cons _ (.cons_cons _ (.cons_cons _ (.cons_cons _ (.cons_cons _ (.cons_cons _ (.cons_cons _ (.slnil)))))))))) rfl
    · have h := if_neg' hp574 h
      refine g_false (c := trellislaw11_lent_c14) rfl _ rfl ((decide_eq_false hp574)) ?_
      refine g_exit (c := trellislaw11_lent_c16) [.code trellislaw11_lent_c6] rfl rfl ?_
      refine g_seq (c := trellislaw11_lent_c6) rfl ?_
      refine g_region (c := trellislaw11_lent_c24) rfl rfl ?_
      refine wl_v 0 rfl (v_fldB fo_26_0 rfl) gn rfl ?_
      refine wl_v 1 rfl (v_ldB1 0 ld_22 rfl rfl rfl) gn rfl ?_
      refine wl_v 2 rfl (v_fldB fo_26_0 rfl) gn rfl ?_
      refine wl_v 3 rfl (v_ldB1 5 ld_22 rfl rfl rfl) gn rfl ?_
      refine wl_v 4 rfl (v_lenQ un_22 rfl h5.hq) gn rfl ?_
      obtain ⟨hb609, h⟩ := h
      obtain ⟨x611, hv612, h⟩ := h
      have hle610 : ((x1.terms.length : Int) : Int).toNat ≤ n85 := by have q := hb609; have q1 := h87.hq; omega
      have h613 : Ow w.heap.size A84 ((x1.terms.length : Int) : Int).toNat c86 x611 := Ow.w (Ow.cut h87 hle610) (by rw [hv612])
      refine wl_v 5 rfl (v_cutHi (i := (x1.terms.length : Int)) slE_22 rfl rfl (by have q := hb609; have q1 := h87.hq; have q2 := h87.hn; omega) h87.hn rfl) gn rfl ?_
      refine wl_v 6 rfl (v_fldB fo_26_0 rfl) gn rfl ?_
      refine wl_s 7 rfl (s_stB (vs := [.slice A84 (((x1.terms.length : Int) : Int).toNat) c86]) (cs' := [.slice A84 (((x1.terms.length : Int) : Int).toNat) c86, .slice A89 n90 c91, .slice A94 n95 c96]) (M' := [.box gb45 26 [.slice A84 (((x1.terms.length : Int) : Int).toNat) c86, .slice A89 n90 c91, .slice A94 n95 c96], .own (.slice A84 n85 c86) 58 2 n85 (x83.flatMap enc_api_TermDef), .own (.slice A89 n90 c91) 61 2 n90 (x88.flatMap enc_api_Sym), .own (.slice A94 n95 c96) 38 2 n95 cs98, .box gb16 26 [.slice none 0 0, .slice none 0 0, .slice none 0 0], .box gb14 26 [.slice A2 n3 c4, .slice A6 n7 c8, .slice A10 n11 c12]]) 0 sz_22 rfl rfl rfl rfl rfl rfl rfl rfl rfl ?_) gn
      refine w_end 8 rfl ?_
      refine g_seq (c := trellislaw11_lent_c25) rfl ?_
      refine g_region (c := trellislaw11_lent_c26) rfl rfl ?_
      refine wl_v 0 rfl (v_fldB fo_26_1 rfl) gn rfl ?_
      refine wl_v 1 rfl (v_ldB1 0 ld_23 rfl rfl rfl) gn rfl ?_
      refine wl_v 2 rfl (v_fldB fo_26_1 rfl) gn rfl ?_
      refine wl_v 3 rfl (v_ldB1 5 ld_23 rfl rfl rfl) gn rfl ?_
      refine wl_v 4 rfl (v_lenQ un_23 rfl h9.hq) gn rfl ?_
      obtain ⟨hb614, h⟩ := h
      obtain ⟨x616, hv617, h⟩ := h
      have hle615 : ((x1.syms.length : Int) : Int).toNat ≤ n90 := by have q := hb614; have q1 := h92.hq; omega
      have h618 : Ow w.heap.size A89 ((x1.syms.length : Int) : Int).toNat c91 x616 := Ow.w (Ow.cut h92 hle615) (by rw [hv617])
      refine wl_v 5 rfl (v_cutHi (i := (x1.syms.length : Int)) slE_23 rfl rfl (by have q := hb614; have q1 := h92.hq; have q2 := h92.hn; omega) h92.hn rfl) gn rfl ?_
      refine wl_v 6 rfl (v_fldB fo_26_1 rfl) gn rfl ?_
      refine wl_s 7 rfl (s_stB (vs := [.slice A89 (((x1.syms.length : Int) : Int).toNat) c91]) (cs' := [.slice A84 (((x1.terms.length : Int) : Int).toNat) c86, .slice A89 (((x1.syms.length : Int) : Int).toNat) c91, .slice A94 n95 c96]) (M' := [.box gb45 26 [.slice A84 (((x1.terms.length : Int) : Int).toNat) c86, .slice A89 (((x1.syms.length : Int) : Int).toNat) c91, .slice A94 n95 c96], .own (.slice A84 n85 c86) 58 2 n85 (x83.flatMap enc_api_TermDef), .own (.slice A89 n90 c91) 61 2 n90 (x88.flatMap enc_api_Sym), .own (.slice A94 n95 c96) 38 2 n95 cs98, .box gb16 26 [.slice none 0 0, .slice none 0 0, .slice none 0 0], .box gb14 26 [.slice A2 n3 c4, .slice A6 n7 c8, .slice A10 n11 c12]]) 0 sz_23 rfl rfl rfl rfl rfl rfl rfl rfl rfl ?_) gn
      refine w_end 8 rfl ?_
      refine g_seq (c := trellislaw11_lent_c27) rfl ?_
      refine g_region (c := trellislaw11_lent_c28) rfl rfl ?_
      refine wl_v 0 rfl (v_fldB fo_26_2 rfl) gn rfl ?_
      refine wl_v 1 rfl (v_ldB1 0 ld_24 rfl rfl rfl) gn rfl ?_
      refine wl_v 2 rfl (v_fldB fo_26_2 rfl) gn rfl ?_
      refine wl_v 3 rfl (v_ldB1 5 ld_24 rfl rfl rfl) gn rfl ?_
      refine wl_v 4 rfl (v_lenQ un_24 rfl h13.hq) gn rfl ?_
      obtain ⟨hb619, h⟩ := h
      obtain ⟨x621, hv622, h⟩ := h
      have hle620 : ((x1.prods.length : Int) : Int).toNat ≤ n95 := by have q := hb619; have q1 := h97.hq; omega
      have h623 : Ow w.heap.size A94 ((x1.prods.length : Int) : Int).toNat c96 x621 := Ow.w (Ow.cut h97 hle620) (by rw [hv622])
      refine wl_v 5 rfl (v_cutHi (i := (x1.prods.length : Int)) slE_24 rfl rfl (by have q := hb619; have q1 := h97.hq; have q2 := h97.hn; omega) h97.hn rfl) gn rfl ?_
      refine wl_v 6 rfl (v_fldB fo_26_2 rfl) gn rfl ?_
      refine wl_s 7 rfl (s_stB (vs := [.slice A94 (((x1.prods.length : Int) : Int).toNat) c96]) (cs' := [.slice A84 (((x1.terms.length : Int) : Int).toNat) c86, .slice A89 (((x1.syms.length : Int) : Int).toNat) c91, .slice A94 (((x1.prods.length : Int) : Int).toNat) c96]) (M' := [.box gb45 26 [.slice A84 (((x1.terms.length : Int) : Int).toNat) c86, .slice A89 (((x1.syms.length : Int) : Int).toNat) c91, .slice A94 (((x1.prods.length : Int) : Int).toNat) c96], .own (.slice A84 n85 c86) 58 2 n85 (x83.flatMap enc_api_TermDef), .own (.slice A89 n90 c91) 61 2 n90 (x88.flatMap enc_api_Sym), .own (.slice A94 n95 c96) 38 2 n95 cs98, .box gb16 26 [.slice none 0 0, .slice none 0 0, .slice none 0 0], .box gb14 26 [.slice A2 n3 c4, .slice A6 n7 c8, .slice A10 n11 c12]]) 0 sz_24 rfl rfl rfl rfl rfl rfl rfl rfl rfl ?_) gn
      refine w_end 8 rfl ?_
      refine g_seq (c := trellislaw11_lent_c29) rfl ?_
      refine g_seq (c := trellislaw11_lent_c30) rfl ?_
      refine g_region (c := trellislaw11_lent_c32) rfl rfl ?_
      refine wl_v 0 rfl (v_assign rfl) gn rfl ?_
      refine w_end 1 rfl ?_
      refine g_block (c := trellislaw11_lent_c33) rfl ?_
      refine g_loop (c := trellislaw11_lent_c34) rfl ?_
      have key2 : ∀ s, Rounds (fun (s : Int × (List api_Prod)) o => trellislaw11_lent_b2 x1 x611 x616 s.1 s.2 o) s o1 → (fun (s : Int × (List api_Prod)) => ∀ (A625 : Option Addr) (n626 : Nat) (c627 : Nat) (h628 : Ow w.heap.size A625 n626 c627 x611) (A629 : Option Addr) (n630 : Nat) (c631 : Nat) (h632 : Ow w.heap.size A629 n630 c631 x616) (A633 : Option Addr) (n634 : Nat) (c635 : Nat) (h636 : Ow w.heap.size A633 n634 c635 s.2) (cs637 : List Value) (sw774 : World) (sb775 : List (List Nat)) (hC638 : Cells k_api_Prod (Sm w.heap.size F sw774 sb775).w (Sm w.heap.size F sw774 sb775).av s.2 cs637), G (trellislaw11_lent_C w F r) [.code trellislaw11_lent_c35, .inLoop trellislaw11_lent_c35, .inBlock 2, .code trellislaw11_lent_c31] [(1, .pointer (some ⟨gb14, 0, none⟩)), (2, .pointer (some ⟨gb16, 0, none⟩)), (3, .pointer (some ⟨gb45, 0, none⟩)), (5, .int .i64 s.1)] [.box gb45 26 [.slice A625 n626 c627, .slice A629 n630 c631, .slice A633 n634 c635], .own (.slice A625 n626 c627) 58 2 n626 (x611.flatMap enc_api_TermDef), .own (.slice A629 n630 c631) 61 2 n630 (x616.flatMap enc_api_Sym), .own (.slice A633 n634 c635) 38 2 n634 cs637, .box gb16 26 [.slice none 0 0, .slice none 0 0, .slice none 0 0], .box gb14 26 [.slice A2 n3 c4, .slice A6 n7 c8, .slice A10 n11 c12]] [Sm w.heap.size F sw774 sb775, Sm w.heap.size F sw99 sb100, Sm w.heap.size F w40 sb44, Sm w.heap.size F w [], St w []]) s := by
        intro s hs
        refine Rounds.ind (mot := (fun (s : Int × (List api_Prod)) => ∀ (A625 : Option Addr) (n626 : Nat) (c627 : Nat) (h628 : Ow w.heap.size A625 n626 c627 x611) (A629 : Option Addr) (n630 : Nat) (c631 : Nat) (h632 : Ow w.heap.size A629 n630 c631 x616) (A633 : Option Addr) (n634 : Nat) (c635 : Nat) (h636 : Ow w.heap.size A633 n634 c635 s.2) (cs637 : List Value) (sw774 : World) (sb775 : List (List Nat)) (hC638 : Cells k_api_Prod (Sm w.heap.size F sw774 sb775).w (Sm w.heap.size F sw774 sb775).av s.2 cs637), G (trellislaw11_lent_C w F r) [.code trellislaw11_lent_c35, .inLoop trellislaw11_lent_c35, .inBlock 2, .code trellislaw11_lent_c31] [(1, .pointer (some ⟨gb14, 0, none⟩)), (2, .pointer (some ⟨gb16, 0, none⟩)), (3, .pointer (some ⟨gb45, 0, none⟩)), (5, .int .i64 s.1)] [.box gb45 26 [.slice A625 n626 c627, .slice A629 n630 c631, .slice A633 n634 c635], .own (.slice A625 n626 c627) 58 2 n626 (x611.flatMap enc_api_TermDef), .own (.slice A629 n630 c631) 61 2 n630 (x616.flatMap enc_api_Sym), .own (.slice A633 n634 c635) 38 2 n634 cs637, .box gb16 26 [.slice none 0 0, .slice none 0 0, .slice none 0 0], .box gb14 26 [.slice A2 n3 c4, .slice A6 n7 c8, .slice A10 n11 c12]] [Sm w.heap.size F sw774 sb775, Sm w.heap.size F sw99 sb100, Sm w.heap.size F w40 sb44, Sm w.heap.size F w [], St w []])) ?_ hs
        clear hs s
        intro s o2 h hO2
        obtain ⟨x772, x773⟩ := s
        show ∀ (A625 : Option Addr) (n626 : Nat) (c627 : Nat) (h628 : Ow w.heap.size A625 n626 c627 x611) (A629 : Option Addr) (n630 : Nat) (c631 : Nat) (h632 : Ow w.heap.size A629 n630 c631 x616) (A633 : Option Addr) (n634 : Nat) (c635 : Nat) (h636 : Ow w.heap.size A633 n634 c635 x773) (cs637 : List Value) (sw774 : World) (sb775 : List (List Nat)) (hC638 : Cells k_api_Prod (Sm w.heap.size F sw774 sb775).w (Sm w.heap.size F sw774 sb775).av x773 cs637), G (trellislaw11_lent_C w F r) [.code trellislaw11_lent_c35, .inLoop trellislaw11_lent_c35, .inBlock 2, .code trellislaw11_lent_c31] [(1, .pointer (some ⟨gb14, 0, none⟩)), (2, .pointer (some ⟨gb16, 0, none⟩)), (3, .pointer (some ⟨gb45, 0, none⟩)), (5, .int .i64 x772)] [.box gb45 26 [.slice A625 n626 c627, .slice A629 n630 c631, .slice A633 n634 c635], .own (.slice A625 n626 c627) 58 2 n626 (x611.flatMap enc_api_TermDef), .own (.slice A629 n630 c631) 61 2 n630 (x616.flatMap enc_api_Sym), .own (.slice A633 n634 c635) 38 2 n634 cs637, .box gb16 26 [.slice none 0 0, .slice none 0 0, .slice none 0 0], .box gb14 26 [.slice A2 n3 c4, .slice A6 n7 c8, .slice A10 n11 c12]] [Sm w.heap.size F sw774 sb775, Sm w.heap.size F sw99 sb100, Sm w.heap.size F w40 sb44, Sm w.heap.size F w [], St w []]
        intro A625 n626 c627 h628 A629 n630 c631 h632 A633 n634 c635 h636 cs637 sw774 sb775 hC638
        have h : trellislaw11_lent_b2 x1 x611 x616 x772 x773 o2 := h
        unfold trellislaw11_lent_b2 at h
        refine g_seq (c := trellislaw11_lent_c35) rfl ?_
        refine g_seq (c := trellislaw11_lent_c36) rfl ?_
        refine g_region (c := trellislaw11_lent_c38) rfl rfl ?_
        refine wl_v 0 rfl (v_move rfl) gn rfl ?_
        refine wl_v 1 rfl (v_fldB fo_26_2 rfl) gn rfl ?_
        refine wl_v 2 rfl (v_ldB1 0 ld_24 rfl rfl rfl) gn rfl ?_
        refine wl_v 3 rfl (v_lenQ un_24 rfl h636.hq) gn rfl ?_
        refine wl_v 4 rfl (v_bin rfl rfl rfl) gn rfl ?_
        refine w_end 5 rfl ?_
        by_cases hp909 : x772 < (x773.length : Int)
        · have h := if_pos' hp909 h
          refine g_true (c := trellislaw11_lent_c39) rfl _ rfl ((decide_eq_true hp909)) ?_
          refine g_skip (c := trellislaw11_lent_c40) rfl ?_
          refine g_seq (c := trellislaw11_lent_c37) rfl ?_
          refine g_block (c := trellislaw11_lent_c42) rfl ?_
          obtain ⟨hb910, h⟩ := h
          obtain ⟨r921, hv922, h⟩ := h
          obtain ⟨hb931, h⟩ := h
          obtain ⟨x946, hv947, h⟩ := h
          have hns : Region.noSelect (Code.ops trellislaw11_lent_c44) = true := by kernel_rfl
          refine g_drawF (c := trellislaw11_lent_c44) [.box gb45 26 [.slice A625 n626 c627, .slice A629 n630 c631, .slice A633 n634 c635], .own (.slice A625 n626 c627) 58 2 n626 (x611.flatMap enc_api_TermDef), .own (.slice A629 n630 c631) 61 2 n630 (x616.flatMap enc_api_Sym), .own (.slice A633 n634 c635) 38 2 n634 cs637, .box gb16 26 [.slice none 0 0, .slice none 0 0, .slice none 0 0], .box gb14 26 [.slice A2 n3 c4, .slice A6 n7 c8, .slice A10 n11 c12]] [Sm w.heap.size F sw774 sb775, Sm w.heap.size F sw99 sb100, Sm w.heap.size F w40 sb44, Sm w.heap.size F w [], St w []] [12] 13 rfl rfl mix rfl (.cons_cons _ (.cons_cons _ (.cons_cons _ (.cons_cons _ (.cons_cons _ (.cons_cons _ (.slnil))))))) (sels [0, 1, 2, 3, 4] rfl) ?_
          refine wf_v 0 rfl (v_fldB fo_26_2 rfl) gn rfl hns (by kernel_rfl) (by kernel_rfl) (by kernel_rfl) rfl ?_
          refine wf_v 1 rfl (v_ldB1 0 ld_24 rfl rfl rfl) gn rfl hns (by kernel_rfl) (by kernel_rfl) (by kernel_rfl) rfl ?_
          refine wf_v 2 rfl (v_move rfl) gn rfl hns (by kernel_rfl) (by kernel_rfl) (by kernel_rfl) rfl ?_
          refine wf_v 3 rfl (v_fldB fo_26_2 rfl) gn rfl hns (by kernel_rfl) (by kernel_rfl) (by kernel_rfl) rfl ?_
          refine wf_v 4 rfl (v_ldB1 5 ld_24 rfl rfl rfl) gn rfl hns (by kernel_rfl) (by kernel_rfl) (by kernel_rfl) rfl ?_
          refine wf_v 5 rfl (v_move rfl) gn rfl hns (by kernel_rfl) (by kernel_rfl) (by kernel_rfl) rfl ?_
          obtain ⟨ce998, hK999, hr997⟩ := Rw.read (s := St w []) h13 hb910
          obtain ⟨A1000, n1001, c1002, rfl, h1003⟩ := hK999
          refine wf_v 6 rfl (v_idxR (s := St w []) slE_24 rfl rfl h13 hb910) gn rfl hns (by kernel_rfl) (by kernel_rfl) (by kernel_rfl) rfl ?_
          refine wf_v 7 rfl (v_fldA fo_38_1 rfl) gn rfl hns (by kernel_rfl) (by kernel_rfl) (by kernel_rfl) rfl ?_
          refine wf_v 8 rfl (v_ldA1 (kk := (x772 : Int).toNat * 2) (j := 1) (St w []) ld_27 rfl hr997 rfl (me 4 rfl)) gn rfl hns (by kernel_rfl) (by kernel_rfl) (by kernel_rfl) rfl ?_
          refine wf_all [9] (by kernel_rfl) rfl ⟨on_s 9 rfl gn rfl (s_call [.slice A1000 n1001 c1002] rfl Try.func12 rfl rfl rfl fun w1014 hL1015 => ?_), trivial⟩
          have hp1016 : List.Perm ([.box gb45 26 [.slice A625 n626 c627, .slice A629 n630 c631, .slice A633 n634 c635], .own (.slice A625 n626 c627) 58 2 n626 (x611.flatMap enc_api_TermDef), .own (.slice A629 n630 c631) 61 2 n630 (x616.flatMap enc_api_Sym), .own (.slice A633 n634 c635) 38 2 n634 cs637, .box gb16 26 [.slice none 0 0, .slice none 0 0, .slice none 0 0], .box gb14 26 [.slice A2 n3 c4, .slice A6 n7 c8, .slice A10 n11 c12]] : List Ent) (([] : List Ent) ++ ([.box gb45 26 [.slice A625 n626 c627, .slice A629 n630 c631, .slice A633 n634 c635], .own (.slice A625 n626 c627) 58 2 n626 (x611.flatMap enc_api_TermDef), .own (.slice A629 n630 c631) 61 2 n630 (x616.flatMap enc_api_Sym), .own (.slice A633 n634 c635) 38 2 n634 cs637, .box gb16 26 [.slice none 0 0, .slice none 0 0, .slice none 0 0], .box gb14 26 [.slice A2 n3 c4, .slice A6 n7 c8, .slice A10 n11 c12]] : List Ent)) := perm_of_idx [] [0, 1, 2, 3, 4, 5] rfl rfl (by kernel_rfl)
          refine Calls.mono (trellislaw11_lentRow_calls w1014 (Fl ([] : List Snap)) ((ix x1.prods x772).rhs) A1000 n1001 c1002 (Rw.mono h1003 (hL1015.toSt hp1016 (me 4 rfl))) (hL1015.hFl (Sl := ([] : List Snap)) hp1016 (sels [] rfl)) (hL1015.into hp1016 (Fl ([] : List Snap))) r921 hv922) ?_
          rintro _ w1021 ⟨A1017, n1018, c1019, rfl, hM1022, h1020⟩
          have hL1023 := hL1015.call hp1016 hM1022
          refine ⟨_, _, _, rfl, hL1023, ?_⟩
          refine ⟨sels [1, 2, 3, 4, 5, 6] rfl, sels [0, 1, 2, 3, 4] rfl, ?_⟩
          obtain ⟨ce1024, hK1025, ht1026, hg1027⟩ := Cells.get hC638 hb931
          obtain ⟨A1028, n1029, c1030, rfl, h1031⟩ := hK1025
          refine wf_v 10 rfl (v_idxO slE_24 rfl rfl h636 hb931) gn rfl hns (by kernel_rfl) (by kernel_rfl) (by kernel_rfl) rfl ?_
          refine wf_v 11 rfl (v_fldA fo_38_1 rfl) gn rfl hns (by kernel_rfl) (by kernel_rfl) (by kernel_rfl) rfl ?_
          refine wf_freeze (F := F) (dk := k_api_Ref) (Sm w.heap.size F w []) 0 rfl (Ow.weak hL1015.env.size h1020) (me 3 rfl) Sm.ok (Cells.flat _) fun sw1033 sb1034 h1032 => ?_
          refine wf_mark (F := F) fun sw1035 sb1036 ho1037 => ?_
          obtain ⟨cs1039, hc1040, hC1041⟩ := Cells.put (dk := k_api_Prod) (z := ({ (ix x773 x772) with rhs := r921 })) (o := 1) (vs := [.slice A1017 n1018 c1019]) (ce' := [.int .i64 ((ix x773 x772).lhs), .slice A1017 n1018 c1019]) (Cells.older (s := Sm w.heap.size F sw774 sb775) hC638 (ho1037 _ (me 1 rfl) Sm.ok)) hb931 ht1026 rfl (Nat.le_of_ble_eq_true rfl) ⟨A1017, n1018, c1019, rfl, (Rw.older (s := Sm w.heap.size F sw1033 sb1034) h1032 (ho1037 _ (me 0 rfl) Sm.ok))⟩
          rw [← hv947] at hC1041
          refine wf_all [12] (by kernel_rfl) rfl ⟨on_l 12 rfl gn rfl (s_stC (dk := k_api_Prod) (o := 1) (vs := [.slice A1017 n1018 c1019]) (i := x772) (ys := x946) 3 sz_27 rfl rfl rfl rfl rfl h636 hC638 hb931 rfl hc1040 rfl hv947 fun h1038 => ?_), trivial⟩
          unfold NxL
          refine wf_end (by kernel_rfl) ?_
          refine g_inBlock ?_
          refine g_region (c := trellislaw11_lent_c43) rfl rfl ?_
          refine wl_v 0 rfl (v_move rfl) gn rfl ?_
          refine wl_v 1 rfl (v_bin rfl rfl rfl) gn rfl ?_
          refine wl_v 2 rfl (v_assign rfl) gn rfl ?_
          refine w_end 3 rfl ?_
          refine g_inLoop ?_
          have ih := Out.inl hO2 h
          exact g_go [0, 3, 4, 5, 6] (ih A625 n626 c627 h628 A629 n630 c631 h632 A633 n634 c635 h1038 cs1039 sw1035 sb1036 hC1041) ⟨rfl, rfl, rfl, rfl, trivial⟩ (.cons_cons _ (.cons_cons _ (.cons_cons _ (.cons_cons _ (.cons_cons _ (.cons_cons _ (.slnil))))))) rfl
        · have h := if_neg' hp909 h
          refine g_false (c := trellislaw11_lent_c39) rfl _ rfl ((decide_eq_false hp909)) ?_
          refine g_exit (c := trellislaw11_lent_c41) [.code trellislaw11_lent_c31] rfl rfl ?_
          refine g_seq (c := trellislaw11_lent_c31) rfl ?_
          refine g_region (c := trellislaw11_lent_c45) rfl rfl ?_
          refine wl_v 0 rfl (v_ldB [.slice A625 n626 c627, .slice A629 n630 c631, .slice A633 n634 c635] 0 ld_26 rfl rfl rfl rfl) gn rfl ?_
          refine wl_s 1 rfl (s_stB (vs := [.slice A625 n626 c627, .slice A629 n630 c631, .slice A633 n634 c635]) (cs' := [.slice A625 n626 c627, .slice A629 n630 c631, .slice A633 n634 c635]) (M' := [.box gb45 26 [.slice A625 n626 c627, .slice A629 n630 c631, .slice A633 n634 c635], .own (.slice A625 n626 c627) 58 2 n626 (x611.flatMap enc_api_TermDef), .own (.slice A629 n630 c631) 61 2 n630 (x616.flatMap enc_api_Sym), .own (.slice A633 n634 c635) 38 2 n634 cs637, .box gb16 26 [.slice A625 n626 c627, .slice A629 n630 c631, .slice A633 n634 c635], .box gb14 26 [.slice A2 n3 c4, .slice A6 n7 c8, .slice A10 n11 c12]]) 4 sz_26 rfl rfl rfl rfl rfl rfl rfl rfl rfl ?_) gn
          refine w_end 2 rfl ?_
          have h := Out.inr hO2 h
          have h := Out.inr hO1 h
          refine g_retR (c := trellislaw11_lent_c46) [.agg #[.slice A625 n626 c627, .slice A629 n630 c631, .slice A633 n634 c635]] rfl Try.func11 rfl (.cell (cs := [.slice A625 n626 c627, .slice A629 n630 c631, .slice A633 n634 c635]) (us := [.slice A625 n626 c627, .slice A629 n630 c631, .slice A633 n634 c635]) 4 rfl ld_26 rfl rfl rfl (.nil)) fun wr hLr => ?_
          have hMr : B.Loc w wr [.own (.slice A625 n626 c627) 58 2 n626 (x611.flatMap enc_api_TermDef), .own (.slice A629 n630 c631) 61 2 n630 (x616.flatMap enc_api_Sym), .own (.slice A633 n634 c635) 38 2 n634 cs637] [St w []] := hLr.pick (rest := [.box gb45 26 [.slice A625 n626 c627, .slice A629 n630 c631, .slice A633 n634 c635], .box gb16 26 [.slice A625 n626 c627, .slice A629 n630 c631, .slice A633 n634 c635], .box gb14 26 [.slice A2 n3 c4, .slice A6 n7 c8, .slice A10 n11 c12]]) (perm_of_idx [1, 2, 3] [0, 4, 5] rfl rfl (by kernel_rfl)) (sels [4] rfl)
          have hMi : ∀ e ∈ ([.own (.slice A625 n626 c627) 58 2 n626 (x611.flatMap enc_api_TermDef), .own (.slice A629 n630 c631) 61 2 n630 (x616.flatMap enc_api_Sym), .own (.slice A633 n634 c635) 38 2 n634 cs637] : List Ent), e ∈ ([.box gb45 26 [.slice A625 n626 c627, .slice A629 n630 c631, .slice A633 n634 c635], .own (.slice A625 n626 c627) 58 2 n626 (x611.flatMap enc_api_TermDef), .own (.slice A629 n630 c631) 61 2 n630 (x616.flatMap enc_api_Sym), .own (.slice A633 n634 c635) 38 2 n634 cs637, .box gb16 26 [.slice A625 n626 c627, .slice A629 n630 c631, .slice A633 n634 c635], .box gb14 26 [.slice A2 n3 c4, .slice A6 n7 c8, .slice A10 n11 c12]] : List Ent) := sels [1, 2, 3] rfl
          show trellislaw11_lent_R w F  r (.returned (packV [.agg #[.slice A625 n626 c627, .slice A629 n630 c631, .slice A633 n634 c635]])) wr
          rw [h]
          exact ⟨A625, n626, c627, A629, n630, c631, A633, n634, c635, cs637, rfl, hMr, h628, h632, h636, (hLr.outC (s := Sm w.heap.size F sw774 sb775) hMi (me 0 rfl) Sm.ok hC638)⟩
      have h1042 : Ow w.heap.size A84 (((x1.terms.length : Int) : Int).toNat) c86 x611 := (Ow.w (Ow.cut h87 hle610) (by rw [hv612]))
      refine g_short (j := 1) (m := (((x1.terms.length : Int) : Int).toNat)) (cells' := x611.flatMap enc_api_TermDef) rfl hle610 (by rw [fm_take hl_api_TermDef, hv612]) ?_
      have h1043 : Ow w.heap.size A89 (((x1.syms.length : Int) : Int).toNat) c91 x616 := (Ow.w (Ow.cut h92 hle615) (by rw [hv617]))
      refine g_short (j := 2) (m := (((x1.syms.length : Int) : Int).toNat)) (cells' := x616.flatMap enc_api_Sym) rfl hle615 (by rw [fm_take hl_api_Sym, hv617]) ?_
      have hC1044 : Cells k_api_Prod (Sm w.heap.size F sw99 sb100).w (Sm w.heap.size F sw99 sb100).av x621 (cs98.take ((((x1.prods.length : Int) : Int).toNat) * 2)) := by rw [hv622]; exact Cells.take _ hC101
      have h1045 : Ow w.heap.size A94 (((x1.prods.length : Int) : Int).toNat) c96 x621 := (Ow.w (Ow.cut h97 hle620) (by rw [hv622]))
      refine g_short (j := 3) (m := (((x1.prods.length : Int) : Int).toNat)) (cells' := cs98.take ((((x1.prods.length : Int) : Int).toNat) * 2)) rfl hle620 rfl ?_
      exact g_go [0, 0, 1, 2, 3] (key2 _ h A84 (((x1.terms.length : Int) : Int).toNat) c86 h1042 A89 (((x1.syms.length : Int) : Int).toNat) c91 h1043 A94 (((x1.prods.length : Int) : Int).toNat) c96 h1045 (cs98.take ((((x1.prods.length : Int) : Int).toNat) * 2)) sw99 sb100 hC1044) ⟨rfl, rfl, rfl, rfl, trivial⟩ (.cons_cons _ (.cons_cons _ (.cons_cons _ (.cons_cons _ (.cons_cons _ (.cons_cons _ (.slnil))))))) rfl
  exact g_go [0, 0, 1, 2] (key1 _ h A23 n24 c25 (Ow.weak hL19.env.size h26) A28 n29 c30 (Ow.weak hL19.env.size h31) A33 n34 c35 (Ow.weak hL19.env.size h36) cs38 w40 sb44 hC39) ⟨rfl, rfl, rfl, rfl, trivial⟩ (.cons_cons _ (.cons_cons _ (.cons_cons _ (.cons_cons _ (.cons_cons _ (.cons_cons _ (.slnil))))))) rfl
noncomputable abbrev first_symbols_c0 : Code := bodyOf Try.f32
noncomputable abbrev first_symbols_c1 : Code := Code.fst first_symbols_c0
noncomputable abbrev first_symbols_c2 : Code := Code.snd first_symbols_c0
noncomputable abbrev first_symbols_c3 : Code := Code.fst first_symbols_c2
noncomputable abbrev first_symbols_c4 : Code := Code.snd first_symbols_c2
noncomputable abbrev first_symbols_c5 : Code := Code.fst first_symbols_c3
noncomputable abbrev first_symbols_c6 : Code := Code.snd first_symbols_c3
noncomputable abbrev first_symbols_c7 : Code := Code.fst first_symbols_c6
noncomputable abbrev first_symbols_c8 : Code := Code.fst first_symbols_c7
noncomputable abbrev first_symbols_c9 : Code := Code.fst first_symbols_c8
noncomputable abbrev first_symbols_c10 : Code := Code.snd first_symbols_c8
noncomputable abbrev first_symbols_c11 : Code := Code.fst first_symbols_c10
noncomputable abbrev first_symbols_c12 : Code := Code.snd first_symbols_c10
noncomputable abbrev first_symbols_c13 : Code := Code.fst first_symbols_c11
noncomputable abbrev first_symbols_c14 : Code := Code.snd first_symbols_c11
noncomputable abbrev first_symbols_c15 : Code := Code.fst first_symbols_c12
noncomputable abbrev first_symbols_c16 : Code := Code.snd first_symbols_c12
noncomputable abbrev first_symbols_c17 : Code := Code.fst first_symbols_c15
noncomputable abbrev first_symbols_c18 : Code := Code.fst first_symbols_c17
noncomputable abbrev first_symbols_c19 : Code := Code.snd first_symbols_c17
noncomputable abbrev first_symbols_c20 : Code := Code.fst first_symbols_c19
noncomputable abbrev first_symbols_c21 : Code := Code.snd first_symbols_c19
noncomputable abbrev first_symbols_c22 : Code := Code.fst first_symbols_c21
noncomputable abbrev first_symbols_c23 : Code := Code.snd first_symbols_c21
noncomputable abbrev first_symbols_c24 : Code := Code.fst first_symbols_c22
noncomputable abbrev first_symbols_c25 : Code := Code.snd first_symbols_c22
noncomputable abbrev first_symbols_c26 : Code := Code.fst first_symbols_c4
noncomputable abbrev first_symbols_c27 : Code := Code.snd first_symbols_c4
abbrev first_symbols_R (w : World) (F : Nat → Prop) (r : Bool) : Ending → World → Prop := fun e w' => e = .returned (.bool r) ∧ B.Loc w w' [] [St w []]
noncomputable abbrev first_symbols_C (w : World) (F : Nat → Prop) (r : Bool) : Cx := ⟨Try.prog, 32, Try.f32, 29, first_symbols_R w F  r, w⟩
theorem first_symbols_calls (w : World) (F : Nat → Prop) (x1 : api_Gram) (x14 : List api_Ref) (A2 : Option Addr) (n3 : Nat) (c4 : Nat) (A6 : Option Addr) (n7 : Nat) (c8 : Nat) (A10 : Option Addr) (n11 : Nat) (c12 : Nat) (A15 : Option Addr) (n16 : Nat) (c17 : Nat) (h5 : Rw k_api_TermDef w (St w []).av A2 n3 c4 x1.terms) (h9 : Rw k_api_Sym w (St w []).av A6 n7 c8 x1.syms) (h13 : Rw k_api_Prod w (St w []).av A10 n11 c12 x1.prods) (h18 : Rw k_api_Ref w (St w []).av A15 n16 c17 x14) (hF : ∀ b, F b → b < w.heap.size ∧ ∀ o ∈ ([] : List (List Nat)), b ∉ o) (hL0 : B.Loc w w [] [Sm w.heap.size F w [], St w []]) (r : Bool) (h : first_symbols x1 x14 r) : Calls Try.prog 32 #[.agg #[.slice A2 n3 c4, .slice A6 n7 c8, .slice A10 n11 c12], .slice A15 n16 c17] w (first_symbols_R w F  r) := by
  unfold first_symbols at h
  refine calls_of_Loc (vs := [.agg #[.slice A2 n3 c4, .slice A6 n7 c8, .slice A10 n11 c12], .slice A15 n16 c17]) 29 Try.func32 rfl Try.ntmps32 rfl hL0 ?_
  show G (first_symbols_C w F r) _ _ _ _
  refine g_seq (c := first_symbols_c0) rfl ?_
  refine g_region (c := first_symbols_c1) rfl rfl ?_
  refine wl_s 0 rfl (s_box [.slice A2 n3 c4, .slice A6 n7 c8, .slice A10 n11 c12] rfl rfl rfl fun gb19 => ?_) gn
  refine wl_v 1 rfl (v_assign rfl) gn rfl ?_
  refine w_end 2 rfl ?_
  refine g_seq (c := first_symbols_c2) rfl ?_
  refine g_seq (c := first_symbols_c3) rfl ?_
  refine g_region (c := first_symbols_c5) rfl rfl ?_
  refine wl_v 0 rfl (v_move rfl) gn rfl ?_
  refine wl_v 1 rfl (v_lenQ un_27 rfl h18.hq) gn rfl ?_
  refine wl_v 2 rfl (v_move rfl) gn rfl ?_
  refine w_end 3 rfl ?_
  refine g_block (c := first_symbols_c6) rfl ?_
  refine g_loop (c := first_symbols_c7) rfl ?_
  have key1 : ∀ s, Rounds (fun (s : Int) o => first_symbols_b1 x14 x1 s o) s r → (fun (s : Int) => ∀ (_ : Unit), G (first_symbols_C w F r) [.code first_symbols_c8, .inLoop first_symbols_c8, .inBlock 0, .code first_symbols_c4] [(2, .pointer (some ⟨gb19, 0, none⟩)), (7, .slice A15 n16 c17), (8, .int .i64 (x14.length : Int)), (9, .int .i64 s)] [.box gb19 26 [.slice A2 n3 c4, .slice A6 n7 c8, .slice A10 n11 c12]] [Sm w.heap.size F w [], St w []]) s := by
    intro s hs
    refine Rounds.ind (mot := (fun (s : Int) => ∀ (_ : Unit), G (first_symbols_C w F r) [.code first_symbols_c8, .inLoop first_symbols_c8, .inBlock 0, .code first_symbols_c4] [(2, .pointer (some ⟨gb19, 0, none⟩)), (7, .slice A15 n16 c17), (8, .int .i64 (x14.length : Int)), (9, .int .i64 s)] [.box gb19 26 [.slice A2 n3 c4, .slice A6 n7 c8, .slice A10 n11 c12]] [Sm w.heap.size F w [], St w []])) ?_ hs
    clear hs s
    intro x29 o1 h hO1
    show ∀ (_ : Unit), G (first_symbols_C w F r) [.code first_symbols_c8, .inLoop first_symbols_c8, .inBlock 0, .code first_symbols_c4] [(2, .pointer (some ⟨gb19, 0, none⟩)), (7, .slice A15 n16 c17), (8, .int .i64 (x14.length : Int)), (9, .int .i64 x29)] [.box gb19 26 [.slice A2 n3 c4, .slice A6 n7 c8, .slice A10 n11 c12]] [Sm w.heap.size F w [], St w []]
    intro _
    have h : first_symbols_b1 x14 x1 x29 o1 := h
    unfold first_symbols_b1 at h
    refine g_seq (c := first_symbols_c8) rfl ?_
    refine g_region (c := first_symbols_c9) rfl rfl ?_
    refine wl_v 0 rfl (v_bin rfl rfl rfl) gn rfl ?_
    refine w_end 1 rfl ?_
    refine g_seq (c := first_symbols_c10) rfl ?_
    by_cases hp37 : x29 < (x14.length : Int)
    · have h := if_pos' hp37 h
      refine g_true (c := first_symbols_c11) rfl _ rfl ((decide_eq_true hp37)) ?_
      refine g_skip (c := first_symbols_c13) rfl ?_
      refine g_seq (c := first_symbols_c12) rfl ?_
      refine g_block (c := first_symbols_c15) rfl ?_
      refine g_seq (c := first_symbols_c17) rfl ?_
      refine g_region (c := first_symbols_c18) rfl rfl ?_
      obtain ⟨hb38, h⟩ := h
      have hr39 := Rw.readF (s := St w []) (hl := hl_api_Ref) (h1 := h1_api_Ref) h18 hb38
      refine wl_v 0 rfl (v_idxR (s := St w []) slE_27 rfl rfl h18 hb38) gn rfl ?_
      refine wl_v 1 rfl (v_ldA (St w []) ld_36 rfl hr39 rfl (me 1 rfl)) gn rfl ?_
      refine wl_s 2 rfl (s_alloc [.int .i64 0, .string (⟨#[]⟩ : ByteArray), .string (⟨#[]⟩ : ByteArray)] zr_36 rfl fun gb40 => ?_) gn
      refine wl_s 3 rfl (s_stB (vs := [.int .i64 ((ix x14 x29).sym), .string ((ix x14 x29).field), .string ((ix x14 x29).as)]) (cs' := [.int .i64 ((ix x14 x29).sym), .string ((ix x14 x29).field), .string ((ix x14 x29).as)]) (M' := [.box gb40 36 [.int .i64 ((ix x14 x29).sym), .string ((ix x14 x29).field), .string ((ix x14 x29).as)], .box gb19 26 [.slice A2 n3 c4, .slice A6 n7 c8, .slice A10 n11 c12]]) 0 sz_36 rfl rfl rfl rfl rfl rfl rfl rfl rfl ?_) gn
      refine w_end 4 rfl ?_
      refine g_seq (c := first_symbols_c19) rfl ?_
      refine g_region (c := first_symbols_c20) rfl rfl ?_
      refine wl_v 0 rfl (v_fldB fo_36_0 rfl) gn rfl ?_
      refine wl_v 1 rfl (v_ldB1 0 ld_3 rfl rfl rfl) gn rfl ?_
      refine wl_v 2 rfl (v_bin rfl rfl rfl) gn rfl ?_
      refine wl_v 3 rfl (v_move rfl) gn rfl ?_
      by_cases hp42 : (ix x14 x29).sym < 0
      · have h := if_pos' hp42 h
        refine w_bool 16 rfl ((decide_eq_true hp42)) ?_
        refine wl_pass 4 rfl (ps 16 rfl rfl rfl) ?_
        refine wl_pass 5 rfl (ps 16 rfl rfl rfl) ?_
        refine wl_pass 6 rfl (ps 16 rfl rfl rfl) ?_
        refine wl_pass 7 rfl (ps 16 rfl rfl rfl) ?_
        refine wl_pass 8 rfl (ps 16 rfl rfl rfl) ?_
        refine wl_pass 9 rfl (ps 16 rfl rfl rfl) ?_
        refine wl_pass 10 rfl (ps 16 rfl rfl rfl) ?_
        refine wl_pass 11 rfl (ps 16 rfl rfl rfl) ?_
        refine wl_pass 12 rfl (ps 16 rfl rfl rfl) ?_
        refine wl_pass 13 rfl (ps 16 rfl rfl rfl) ?_
        refine wl_v 14 rfl (v_pick (b := true) rfl rfl) gn rfl ?_
        refine w_end 15 rfl ?_
        refine g_true (c := first_symbols_c21) rfl _ rfl (rfl) ?_
        refine g_seq (c := first_symbols_c22) rfl ?_
        refine g_region (c := first_symbols_c24) rfl rfl ?_
        refine wl_v 0 rfl (v_assign rfl) gn rfl ?_
        refine w_end 1 rfl ?_
        have h := Out.inr hO1 h
        refine g_retR (c := first_symbols_c25) [.bool false] rfl Try.func32 rfl (.tmp rfl (.nil)) fun wr hLr => ?_
        have hMr : B.Loc w wr [] [St w []] := hLr.pick (rest := [.box gb40 36 [.int .i64 ((ix x14 x29).sym), .string ((ix x14 x29).field), .string ((ix x14 x29).as)], .box gb19 26 [.slice A2 n3 c4, .slice A6 n7 c8, .slice A10 n11 c12]]) (perm_of_idx [] [0, 1] rfl rfl (by kernel_rfl)) (sels [1] rfl)
        have hMi : ∀ e ∈ ([] : List Ent), e ∈ ([.box gb40 36 [.int .i64 ((ix x14 x29).sym), .string ((ix x14 x29).field), .string ((ix x14 x29).as)], .box gb19 26 [.slice A2 n3 c4, .slice A6 n7 c8, .slice A10 n11 c12]] : List Ent) := sels [] rfl
        show first_symbols_R w F  r (.returned (packV [.bool false])) wr
        rw [h]
        exact ⟨rfl, hMr⟩
      · have h := if_neg' hp42 h
        refine w_bool 16 rfl ((decide_eq_false hp42)) ?_
        refine wl_v 4 rfl (v_fldB fo_36_0 rfl) (gy 16 rfl rfl) rfl ?_
        refine wl_v 5 rfl (v_ldB1 0 ld_3 rfl rfl rfl) (gy 16 rfl rfl) rfl ?_
        refine wl_v 6 rfl (v_fldB fo_26_0 rfl) (gy 16 rfl rfl) rfl ?_
        refine wl_v 7 rfl (v_ldB1 1 ld_22 rfl rfl rfl) (gy 16 rfl rfl) rfl ?_
        refine wl_v 8 rfl (v_lenQ un_22 rfl h5.hq) (gy 16 rfl rfl) rfl ?_
        refine wl_v 9 rfl (v_fldB fo_26_1 rfl) (gy 16 rfl rfl) rfl ?_
        refine wl_v 10 rfl (v_ldB1 1 ld_23 rfl rfl rfl) (gy 16 rfl rfl) rfl ?_
        refine wl_v 11 rfl (v_lenQ un_23 rfl h9.hq) (gy 16 rfl rfl) rfl ?_
        refine wl_v 12 rfl (v_bin rfl rfl rfl) (gy 16 rfl rfl) rfl ?_
        refine wl_v 13 rfl (v_bin rfl rfl rfl) (gy 16 rfl rfl) rfl ?_
        refine wl_v 14 rfl (v_pick (b := false) rfl rfl) gn rfl ?_
        refine w_end 15 rfl ?_
        by_cases hp43 : (ix x14 x29).sym ≥ w64 ((x1.terms.length : Int) + (x1.syms.length : Int))
        · have h := if_pos' hp43 h
          refine g_true (c := first_symbols_c21) rfl _ rfl ((decide_eq_true hp43)) ?_
          refine g_seq (c := first_symbols_c22) rfl ?_
          refine g_region (c := first_symbols_c24) rfl rfl ?_
          refine wl_v 0 rfl (v_assign rfl) gn rfl ?_
          refine w_end 1 rfl ?_
          have h := Out.inr hO1 h
          refine g_retR (c := first_symbols_c25) [.bool false] rfl Try.func32 rfl (.tmp rfl (.nil)) fun wr hLr => ?_
          have hMr : B.Loc w wr [] [St w []] := hLr.pick (rest := [.box gb40 36 [.int .i64 ((ix x14 x29).sym), .string ((ix x14 x29).field), .string ((ix x14 x29).as)], .box gb19 26 [.slice A2 n3 c4, .slice A6 n7 c8, .slice A10 n11 c12]]) (perm_of_idx [] [0, 1] rfl rfl (by kernel_rfl)) (sels [1] rfl)
          have hMi : ∀ e ∈ ([] : List Ent), e ∈ ([.box gb40 36 [.int .i64 ((ix x14 x29).sym), .string ((ix x14 x29).field), .string ((ix x14 x29).as)], .box gb19 26 [.slice A2 n3 c4, .slice A6 n7 c8, .slice A10 n11 c12]] : List Ent) := sels [] rfl
          show first_symbols_R w F  r (.returned (packV [.bool false])) wr
          rw [h]
          exact ⟨rfl, hMr⟩
        · have h := if_neg' hp43 h
          refine g_false (c := first_symbols_c21) rfl _ rfl ((decide_eq_false hp43)) ?_
          refine g_skip (c := first_symbols_c23) rfl ?_
          refine g_inBlock ?_
          refine g_region (c := first_symbols_c16) rfl rfl ?_
          refine wl_v 0 rfl (v_bin rfl rfl rfl) gn rfl ?_
          refine wl_v 1 rfl (v_move rfl) gn rfl ?_
          refine w_end 2 rfl ?_
          refine g_inLoop ?_
          have ih := Out.inl hO1 h
          exact g_go [0, 1] (ih ()) ⟨rfl, rfl, rfl, rfl, trivial⟩ (.cons _ (.cons_cons _ (.slnil))) rfl
    · have h := if_neg' hp37 h
      refine g_false (c := first_symbols_c11) rfl _ rfl ((decide_eq_false hp37)) ?_
      refine g_exit (c := first_symbols_c14) [.code first_symbols_c4] rfl rfl ?_
      refine g_seq (c := first_symbols_c4) rfl ?_
      refine g_region (c := first_symbols_c26) rfl rfl ?_
      refine wl_v 0 rfl (v_assign rfl) gn rfl ?_
      refine w_end 1 rfl ?_
      have h := Out.inr hO1 h
      refine g_retR (c := first_symbols_c27) [.bool true] rfl Try.func32 rfl (.tmp rfl (.nil)) fun wr hLr => ?_
      have hMr : B.Loc w wr [] [St w []] := hLr.pick (rest := [.box gb19 26 [.slice A2 n3 c4, .slice A6 n7 c8, .slice A10 n11 c12]]) (perm_of_idx [] [0] rfl rfl (by kernel_rfl)) (sels [1] rfl)
      have hMi : ∀ e ∈ ([] : List Ent), e ∈ ([.box gb19 26 [.slice A2 n3 c4, .slice A6 n7 c8, .slice A10 n11 c12]] : List Ent) := sels [] rfl
      show first_symbols_R w F  r (.returned (packV [.bool true])) wr
      rw [h]
      exact ⟨rfl, hMr⟩
  exact g_go [0, 1] (key1 _ h ()) ⟨rfl, rfl, rfl, rfl, trivial⟩ (.cons_cons _ (.slnil)) rfl
noncomputable abbrev first_sound_c0 : Code := bodyOf Try.f31
noncomputable abbrev first_sound_c1 : Code := Code.fst first_sound_c0
noncomputable abbrev first_sound_c2 : Code := Code.snd first_sound_c0
noncomputable abbrev first_sound_c3 : Code := Code.fst first_sound_c2
noncomputable abbrev first_sound_c4 : Code := Code.snd first_sound_c2
noncomputable abbrev first_sound_c5 : Code := Code.fst first_sound_c4
noncomputable abbrev first_sound_c6 : Code := Code.snd first_sound_c4
noncomputable abbrev first_sound_c7 : Code := Code.fst first_sound_c5
noncomputable abbrev first_sound_c8 : Code := Code.snd first_sound_c5
noncomputable abbrev first_sound_c9 : Code := Code.fst first_sound_c8
noncomputable abbrev first_sound_c10 : Code := Code.snd first_sound_c8
noncomputable abbrev first_sound_c11 : Code := Code.fst first_sound_c9
noncomputable abbrev first_sound_c12 : Code := Code.snd first_sound_c9
noncomputable abbrev first_sound_c13 : Code := Code.fst first_sound_c6
noncomputable abbrev first_sound_c14 : Code := Code.snd first_sound_c6
noncomputable abbrev first_sound_c15 : Code := Code.fst first_sound_c13
noncomputable abbrev first_sound_c16 : Code := Code.snd first_sound_c13
noncomputable abbrev first_sound_c17 : Code := Code.fst first_sound_c16
noncomputable abbrev first_sound_c18 : Code := Code.fst first_sound_c17
noncomputable abbrev first_sound_c19 : Code := Code.fst first_sound_c18
noncomputable abbrev first_sound_c20 : Code := Code.snd first_sound_c18
noncomputable abbrev first_sound_c21 : Code := Code.fst first_sound_c20
noncomputable abbrev first_sound_c22 : Code := Code.snd first_sound_c20
noncomputable abbrev first_sound_c23 : Code := Code.fst first_sound_c21
noncomputable abbrev first_sound_c24 : Code := Code.snd first_sound_c21
noncomputable abbrev first_sound_c25 : Code := Code.fst first_sound_c22
noncomputable abbrev first_sound_c26 : Code := Code.snd first_sound_c22
noncomputable abbrev first_sound_c27 : Code := Code.fst first_sound_c25
noncomputable abbrev first_sound_c28 : Code := Code.fst first_sound_c27
noncomputable abbrev first_sound_c29 : Code := Code.snd first_sound_c27
noncomputable abbrev first_sound_c30 : Code := Code.fst first_sound_c29
noncomputable abbrev first_sound_c31 : Code := Code.snd first_sound_c29
noncomputable abbrev first_sound_c32 : Code := Code.fst first_sound_c31
noncomputable abbrev first_sound_c33 : Code := Code.snd first_sound_c31
noncomputable abbrev first_sound_c34 : Code := Code.fst first_sound_c32
noncomputable abbrev first_sound_c35 : Code := Code.snd first_sound_c32
noncomputable abbrev first_sound_c36 : Code := Code.fst first_sound_c14
noncomputable abbrev first_sound_c37 : Code := Code.snd first_sound_c14
abbrev first_sound_R (w : World) (F : Nat → Prop) (r : Bool) : Ending → World → Prop := fun e w' => e = .returned (.bool r) ∧ B.Loc w w' [] [St w []]
noncomputable abbrev first_sound_C (w : World) (F : Nat → Prop) (r : Bool) : Cx := ⟨Try.prog, 31, Try.f31, 47, first_sound_R w F  r, w⟩
theorem first_sound_calls (w : World) (F : Nat → Prop) (x1 : api_Gram) (A2 : Option Addr) (n3 : Nat) (c4 : Nat) (A6 : Option Addr) (n7 : Nat) (c8 : Nat) (A10 : Option Addr) (n11 : Nat) (c12 : Nat) (h5 : Rw k_api_TermDef w (St w []).av A2 n3 c4 x1.terms) (h9 : Rw k_api_Sym w (St w []).av A6 n7 c8 x1.syms) (h13 : Rw k_api_Prod w (St w []).av A10 n11 c12 x1.prods) (hF : ∀ b, F b → b < w.heap.size ∧ ∀ o ∈ ([] : List (List Nat)), b ∉ o) (hL0 : B.Loc w w [] [Sm w.heap.size F w [], St w []]) (r : Bool) (h : first_sound x1 r) : Calls Try.prog 31 #[.agg #[.slice A2 n3 c4, .slice A6 n7 c8, .slice A10 n11 c12]] w (first_sound_R w F  r) := by
  unfold first_sound at h
  refine calls_of_Loc (vs := [.agg #[.slice A2 n3 c4, .slice A6 n7 c8, .slice A10 n11 c12]]) 47 Try.func31 rfl Try.ntmps31 rfl hL0 ?_
  show G (first_sound_C w F r) _ _ _ _
  refine g_seq (c := first_sound_c0) rfl ?_
  refine g_region (c := first_sound_c1) rfl rfl ?_
  refine wl_s 0 rfl (s_box [.slice A2 n3 c4, .slice A6 n7 c8, .slice A10 n11 c12] rfl rfl rfl fun gb14 => ?_) gn
  refine wl_v 1 rfl (v_assign rfl) gn rfl ?_
  refine w_end 2 rfl ?_
  refine g_seq (c := first_sound_c2) rfl ?_
  refine g_region (c := first_sound_c3) rfl rfl ?_
  refine wl_v 0 rfl (v_fldB fo_26_0 rfl) gn rfl ?_
  refine wl_v 1 rfl (v_ldB1 0 ld_22 rfl rfl rfl) gn rfl ?_
  refine wl_v 2 rfl (v_lenQ un_22 rfl h5.hq) gn rfl ?_
  refine wl_v 3 rfl (v_assign rfl) gn rfl ?_
  refine w_end 4 rfl ?_
  refine g_seq (c := first_sound_c4) rfl ?_
  refine g_seq (c := first_sound_c5) rfl ?_
  have j1 : ∀ (x19 : Bool) (h : first_sound_j1 x1 x19 r) , G (first_sound_C w F r) [.code first_sound_c8, .code first_sound_c6] [(1, .pointer (some ⟨gb14, 0, none⟩)), (20, .bool x19)] [.box gb14 26 [.slice A2 n3 c4, .slice A6 n7 c8, .slice A10 n11 c12]] [Sm w.heap.size F w [], St w []] := by
    intro x19 h
    unfold first_sound_j1 at h
    by_cases hp20 : x19 = true
    · have h := if_pos' hp20 h
      refine g_true (c := first_sound_c8) rfl _ rfl (hp20) ?_
      refine g_seq (c := first_sound_c9) rfl ?_
      refine g_region (c := first_sound_c11) rfl rfl ?_
      refine wl_v 0 rfl (v_assign rfl) gn rfl ?_
      refine w_end 1 rfl ?_
      refine g_retR (c := first_sound_c12) [.bool false] rfl Try.func31 rfl (.tmp rfl (.nil)) fun wr hLr => ?_
      have hMr : B.Loc w wr [] [St w []] := hLr.pick (rest := [.box gb14 26 [.slice A2 n3 c4, .slice A6 n7 c8, .slice A10 n11 c12]]) (perm_of_idx [] [0] rfl rfl (by kernel_rfl)) (sels [1] rfl)
      have hMi : ∀ e ∈ ([] : List Ent), e ∈ ([.box gb14 26 [.slice A2 n3 c4, .slice A6 n7 c8, .slice A10 n11 c12]] : List Ent) := sels [] rfl
      show first_sound_R w F  r (.returned (packV [.bool false])) wr
      rw [h]
      exact ⟨rfl, hMr⟩
    · have h := if_neg' hp20 h
      refine g_false (c := first_sound_c8) rfl _ rfl ((bf hp20)) ?_
      refine g_skip (c := first_sound_c10) rfl ?_
      refine g_seq (c := first_sound_c6) rfl ?_
      refine g_seq (c := first_sound_c13) rfl ?_
      refine g_region (c := first_sound_c15) rfl rfl ?_
      refine wl_v 0 rfl (v_fldB fo_26_2 rfl) gn rfl ?_
      refine wl_v 1 rfl (v_ldB1 0 ld_24 rfl rfl rfl) gn rfl ?_
      refine wl_v 2 rfl (v_lenQ un_24 rfl h13.hq) gn rfl ?_
      refine wl_v 3 rfl (v_move rfl) gn rfl ?_
      refine w_end 4 rfl ?_
      refine g_block (c := first_sound_c16) rfl ?_
      refine g_loop (c := first_sound_c17) rfl ?_
      have key2 : ∀ s, Rounds (fun (s : Int) o => first_sound_b2 x1 s o) s r → (fun (s : Int) => ∀ (_ : Unit), G (first_sound_C w F r) [.code first_sound_c18, .inLoop first_sound_c18, .inBlock 0, .code first_sound_c14] [(1, .pointer (some ⟨gb14, 0, none⟩)), (22, .slice A10 n11 c12), (23, .int .i64 (x1.prods.length : Int)), (24, .int .i64 s)] [.box gb14 26 [.slice A2 n3 c4, .slice A6 n7 c8, .slice A10 n11 c12]] [Sm w.heap.size F w [], St w []]) s := by
        intro s hs
        refine Rounds.ind (mot := (fun (s : Int) => ∀ (_ : Unit), G (first_sound_C w F r) [.code first_sound_c18, .inLoop first_sound_c18, .inBlock 0, .code first_sound_c14] [(1, .pointer (some ⟨gb14, 0, none⟩)), (22, .slice A10 n11 c12), (23, .int .i64 (x1.prods.length : Int)), (24, .int .i64 s)] [.box gb14 26 [.slice A2 n3 c4, .slice A6 n7 c8, .slice A10 n11 c12]] [Sm w.heap.size F w [], St w []])) ?_ hs
        clear hs s
        intro x44 o1 h hO1
        show ∀ (_ : Unit), G (first_sound_C w F r) [.code first_sound_c18, .inLoop first_sound_c18, .inBlock 0, .code first_sound_c14] [(1, .pointer (some ⟨gb14, 0, none⟩)), (22, .slice A10 n11 c12), (23, .int .i64 (x1.prods.length : Int)), (24, .int .i64 x44)] [.box gb14 26 [.slice A2 n3 c4, .slice A6 n7 c8, .slice A10 n11 c12]] [Sm w.heap.size F w [], St w []]
        intro _
        have h : first_sound_b2 x1 x44 o1 := h
        unfold first_sound_b2 at h
        refine g_seq (c := first_sound_c18) rfl ?_
        refine g_region (c := first_sound_c19) rfl rfl ?_
        refine wl_v 0 rfl (v_bin rfl rfl rfl) gn rfl ?_
        refine w_end 1 rfl ?_
        refine g_seq (c := first_sound_c20) rfl ?_
        by_cases hp67 : x44 < (x1.prods.length : Int)
        · have h := if_pos' hp67 h
          refine g_true (c := first_sound_c21) rfl _ rfl ((decide_eq_true hp67)) ?_
          refine g_skip (c := first_sound_c23) rfl ?_
          refine g_seq (c := first_sound_c22) rfl ?_
          refine g_block (c := first_sound_c25) rfl ?_
          refine g_seq (c := first_sound_c27) rfl ?_
          refine g_region (c := first_sound_c28) rfl rfl ?_
          obtain ⟨hb68, h⟩ := h
          obtain ⟨ce70, hK71, hr69⟩ := Rw.read (s := St w []) h13 hb68
          obtain ⟨A72, n73, c74, rfl, h75⟩ := hK71
          refine wl_v 0 rfl (v_idxR (s := St w []) slE_24 rfl rfl h13 hb68) gn rfl ?_
          refine wl_v 1 rfl (v_ldA (St w []) ld_38 rfl hr69 rfl (me 1 rfl)) gn rfl ?_
          refine wl_s 2 rfl (s_alloc [.int .i64 0, .slice none 0 0] zr_38 rfl fun gb76 => ?_) gn
          refine wl_s 3 rfl (s_stB (vs := [.int .i64 ((ix x1.prods x44).lhs), .slice A72 n73 c74]) (cs' := [.int .i64 ((ix x1.prods x44).lhs), .slice A72 n73 c74]) (M' := [.box gb76 38 [.int .i64 ((ix x1.prods x44).lhs), .slice A72 n73 c74], .box gb14 26 [.slice A2 n3 c4, .slice A6 n7 c8, .slice A10 n11 c12]]) 0 sz_38 rfl rfl rfl rfl rfl rfl rfl rfl rfl ?_) gn
          refine w_end 4 rfl ?_
          refine g_seq (c := first_sound_c29) rfl ?_
          refine g_region (c := first_sound_c30) rfl rfl ?_
          refine wl_v 0 rfl (v_fldB fo_38_0 rfl) gn rfl ?_
          refine wl_v 1 rfl (v_ldB1 0 ld_3 rfl rfl rfl) gn rfl ?_
          refine wl_v 2 rfl (v_bin rfl rfl rfl) gn rfl ?_
          refine wl_v 3 rfl (v_move rfl) gn rfl ?_
          by_cases hp78 : (ix x1.prods x44).lhs < -1
          · have h := if_pos' hp78 h
            refine w_bool 31 rfl ((decide_eq_true hp78)) ?_
            refine wl_pass 4 rfl (ps 31 rfl rfl rfl) ?_
            refine wl_pass 5 rfl (ps 31 rfl rfl rfl) ?_
            refine wl_pass 6 rfl (ps 31 rfl rfl rfl) ?_
            refine wl_pass 7 rfl (ps 31 rfl rfl rfl) ?_
            refine wl_pass 8 rfl (ps 31 rfl rfl rfl) ?_
            refine wl_pass 9 rfl (ps 31 rfl rfl rfl) ?_
            refine wl_v 10 rfl (v_pick (b := true) rfl rfl) gn rfl ?_
            refine wl_v 11 rfl (v_move rfl) gn rfl ?_
            refine wl_pass 12 rfl (ps 39 rfl rfl rfl) ?_
            refine wl_pass 13 rfl (ps 39 rfl rfl rfl) ?_
            refine wl_pass 14 rfl (ps 39 rfl rfl rfl) ?_
            refine wl_pass 15 rfl (ps 39 rfl rfl rfl) ?_
            refine wl_pass 16 rfl (ps 39 rfl rfl rfl) ?_
            refine wl_v 17 rfl (v_pick (b := true) rfl rfl) gn rfl ?_
            refine w_end 18 rfl ?_
            refine g_true (c := first_sound_c31) rfl _ rfl (rfl) ?_
            refine g_seq (c := first_sound_c32) rfl ?_
            refine g_region (c := first_sound_c34) rfl rfl ?_
            refine wl_v 0 rfl (v_assign rfl) gn rfl ?_
            refine w_end 1 rfl ?_
            have h := Out.inr hO1 h
            refine g_retR (c := first_sound_c35) [.bool false] rfl Try.func31 rfl (.tmp rfl (.nil)) fun wr hLr => ?_
            have hMr : B.Loc w wr [] [St w []] := hLr.pick (rest := [.box gb76 38 [.int .i64 ((ix x1.prods x44).lhs), .slice A72 n73 c74], .box gb14 26 [.slice A2 n3 c4, .slice A6 n7 c8, .slice A10 n11 c12]]) (perm_of_idx [] [0, 1] rfl rfl (by kernel_rfl)) (sels [1] rfl)
            have hMi : ∀ e ∈ ([] : List Ent), e ∈ ([.box gb76 38 [.int .i64 ((ix x1.prods x44).lhs), .slice A72 n73 c74], .box gb14 26 [.slice A2 n3 c4, .slice A6 n7 c8, .slice A10 n11 c12]] : List Ent) := sels [] rfl
            show first_sound_R w F  r (.returned (packV [.bool false])) wr
            rw [h]
            exact ⟨rfl, hMr⟩
          · have h := if_neg' hp78 h
            refine w_bool 31 rfl ((decide_eq_false hp78)) ?_
            refine wl_v 4 rfl (v_fldB fo_38_0 rfl) (gy 31 rfl rfl) rfl ?_
            refine wl_v 5 rfl (v_ldB1 0 ld_3 rfl rfl rfl) (gy 31 rfl rfl) rfl ?_
            refine wl_v 6 rfl (v_fldB fo_26_1 rfl) (gy 31 rfl rfl) rfl ?_
            refine wl_v 7 rfl (v_ldB1 1 ld_23 rfl rfl rfl) (gy 31 rfl rfl) rfl ?_
            refine wl_v 8 rfl (v_lenQ un_23 rfl h9.hq) (gy 31 rfl rfl) rfl ?_
            refine wl_v 9 rfl (v_bin rfl rfl rfl) (gy 31 rfl rfl) rfl ?_
            refine wl_v 10 rfl (v_pick (b := false) rfl rfl) gn rfl ?_
            refine wl_v 11 rfl (v_move rfl) gn rfl ?_
            by_cases hp79 : (ix x1.prods x44).lhs ≥ (x1.syms.length : Int)
            · have h := if_pos' hp79 h
              refine w_bool 39 rfl ((decide_eq_true hp79)) ?_
              refine wl_pass 12 rfl (ps 39 rfl rfl rfl) ?_
              refine wl_pass 13 rfl (ps 39 rfl rfl rfl) ?_
              refine wl_pass 14 rfl (ps 39 rfl rfl rfl) ?_
              refine wl_pass 15 rfl (ps 39 rfl rfl rfl) ?_
              refine wl_pass 16 rfl (ps 39 rfl rfl rfl) ?_
              refine wl_v 17 rfl (v_pick (b := true) rfl rfl) gn rfl ?_
              refine w_end 18 rfl ?_
              refine g_true (c := first_sound_c31) rfl _ rfl (rfl) ?_
              refine g_seq (c := first_sound_c32) rfl ?_
              refine g_region (c := first_sound_c34) rfl rfl ?_
              refine wl_v 0 rfl (v_assign rfl) gn rfl ?_
              refine w_end 1 rfl ?_
              have h := Out.inr hO1 h
              refine g_retR (c := first_sound_c35) [.bool false] rfl Try.func31 rfl (.tmp rfl (.nil)) fun wr hLr => ?_
              have hMr : B.Loc w wr [] [St w []] := hLr.pick (rest := [.box gb76 38 [.int .i64 ((ix x1.prods x44).lhs), .slice A72 n73 c74], .box gb14 26 [.slice A2 n3 c4, .slice A6 n7 c8, .slice A10 n11 c12]]) (perm_of_idx [] [0, 1] rfl rfl (by kernel_rfl)) (sels [1] rfl)
              have hMi : ∀ e ∈ ([] : List Ent), e ∈ ([.box gb76 38 [.int .i64 ((ix x1.prods x44).lhs), .slice A72 n73 c74], .box gb14 26 [.slice A2 n3 c4, .slice A6 n7 c8, .slice A10 n11 c12]] : List Ent) := sels [] rfl
              show first_sound_R w F  r (.returned (packV [.bool false])) wr
              rw [h]
              exact ⟨rfl, hMr⟩
            · have h := if_neg' hp79 h
              refine w_bool 39 rfl ((decide_eq_false hp79)) ?_
              refine wl_v 12 rfl (v_ldB [.slice A2 n3 c4, .slice A6 n7 c8, .slice A10 n11 c12] 1 ld_26 rfl rfl rfl rfl) (gy 39 rfl rfl) rfl ?_
              refine wl_v 13 rfl (v_fldB fo_38_1 rfl) (gy 39 rfl rfl) rfl ?_
              refine wl_v 14 rfl (v_ldB1 0 ld_27 rfl rfl rfl) (gy 39 rfl rfl) rfl ?_
              obtain ⟨r83, hv84, h⟩ := h
              refine wl_s 15 rfl (s_call [.agg #[.slice A2 n3 c4, .slice A6 n7 c8, .slice A10 n11 c12], .slice A72 n73 c74] rfl Try.func32 rfl rfl rfl fun w80 hL81 => ?_) (gy 39 rfl rfl)
              have hp82 : List.Perm ([.box gb76 38 [.int .i64 ((ix x1.prods x44).lhs), .slice A72 n73 c74], .box gb14 26 [.slice A2 n3 c4, .slice A6 n7 c8, .slice A10 n11 c12]] : List Ent) (([] : List Ent) ++ ([.box gb76 38 [.int .i64 ((ix x1.prods x44).lhs), .slice A72 n73 c74], .box gb14 26 [.slice A2 n3 c4, .slice A6 n7 c8, .slice A10 n11 c12]] : List Ent)) := perm_of_idx [] [0, 1] rfl rfl (by kernel_rfl)
              refine Calls.mono (first_symbols_calls w80 (Fl ([] : List Snap)) x1 ((ix x1.prods x44).rhs) A2 n3 c4 A6 n7 c8 A10 n11 c12 A72 n73 c74 (Rw.mono h5 (hL81.toSt hp82 (me 1 rfl))) (Rw.mono h9 (hL81.toSt hp82 (me 1 rfl))) (Rw.mono h13 (hL81.toSt hp82 (me 1 rfl))) (Rw.mono h75 (hL81.toSt hp82 (me 1 rfl))) (hL81.hFl (Sl := ([] : List Snap)) hp82 (sels [] rfl)) (hL81.into hp82 (Fl ([] : List Snap))) r83 hv84) ?_
              rintro _ w85 ⟨rfl, hM86⟩
              have hL87 := hL81.call hp82 hM86
              refine ⟨_, _, _, rfl, hL87, ?_⟩
              refine wl_v 16 rfl (v_not rfl) (gy 39 rfl rfl) rfl ?_
              refine wl_v 17 rfl (v_pick (b := false) rfl rfl) gn rfl ?_
              refine w_end 18 rfl ?_
              by_cases hp88 : r83 = true
              · have h := if_pos' hp88 h
                refine g_false (c := first_sound_c31) rfl _ rfl ((nf hp88)) ?_
                refine g_skip (c := first_sound_c33) rfl ?_
                refine g_inBlock ?_
                refine g_region (c := first_sound_c26) rfl rfl ?_
                refine wl_v 0 rfl (v_bin rfl rfl rfl) gn rfl ?_
                refine wl_v 1 rfl (v_move rfl) gn rfl ?_
                refine w_end 2 rfl ?_
                refine g_inLoop ?_
                have ih := Out.inl hO1 h
                exact g_go [0, 1] (ih ()) ⟨rfl, rfl, rfl, rfl, trivial⟩ (.cons _ (.cons_cons _ (.slnil))) rfl
              · have h := if_neg' hp88 h
                refine g_true (c := first_sound_c31) rfl _ rfl ((nt (bf hp88))) ?_
                refine g_seq (c := first_sound_c32) rfl ?_
                refine g_region (c := first_sound_c34) rfl rfl ?_
                refine wl_v 0 rfl (v_assign rfl) gn rfl ?_
                refine w_end 1 rfl ?_
                have h := Out.inr hO1 h
                refine g_retR (c := first_sound_c35) [.bool false] rfl Try.func31 rfl (.tmp rfl (.nil)) fun wr hLr => ?_
                have hMr : B.Loc w wr [] [St w []] := hLr.pick (rest := [.box gb76 38 [.int .i64 ((ix x1.prods x44).lhs), .slice A72 n73 c74], .box gb14 26 [.slice A2 n3 c4, .slice A6 n7 c8, .slice A10 n11 c12]]) (perm_of_idx [] [0, 1] rfl rfl (by kernel_rfl)) (sels [1] rfl)
                have hMi : ∀ e ∈ ([] : List Ent), e ∈ ([.box gb76 38 [.int .i64 ((ix x1.prods x44).lhs), .slice A72 n73 c74], .box gb14 26 [.slice A2 n3 c4, .slice A6 n7 c8, .slice A10 n11 c12]] : List Ent) := sels [] rfl
                show first_sound_R w F  r (.returned (packV [.bool false])) wr
                rw [h]
                exact ⟨rfl, hMr⟩
        · have h := if_neg' hp67 h
          refine g_false (c := first_sound_c21) rfl _ rfl ((decide_eq_false hp67)) ?_
          refine g_exit (c := first_sound_c24) [.code first_sound_c14] rfl rfl ?_
          refine g_seq (c := first_sound_c14) rfl ?_
          refine g_region (c := first_sound_c36) rfl rfl ?_
          refine wl_v 0 rfl (v_assign rfl) gn rfl ?_
          refine w_end 1 rfl ?_
          have h := Out.inr hO1 h
          refine g_retR (c := first_sound_c37) [.bool true] rfl Try.func31 rfl (.tmp rfl (.nil)) fun wr hLr => ?_
          have hMr : B.Loc w wr [] [St w []] := hLr.pick (rest := [.box gb14 26 [.slice A2 n3 c4, .slice A6 n7 c8, .slice A10 n11 c12]]) (perm_of_idx [] [0] rfl rfl (by kernel_rfl)) (sels [1] rfl)
          have hMi : ∀ e ∈ ([] : List Ent), e ∈ ([.box gb14 26 [.slice A2 n3 c4, .slice A6 n7 c8, .slice A10 n11 c12]] : List Ent) := sels [] rfl
          show first_sound_R w F  r (.returned (packV [.bool true])) wr
          rw [h]
          exact ⟨rfl, hMr⟩
      exact g_go [0, 1] (key2 _ h ()) ⟨rfl, rfl, rfl, rfl, trivial⟩ (.cons_cons _ (.slnil)) rfl
  refine g_region (c := first_sound_c7) rfl rfl ?_
  refine wl_v 0 rfl (v_move rfl) gn rfl ?_
  refine wl_v 1 rfl (v_bin rfl rfl rfl) gn rfl ?_
  refine wl_v 2 rfl (v_move rfl) gn rfl ?_
  by_cases hp89 : (x1.terms.length : Int) < 1
  · have h := if_pos' hp89 h
    refine w_bool 11 rfl ((decide_eq_true hp89)) ?_
    refine wl_pass 3 rfl (ps 11 rfl rfl rfl) ?_
    refine wl_pass 4 rfl (ps 11 rfl rfl rfl) ?_
    refine wl_v 5 rfl (v_pick (b := true) rfl rfl) gn rfl ?_
    refine wl_v 6 rfl (v_move rfl) gn rfl ?_
    refine wl_pass 7 rfl (ps 15 rfl rfl rfl) ?_
    refine wl_pass 8 rfl (ps 15 rfl rfl rfl) ?_
    refine wl_pass 9 rfl (ps 15 rfl rfl rfl) ?_
    refine wl_pass 10 rfl (ps 15 rfl rfl rfl) ?_
    refine wl_v 11 rfl (v_pick (b := true) rfl rfl) gn rfl ?_
    refine w_end 12 rfl ?_
    exact g_go [0, 1] (j1 true h) ⟨rfl, rfl, trivial⟩ (.cons_cons _ (.slnil)) rfl
  · have h := if_neg' hp89 h
    refine w_bool 11 rfl ((decide_eq_false hp89)) ?_
    refine wl_v 3 rfl (v_move rfl) (gy 11 rfl rfl) rfl ?_
    refine wl_v 4 rfl (v_bin rfl rfl rfl) (gy 11 rfl rfl) rfl ?_
    refine wl_v 5 rfl (v_pick (b := false) rfl rfl) gn rfl ?_
    refine wl_v 6 rfl (v_move rfl) gn rfl ?_
    by_cases hp90 : (x1.terms.length : Int) > 64
    · have h := if_pos' hp90 h
      refine w_bool 15 rfl ((decide_eq_true hp90)) ?_
      refine wl_pass 7 rfl (ps 15 rfl rfl rfl) ?_
      refine wl_pass 8 rfl (ps 15 rfl rfl rfl) ?_
      refine wl_pass 9 rfl (ps 15 rfl rfl rfl) ?_
      refine wl_pass 10 rfl (ps 15 rfl rfl rfl) ?_
      refine wl_v 11 rfl (v_pick (b := true) rfl rfl) gn rfl ?_
      refine w_end 12 rfl ?_
      exact g_go [0, 1] (j1 true h) ⟨rfl, rfl, trivial⟩ (.cons_cons _ (.slnil)) rfl
    · have h := if_neg' hp90 h
      refine w_bool 15 rfl ((decide_eq_false hp90)) ?_
      refine wl_v 7 rfl (v_fldB fo_26_1 rfl) (gy 15 rfl rfl) rfl ?_
      refine wl_v 8 rfl (v_ldB1 0 ld_23 rfl rfl rfl) (gy 15 rfl rfl) rfl ?_
      refine wl_v 9 rfl (v_lenQ un_23 rfl h9.hq) (gy 15 rfl rfl) rfl ?_
      refine wl_v 10 rfl (v_bin rfl rfl rfl) (gy 15 rfl rfl) rfl ?_
      refine wl_v 11 rfl (v_pick (b := false) rfl rfl) gn rfl ?_
      refine w_end 12 rfl ?_
      exact g_go [0, 1] (j1 (decide ((x1.syms.length : Int) > 128)) h) ⟨rfl, rfl, trivial⟩ (.cons_cons _ (.slnil)) rfl
noncomputable abbrev first_sets_of_c0 : Code := bodyOf Try.f34
noncomputable abbrev first_sets_of_c1 : Code := Code.fst first_sets_of_c0
noncomputable abbrev first_sets_of_c2 : Code := Code.snd first_sets_of_c0
noncomputable abbrev first_sets_of_c3 : Code := Code.fst first_sets_of_c2
noncomputable abbrev first_sets_of_c4 : Code := Code.snd first_sets_of_c2
noncomputable abbrev first_sets_of_c5 : Code := Code.fst first_sets_of_c4
noncomputable abbrev first_sets_of_c6 : Code := Code.snd first_sets_of_c4
noncomputable abbrev first_sets_of_c7 : Code := Code.fst first_sets_of_c5
noncomputable abbrev first_sets_of_c8 : Code := Code.snd first_sets_of_c5
noncomputable abbrev first_sets_of_c9 : Code := Code.fst first_sets_of_c8
noncomputable abbrev first_sets_of_c10 : Code := Code.fst first_sets_of_c9
noncomputable abbrev first_sets_of_c11 : Code := Code.fst first_sets_of_c10
noncomputable abbrev first_sets_of_c12 : Code := Code.snd first_sets_of_c10
noncomputable abbrev first_sets_of_c13 : Code := Code.fst first_sets_of_c12
noncomputable abbrev first_sets_of_c14 : Code := Code.snd first_sets_of_c12
noncomputable abbrev first_sets_of_c15 : Code := Code.fst first_sets_of_c13
noncomputable abbrev first_sets_of_c16 : Code := Code.snd first_sets_of_c13
noncomputable abbrev first_sets_of_c17 : Code := Code.fst first_sets_of_c14
noncomputable abbrev first_sets_of_c18 : Code := Code.snd first_sets_of_c14
noncomputable abbrev first_sets_of_c19 : Code := Code.fst first_sets_of_c17
noncomputable abbrev first_sets_of_c20 : Code := Code.fst first_sets_of_c19
noncomputable abbrev first_sets_of_c21 : Code := Code.snd first_sets_of_c19
noncomputable abbrev first_sets_of_c22 : Code := Code.fst first_sets_of_c21
noncomputable abbrev first_sets_of_c23 : Code := Code.snd first_sets_of_c21
noncomputable abbrev first_sets_of_c24 : Code := Code.fst first_sets_of_c23
noncomputable abbrev first_sets_of_c25 : Code := Code.snd first_sets_of_c23
noncomputable abbrev first_sets_of_c26 : Code := Code.fst first_sets_of_c25
noncomputable abbrev first_sets_of_c27 : Code := Code.snd first_sets_of_c25
noncomputable abbrev first_sets_of_c28 : Code := Code.fst first_sets_of_c26
noncomputable abbrev first_sets_of_c29 : Code := Code.snd first_sets_of_c26
noncomputable abbrev first_sets_of_c30 : Code := Code.fst first_sets_of_c6
noncomputable abbrev first_sets_of_c31 : Code := Code.snd first_sets_of_c6
abbrev first_sets_of_R (w : World) (F : Nat → Prop) (g2 : Nat) (Tb3 : Nat) (r : Int × Bool × first_sets) : Ending → World → Prop := fun e w' => e = .returned (.tuple #[.int .u64 r.1, .bool r.2.1]) ∧ B.Loc w w' [.box g2 Tb3 (enc_first_sets r.2.2)] [St w [[g2]]]
noncomputable abbrev first_sets_of_C (w : World) (F : Nat → Prop) (g2 : Nat) (Tb3 : Nat) (r : Int × Bool × first_sets) : Cx := ⟨Try.prog, 34, Try.f34, 35, first_sets_of_R w F g2 Tb3 r, w⟩
theorem first_sets_of_calls (w : World) (F : Nat → Prop) (x1 : first_sets) (x4 : List api_Ref) (g2 : Nat) (Tb3 : Nat) (A5 : Option Addr) (n6 : Nat) (c7 : Nat) (h8 : Rw k_api_Ref w (St w [[g2]]).av A5 n6 c7 x4) (hF : ∀ b, F b → b < w.heap.size ∧ ∀ o ∈ ([[g2]] : List (List Nat)), b ∉ o) (hL0 : B.Loc w w [.box g2 Tb3 (enc_first_sets x1)] [Sm w.heap.size F w [[g2]], St w [[g2]]]) (r : Int × Bool × first_sets) (h : first_sets_of x1 x4 r) : Calls Try.prog 34 #[.pointer (some ⟨g2, 0, none⟩), .slice A5 n6 c7] w (first_sets_of_R w F g2 Tb3 r) := by
  unfold first_sets_of at h
  refine calls_of_Loc (vs := [.pointer (some ⟨g2, 0, none⟩), .slice A5 n6 c7]) 35 Try.func34 rfl Try.ntmps34 rfl hL0 ?_
  show G (first_sets_of_C w F g2 Tb3 r) _ _ _ _
  refine g_seq (c := first_sets_of_c0) rfl ?_
  refine g_region (c := first_sets_of_c1) rfl rfl ?_
  refine wl_v 0 rfl (v_assign rfl) gn rfl ?_
  refine wl_v 1 rfl (v_assign rfl) gn rfl ?_
  refine w_end 2 rfl ?_
  refine g_seq (c := first_sets_of_c2) rfl ?_
  refine g_region (c := first_sets_of_c3) rfl rfl ?_
  refine wl_v 0 rfl (v_assign rfl) gn rfl ?_
  refine w_end 1 rfl ?_
  refine g_seq (c := first_sets_of_c4) rfl ?_
  refine g_seq (c := first_sets_of_c5) rfl ?_
  refine g_region (c := first_sets_of_c7) rfl rfl ?_
  refine wl_v 0 rfl (v_move rfl) gn rfl ?_
  refine wl_v 1 rfl (v_lenQ un_27 rfl h8.hq) gn rfl ?_
  refine wl_v 2 rfl (v_move rfl) gn rfl ?_
  refine w_end 3 rfl ?_
  refine g_block (c := first_sets_of_c8) rfl ?_
  refine g_loop (c := first_sets_of_c9) rfl ?_
  have key1 : ∀ s, Rounds (fun (s : Int × Int) o => first_sets_of_b1 x4 x1 s.1 s.2 o) s r → (fun (s : Int × Int) => ∀ (_ : Unit), G (first_sets_of_C w F g2 Tb3 r) [.code first_sets_of_c10, .inLoop first_sets_of_c10, .inBlock 0, .code first_sets_of_c6] [(0, .pointer (some ⟨g2, 0, none⟩)), (6, .int .u64 s.1), (9, .slice A5 n6 c7), (10, .int .i64 (x4.length : Int)), (11, .int .i64 s.2)] [.box g2 Tb3 (enc_first_sets x1)] [Sm w.heap.size F w [[g2]], St w [[g2]]]) s := by
    intro s hs
    refine Rounds.ind (mot := (fun (s : Int × Int) => ∀ (_ : Unit), G (first_sets_of_C w F g2 Tb3 r) [.code first_sets_of_c10, .inLoop first_sets_of_c10, .inBlock 0, .code first_sets_of_c6] [(0, .pointer (some ⟨g2, 0, none⟩)), (6, .int .u64 s.1), (9, .slice A5 n6 c7), (10, .int .i64 (x4.length : Int)), (11, .int .i64 s.2)] [.box g2 Tb3 (enc_first_sets x1)] [Sm w.heap.size F w [[g2]], St w [[g2]]])) ?_ hs
    clear hs s
    intro s o1 h hO1
    obtain ⟨x17, x18⟩ := s
    show ∀ (_ : Unit), G (first_sets_of_C w F g2 Tb3 r) [.code first_sets_of_c10, .inLoop first_sets_of_c10, .inBlock 0, .code first_sets_of_c6] [(0, .pointer (some ⟨g2, 0, none⟩)), (6, .int .u64 x17), (9, .slice A5 n6 c7), (10, .int .i64 (x4.length : Int)), (11, .int .i64 x18)] [.box g2 Tb3 (enc_first_sets x1)] [Sm w.heap.size F w [[g2]], St w [[g2]]]
    intro _
    have h : first_sets_of_b1 x4 x1 x17 x18 o1 := h
    unfold first_sets_of_b1 at h
    refine g_seq (c := first_sets_of_c10) rfl ?_
    refine g_region (c := first_sets_of_c11) rfl rfl ?_
    refine wl_v 0 rfl (v_bin rfl rfl rfl) gn rfl ?_
    refine w_end 1 rfl ?_
    refine g_seq (c := first_sets_of_c12) rfl ?_
    by_cases hp26 : x18 < (x4.length : Int)
    · have h := if_pos' hp26 h
      refine g_true (c := first_sets_of_c13) rfl _ rfl ((decide_eq_true hp26)) ?_
      refine g_skip (c := first_sets_of_c15) rfl ?_
      refine g_seq (c := first_sets_of_c14) rfl ?_
      refine g_block (c := first_sets_of_c17) rfl ?_
      refine g_seq (c := first_sets_of_c19) rfl ?_
      refine g_region (c := first_sets_of_c20) rfl rfl ?_
      obtain ⟨hb27, h⟩ := h
      have hr28 := Rw.readF (s := St w [[g2]]) (hl := hl_api_Ref) (h1 := h1_api_Ref) h8 hb27
      refine wl_v 0 rfl (v_idxR (s := St w [[g2]]) slE_27 rfl rfl h8 hb27) gn rfl ?_
      refine wl_v 1 rfl (v_ldA (St w [[g2]]) ld_36 rfl hr28 rfl (me 1 rfl)) gn rfl ?_
      refine wl_s 2 rfl (s_alloc [.int .i64 0, .string (⟨#[]⟩ : ByteArray), .string (⟨#[]⟩ : ByteArray)] zr_36 rfl fun gb29 => ?_) gn
      refine wl_s 3 rfl (s_stB (vs := [.int .i64 ((ix x4 x18).sym), .string ((ix x4 x18).field), .string ((ix x4 x18).as)]) (cs' := [.int .i64 ((ix x4 x18).sym), .string ((ix x4 x18).field), .string ((ix x4 x18).as)]) (M' := [.box gb29 36 [.int .i64 ((ix x4 x18).sym), .string ((ix x4 x18).field), .string ((ix x4 x18).as)], .box g2 Tb3 (enc_first_sets x1)]) 0 sz_36 rfl rfl rfl rfl rfl rfl rfl rfl rfl ?_) gn
      refine w_end 4 rfl ?_
      refine g_seq (c := first_sets_of_c21) rfl ?_
      obtain ⟨hb31, h⟩ := h
      have hns : Region.noSelect (Code.ops first_sets_of_c22) = true := by kernel_rfl
      refine g_drawF (c := first_sets_of_c22) [.box gb29 36 [.int .i64 ((ix x4 x18).sym), .string ((ix x4 x18).field), .string ((ix x4 x18).as)], .box g2 Tb3 (enc_first_sets x1)] [Sm w.heap.size F w [[g2]], St w [[g2]]] [] 10 rfl rfl mix rfl (.cons_cons _ (.cons_cons _ (.slnil))) (sels [0, 1] rfl) ?_
      refine wf_v 0 rfl (v_move rfl) gn rfl hns (by kernel_rfl) (by kernel_rfl) rfl rfl ?_
      refine wf_v 1 rfl (v_move rfl) gn rfl hns (by kernel_rfl) (by kernel_rfl) rfl rfl ?_
      refine wf_v 2 rfl (v_fldB fo_36_0 rfl) gn rfl hns (by kernel_rfl) (by kernel_rfl) rfl rfl ?_
      refine wf_v 3 rfl (v_ldB1 0 ld_3 rfl rfl rfl) gn rfl hns (by kernel_rfl) (by kernel_rfl) rfl rfl ?_
      refine wf_v 4 rfl (v_nilCheck rfl) gn rfl hns (by kernel_rfl) (by kernel_rfl) rfl rfl ?_
      refine wf_v 5 rfl (v_fldB fo_67_0 rfl) gn rfl hns (by kernel_rfl) (by kernel_rfl) rfl rfl ?_
      refine wf_v 6 rfl (v_idxB ar_64 rfl rfl hb31) gn rfl hns (by kernel_rfl) (by kernel_rfl) rfl rfl ?_
      refine wf_v 7 rfl (v_ldP1 1 ld_29 rfl rfl (hp := (Pt.trans (pt_first_sets_first x1 (upd x1.first ((ix x4 x18).sym) (x1.first ((ix x4 x18).sym)))) (Pt.arr (f := x1.first) (enc := fun y => [.int .u64 y]) (fun _ => rfl) hb31 (x1.first ((ix x4 x18).sym))))) rfl) gn rfl hns (by kernel_rfl) (by kernel_rfl) rfl rfl ?_
      refine wf_v 8 rfl (v_bin rfl rfl rfl) gn rfl hns (by kernel_rfl) (by kernel_rfl) rfl rfl ?_
      refine wf_v 9 rfl (v_assign rfl) gn rfl hns (by kernel_rfl) (by kernel_rfl) rfl rfl ?_
      refine wf_end (by kernel_rfl) ?_
      refine g_seq (c := first_sets_of_c23) rfl ?_
      have hns : Region.noSelect (Code.ops first_sets_of_c24) = true := by kernel_rfl
      refine g_drawF (c := first_sets_of_c24) [.box gb29 36 [.int .i64 ((ix x4 x18).sym), .string ((ix x4 x18).field), .string ((ix x4 x18).as)], .box g2 Tb3 (enc_first_sets x1)] [Sm w.heap.size F w [[g2]], St w [[g2]]] [] 8 rfl rfl mix rfl (.cons_cons _ (.cons_cons _ (.slnil))) (sels [0, 1] rfl) ?_
      refine wf_v 0 rfl (v_move rfl) gn rfl hns (by kernel_rfl) (by kernel_rfl) rfl rfl ?_
      refine wf_v 1 rfl (v_fldB fo_36_0 rfl) gn rfl hns (by kernel_rfl) (by kernel_rfl) rfl rfl ?_
      refine wf_v 2 rfl (v_ldB1 0 ld_3 rfl rfl rfl) gn rfl hns (by kernel_rfl) (by kernel_rfl) rfl rfl ?_
      refine wf_v 3 rfl (v_nilCheck rfl) gn rfl hns (by kernel_rfl) (by kernel_rfl) rfl rfl ?_
      refine wf_v 4 rfl (v_fldB fo_67_1 rfl) gn rfl hns (by kernel_rfl) (by kernel_rfl) rfl rfl ?_
      refine wf_v 5 rfl (v_idxB ar_65 rfl rfl hb31) gn rfl hns (by kernel_rfl) (by kernel_rfl) rfl rfl ?_
      refine wf_v 6 rfl (v_ldP1 1 ld_4 rfl rfl (hp := (Pt.trans (pt_first_sets_vanishes x1 (upd x1.vanishes ((ix x4 x18).sym) (x1.vanishes ((ix x4 x18).sym)))) (Pt.arr (f := x1.vanishes) (enc := fun y => [.bool y]) (fun _ => rfl) hb31 (x1.vanishes ((ix x4 x18).sym))))) rfl) gn rfl hns (by kernel_rfl) (by kernel_rfl) rfl rfl ?_
      refine wf_v 7 rfl (v_not rfl) gn rfl hns (by kernel_rfl) (by kernel_rfl) rfl rfl ?_
      refine wf_end (by kernel_rfl) ?_
      by_cases hp32 : (x1.vanishes ((ix x4 x18).sym)) = true
      · have h := if_pos' hp32 h
        refine g_false (c := first_sets_of_c25) rfl _ rfl ((nf hp32)) ?_
        refine g_skip (c := first_sets_of_c27) rfl ?_
        refine g_inBlock ?_
        refine g_region (c := first_sets_of_c18) rfl rfl ?_
        refine wl_v 0 rfl (v_bin rfl rfl rfl) gn rfl ?_
        refine wl_v 1 rfl (v_move rfl) gn rfl ?_
        refine w_end 2 rfl ?_
        refine g_inLoop ?_
        have ih := Out.inl hO1 h
        exact g_go [0, 1] (ih ()) ⟨rfl, rfl, rfl, rfl, rfl, trivial⟩ (.cons _ (.cons_cons _ (.slnil))) rfl
      · have h := if_neg' hp32 h
        refine g_true (c := first_sets_of_c25) rfl _ rfl ((nt (bf hp32))) ?_
        refine g_seq (c := first_sets_of_c26) rfl ?_
        refine g_region (c := first_sets_of_c28) rfl rfl ?_
        refine wl_v 0 rfl (v_move rfl) gn rfl ?_
        refine wl_v 1 rfl (v_assign rfl) gn rfl ?_
        refine wl_v 2 rfl (v_assign rfl) gn rfl ?_
        refine w_end 3 rfl ?_
        have h := Out.inr hO1 h
        refine g_retR (c := first_sets_of_c29) [.int .u64 (bits .or .u64 x17 (x1.first ((ix x4 x18).sym))), .bool false] rfl Try.func34 rfl (.tmp rfl (.tmp rfl (.nil))) fun wr hLr => ?_
        have hMr : B.Loc w wr [.box g2 Tb3 (enc_first_sets x1)] [St w [[g2]]] := hLr.pick (rest := [.box gb29 36 [.int .i64 ((ix x4 x18).sym), .string ((ix x4 x18).field), .string ((ix x4 x18).as)]]) (perm_of_idx [1] [0] rfl rfl (by kernel_rfl)) (sels [1] rfl)
        have hMi : ∀ e ∈ ([.box g2 Tb3 (enc_first_sets x1)] : List Ent), e ∈ ([.box gb29 36 [.int .i64 ((ix x4 x18).sym), .string ((ix x4 x18).field), .string ((ix x4 x18).as)], .box g2 Tb3 (enc_first_sets x1)] : List Ent) := sels [1] rfl
        show first_sets_of_R w F g2 Tb3 r (.returned (packV [.int .u64 (bits .or .u64 x17 (x1.first ((ix x4 x18).sym))), .bool false])) wr
        rw [h]
        exact ⟨rfl, hMr⟩
    · have h := if_neg' hp26 h
      refine g_false (c := first_sets_of_c13) rfl _ rfl ((decide_eq_false hp26)) ?_
      refine g_exit (c := first_sets_of_c16) [.code first_sets_of_c6] rfl rfl ?_
      refine g_seq (c := first_sets_of_c6) rfl ?_
      refine g_region (c := first_sets_of_c30) rfl rfl ?_
      refine wl_v 0 rfl (v_move rfl) gn rfl ?_
      refine wl_v 1 rfl (v_assign rfl) gn rfl ?_
      refine wl_v 2 rfl (v_assign rfl) gn rfl ?_
      refine w_end 3 rfl ?_
      have h := Out.inr hO1 h
      refine g_retR (c := first_sets_of_c31) [.int .u64 x17, .bool true] rfl Try.func34 rfl (.tmp rfl (.tmp rfl (.nil))) fun wr hLr => ?_
      have hMr : B.Loc w wr [.box g2 Tb3 (enc_first_sets x1)] [St w [[g2]]] := hLr.pick (rest := []) (perm_of_idx [0] [] rfl rfl (by kernel_rfl)) (sels [1] rfl)
      have hMi : ∀ e ∈ ([.box g2 Tb3 (enc_first_sets x1)] : List Ent), e ∈ ([.box g2 Tb3 (enc_first_sets x1)] : List Ent) := sels [0] rfl
      show first_sets_of_R w F g2 Tb3 r (.returned (packV [.int .u64 x17, .bool true])) wr
      rw [h]
      exact ⟨rfl, hMr⟩
  exact g_go [0, 1] (key1 _ h ()) ⟨rfl, rfl, rfl, rfl, rfl, trivial⟩ (.cons_cons _ (.slnil)) rfl
end Go.Proofs.Ytelafghkjlpojaa.K
