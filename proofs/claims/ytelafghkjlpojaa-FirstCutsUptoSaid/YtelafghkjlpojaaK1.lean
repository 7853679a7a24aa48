/- What the machine's calls do, function by function, printed by my own tool. Condition of each: its relation holds of the answer, and what is handed in lies in memory as told. -/
import Derived.Test.YtelafghkjlpojaaK0
set_option linter.unusedVariables false
set_option maxRecDepth 100000
set_option maxHeartbeats 4000000
namespace Go.Proofs.Ytelafghkjlpojaa.K
open Go.Proofs.Ytelafghkjlpojaa.B Go.Proofs.Ytelafghkjlpojaa.R Go.RowKit
noncomputable abbrev trellislaw11_twinRow_c0 : Code := bodyOf Try.f9
noncomputable abbrev trellislaw11_twinRow_c1 : Code := Code.fst trellislaw11_twinRow_c0
noncomputable abbrev trellislaw11_twinRow_c2 : Code := Code.snd trellislaw11_twinRow_c0
noncomputable abbrev trellislaw11_twinRow_c3 : Code := Code.fst trellislaw11_twinRow_c2
noncomputable abbrev trellislaw11_twinRow_c4 : Code := Code.snd trellislaw11_twinRow_c2
noncomputable abbrev trellislaw11_twinRow_c5 : Code := Code.fst trellislaw11_twinRow_c4
noncomputable abbrev trellislaw11_twinRow_c6 : Code := Code.snd trellislaw11_twinRow_c4
noncomputable abbrev trellislaw11_twinRow_c7 : Code := Code.fst trellislaw11_twinRow_c5
noncomputable abbrev trellislaw11_twinRow_c8 : Code := Code.snd trellislaw11_twinRow_c5
noncomputable abbrev trellislaw11_twinRow_c9 : Code := Code.fst trellislaw11_twinRow_c8
noncomputable abbrev trellislaw11_twinRow_c10 : Code := Code.fst trellislaw11_twinRow_c9
noncomputable abbrev trellislaw11_twinRow_c11 : Code := Code.fst trellislaw11_twinRow_c10
noncomputable abbrev trellislaw11_twinRow_c12 : Code := Code.snd trellislaw11_twinRow_c10
noncomputable abbrev trellislaw11_twinRow_c13 : Code := Code.fst trellislaw11_twinRow_c11
noncomputable abbrev trellislaw11_twinRow_c14 : Code := Code.snd trellislaw11_twinRow_c11
noncomputable abbrev trellislaw11_twinRow_c15 : Code := Code.fst trellislaw11_twinRow_c14
noncomputable abbrev trellislaw11_twinRow_c16 : Code := Code.snd trellislaw11_twinRow_c14
noncomputable abbrev trellislaw11_twinRow_c17 : Code := Code.fst trellislaw11_twinRow_c12
noncomputable abbrev trellislaw11_twinRow_c18 : Code := Code.snd trellislaw11_twinRow_c12
noncomputable abbrev trellislaw11_twinRow_c19 : Code := Code.fst trellislaw11_twinRow_c17
noncomputable abbrev trellislaw11_twinRow_c20 : Code := Code.fst trellislaw11_twinRow_c6
noncomputable abbrev trellislaw11_twinRow_c21 : Code := Code.snd trellislaw11_twinRow_c6
abbrev trellislaw11_twinRow_R (w : World) (F : Nat → Prop) (r : List api_Ref) : Ending → World → Prop := fun e w' => ∃ A0 : Option Addr, ∃ n0 : Nat, ∃ c0 : Nat, e = .returned (.slice A0 n0 c0) ∧ B.Loc w w' [.own (.slice A0 n0 c0) 36 3 n0 (r.flatMap enc_api_Ref)] [St w []] ∧ Ow w.heap.size A0 n0 c0 r
noncomputable abbrev trellislaw11_twinRow_C (w : World) (F : Nat → Prop) (r : List api_Ref) : Cx := ⟨Try.prog, 9, Try.f9, 19, trellislaw11_twinRow_R w F  r, w⟩
theorem trellislaw11_twinRow_calls (w : World) (F : Nat → Prop) (x1 : List api_Ref) (A2 : Option Addr) (n3 : Nat) (c4 : Nat) (h5 : Rw k_api_Ref w (St w []).av A2 n3 c4 x1) (hF : ∀ b, F b → b < w.heap.size ∧ ∀ o ∈ ([] : List (List Nat)), b ∉ o) (hL0 : B.Loc w w [] [Sm w.heap.size F w [], St w []]) (r : List api_Ref) (h : trellislaw11_twinRow x1 r) : Calls Try.prog 9 #[.slice A2 n3 c4] w (trellislaw11_twinRow_R w F  r) := by
  unfold trellislaw11_twinRow at h
  refine calls_of_Loc (vs := [.slice A2 n3 c4]) 19 Try.func9 rfl Try.ntmps9 rfl hL0 ?_
  show G (trellislaw11_twinRow_C w F r) _ _ _ _
  refine g_seq (c := trellislaw11_twinRow_c0) rfl ?_
  refine g_region (c := trellislaw11_twinRow_c1) rfl rfl ?_
  refine wl_v 0 rfl (v_assign rfl) gn rfl ?_
  refine w_end 1 rfl ?_
  refine g_seq (c := trellislaw11_twinRow_c2) rfl ?_
  refine g_region (c := trellislaw11_twinRow_c3) rfl rfl ?_
  refine wl_v 0 rfl (v_assign rfl) gn rfl ?_
  refine w_end 1 rfl ?_
  refine g_seq (c := trellislaw11_twinRow_c4) rfl ?_
  refine g_seq (c := trellislaw11_twinRow_c5) rfl ?_
  refine g_region (c := trellislaw11_twinRow_c7) rfl rfl ?_
  refine wl_v 0 rfl (v_assign rfl) gn rfl ?_
  refine w_end 1 rfl ?_
  refine g_block (c := trellislaw11_twinRow_c8) rfl ?_
  refine g_loop (c := trellislaw11_twinRow_c9) rfl ?_
  have key1 : ∀ s, Rounds (fun (s : (List api_Ref) × Int) o => trellislaw11_twinRow_b1 x1 s.1 s.2 o) s r → (fun (s : (List api_Ref) × Int) => ∀ (A21 : Option Addr) (n22 : Nat) (c23 : Nat) (h24 : Ow w.heap.size A21 n22 c23 s.1), G (trellislaw11_twinRow_C w F r) [.code trellislaw11_twinRow_c10, .inLoop trellislaw11_twinRow_c10, .inBlock 0, .code trellislaw11_twinRow_c6] [(0, .slice A2 n3 c4), (3, .slice A21 n22 c23), (4, .int .i64 s.2)] [.own (.slice A21 n22 c23) 36 3 n22 (s.1.flatMap enc_api_Ref)] [Sm w.heap.size F w [], St w []]) s := by
    intro s hs
    refine Rounds.ind (mot := (fun (s : (List api_Ref) × Int) => ∀ (A21 : Option Addr) (n22 : Nat) (c23 : Nat) (h24 : Ow w.heap.size A21 n22 c23 s.1), G (trellislaw11_twinRow_C w F r) [.code trellislaw11_twinRow_c10, .inLoop trellislaw11_twinRow_c10, .inBlock 0, .code trellislaw11_twinRow_c6] [(0, .slice A2 n3 c4), (3, .slice A21 n22 c23), (4, .int .i64 s.2)] [.own (.slice A21 n22 c23) 36 3 n22 (s.1.flatMap enc_api_Ref)] [Sm w.heap.size F w [], St w []])) ?_ hs
    clear hs s
    intro s o1 h hO1
    obtain ⟨x20, x25⟩ := s
    show ∀ (A21 : Option Addr) (n22 : Nat) (c23 : Nat) (h24 : Ow w.heap.size A21 n22 c23 x20), G (trellislaw11_twinRow_C w F r) [.code trellislaw11_twinRow_c10, .inLoop trellislaw11_twinRow_c10, .inBlock 0, .code trellislaw11_twinRow_c6] [(0, .slice A2 n3 c4), (3, .slice A21 n22 c23), (4, .int .i64 x25)] [.own (.slice A21 n22 c23) 36 3 n22 (x20.flatMap enc_api_Ref)] [Sm w.heap.size F w [], St w []]
    intro A21 n22 c23 h24
    have h : trellislaw11_twinRow_b1 x1 x20 x25 o1 := h
    unfold trellislaw11_twinRow_b1 at h
    refine g_seq (c := trellislaw11_twinRow_c10) rfl ?_
    refine g_seq (c := trellislaw11_twinRow_c11) rfl ?_
    refine g_region (c := trellislaw11_twinRow_c13) rfl rfl ?_
    refine wl_v 0 rfl (v_move rfl) gn rfl ?_
    refine wl_v 1 rfl (v_move rfl) gn rfl ?_
    refine wl_v 2 rfl (v_lenQ un_27 rfl h5.hq) gn rfl ?_
    refine wl_v 3 rfl (v_bin rfl rfl rfl) gn rfl ?_
    refine w_end 4 rfl ?_
    by_cases hp38 : x25 < (x1.length : Int)
    · have h := if_pos' hp38 h
      refine g_true (c := trellislaw11_twinRow_c14) rfl _ rfl ((decide_eq_true hp38)) ?_
      refine g_skip (c := trellislaw11_twinRow_c15) rfl ?_
      refine g_seq (c := trellislaw11_twinRow_c12) rfl ?_
      refine g_block (c := trellislaw11_twinRow_c17) rfl ?_
      refine g_region (c := trellislaw11_twinRow_c19) rfl rfl ?_
      refine wl_v 0 rfl (v_move rfl) gn rfl ?_
      refine wl_v 1 rfl (v_move rfl) gn rfl ?_
      refine wl_v 2 rfl (v_move rfl) gn rfl ?_
      obtain ⟨hb39, h⟩ := h
      have hr40 := Rw.readF (s := St w []) (hl := hl_api_Ref) (h1 := h1_api_Ref) h5 hb39
      refine wl_v 3 rfl (v_idxR (s := St w []) slE_27 rfl rfl h5 hb39) gn rfl ?_
      refine wl_v 4 rfl (v_ldA (St w []) ld_36 rfl hr40 rfl (me 1 rfl)) gn rfl ?_
      refine wl_s 5 rfl (s_litO (xs := ([ix x1 x25] : List api_Ref)) [.int .i64 ((ix x1 x25).sym), .string ((ix x1 x25).field), .string ((ix x1 x25).as)] bs_27_1 rfl (by kernel_rfl) rfl rfl rfl rfl fun gb42 h43 => ?_) gn
      obtain ⟨x47, hv48, h⟩ := h
      obtain ⟨hb49, h⟩ := h
      refine wl_s 6 rfl (s_app (zs := x47) (cells' := x47.flatMap enc_api_Ref) 1 ap_27 rfl rfl rfl h24 (Nat.le_refl _) (Src.ownF (hl := hl_api_Ref) (h1 := h1_api_Ref) 0 rfl h43) (by rw [hv48, List.flatMap_append] <;> rfl) (app_len hv48 h43.hq) hb49 rfl rfl fun A44 c45 h46 => ?_) gn
      refine wl_v 7 rfl (v_assign rfl) gn rfl ?_
      refine w_end 8 rfl ?_
      refine g_inBlock ?_
      refine g_region (c := trellislaw11_twinRow_c18) rfl rfl ?_
      refine wl_v 0 rfl (v_move rfl) gn rfl ?_
      refine wl_v 1 rfl (v_bin rfl rfl rfl) gn rfl ?_
      refine wl_v 2 rfl (v_assign rfl) gn rfl ?_
      refine w_end 3 rfl ?_
      refine g_inLoop ?_
      have ih := Out.inl hO1 h
      exact g_go [0, 1] (ih A44 (n22 + 1) c45 h46) ⟨rfl, rfl, rfl, trivial⟩ (.cons _ (.cons_cons _ (.slnil))) rfl
    · have h := if_neg' hp38 h
      refine g_false (c := trellislaw11_twinRow_c14) rfl _ rfl ((decide_eq_false hp38)) ?_
      refine g_exit (c := trellislaw11_twinRow_c16) [.code trellislaw11_twinRow_c6] rfl rfl ?_
      refine g_seq (c := trellislaw11_twinRow_c6) rfl ?_
      refine g_region (c := trellislaw11_twinRow_c20) rfl rfl ?_
      refine wl_v 0 rfl (v_move rfl) gn rfl ?_
      refine wl_v 1 rfl (v_assign rfl) gn rfl ?_
      refine w_end 2 rfl ?_
      have h := Out.inr hO1 h
      refine g_retR (c := trellislaw11_twinRow_c21) [.slice A21 n22 c23] rfl Try.func9 rfl (.tmp rfl (.nil)) fun wr hLr => ?_
      have hMr : B.Loc w wr [.own (.slice A21 n22 c23) 36 3 n22 (x20.flatMap enc_api_Ref)] [St w []] := hLr.pick (rest := []) (perm_of_idx [0] [] rfl rfl (by kernel_rfl)) (sels [1] rfl)
      have hMi : ∀ e ∈ ([.own (.slice A21 n22 c23) 36 3 n22 (x20.flatMap enc_api_Ref)] : List Ent), e ∈ ([.own (.slice A21 n22 c23) 36 3 n22 (x20.flatMap enc_api_Ref)] : List Ent) := sels [0] rfl
      show trellislaw11_twinRow_R w F  r (.returned (packV [.slice A21 n22 c23])) wr
      rw [h]
      exact ⟨A21, n22, c23, rfl, hMr, h24⟩
  refine g_nil 36 3 ?_
  exact g_go [0, 1] (key1 _ h none 0 0 (Ow.nil (z := w.heap.size))) ⟨rfl, rfl, rfl, trivial⟩ (.cons_cons _ (.slnil)) rfl
noncomputable abbrev trellislaw11_twin_c0 : Code := bodyOf Try.f8
noncomputable abbrev trellislaw11_twin_c1 : Code := Code.fst trellislaw11_twin_c0
noncomputable abbrev trellislaw11_twin_c2 : Code := Code.snd trellislaw11_twin_c0
noncomputable abbrev trellislaw11_twin_c3 : Code := Code.fst trellislaw11_twin_c2
noncomputable abbrev trellislaw11_twin_c4 : Code := Code.snd trellislaw11_twin_c2
noncomputable abbrev trellislaw11_twin_c5 : Code := Code.fst trellislaw11_twin_c4
noncomputable abbrev trellislaw11_twin_c6 : Code := Code.snd trellislaw11_twin_c4
noncomputable abbrev trellislaw11_twin_c7 : Code := Code.fst trellislaw11_twin_c5
noncomputable abbrev trellislaw11_twin_c8 : Code := Code.snd trellislaw11_twin_c5
noncomputable abbrev trellislaw11_twin_c9 : Code := Code.fst trellislaw11_twin_c8
noncomputable abbrev trellislaw11_twin_c10 : Code := Code.fst trellislaw11_twin_c9
noncomputable abbrev trellislaw11_twin_c11 : Code := Code.fst trellislaw11_twin_c10
noncomputable abbrev trellislaw11_twin_c12 : Code := Code.snd trellislaw11_twin_c10
noncomputable abbrev trellislaw11_twin_c13 : Code := Code.fst trellislaw11_twin_c11
noncomputable abbrev trellislaw11_twin_c14 : Code := Code.snd trellislaw11_twin_c11
noncomputable abbrev trellislaw11_twin_c15 : Code := Code.fst trellislaw11_twin_c14
noncomputable abbrev trellislaw11_twin_c16 : Code := Code.snd trellislaw11_twin_c14
noncomputable abbrev trellislaw11_twin_c17 : Code := Code.fst trellislaw11_twin_c12
noncomputable abbrev trellislaw11_twin_c18 : Code := Code.snd trellislaw11_twin_c12
noncomputable abbrev trellislaw11_twin_c19 : Code := Code.fst trellislaw11_twin_c17
noncomputable abbrev trellislaw11_twin_c20 : Code := Code.fst trellislaw11_twin_c6
noncomputable abbrev trellislaw11_twin_c21 : Code := Code.snd trellislaw11_twin_c6
noncomputable abbrev trellislaw11_twin_c22 : Code := Code.fst trellislaw11_twin_c20
noncomputable abbrev trellislaw11_twin_c23 : Code := Code.snd trellislaw11_twin_c20
noncomputable abbrev trellislaw11_twin_c24 : Code := Code.fst trellislaw11_twin_c23
noncomputable abbrev trellislaw11_twin_c25 : Code := Code.fst trellislaw11_twin_c24
noncomputable abbrev trellislaw11_twin_c26 : Code := Code.fst trellislaw11_twin_c25
noncomputable abbrev trellislaw11_twin_c27 : Code := Code.snd trellislaw11_twin_c25
noncomputable abbrev trellislaw11_twin_c28 : Code := Code.fst trellislaw11_twin_c26
noncomputable abbrev trellislaw11_twin_c29 : Code := Code.snd trellislaw11_twin_c26
noncomputable abbrev trellislaw11_twin_c30 : Code := Code.fst trellislaw11_twin_c29
noncomputable abbrev trellislaw11_twin_c31 : Code := Code.snd trellislaw11_twin_c29
noncomputable abbrev trellislaw11_twin_c32 : Code := Code.fst trellislaw11_twin_c27
noncomputable abbrev trellislaw11_twin_c33 : Code := Code.snd trellislaw11_twin_c27
noncomputable abbrev trellislaw11_twin_c34 : Code := Code.fst trellislaw11_twin_c32
noncomputable abbrev trellislaw11_twin_c35 : Code := Code.fst trellislaw11_twin_c21
noncomputable abbrev trellislaw11_twin_c36 : Code := Code.snd trellislaw11_twin_c21
noncomputable abbrev trellislaw11_twin_c37 : Code := Code.fst trellislaw11_twin_c35
noncomputable abbrev trellislaw11_twin_c38 : Code := Code.snd trellislaw11_twin_c35
noncomputable abbrev trellislaw11_twin_c39 : Code := Code.fst trellislaw11_twin_c38
noncomputable abbrev trellislaw11_twin_c40 : Code := Code.fst trellislaw11_twin_c39
noncomputable abbrev trellislaw11_twin_c41 : Code := Code.fst trellislaw11_twin_c40
noncomputable abbrev trellislaw11_twin_c42 : Code := Code.snd trellislaw11_twin_c40
noncomputable abbrev trellislaw11_twin_c43 : Code := Code.fst trellislaw11_twin_c41
noncomputable abbrev trellislaw11_twin_c44 : Code := Code.snd trellislaw11_twin_c41
noncomputable abbrev trellislaw11_twin_c45 : Code := Code.fst trellislaw11_twin_c44
noncomputable abbrev trellislaw11_twin_c46 : Code := Code.snd trellislaw11_twin_c44
noncomputable abbrev trellislaw11_twin_c47 : Code := Code.fst trellislaw11_twin_c42
noncomputable abbrev trellislaw11_twin_c48 : Code := Code.snd trellislaw11_twin_c42
noncomputable abbrev trellislaw11_twin_c49 : Code := Code.fst trellislaw11_twin_c47
noncomputable abbrev trellislaw11_twin_c50 : Code := Code.fst trellislaw11_twin_c36
noncomputable abbrev trellislaw11_twin_c51 : Code := Code.snd trellislaw11_twin_c36
abbrev trellislaw11_twin_R (w : World) (F : Nat → Prop) (r : api_Gram) : Ending → World → Prop := fun e w' => ∃ A0 : Option Addr, ∃ n0 : Nat, ∃ c0 : Nat, ∃ A1 : Option Addr, ∃ n1 : Nat, ∃ c1 : Nat, ∃ A2 : Option Addr, ∃ n2 : Nat, ∃ c2 : Nat, ∃ cs2 : List Value, e = .returned (.agg #[.slice A0 n0 c0, .slice A1 n1 c1, .slice A2 n2 c2]) ∧ B.Loc w w' [.own (.slice A0 n0 c0) 58 2 n0 (r.terms.flatMap enc_api_TermDef), .own (.slice A1 n1 c1) 61 2 n1 (r.syms.flatMap enc_api_Sym), .own (.slice A2 n2 c2) 38 2 n2 cs2] [St w []] ∧ Ow w.heap.size A0 n0 c0 r.terms ∧ Ow w.heap.size A1 n1 c1 r.syms ∧ Ow w.heap.size A2 n2 c2 r.prods ∧ Cells k_api_Prod w' (Nw w w' F [.own (.slice A0 n0 c0) 58 2 n0 (r.terms.flatMap enc_api_TermDef), .own (.slice A1 n1 c1) 61 2 n1 (r.syms.flatMap enc_api_Sym), .own (.slice A2 n2 c2) 38 2 n2 cs2]) r.prods cs2
noncomputable abbrev trellislaw11_twin_C (w : World) (F : Nat → Prop) (r : api_Gram) : Cx := ⟨Try.prog, 8, Try.f8, 68, trellislaw11_twin_R w F  r, w⟩
theorem trellislaw11_twin_calls (w : World) (F : Nat → Prop) (x1 : api_Gram) (A2 : Option Addr) (n3 : Nat) (c4 : Nat) (A6 : Option Addr) (n7 : Nat) (c8 : Nat) (A10 : Option Addr) (n11 : Nat) (c12 : Nat) (h5 : Rw k_api_TermDef w (St w []).av A2 n3 c4 x1.terms) (h9 : Rw k_api_Sym w (St w []).av A6 n7 c8 x1.syms) (h13 : Rw k_api_Prod w (St w []).av A10 n11 c12 x1.prods) (hF : ∀ b, F b → b < w.heap.size ∧ ∀ o ∈ ([] : List (List Nat)), b ∉ o) (hL0 : B.Loc w w [] [Sm w.heap.size F w [], St w []]) (r : api_Gram) (h : trellislaw11_twin x1 r) : Calls Try.prog 8 #[.agg #[.slice A2 n3 c4, .slice A6 n7 c8, .slice A10 n11 c12]] w (trellislaw11_twin_R w F  r) := by
  unfold trellislaw11_twin at h
  refine calls_of_Loc (vs := [.agg #[.slice A2 n3 c4, .slice A6 n7 c8, .slice A10 n11 c12]]) 68 Try.func8 rfl Try.ntmps8 rfl hL0 ?_
  show G (trellislaw11_twin_C w F r) _ _ _ _
  refine g_seq (c := trellislaw11_twin_c0) rfl ?_
  refine g_region (c := trellislaw11_twin_c1) rfl rfl ?_
  refine wl_s 0 rfl (s_box [.slice A2 n3 c4, .slice A6 n7 c8, .slice A10 n11 c12] rfl rfl rfl fun gb14 => ?_) gn
  refine wl_s 1 rfl (s_alloc [.slice none 0 0, .slice none 0 0, .slice none 0 0] zr_26 rfl fun gb16 => ?_) gn
  refine w_end 2 rfl ?_
  refine g_seq (c := trellislaw11_twin_c2) rfl ?_
  refine g_region (c := trellislaw11_twin_c3) rfl rfl ?_
  refine wl_s 0 rfl (s_alloc [.slice none 0 0, .slice none 0 0, .slice none 0 0] zr_26 rfl fun gb18 => ?_) gn
  refine w_end 1 rfl ?_
  refine g_seq (c := trellislaw11_twin_c4) rfl ?_
  refine g_seq (c := trellislaw11_twin_c5) rfl ?_
  refine g_region (c := trellislaw11_twin_c7) rfl rfl ?_
  refine wl_v 0 rfl (v_assign rfl) gn rfl ?_
  refine w_end 1 rfl ?_
  refine g_block (c := trellislaw11_twin_c8) rfl ?_
  refine g_loop (c := trellislaw11_twin_c9) rfl ?_
  have key1 : ∀ s, Rounds (fun (s : Int × (List api_TermDef)) o => trellislaw11_twin_b1 x1 s.1 s.2 o) s r → (fun (s : Int × (List api_TermDef)) => ∀ (A14011 : Option Addr) (n14012 : Nat) (c14013 : Nat) (h14014 : Ow w.heap.size A14011 n14012 c14013 s.2), G (trellislaw11_twin_C w F r) [.code trellislaw11_twin_c10, .inLoop trellislaw11_twin_c10, .inBlock 0, .code trellislaw11_twin_c6] [(1, .pointer (some ⟨gb14, 0, none⟩)), (2, .pointer (some ⟨gb16, 0, none⟩)), (3, .pointer (some ⟨gb18, 0, none⟩)), (4, .int .i64 s.1)] [.own (.slice A14011 n14012 c14013) 58 2 n14012 (s.2.flatMap enc_api_TermDef), .box gb18 26 [.slice A14011 n14012 c14013, .slice none 0 0, .slice none 0 0], .box gb16 26 [.slice none 0 0, .slice none 0 0, .slice none 0 0], .box gb14 26 [.slice A2 n3 c4, .slice A6 n7 c8, .slice A10 n11 c12]] [Sm w.heap.size F w [], St w []]) s := by
    intro s hs
    refine Rounds.ind (mot := (fun (s : Int × (List api_TermDef)) => ∀ (A14011 : Option Addr) (n14012 : Nat) (c14013 : Nat) (h14014 : Ow w.heap.size A14011 n14012 c14013 s.2), G (trellislaw11_twin_C w F r) [.code trellislaw11_twin_c10, .inLoop trellislaw11_twin_c10, .inBlock 0, .code trellislaw11_twin_c6] [(1, .pointer (some ⟨gb14, 0, none⟩)), (2, .pointer (some ⟨gb16, 0, none⟩)), (3, .pointer (some ⟨gb18, 0, none⟩)), (4, .int .i64 s.1)] [.own (.slice A14011 n14012 c14013) 58 2 n14012 (s.2.flatMap enc_api_TermDef), .box gb18 26 [.slice A14011 n14012 c14013, .slice none 0 0, .slice none 0 0], .box gb16 26 [.slice none 0 0, .slice none 0 0, .slice none 0 0], .box gb14 26 [.slice A2 n3 c4, .slice A6 n7 c8, .slice A10 n11 c12]] [Sm w.heap.size F w [], St w []])) ?_ hs
    clear hs s
    intro s o1 h hO1
    obtain ⟨x14009, x14010⟩ := s
    show ∀ (A14011 : Option Addr) (n14012 : Nat) (c14013 : Nat) (h14014 : Ow w.heap.size A14011 n14012 c14013 x14010), G (trellislaw11_twin_C w F r) [.code trellislaw11_twin_c10, .inLoop trellislaw11_twin_c10, .inBlock 0, .code trellislaw11_twin_c6] [(1, .pointer (some ⟨gb14, 0, none⟩)), (2, .pointer (some ⟨gb16, 0, none⟩)), (3, .pointer (some ⟨gb18, 0, none⟩)), (4, .int .i64 x14009)] [.own (.slice A14011 n14012 c14013) 58 2 n14012 (x14010.flatMap enc_api_TermDef), .box gb18 26 [.slice A14011 n14012 c14013, .slice none 0 0, .slice none 0 0], .box gb16 26 [.slice none 0 0, .slice none 0 0, .slice none 0 0], .box gb14 26 [.slice A2 n3 c4, .slice A6 n7 c8, .slice A10 n11 c12]] [Sm w.heap.size F w [], St w []]
    intro A14011 n14012 c14013 h14014
    have h : trellislaw11_twin_b1 x1 x14009 x14010 o1 := h
    unfold trellislaw11_twin_b1 at h
    refine g_seq (c := trellislaw11_twin_c10) rfl ?_
    refine g_seq (c := trellislaw11_twin_c11) rfl ?_
    refine g_region (c := trellislaw11_twin_c13) rfl rfl ?_
    refine wl_v 0 rfl (v_move rfl) gn rfl ?_
    refine wl_v 1 rfl (v_fldB fo_26_0 rfl) gn rfl ?_
    refine wl_v 2 rfl (v_ldB1 3 ld_22 rfl rfl rfl) gn rfl ?_
    refine wl_v 3 rfl (v_lenQ un_22 rfl h5.hq) gn rfl ?_
    refine wl_v 4 rfl (v_bin rfl rfl rfl) gn rfl ?_
    refine w_end 5 rfl ?_
    by_cases hp27997 : x14009 < (x1.terms.length : Int)
    · have h := if_pos' hp27997 h
      refine g_true (c := trellislaw11_twin_c14) rfl _ rfl ((decide_eq_true hp27997)) ?_
      refine g_skip (c := trellislaw11_twin_c15) rfl ?_
      refine g_seq (c := trellislaw11_twin_c12) rfl ?_
      refine g_block (c := trellislaw11_twin_c17) rfl ?_
      obtain ⟨hb27998, h⟩ := h
      obtain ⟨x28006, hv28007, h⟩ := h
      obtain ⟨hb28008, h⟩ := h
      have hns : Region.noSelect (Code.ops trellislaw11_twin_c19) = true := by kernel_rfl
      refine g_drawF (c := trellislaw11_twin_c19) [.own (.slice A14011 n14012 c14013) 58 2 n14012 (x14010.flatMap enc_api_TermDef), .box gb18 26 [.slice A14011 n14012 c14013, .slice none 0 0, .slice none 0 0], .box gb16 26 [.slice none 0 0, .slice none 0 0, .slice none 0 0], .box gb14 26 [.slice A2 n3 c4, .slice A6 n7 c8, .slice A10 n11 c12]] [Sm w.heap.size F w [], St w []] [8, 9, 10] 11 rfl rfl mix rfl (.cons_cons _ (.cons_cons _ (.cons_cons _ (.cons_cons _ (.slnil))))) (sels [0, 1] rfl) ?_
      refine wf_v 0 rfl (v_fldB fo_26_0 rfl) gn rfl hns (by kernel_rfl) (by kernel_rfl) (by kernel_rfl) rfl ?_
      refine wf_v 1 rfl (v_ldB1 1 ld_22 rfl rfl rfl) gn rfl hns (by kernel_rfl) (by kernel_rfl) (by kernel_rfl) rfl ?_
      refine wf_v 2 rfl (v_fldB fo_26_0 rfl) gn rfl hns (by kernel_rfl) (by kernel_rfl) (by kernel_rfl) rfl ?_
      refine wf_v 3 rfl (v_ldB1 3 ld_22 rfl rfl rfl) gn rfl hns (by kernel_rfl) (by kernel_rfl) (by kernel_rfl) rfl ?_
      refine wf_v 4 rfl (v_move rfl) gn rfl hns (by kernel_rfl) (by kernel_rfl) (by kernel_rfl) rfl ?_
      have hr28017 := Rw.readF (s := St w []) (hl := hl_api_TermDef) (h1 := h1_api_TermDef) h5 hb27998
      refine wf_v 5 rfl (v_idxR (s := St w []) slE_22 rfl rfl h5 hb27998) gn rfl hns (by kernel_rfl) (by kernel_rfl) (by kernel_rfl) rfl ?_
      refine wf_v 6 rfl (v_ldA (St w []) ld_58 rfl hr28017 rfl (me 1 rfl)) gn rfl hns (by kernel_rfl) (by kernel_rfl) (by kernel_rfl) rfl ?_
      refine wf_all [7] (by kernel_rfl) rfl ⟨on_s 7 rfl gn rfl (s_litO (xs := ([ix x1.terms x14009] : List api_TermDef)) [.string ((ix x1.terms x14009).name), .bool ((ix x1.terms x14009).lit)] bs_22_1 rfl (by kernel_rfl) rfl rfl rfl rfl fun gb28020 h28021 => ?_), trivial⟩
      refine ⟨sels [1, 2, 3, 4] rfl, sels [0, 1] rfl, ?_⟩
      refine wf_all [8] (by kernel_rfl) rfl ⟨on_l 8 rfl gn rfl (s_app (zs := x28006) (cells' := x28006.flatMap enc_api_TermDef) 1 ap_22 rfl rfl rfl h14014 (Nat.le_refl _) (Src.ownF (hl := hl_api_TermDef) (h1 := h1_api_TermDef) 0 rfl h28021) (by rw [hv28007, List.flatMap_append] <;> rfl) (app_len hv28007 h28021.hq) hb28008 rfl rfl fun A28022 c28023 h28024 => ?_), trivial⟩
      unfold NxL
      refine wf_all [9] (by kernel_rfl) rfl ⟨on_l 9 rfl gn rfl (s_val (v_fldB fo_26_0 rfl) rfl ?_), trivial⟩
      unfold NxL
      refine wf_all [10] (by kernel_rfl) rfl ⟨on_l 10 rfl gn rfl (s_stB (vs := [.slice A28022 (n14012 + 1) c28023]) (cs' := [.slice A28022 (n14012 + 1) c28023, .slice none 0 0, .slice none 0 0]) (M' := [.own (.slice (some ⟨gb28020, 0, none⟩) 1 1) 58 2 1 (([ix x1.terms x14009] : List api_TermDef).flatMap enc_api_TermDef), .own (.slice A28022 (n14012 + 1) c28023) 58 2 (n14012 + 1) (x28006.flatMap enc_api_TermDef), .box gb18 26 [.slice A28022 (n14012 + 1) c28023, .slice none 0 0, .slice none 0 0], .box gb16 26 [.slice none 0 0, .slice none 0 0, .slice none 0 0], .box gb14 26 [.slice A2 n3 c4, .slice A6 n7 c8, .slice A10 n11 c12]]) 2 sz_22 rfl rfl rfl rfl rfl rfl rfl rfl rfl ?_), trivial⟩
      unfold NxL
      refine wf_end (by kernel_rfl) ?_
      refine g_inBlock ?_
      refine g_region (c := trellislaw11_twin_c18) rfl rfl ?_
      refine wl_v 0 rfl (v_move rfl) gn rfl ?_
      refine wl_v 1 rfl (v_bin rfl rfl rfl) gn rfl ?_
      refine wl_v 2 rfl (v_assign rfl) gn rfl ?_
      refine w_end 3 rfl ?_
      refine g_inLoop ?_
      have ih := Out.inl hO1 h
      exact g_go [0, 1] (ih A28022 (n14012 + 1) c28023 h28024) ⟨rfl, rfl, rfl, rfl, trivial⟩ (.cons _ (.cons_cons _ (.cons_cons _ (.cons_cons _ (.cons_cons _ (.slnil)))))) rfl
    · have h := if_neg' hp27997 h
      refine g_false (c := trellislaw11_twin_c14) rfl _ rfl ((decide_eq_false hp27997)) ?_
      refine g_exit (c := trellislaw11_twin_c16) [.code trellislaw11_twin_c6] rfl rfl ?_
      refine g_seq (c := trellislaw11_twin_c6) rfl ?_
      refine g_seq (c := trellislaw11_twin_c20) rfl ?_
      refine g_region (c := trellislaw11_twin_c22) rfl rfl ?_
      refine wl_v 0 rfl (v_assign rfl) gn rfl ?_
      refine w_end 1 rfl ?_
      refine g_block (c := trellislaw11_twin_c23) rfl ?_
      refine g_loop (c := trellislaw11_twin_c24) rfl ?_
      have key2 : ∀ s, Rounds (fun (s : Int × (List api_Sym)) o => trellislaw11_twin_b2 x1 x14010 s.1 s.2 o) s o1 → (fun (s : Int × (List api_Sym)) => ∀ (A32681 : Option Addr) (n32682 : Nat) (c32683 : Nat) (h32684 : Ow w.heap.size A32681 n32682 c32683 s.2), G (trellislaw11_twin_C w F r) [.code trellislaw11_twin_c25, .inLoop trellislaw11_twin_c25, .inBlock 2, .code trellislaw11_twin_c21] [(1, .pointer (some ⟨gb14, 0, none⟩)), (2, .pointer (some ⟨gb16, 0, none⟩)), (3, .pointer (some ⟨gb18, 0, none⟩)), (5, .int .i64 s.1)] [.own (.slice A32681 n32682 c32683) 61 2 n32682 (s.2.flatMap enc_api_Sym), .own (.slice A14011 n14012 c14013) 58 2 n14012 (x14010.flatMap enc_api_TermDef), .box gb18 26 [.slice A14011 n14012 c14013, .slice A32681 n32682 c32683, .slice none 0 0], .box gb16 26 [.slice none 0 0, .slice none 0 0, .slice none 0 0], .box gb14 26 [.slice A2 n3 c4, .slice A6 n7 c8, .slice A10 n11 c12]] [Sm w.heap.size F w [], St w []]) s := by
        intro s hs
        refine Rounds.ind (mot := (fun (s : Int × (List api_Sym)) => ∀ (A32681 : Option Addr) (n32682 : Nat) (c32683 : Nat) (h32684 : Ow w.heap.size A32681 n32682 c32683 s.2), G (trellislaw11_twin_C w F r) [.code trellislaw11_twin_c25, .inLoop trellislaw11_twin_c25, .inBlock 2, .code trellislaw11_twin_c21] [(1, .pointer (some ⟨gb14, 0, none⟩)), (2, .pointer (some ⟨gb16, 0, none⟩)), (3, .pointer (some ⟨gb18, 0, none⟩)), (5, .int .i64 s.1)] [.own (.slice A32681 n32682 c32683) 61 2 n32682 (s.2.flatMap enc_api_Sym), .own (.slice A14011 n14012 c14013) 58 2 n14012 (x14010.flatMap enc_api_TermDef), .box gb18 26 [.slice A14011 n14012 c14013, .slice A32681 n32682 c32683, .slice none 0 0], .box gb16 26 [.slice none 0 0, .slice none 0 0, .slice none 0 0], .box gb14 26 [.slice A2 n3 c4, .slice A6 n7 c8, .slice A10 n11 c12]] [Sm w.heap.size F w [], St w []])) ?_ hs
        clear hs s
        intro s o2 h hO2
        obtain ⟨x32679, x32680⟩ := s
        show ∀ (A32681 : Option Addr) (n32682 : Nat) (c32683 : Nat) (h32684 : Ow w.heap.size A32681 n32682 c32683 x32680), G (trellislaw11_twin_C w F r) [.code trellislaw11_twin_c25, .inLoop trellislaw11_twin_c25, .inBlock 2, .code trellislaw11_twin_c21] [(1, .pointer (some ⟨gb14, 0, none⟩)), (2, .pointer (some ⟨gb16, 0, none⟩)), (3, .pointer (some ⟨gb18, 0, none⟩)), (5, .int .i64 x32679)] [.own (.slice A32681 n32682 c32683) 61 2 n32682 (x32680.flatMap enc_api_Sym), .own (.slice A14011 n14012 c14013) 58 2 n14012 (x14010.flatMap enc_api_TermDef), .box gb18 26 [.slice A14011 n14012 c14013, .slice A32681 n32682 c32683, .slice none 0 0], .box gb16 26 [.slice none 0 0, .slice none 0 0, .slice none 0 0], .box gb14 26 [.slice A2 n3 c4, .slice A6 n7 c8, .slice A10 n11 c12]] [Sm w.heap.size F w [], St w []]
        intro A32681 n32682 c32683 h32684
        have h : trellislaw11_twin_b2 x1 x14010 x32679 x32680 o2 := h
        unfold trellislaw11_twin_b2 at h
        refine g_seq (c := trellislaw11_twin_c25) rfl ?_
        refine g_seq (c := trellislaw11_twin_c26) rfl ?_
        refine g_region (c := trellislaw11_twin_c28) rfl rfl ?_
        refine wl_v 0 rfl (v_move rfl) gn rfl ?_
        refine wl_v 1 rfl (v_fldB fo_26_1 rfl) gn rfl ?_
        refine wl_v 2 rfl (v_ldB1 4 ld_23 rfl rfl rfl) gn rfl ?_
        refine wl_v 3 rfl (v_lenQ un_23 rfl h9.hq) gn rfl ?_
        refine wl_v 4 rfl (v_bin rfl rfl rfl) gn rfl ?_
        refine w_end 5 rfl ?_
        by_cases hp37332 : x32679 < (x1.syms.length : Int)
        · have h := if_pos' hp37332 h
          refine g_true (c := trellislaw11_twin_c29) rfl _ rfl ((decide_eq_true hp37332)) ?_
          refine g_skip (c := trellislaw11_twin_c30) rfl ?_
          refine g_seq (c := trellislaw11_twin_c27) rfl ?_
          refine g_block (c := trellislaw11_twin_c32) rfl ?_
          obtain ⟨hb37333, h⟩ := h
          obtain ⟨x37341, hv37342, h⟩ := h
          obtain ⟨hb37343, h⟩ := h
          have hns : Region.noSelect (Code.ops trellislaw11_twin_c34) = true := by kernel_rfl
          refine g_drawF (c := trellislaw11_twin_c34) [.own (.slice A32681 n32682 c32683) 61 2 n32682 (x32680.flatMap enc_api_Sym), .own (.slice A14011 n14012 c14013) 58 2 n14012 (x14010.flatMap enc_api_TermDef), .box gb18 26 [.slice A14011 n14012 c14013, .slice A32681 n32682 c32683, .slice none 0 0], .box gb16 26 [.slice none 0 0, .slice none 0 0, .slice none 0 0], .box gb14 26 [.slice A2 n3 c4, .slice A6 n7 c8, .slice A10 n11 c12]] [Sm w.heap.size F w [], St w []] [8, 9, 10] 11 rfl rfl mix rfl (.cons_cons _ (.cons_cons _ (.cons_cons _ (.cons_cons _ (.cons_cons _ (.slnil)))))) (sels [0, 1] rfl) ?_
          refine wf_v 0 rfl (v_fldB fo_26_1 rfl) gn rfl hns (by kernel_rfl) (by kernel_rfl) (by kernel_rfl) rfl ?_
          refine wf_v 1 rfl (v_ldB1 2 ld_23 rfl rfl rfl) gn rfl hns (by kernel_rfl) (by kernel_rfl) (by kernel_rfl) rfl ?_
          refine wf_v 2 rfl (v_fldB fo_26_1 rfl) gn rfl hns (by kernel_rfl) (by kernel_rfl) (by kernel_rfl) rfl ?_
          refine wf_v 3 rfl (v_ldB1 4 ld_23 rfl rfl rfl) gn rfl hns (by kernel_rfl) (by kernel_rfl) (by kernel_rfl) rfl ?_
          refine wf_v 4 rfl (v_move rfl) gn rfl hns (by kernel_rfl) (by kernel_rfl) (by kernel_rfl) rfl ?_
          have hr37352 := Rw.readF (s := St w []) (hl := hl_api_Sym) (h1 := h1_api_Sym) h9 hb37333
          refine wf_v 5 rfl (v_idxR (s := St w []) slE_23 rfl rfl h9 hb37333) gn rfl hns (by kernel_rfl) (by kernel_rfl) (by kernel_rfl) rfl ?_
          refine wf_v 6 rfl (v_ldA (St w []) ld_61 rfl hr37352 rfl (me 1 rfl)) gn rfl hns (by kernel_rfl) (by kernel_rfl) (by kernel_rfl) rfl ?_
          refine wf_all [7] (by kernel_rfl) rfl ⟨on_s 7 rfl gn rfl (s_litO (xs := ([ix x1.syms x32679] : List api_Sym)) [.string ((ix x1.syms x32679).name), .int .i64 ((ix x1.syms x32679).kind)] bs_23_1 rfl (by kernel_rfl) rfl rfl rfl rfl fun gb37355 h37356 => ?_), trivial⟩
          refine ⟨sels [1, 2, 3, 4, 5] rfl, sels [0, 1] rfl, ?_⟩
          refine wf_all [8] (by kernel_rfl) rfl ⟨on_l 8 rfl gn rfl (s_app (zs := x37341) (cells' := x37341.flatMap enc_api_Sym) 1 ap_23 rfl rfl rfl h32684 (Nat.le_refl _) (Src.ownF (hl := hl_api_Sym) (h1 := h1_api_Sym) 0 rfl h37356) (by rw [hv37342, List.flatMap_append] <;> rfl) (app_len hv37342 h37356.hq) hb37343 rfl rfl fun A37357 c37358 h37359 => ?_), trivial⟩
          unfold NxL
          refine wf_all [9] (by kernel_rfl) rfl ⟨on_l 9 rfl gn rfl (s_val (v_fldB fo_26_1 rfl) rfl ?_), trivial⟩
          unfold NxL
          refine wf_all [10] (by kernel_rfl) rfl ⟨on_l 10 rfl gn rfl (s_stB (vs := [.slice A37357 (n32682 + 1) c37358]) (cs' := [.slice A14011 n14012 c14013, .slice A37357 (n32682 + 1) c37358, .slice none 0 0]) (M' := [.own (.slice (some ⟨gb37355, 0, none⟩) 1 1) 61 2 1 (([ix x1.syms x32679] : List api_Sym).flatMap enc_api_Sym), .own (.slice A37357 (n32682 + 1) c37358) 61 2 (n32682 + 1) (x37341.flatMap enc_api_Sym), .own (.slice A14011 n14012 c14013) 58 2 n14012 (x14010.flatMap enc_api_TermDef), .box gb18 26 [.slice A14011 n14012 c14013, .slice A37357 (n32682 + 1) c37358, .slice none 0 0], .box gb16 26 [.slice none 0 0, .slice none 0 0, .slice none 0 0], .box gb14 26 [.slice A2 n3 c4, .slice A6 n7 c8, .slice A10 n11 c12]]) 3 sz_23 rfl rfl rfl rfl rfl rfl rfl rfl rfl ?_), trivial⟩
          unfold NxL
          refine wf_end (by kernel_rfl) ?_
          refine g_inBlock ?_
          refine g_region (c := trellislaw11_twin_c33) rfl rfl ?_
          refine wl_v 0 rfl (v_move rfl) gn rfl ?_
          refine wl_v 1 rfl (v_bin rfl rfl rfl) gn rfl ?_
          refine wl_v 2 rfl (v_assign rfl) gn rfl ?_
          refine w_end 3 rfl ?_
          refine g_inLoop ?_
          have ih := Out.inl hO2 h
          exact g_go [0, 1] (ih A37357 (n32682 + 1) c37358 h37359) ⟨rfl, rfl, rfl, rfl, trivial⟩ (.cons _ (.cons_cons _ (.cons_cons _ (.cons_cons _ (.cons_cons _ (.cons_cons _ (.slnil))))))) rfl
        · have h := if_neg' hp37332 h
          refine g_false (c := trellislaw11_twin_c29) rfl _ rfl ((decide_eq_false hp37332)) ?_
          refine g_exit (c := trellislaw11_twin_c31) [.code trellislaw11_twin_c21] rfl rfl ?_
          refine g_seq (c := trellislaw11_twin_c21) rfl ?_
          refine g_seq (c := trellislaw11_twin_c35) rfl ?_
          refine g_region (c := trellislaw11_twin_c37) rfl rfl ?_
          refine wl_v 0 rfl (v_assign rfl) gn rfl ?_
          refine w_end 1 rfl ?_
          refine g_block (c := trellislaw11_twin_c38) rfl ?_
          refine g_loop (c := trellislaw11_twin_c39) rfl ?_
          have key3 : ∀ s, Rounds (fun (s : Int × (List api_Prod)) o => trellislaw11_twin_b3 x1 x14010 x32680 s.1 s.2 o) s o2 → (fun (s : Int × (List api_Prod)) => ∀ (A38923 : Option Addr) (n38924 : Nat) (c38925 : Nat) (h38926 : Ow w.heap.size A38923 n38924 c38925 s.2) (cs38927 : List Value) (sw38928 : World) (sb38929 : List (List Nat)) (hC38930 : Cells k_api_Prod (Sm w.heap.size F sw38928 sb38929).w (Sm w.heap.size F sw38928 sb38929).av s.2 cs38927), G (trellislaw11_twin_C w F r) [.code trellislaw11_twin_c40, .inLoop trellislaw11_twin_c40, .inBlock 4, .code trellislaw11_twin_c36] [(1, .pointer (some ⟨gb14, 0, none⟩)), (2, .pointer (some ⟨gb16, 0, none⟩)), (3, .pointer (some ⟨gb18, 0, none⟩)), (6, .int .i64 s.1)] [.own (.slice A38923 n38924 c38925) 38 2 n38924 cs38927, .own (.slice A32681 n32682 c32683) 61 2 n32682 (x32680.flatMap enc_api_Sym), .own (.slice A14011 n14012 c14013) 58 2 n14012 (x14010.flatMap enc_api_TermDef), .box gb18 26 [.slice A14011 n14012 c14013, .slice A32681 n32682 c32683, .slice A38923 n38924 c38925], .box gb16 26 [.slice none 0 0, .slice none 0 0, .slice none 0 0], .box gb14 26 [.slice A2 n3 c4, .slice A6 n7 c8, .slice A10 n11 c12]] [Sm w.heap.size F sw38928 sb38929, Sm w.heap.size F w [], St w []]) s := by
            intro s hs
            refine Rounds.ind (mot := (fun (s : Int × (List api_Prod)) => ∀ (A38923 : Option Addr) (n38924 : Nat) (c38925 : Nat) (h38926 : Ow w.heap.size A38923 n38924 c38925 s.2) (cs38927 : List Value) (sw38928 : World) (sb38929 : List (List Nat)) (hC38930 : Cells k_api_Prod (Sm w.heap.size F sw38928 sb38929).w (Sm w.heap.size F sw38928 sb38929).av s.2 cs38927), G (trellislaw11_twin_C w F r) [.code trellislaw11_twin_c40, .inLoop trellislaw11_twin_c40, .inBlock 4, .code trellislaw11_twin_c36] [(1, .pointer (some ⟨gb14, 0, none⟩)), (2, .pointer (some ⟨gb16, 0, none⟩)), (3, .pointer (some ⟨gb18, 0, none⟩)), (6, .int .i64 s.1)] [.own (.slice A38923 n38924 c38925) 38 2 n38924 cs38927, .own (.slice A32681 n32682 c32683) 61 2 n32682 (x32680.flatMap enc_api_Sym), .own (.slice A14011 n14012 c14013) 58 2 n14012 (x14010.flatMap enc_api_TermDef), .box gb18 26 [.slice A14011 n14012 c14013, .slice A32681 n32682 c32683, .slice A38923 n38924 c38925], .box gb16 26 [.slice none 0 0, .slice none 0 0, .slice none 0 0], .box gb14 26 [.slice A2 n3 c4, .slice A6 n7 c8, .slice A10 n11 c12]] [Sm w.heap.size F sw38928 sb38929, Sm w.heap.size F w [], St w []])) ?_ hs
            clear hs s
            intro s o3 h hO3
            obtain ⟨x38921, x38922⟩ := s
            show ∀ (A38923 : Option Addr) (n38924 : Nat) (c38925 : Nat) (h38926 : Ow w.heap.size A38923 n38924 c38925 x38922) (cs38927 : List Value) (sw38928 : World) (sb38929 : List (List Nat)) (hC38930 : Cells k_api_Prod (Sm w.heap.size F sw38928 sb38929).w (Sm w.heap.size F sw38928 sb38929).av x38922 cs38927), G (trellislaw11_twin_C w F r) [.code trellislaw11_twin_c40, .inLoop trellislaw11_twin_c40, .inBlock 4, .code trellislaw11_twin_c36] [(1, .pointer (some ⟨gb14, 0, none⟩)), (2, .pointer (some ⟨gb16, 0, none⟩)), (3, .pointer (some ⟨gb18, 0, none⟩)), (6, .int .i64 x38921)] [.own (.slice A38923 n38924 c38925) 38 2 n38924 cs38927, .own (.slice A32681 n32682 c32683) 61 2 n32682 (x32680.flatMap enc_api_Sym), .own (.slice A14011 n14012 c14013) 58 2 n14012 (x14010.flatMap enc_api_TermDef), .box gb18 26 [.slice A14011 n14012 c14013, .slice A32681 n32682 c32683, .slice A38923 n38924 c38925], .box gb16 26 [.slice none 0 0, .slice none 0 0, .slice none 0 0], .box gb14 26 [.slice A2 n3 c4, .slice A6 n7 c8, .slice A10 n11 c12]] [Sm w.heap.size F sw38928 sb38929, Sm w.heap.size F w [], St w []]
            intro A38923 n38924 c38925 h38926 cs38927 sw38928 sb38929 hC38930
            have h : trellislaw11_twin_b3 x1 x14010 x32680 x38921 x38922 o3 := h
            unfold trellislaw11_twin_b3 at h
            refine g_seq (c := trellislaw11_twin_c40) rfl ?_
            refine g_seq (c := trellislaw11_twin_c41) rfl ?_
            refine g_region (c := trellislaw11_twin_c43) rfl rfl ?_
            refine wl_v 0 rfl (v_move rfl) gn rfl ?_
            refine wl_v 1 rfl (v_fldB fo_26_2 rfl) gn rfl ?_
            refine wl_v 2 rfl (v_ldB1 5 ld_24 rfl rfl rfl) gn rfl ?_
            refine wl_v 3 rfl (v_lenQ un_24 rfl h13.hq) gn rfl ?_
            refine wl_v 4 rfl (v_bin rfl rfl rfl) gn rfl ?_
            refine w_end 5 rfl ?_
            by_cases hp40455 : x38921 < (x1.prods.length : Int)
            · have h := if_pos' hp40455 h
              refine g_true (c := trellislaw11_twin_c44) rfl _ rfl ((decide_eq_true hp40455)) ?_
              refine g_skip (c := trellislaw11_twin_c45) rfl ?_
              refine g_seq (c := trellislaw11_twin_c42) rfl ?_
              refine g_block (c := trellislaw11_twin_c47) rfl ?_
              obtain ⟨hb40456, h⟩ := h
              obtain ⟨r40474, hv40475, h⟩ := h
              obtain ⟨x40500, hv40501, h⟩ := h
              obtain ⟨hb40502, h⟩ := h
              have d27 : ∀ (A41239 : Option Addr) (n41240 : Nat) (c41241 : Nat) (h41242 : Ow w.heap.size A41239 n41240 c41241 x40500) (cs41243 : List Value) (sw41244 : World) (sb41245 : List (List Nat)) (hC41246 : Cells k_api_Prod (Sm w.heap.size F sw41244 sb41245).w (Sm w.heap.size F sw41244 sb41245).av x40500 cs41243), G (trellislaw11_twin_C w F r) [.inBlock 5, .code trellislaw11_twin_c48, .inLoop trellislaw11_twin_c40, .inBlock 4, .code trellislaw11_twin_c36] [(1, .pointer (some ⟨gb14, 0, none⟩)), (2, .pointer (some ⟨gb16, 0, none⟩)), (3, .pointer (some ⟨gb18, 0, none⟩)), (6, .int .i64 x38921)] [.own (.slice A41239 n41240 c41241) 38 2 n41240 cs41243, .own (.slice A32681 n32682 c32683) 61 2 n32682 (x32680.flatMap enc_api_Sym), .own (.slice A14011 n14012 c14013) 58 2 n14012 (x14010.flatMap enc_api_TermDef), .box gb18 26 [.slice A14011 n14012 c14013, .slice A32681 n32682 c32683, .slice A41239 n41240 c41241], .box gb16 26 [.slice none 0 0, .slice none 0 0, .slice none 0 0], .box gb14 26 [.slice A2 n3 c4, .slice A6 n7 c8, .slice A10 n11 c12]] [Sm w.heap.size F sw41244 sb41245, Sm w.heap.size F sw38928 sb38929, Sm w.heap.size F w [], St w []] := by
                intro A41239 n41240 c41241 h41242 cs41243 sw41244 sb41245 hC41246
                refine g_inBlock ?_
                refine g_region (c := trellislaw11_twin_c48) rfl rfl ?_
                refine wl_v 0 rfl (v_move rfl) gn rfl ?_
                refine wl_v 1 rfl (v_bin rfl rfl rfl) gn rfl ?_
                refine wl_v 2 rfl (v_assign rfl) gn rfl ?_
                refine w_end 3 rfl ?_
                refine g_inLoop ?_
                have ih := Out.inl hO3 h
                exact g_go [0, 2, 3] (ih A41239 n41240 c41241 h41242 cs41243 sw41244 sb41245 hC41246) ⟨rfl, rfl, rfl, rfl, trivial⟩ (.cons_cons _ (.cons_cons _ (.cons_cons _ (.cons_cons _ (.cons_cons _ (.cons_cons _ (.slnil))))))) rfl
              have hns : Region.noSelect (Code.ops trellislaw11_twin_c49) = true := by kernel_rfl
              refine g_drawF (c := trellislaw11_twin_c49) [.own (.slice A38923 n38924 c38925) 38 2 n38924 cs38927, .own (.slice A32681 n32682 c32683) 61 2 n32682 (x32680.flatMap enc_api_Sym), .own (.slice A14011 n14012 c14013) 58 2 n14012 (x14010.flatMap enc_api_TermDef)] [Sm w.heap.size F sw38928 sb38929, Sm w.heap.size F w [], St w []] [17, 18, 19] 20 rfl rfl mix rfl (.cons_cons _ (.cons_cons _ (.cons_cons _ (.cons _ (.cons _ (.cons _ (.slnil))))))) (sels [0, 1, 2] rfl) ?_
              refine wf_v 0 rfl (v_fldB fo_26_2 rfl) gn rfl hns (by kernel_rfl) (by kernel_rfl) (by kernel_rfl) rfl ?_
              refine wf_v 2 rfl (v_fldB fo_26_2 rfl) gn rfl hns (by kernel_rfl) (by kernel_rfl) (by kernel_rfl) rfl ?_
              refine wf_v 4 rfl (v_move rfl) gn rfl hns (by kernel_rfl) (by kernel_rfl) (by kernel_rfl) rfl ?_
              refine wf_v 8 rfl (v_fldB fo_26_2 rfl) gn rfl hns (by kernel_rfl) (by kernel_rfl) (by kernel_rfl) rfl ?_
              refine wf_v 10 rfl (v_move rfl) gn rfl hns (by kernel_rfl) (by kernel_rfl) (by kernel_rfl) rfl ?_
              refine wf_all [1, 3, 9] (by kernel_rfl) rfl ⟨?_, ?_, ?_, trivial⟩
              · refine on_s 1 rfl gn rfl (s_val (v_ldB1 3 ld_24 rfl rfl rfl) rfl ?_)
                refine ⟨sels [0, 1, 2] rfl, sels [0, 1, 2] rfl, ?_⟩
                refine wf_all [3, 9] (by kernel_rfl) rfl ⟨?_, ?_, trivial⟩
                · refine on_s 3 rfl gn rfl (s_val (v_ldB1 5 ld_24 rfl rfl rfl) rfl ?_)
                  refine ⟨sels [0, 1, 2] rfl, sels [0, 1, 2] rfl, ?_⟩
                  obtain ⟨ce41248, hK41249, hr41247⟩ := Rw.read (s := St w []) h13 hb40456
                  obtain ⟨A41250, n41251, c41252, rfl, h41253⟩ := hK41249
                  refine wf_v 5 rfl (v_idxR (s := St w []) slE_24 rfl rfl h13 hb40456) gn rfl hns (by kernel_rfl) (by kernel_rfl) (by kernel_rfl) rfl ?_
                  refine wf_v 6 rfl (v_fldA fo_38_0 rfl) gn rfl hns (by kernel_rfl) (by kernel_rfl) (by kernel_rfl) rfl ?_
                  refine wf_v 7 rfl (v_ldA1 (kk := (x38921 : Int).toNat * 2) (j := 0) (St w []) ld_3 rfl hr41247 rfl (me 2 rfl)) gn rfl hns (by kernel_rfl) (by kernel_rfl) (by kernel_rfl) rfl ?_
                  refine wf_all [9] (by kernel_rfl) rfl ⟨on_s 9 rfl gn rfl (s_val (v_ldB1 5 ld_24 rfl rfl rfl) rfl ?_), trivial⟩
                  refine ⟨sels [0, 1, 2] rfl, sels [0, 1, 2] rfl, ?_⟩
                  obtain ⟨ce41255, hK41256, hr41254⟩ := Rw.read (s := St w []) h13 hb40456
                  obtain ⟨A41257, n41258, c41259, rfl, h41260⟩ := hK41256
                  refine wf_v 11 rfl (v_idxR (s := St w []) slE_24 rfl rfl h13 hb40456) gn rfl hns (by kernel_rfl) (by kernel_rfl) (by kernel_rfl) rfl ?_
                  refine wf_v 12 rfl (v_fldA fo_38_1 rfl) gn rfl hns (by kernel_rfl) (by kernel_rfl) (by kernel_rfl) rfl ?_
                  refine wf_v 13 rfl (v_ldA1 (kk := (x38921 : Int).toNat * 2) (j := 1) (St w []) ld_27 rfl hr41254 rfl (me 2 rfl)) gn rfl hns (by kernel_rfl) (by kernel_rfl) (by kernel_rfl) rfl ?_
                  refine wf_all [14] (by kernel_rfl) rfl ⟨on_s 14 rfl gn rfl (s_call [.slice A41257 n41258 c41259] rfl Try.func9 rfl rfl rfl fun w41271 hL41272 => ?_), trivial⟩
                  have hp41273 : List.Perm ([.own (.slice A38923 n38924 c38925) 38 2 n38924 cs38927, .own (.slice A32681 n32682 c32683) 61 2 n32682 (x32680.flatMap enc_api_Sym), .own (.slice A14011 n14012 c14013) 58 2 n14012 (x14010.flatMap enc_api_TermDef), .box gb18 26 [.slice A14011 n14012 c14013, .slice A32681 n32682 c32683, .slice A38923 n38924 c38925], .box gb16 26 [.slice none 0 0, .slice none 0 0, .slice none 0 0], .box gb14 26 [.slice A2 n3 c4, .slice A6 n7 c8, .slice A10 n11 c12]] : List Ent) (([] : List Ent) ++ ([.own (.slice A38923 n38924 c38925) 38 2 n38924 cs38927, .own (.slice A32681 n32682 c32683) 61 2 n32682 (x32680.flatMap enc_api_Sym), .own (.slice A14011 n14012 c14013) 58 2 n14012 (x14010.flatMap enc_api_TermDef), .box gb18 26 [.slice A14011 n14012 c14013, .slice A32681 n32682 c32683, .slice A38923 n38924 c38925], .box gb16 26 [.slice none 0 0, .slice none 0 0, .slice none 0 0], .box gb14 26 [.slice A2 n3 c4, .slice A6 n7 c8, .slice A10 n11 c12]] : List Ent)) := perm_of_idx [] [0, 1, 2, 3, 4, 5] rfl rfl (by kernel_rfl)
                  refine Calls.mono (trellislaw11_twinRow_calls w41271 (Fl ([] : List Snap)) ((ix x1.prods x38921).rhs) A41257 n41258 c41259 (Rw.mono h41260 (hL41272.toSt hp41273 (me 2 rfl))) (hL41272.hFl (Sl := ([] : List Snap)) hp41273 (sels [] rfl)) (hL41272.into hp41273 (Fl ([] : List Snap))) r40474 hv40475) ?_
                  rintro _ w41278 ⟨A41274, n41275, c41276, rfl, hM41279, h41277⟩
                  have hL41280 := hL41272.call hp41273 hM41279
                  refine ⟨_, _, _, rfl, hL41280, ?_⟩
                  refine ⟨sels [1, 2, 3] rfl, sels [0, 1, 2] rfl, ?_⟩
                  refine wf_v 15 rfl (v_build #[.int .i64 ((ix x1.prods x38921).lhs), .slice A41274 n41275 c41276] bd_38 rfl (by kernel_rfl)) gn rfl hns (by kernel_rfl) (by kernel_rfl) (by kernel_rfl) rfl ?_
                  refine wf_freeze (F := F) (dk := k_api_Ref) (Sm w.heap.size F w []) 0 rfl (Ow.weak hL41272.env.size h41277) (me 1 rfl) Sm.ok (Cells.flat _) fun sw41285 sb41286 h41284 => ?_
                  have hC41290 : Cells k_api_Prod (Sm w.heap.size F sw41285 sb41286).w (Sm w.heap.size F sw41285 sb41286).av ([(⟨(ix x1.prods x38921).lhs, r40474⟩ : api_Prod)] : List api_Prod) [.int .i64 ((ix x1.prods x38921).lhs), .slice A41274 n41275 c41276] := (Cells.cons (c1 := [.int .i64 ((ix x1.prods x38921).lhs), .slice A41274 n41275 c41276]) ⟨A41274, n41275, c41276, rfl, h41284⟩ Cells.nil)
                  refine wf_all [16] (by kernel_rfl) rfl ⟨on_s 16 rfl gn rfl (s_litO (xs := ([(⟨(ix x1.prods x38921).lhs, r40474⟩ : api_Prod)] : List api_Prod)) [.int .i64 ((ix x1.prods x38921).lhs), .slice A41274 n41275 c41276] bs_24_1 rfl (by kernel_rfl) rfl rfl rfl rfl fun gb41291 h41292 => ?_), trivial⟩
                  refine ⟨sels [1, 2, 3] rfl, sels [1, 2, 3] rfl, ?_⟩
                  refine wf_mark (F := F) fun sw41296 sb41297 ho41298 => ?_
                  obtain ⟨cs41302, hc41303⟩ : ∃ x : List Value, x = cs38927 ++ [.int .i64 ((ix x1.prods x38921).lhs), .slice A41274 n41275 c41276] := ⟨_, rfl⟩
                  have hC41304 : Cells k_api_Prod (Sm w.heap.size F sw41296 sb41297).w (Sm w.heap.size F sw41296 sb41297).av x40500 cs41302 := by rw [hv40501, hc41303]; exact Cells.app (Cells.older (s := Sm w.heap.size F sw38928 sb38929) hC38930 (ho41298 _ (me 1 rfl) Sm.ok)) (Cells.older (s := Sm w.heap.size F sw41285 sb41286) hC41290 (ho41298 _ (me 0 rfl) Sm.ok))
                  refine wf_all [17] (by kernel_rfl) rfl ⟨on_l 17 rfl gn rfl (s_app (zs := x40500) 1 ap_24 rfl rfl rfl h38926 (Nat.le_refl _) (Src.ownAll 0 rfl h41292 hC41290) hc41303.symm (app_len hv40501 h41292.hq) hb40502 rfl rfl fun A41299 c41300 h41301 => ?_), trivial⟩
                  unfold NxL
                  refine wf_all [18] (by kernel_rfl) rfl ⟨on_l 18 rfl gn rfl (s_val (v_fldB fo_26_2 rfl) rfl ?_), trivial⟩
                  unfold NxL
                  refine wf_all [19] (by kernel_rfl) rfl ⟨on_l 19 rfl gn rfl (s_stB (vs := [.slice A41299 (n38924 + 1) c41300]) (cs' := [.slice A14011 n14012 c14013, .slice A32681 n32682 c32683, .slice A41299 (n38924 + 1) c41300]) (M' := [.own (.slice (some ⟨gb41291, 0, none⟩) 1 1) 38 2 1 [.int .i64 ((ix x1.prods x38921).lhs), .slice A41274 n41275 c41276], .own (.slice A41299 (n38924 + 1) c41300) 38 2 (n38924 + 1) cs41302, .own (.slice A32681 n32682 c32683) 61 2 n32682 (x32680.flatMap enc_api_Sym), .own (.slice A14011 n14012 c14013) 58 2 n14012 (x14010.flatMap enc_api_TermDef), .box gb18 26 [.slice A14011 n14012 c14013, .slice A32681 n32682 c32683, .slice A41299 (n38924 + 1) c41300], .box gb16 26 [.slice none 0 0, .slice none 0 0, .slice none 0 0], .box gb14 26 [.slice A2 n3 c4, .slice A6 n7 c8, .slice A10 n11 c12]]) 4 sz_24 rfl rfl rfl rfl rfl rfl rfl rfl rfl ?_), trivial⟩
                  unfold NxL
                  refine wf_end (by kernel_rfl) ?_
                  exact g_go [0, 2, 3, 4] (d27 A41299 (n38924 + 1) c41300 h41301 cs41302 sw41296 sb41297 hC41304) ⟨rfl, rfl, rfl, rfl, trivial⟩ (.cons _ (.cons_cons _ (.cons_cons _ (.cons_cons _ (.cons_cons _ (.cons_cons _ (.cons_cons _ (.slnil)))))))) rfl
                · refine on_s 9 rfl gn rfl (s_val (v_ldB1 5 ld_24 rfl rfl rfl) rfl ?_)
                  refine ⟨sels [0, 1, 2] rfl, sels [0, 1, 2] rfl, ?_⟩
                  obtain ⟨ce41306, hK41307, hr41305⟩ := Rw.read (s := St w []) h13 hb40456
                  obtain ⟨A41308, n41309, c41310, rfl, h41311⟩ := hK41307
                  refine wf_v 11 rfl (v_idxR (s := St w []) slE_24 rfl rfl h13 hb40456) gn rfl hns (by kernel_rfl) (by kernel_rfl) (by kernel_rfl) rfl ?_
                  refine wf_v 12 rfl (v_fldA fo_38_1 rfl) gn rfl hns (by kernel_rfl) (by kernel_rfl) (by kernel_rfl) rfl ?_
                  refine wf_v 13 rfl (v_ldA1 (kk := (x38921 : Int).toNat * 2) (j := 1) (St w []) ld_27 rfl hr41305 rfl (me 2 rfl)) gn rfl hns (by kernel_rfl) (by kernel_rfl) (by kernel_rfl) rfl ?_
                  refine wf_all [3, 14] (by kernel_rfl) rfl ⟨?_, ?_, trivial⟩
                  · refine on_s 3 rfl gn rfl (s_val (v_ldB1 5 ld_24 rfl rfl rfl) rfl ?_)
                    refine ⟨sels [0, 1, 2] rfl, sels [0, 1, 2] rfl, ?_⟩
                    obtain ⟨ce41323, hK41324, hr41322⟩ := Rw.read (s := St w []) h13 hb40456
                    obtain ⟨A41325, n41326, c41327, rfl, h41328⟩ := hK41324
                    refine wf_v 5 rfl (v_idxR (s := St w []) slE_24 rfl rfl h13 hb40456) gn rfl hns (by kernel_rfl) (by kernel_rfl) (by kernel_rfl) rfl ?_
                    refine wf_v 6 rfl (v_fldA fo_38_0 rfl) gn rfl hns (by kernel_rfl) (by kernel_rfl) (by kernel_rfl) rfl ?_
                    refine wf_v 7 rfl (v_ldA1 (kk := (x38921 : Int).toNat * 2) (j := 0) (St w []) ld_3 rfl hr41322 rfl (me 2 rfl)) gn rfl hns (by kernel_rfl) (by kernel_rfl) (by kernel_rfl) rfl ?_
                    refine wf_all [14] (by kernel_rfl) rfl ⟨on_s 14 rfl gn rfl (s_call [.slice A41308 n41309 c41310] rfl Try.func9 rfl rfl rfl fun w41339 hL41340 => ?_), trivial⟩
                    have hp41341 : List.Perm ([.own (.slice A38923 n38924 c38925) 38 2 n38924 cs38927, .own (.slice A32681 n32682 c32683) 61 2 n32682 (x32680.flatMap enc_api_Sym), .own (.slice A14011 n14012 c14013) 58 2 n14012 (x14010.flatMap enc_api_TermDef), .box gb18 26 [.slice A14011 n14012 c14013, .slice A32681 n32682 c32683, .slice A38923 n38924 c38925], .box gb16 26 [.slice none 0 0, .slice none 0 0, .slice none 0 0], .box gb14 26 [.slice A2 n3 c4, .slice A6 n7 c8, .slice A10 n11 c12]] : List Ent) (([] : List Ent) ++ ([.own (.slice A38923 n38924 c38925) 38 2 n38924 cs38927, .own (.slice A32681 n32682 c32683) 61 2 n32682 (x32680.flatMap enc_api_Sym), .own (.slice A14011 n14012 c14013) 58 2 n14012 (x14010.flatMap enc_api_TermDef), .box gb18 26 [.slice A14011 n14012 c14013, .slice A32681 n32682 c32683, .slice A38923 n38924 c38925], .box gb16 26 [.slice none 0 0, .slice none 0 0, .slice none 0 0], .box gb14 26 [.slice A2 n3 c4, .slice A6 n7 c8, .slice A10 n11 c12]] : List Ent)) := perm_of_idx [] [0, 1, 2, 3, 4, 5] rfl rfl (by kernel_rfl)
                    refine Calls.mono (trellislaw11_twinRow_calls w41339 (Fl ([] : List Snap)) ((ix x1.prods x38921).rhs) A41308 n41309 c41310 (Rw.mono h41311 (hL41340.toSt hp41341 (me 2 rfl))) (hL41340.hFl (Sl := ([] : List Snap)) hp41341 (sels [] rfl)) (hL41340.into hp41341 (Fl ([] : List Snap))) r40474 hv40475) ?_
                    rintro _ w41346 ⟨A41342, n41343, c41344, rfl, hM41347, h41345⟩
                    have hL41348 := hL41340.call hp41341 hM41347
                    refine ⟨_, _, _, rfl, hL41348, ?_⟩
                    refine ⟨sels [1, 2, 3] rfl, sels [0, 1, 2] rfl, ?_⟩
                    refine wf_v 15 rfl (v_build #[.int .i64 ((ix x1.prods x38921).lhs), .slice A41342 n41343 c41344] bd_38 rfl (by kernel_rfl)) gn rfl hns (by kernel_rfl) (by kernel_rfl) (by kernel_rfl) rfl ?_
                    refine wf_freeze (F := F) (dk := k_api_Ref) (Sm w.heap.size F w []) 0 rfl (Ow.weak hL41340.env.size h41345) (me 1 rfl) Sm.ok (Cells.flat _) fun sw41353 sb41354 h41352 => ?_
                    have hC41358 : Cells k_api_Prod (Sm w.heap.size F sw41353 sb41354).w (Sm w.heap.size F sw41353 sb41354).av ([(⟨(ix x1.prods x38921).lhs, r40474⟩ : api_Prod)] : List api_Prod) [.int .i64 ((ix x1.prods x38921).lhs), .slice A41342 n41343 c41344] := (Cells.cons (c1 := [.int .i64 ((ix x1.prods x38921).lhs), .slice A41342 n41343 c41344]) ⟨A41342, n41343, c41344, rfl, h41352⟩ Cells.nil)
                    refine wf_all [16] (by kernel_rfl) rfl ⟨on_s 16 rfl gn rfl (s_litO (xs := ([(⟨(ix x1.prods x38921).lhs, r40474⟩ : api_Prod)] : List api_Prod)) [.int .i64 ((ix x1.prods x38921).lhs), .slice A41342 n41343 c41344] bs_24_1 rfl (by kernel_rfl) rfl rfl rfl rfl fun gb41359 h41360 => ?_), trivial⟩
                    refine ⟨sels [1, 2, 3] rfl, sels [1, 2, 3] rfl, ?_⟩
                    refine wf_mark (F := F) fun sw41364 sb41365 ho41366 => ?_
                    obtain ⟨cs41370, hc41371⟩ : ∃ x : List Value, x = cs38927 ++ [.int .i64 ((ix x1.prods x38921).lhs), .slice A41342 n41343 c41344] := ⟨_, rfl⟩
                    have hC41372 : Cells k_api_Prod (Sm w.heap.size F sw41364 sb41365).w (Sm w.heap.size F sw41364 sb41365).av x40500 cs41370 := by rw [hv40501, hc41371]; exact Cells.app (Cells.older (s := Sm w.heap.size F sw38928 sb38929) hC38930 (ho41366 _ (me 1 rfl) Sm.ok)) (Cells.older (s := Sm w.heap.size F sw41353 sb41354) hC41358 (ho41366 _ (me 0 rfl) Sm.ok))
                    refine wf_all [17] (by kernel_rfl) rfl ⟨on_l 17 rfl gn rfl (s_app (zs := x40500) 1 ap_24 rfl rfl rfl h38926 (Nat.le_refl _) (Src.ownAll 0 rfl h41360 hC41358) hc41371.symm (app_len hv40501 h41360.hq) hb40502 rfl rfl fun A41367 c41368 h41369 => ?_), trivial⟩
                    unfold NxL
                    refine wf_all [18] (by kernel_rfl) rfl ⟨on_l 18 rfl gn rfl (s_val (v_fldB fo_26_2 rfl) rfl ?_), trivial⟩
                    unfold NxL
                    refine wf_all [19] (by kernel_rfl) rfl ⟨on_l 19 rfl gn rfl (s_stB (vs := [.slice A41367 (n38924 + 1) c41368]) (cs' := [.slice A14011 n14012 c14013, .slice A32681 n32682 c32683, .slice A41367 (n38924 + 1) c41368]) (M' := [.own (.slice (some ⟨gb41359, 0, none⟩) 1 1) 38 2 1 [.int .i64 ((ix x1.prods x38921).lhs), .slice A41342 n41343 c41344], .own (.slice A41367 (n38924 + 1) c41368) 38 2 (n38924 + 1) cs41370, .own (.slice A32681 n32682 c32683) 61 2 n32682 (x32680.flatMap enc_api_Sym), .own (.slice A14011 n14012 c14013) 58 2 n14012 (x14010.flatMap enc_api_TermDef), .box gb18 26 [.slice A14011 n14012 c14013, .slice A32681 n32682 c32683, .slice A41367 (n38924 + 1) c41368], .box gb16 26 [.slice none 0 0, .slice none 0 0, .slice none 0 0], .box gb14 26 [.slice A2 n3 c4, .slice A6 n7 c8, .slice A10 n11 c12]]) 4 sz_24 rfl rfl rfl rfl rfl rfl rfl rfl rfl ?_), trivial⟩
                    unfold NxL
                    refine wf_end (by kernel_rfl) ?_
                    exact g_go [0, 2, 3, 4] (d27 A41367 (n38924 + 1) c41368 h41369 cs41370 sw41364 sb41365 hC41372) ⟨rfl, rfl, rfl, rfl, trivial⟩ (.cons _ (.cons_cons _ (.cons_cons _ (.cons_cons _ (.cons_cons _ (.cons_cons _ (.cons_cons _ (.slnil)))))))) rfl
                  · refine on_s 14 rfl gn rfl (s_call [.slice A41308 n41309 c41310] rfl Try.func9 rfl rfl rfl fun w41373 hL41374 => ?_)
                    have hp41375 : List.Perm ([.own (.slice A38923 n38924 c38925) 38 2 n38924 cs38927, .own (.slice A32681 n32682 c32683) 61 2 n32682 (x32680.flatMap enc_api_Sym), .own (.slice A14011 n14012 c14013) 58 2 n14012 (x14010.flatMap enc_api_TermDef), .box gb18 26 [.slice A14011 n14012 c14013, .slice A32681 n32682 c32683, .slice A38923 n38924 c38925], .box gb16 26 [.slice none 0 0, .slice none 0 0, .slice none 0 0], .box gb14 26 [.slice A2 n3 c4, .slice A6 n7 c8, .slice A10 n11 c12]] : List Ent) (([] : List Ent) ++ ([.own (.slice A38923 n38924 c38925) 38 2 n38924 cs38927, .own (.slice A32681 n32682 c32683) 61 2 n32682 (x32680.flatMap enc_api_Sym), .own (.slice A14011 n14012 c14013) 58 2 n14012 (x14010.flatMap enc_api_TermDef), .box gb18 26 [.slice A14011 n14012 c14013, .slice A32681 n32682 c32683, .slice A38923 n38924 c38925], .box gb16 26 [.slice none 0 0, .slice none 0 0, .slice none 0 0], .box gb14 26 [.slice A2 n3 c4, .slice A6 n7 c8, .slice A10 n11 c12]] : List Ent)) := perm_of_idx [] [0, 1, 2, 3, 4, 5] rfl rfl (by kernel_rfl)
                    refine Calls.mono (trellislaw11_twinRow_calls w41373 (Fl ([] : List Snap)) ((ix x1.prods x38921).rhs) A41308 n41309 c41310 (Rw.mono h41311 (hL41374.toSt hp41375 (me 2 rfl))) (hL41374.hFl (Sl := ([] : List Snap)) hp41375 (sels [] rfl)) (hL41374.into hp41375 (Fl ([] : List Snap))) r40474 hv40475) ?_
                    rintro _ w41380 ⟨A41376, n41377, c41378, rfl, hM41381, h41379⟩
                    have hL41382 := hL41374.call hp41375 hM41381
                    refine ⟨_, _, _, rfl, hL41382, ?_⟩
                    refine ⟨sels [1, 2, 3] rfl, sels [0, 1, 2] rfl, ?_⟩
                    refine wf_all [3] (by kernel_rfl) rfl ⟨on_s 3 rfl gn rfl (s_val (v_ldB1 6 ld_24 rfl rfl rfl) rfl ?_), trivial⟩
                    refine ⟨sels [1, 2, 3] rfl, sels [0, 1, 2] rfl, ?_⟩
                    obtain ⟨ce41384, hK41385, hr41383⟩ := Rw.read (s := St w []) h13 hb40456
                    obtain ⟨A41386, n41387, c41388, rfl, h41389⟩ := hK41385
                    refine wf_v 5 rfl (v_idxR (s := St w []) slE_24 rfl rfl h13 hb40456) gn rfl hns (by kernel_rfl) (by kernel_rfl) (by kernel_rfl) rfl ?_
                    refine wf_v 6 rfl (v_fldA fo_38_0 rfl) gn rfl hns (by kernel_rfl) (by kernel_rfl) (by kernel_rfl) rfl ?_
                    refine wf_v 7 rfl (v_ldA1 (kk := (x38921 : Int).toNat * 2) (j := 0) (St w []) ld_3 rfl hr41383 rfl (me 2 rfl)) gn rfl hns (by kernel_rfl) (by kernel_rfl) (by kernel_rfl) rfl ?_
                    refine wf_v 15 rfl (v_build #[.int .i64 ((ix x1.prods x38921).lhs), .slice A41376 n41377 c41378] bd_38 rfl (by kernel_rfl)) gn rfl hns (by kernel_rfl) (by kernel_rfl) (by kernel_rfl) rfl ?_
                    refine wf_freeze (F := F) (dk := k_api_Ref) (Sm w.heap.size F w []) 0 rfl (Ow.weak hL41374.env.size h41379) (me 1 rfl) Sm.ok (Cells.flat _) fun sw41394 sb41395 h41393 => ?_
                    have hC41399 : Cells k_api_Prod (Sm w.heap.size F sw41394 sb41395).w (Sm w.heap.size F sw41394 sb41395).av ([(⟨(ix x1.prods x38921).lhs, r40474⟩ : api_Prod)] : List api_Prod) [.int .i64 ((ix x1.prods x38921).lhs), .slice A41376 n41377 c41378] := (Cells.cons (c1 := [.int .i64 ((ix x1.prods x38921).lhs), .slice A41376 n41377 c41378]) ⟨A41376, n41377, c41378, rfl, h41393⟩ Cells.nil)
                    refine wf_all [16] (by kernel_rfl) rfl ⟨on_s 16 rfl gn rfl (s_litO (xs := ([(⟨(ix x1.prods x38921).lhs, r40474⟩ : api_Prod)] : List api_Prod)) [.int .i64 ((ix x1.prods x38921).lhs), .slice A41376 n41377 c41378] bs_24_1 rfl (by kernel_rfl) rfl rfl rfl rfl fun gb41400 h41401 => ?_), trivial⟩
                    refine ⟨sels [1, 2, 3] rfl, sels [1, 2, 3] rfl, ?_⟩
                    refine wf_mark (F := F) fun sw41405 sb41406 ho41407 => ?_
                    obtain ⟨cs41411, hc41412⟩ : ∃ x : List Value, x = cs38927 ++ [.int .i64 ((ix x1.prods x38921).lhs), .slice A41376 n41377 c41378] := ⟨_, rfl⟩
                    have hC41413 : Cells k_api_Prod (Sm w.heap.size F sw41405 sb41406).w (Sm w.heap.size F sw41405 sb41406).av x40500 cs41411 := by rw [hv40501, hc41412]; exact Cells.app (Cells.older (s := Sm w.heap.size F sw38928 sb38929) hC38930 (ho41407 _ (me 1 rfl) Sm.ok)) (Cells.older (s := Sm w.heap.size F sw41394 sb41395) hC41399 (ho41407 _ (me 0 rfl) Sm.ok))
                    refine wf_all [17] (by kernel_rfl) rfl ⟨on_l 17 rfl gn rfl (s_app (zs := x40500) 1 ap_24 rfl rfl rfl h38926 (Nat.le_refl _) (Src.ownAll 0 rfl h41401 hC41399) hc41412.symm (app_len hv40501 h41401.hq) hb40502 rfl rfl fun A41408 c41409 h41410 => ?_), trivial⟩
                    unfold NxL
                    refine wf_all [18] (by kernel_rfl) rfl ⟨on_l 18 rfl gn rfl (s_val (v_fldB fo_26_2 rfl) rfl ?_), trivial⟩
                    unfold NxL
                    refine wf_all [19] (by kernel_rfl) rfl ⟨on_l 19 rfl gn rfl (s_stB (vs := [.slice A41408 (n38924 + 1) c41409]) (cs' := [.slice A14011 n14012 c14013, .slice A32681 n32682 c32683, .slice A41408 (n38924 + 1) c41409]) (M' := [.own (.slice (some ⟨gb41400, 0, none⟩) 1 1) 38 2 1 [.int .i64 ((ix x1.prods x38921).lhs), .slice A41376 n41377 c41378], .own (.slice A41408 (n38924 + 1) c41409) 38 2 (n38924 + 1) cs41411, .own (.slice A32681 n32682 c32683) 61 2 n32682 (x32680.flatMap enc_api_Sym), .own (.slice A14011 n14012 c14013) 58 2 n14012 (x14010.flatMap enc_api_TermDef), .box gb18 26 [.slice A14011 n14012 c14013, .slice A32681 n32682 c32683, .slice A41408 (n38924 + 1) c41409], .box gb16 26 [.slice none 0 0, .slice none 0 0, .slice none 0 0], .box gb14 26 [.slice A2 n3 c4, .slice A6 n7 c8, .slice A10 n11 c12]]) 4 sz_24 rfl rfl rfl rfl rfl rfl rfl rfl rfl ?_), trivial⟩
                    unfold NxL
                    refine wf_end (by kernel_rfl) ?_
                    exact g_go [0, 2, 3, 4] (d27 A41408 (n38924 + 1) c41409 h41410 cs41411 sw41405 sb41406 hC41413) ⟨rfl, rfl, rfl, rfl, trivial⟩ (.cons _ (.cons_cons _ (.cons_cons _ (.cons_cons _ (.cons_cons _ (.cons_cons _ (.cons_cons _ (.slnil)))))))) rfl
              · refine on_s 3 rfl gn rfl (s_val (v_ldB1 5 ld_24 rfl rfl rfl) rfl ?_)
                refine ⟨sels [0, 1, 2] rfl, sels [0, 1, 2] rfl, ?_⟩
                obtain ⟨ce41415, hK41416, hr41414⟩ := Rw.read (s := St w []) h13 hb40456
                obtain ⟨A41417, n41418, c41419, rfl, h41420⟩ := hK41416
                refine wf_v 5 rfl (v_idxR (s := St w []) slE_24 rfl rfl h13 hb40456) gn rfl hns (by kernel_rfl) (by kernel_rfl) (by kernel_rfl) rfl ?_
                refine wf_v 6 rfl (v_fldA fo_38_0 rfl) gn rfl hns (by kernel_rfl) (by kernel_rfl) (by kernel_rfl) rfl ?_
                refine wf_v 7 rfl (v_ldA1 (kk := (x38921 : Int).toNat * 2) (j := 0) (St w []) ld_3 rfl hr41414 rfl (me 2 rfl)) gn rfl hns (by kernel_rfl) (by kernel_rfl) (by kernel_rfl) rfl ?_
                refine wf_all [1, 9] (by kernel_rfl) rfl ⟨?_, ?_, trivial⟩
                · refine on_s 1 rfl gn rfl (s_val (v_ldB1 3 ld_24 rfl rfl rfl) rfl ?_)
                  refine ⟨sels [0, 1, 2] rfl, sels [0, 1, 2] rfl, ?_⟩
                  refine wf_all [9] (by kernel_rfl) rfl ⟨on_s 9 rfl gn rfl (s_val (v_ldB1 5 ld_24 rfl rfl rfl) rfl ?_), trivial⟩
                  refine ⟨sels [0, 1, 2] rfl, sels [0, 1, 2] rfl, ?_⟩
                  obtain ⟨ce41422, hK41423, hr41421⟩ := Rw.read (s := St w []) h13 hb40456
                  obtain ⟨A41424, n41425, c41426, rfl, h41427⟩ := hK41423
                  refine wf_v 11 rfl (v_idxR (s := St w []) slE_24 rfl rfl h13 hb40456) gn rfl hns (by kernel_rfl) (by kernel_rfl) (by kernel_rfl) rfl ?_
                  refine wf_v 12 rfl (v_fldA fo_38_1 rfl) gn rfl hns (by kernel_rfl) (by kernel_rfl) (by kernel_rfl) rfl ?_
                  refine wf_v 13 rfl (v_ldA1 (kk := (x38921 : Int).toNat * 2) (j := 1) (St w []) ld_27 rfl hr41421 rfl (me 2 rfl)) gn rfl hns (by kernel_rfl) (by kernel_rfl) (by kernel_rfl) rfl ?_
                  refine wf_all [14] (by kernel_rfl) rfl ⟨on_s 14 rfl gn rfl (s_call [.slice A41424 n41425 c41426] rfl Try.func9 rfl rfl rfl fun w41438 hL41439 => ?_), trivial⟩
                  have hp41440 : List.Perm ([.own (.slice A38923 n38924 c38925) 38 2 n38924 cs38927, .own (.slice A32681 n32682 c32683) 61 2 n32682 (x32680.flatMap enc_api_Sym), .own (.slice A14011 n14012 c14013) 58 2 n14012 (x14010.flatMap enc_api_TermDef), .box gb18 26 [.slice A14011 n14012 c14013, .slice A32681 n32682 c32683, .slice A38923 n38924 c38925], .box gb16 26 [.slice none 0 0, .slice none 0 0, .slice none 0 0], .box gb14 26 [.slice A2 n3 c4, .slice A6 n7 c8, .slice A10 n11 c12]] : List Ent) (([] : List Ent) ++ ([.own (.slice A38923 n38924 c38925) 38 2 n38924 cs38927, .own (.slice A32681 n32682 c32683) 61 2 n32682 (x32680.flatMap enc_api_Sym), .own (.slice A14011 n14012 c14013) 58 2 n14012 (x14010.flatMap enc_api_TermDef), .box gb18 26 [.slice A14011 n14012 c14013, .slice A32681 n32682 c32683, .slice A38923 n38924 c38925], .box gb16 26 [.slice none 0 0, .slice none 0 0, .slice none 0 0], .box gb14 26 [.slice A2 n3 c4, .slice A6 n7 c8, .slice A10 n11 c12]] : List Ent)) := perm_of_idx [] [0, 1, 2, 3, 4, 5] rfl rfl (by kernel_rfl)
                  refine Calls.mono (trellislaw11_twinRow_calls w41438 (Fl ([] : List Snap)) ((ix x1.prods x38921).rhs) A41424 n41425 c41426 (Rw.mono h41427 (hL41439.toSt hp41440 (me 2 rfl))) (hL41439.hFl (Sl := ([] : List Snap)) hp41440 (sels [] rfl)) (hL41439.into hp41440 (Fl ([] : List Snap))) r40474 hv40475) ?_
                  rintro _ w41445 ⟨A41441, n41442, c41443, rfl, hM41446, h41444⟩
                  have hL41447 := hL41439.call hp41440 hM41446
                  refine ⟨_, _, _, rfl, hL41447, ?_⟩
                  refine ⟨sels [1, 2, 3] rfl, sels [0, 1, 2] rfl, ?_⟩
                  refine wf_v 15 rfl (v_build #[.int .i64 ((ix x1.prods x38921).lhs), .slice A41441 n41442 c41443] bd_38 rfl (by kernel_rfl)) gn rfl hns (by kernel_rfl) (by kernel_rfl) (by kernel_rfl) rfl ?_
                  refine wf_freeze (F := F) (dk := k_api_Ref) (Sm w.heap.size F w []) 0 rfl (Ow.weak hL41439.env.size h41444) (me 1 rfl) Sm.ok (Cells.flat _) fun sw41452 sb41453 h41451 => ?_
                  have hC41457 : Cells k_api_Prod (Sm w.heap.size F sw41452 sb41453).w (Sm w.heap.size F sw41452 sb41453).av ([(⟨(ix x1.prods x38921).lhs, r40474⟩ : api_Prod)] : List api_Prod) [.int .i64 ((ix x1.prods x38921).lhs), .slice A41441 n41442 c41443] := (Cells.cons (c1 := [.int .i64 ((ix x1.prods x38921).lhs), .slice A41441 n41442 c41443]) ⟨A41441, n41442, c41443, rfl, h41451⟩ Cells.nil)
                  refine wf_all [16] (by kernel_rfl) rfl ⟨on_s 16 rfl gn rfl (s_litO (xs := ([(⟨(ix x1.prods x38921).lhs, r40474⟩ : api_Prod)] : List api_Prod)) [.int .i64 ((ix x1.prods x38921).lhs), .slice A41441 n41442 c41443] bs_24_1 rfl (by kernel_rfl) rfl rfl rfl rfl fun gb41458 h41459 => ?_), trivial⟩
                  refine ⟨sels [1, 2, 3] rfl, sels [1, 2, 3] rfl, ?_⟩
                  refine wf_mark (F := F) fun sw41463 sb41464 ho41465 => ?_
                  obtain ⟨cs41469, hc41470⟩ : ∃ x : List Value, x = cs38927 ++ [.int .i64 ((ix x1.prods x38921).lhs), .slice A41441 n41442 c41443] := ⟨_, rfl⟩
                  have hC41471 : Cells k_api_Prod (Sm w.heap.size F sw41463 sb41464).w (Sm w.heap.size F sw41463 sb41464).av x40500 cs41469 := by rw [hv40501, hc41470]; exact Cells.app (Cells.older (s := Sm w.heap.size F sw38928 sb38929) hC38930 (ho41465 _ (me 1 rfl) Sm.ok)) (Cells.older (s := Sm w.heap.size F sw41452 sb41453) hC41457 (ho41465 _ (me 0 rfl) Sm.ok))
                  refine wf_all [17] (by kernel_rfl) rfl ⟨on_l 17 rfl gn rfl (s_app (zs := x40500) 1 ap_24 rfl rfl rfl h38926 (Nat.le_refl _) (Src.ownAll 0 rfl h41459 hC41457) hc41470.symm (app_len hv40501 h41459.hq) hb40502 rfl rfl fun A41466 c41467 h41468 => ?_), trivial⟩
                  unfold NxL
                  refine wf_all [18] (by kernel_rfl) rfl ⟨on_l 18 rfl gn rfl (s_val (v_fldB fo_26_2 rfl) rfl ?_), trivial⟩
                  unfold NxL
                  refine wf_all [19] (by kernel_rfl) rfl ⟨on_l 19 rfl gn rfl (s_stB (vs := [.slice A41466 (n38924 + 1) c41467]) (cs' := [.slice A14011 n14012 c14013, .slice A32681 n32682 c32683, .slice A41466 (n38924 + 1) c41467]) (M' := [.own (.slice (some ⟨gb41458, 0, none⟩) 1 1) 38 2 1 [.int .i64 ((ix x1.prods x38921).lhs), .slice A41441 n41442 c41443], .own (.slice A41466 (n38924 + 1) c41467) 38 2 (n38924 + 1) cs41469, .own (.slice A32681 n32682 c32683) 61 2 n32682 (x32680.flatMap enc_api_Sym), .own (.slice A14011 n14012 c14013) 58 2 n14012 (x14010.flatMap enc_api_TermDef), .box gb18 26 [.slice A14011 n14012 c14013, .slice A32681 n32682 c32683, .slice A41466 (n38924 + 1) c41467], .box gb16 26 [.slice none 0 0, .slice none 0 0, .slice none 0 0], .box gb14 26 [.slice A2 n3 c4, .slice A6 n7 c8, .slice A10 n11 c12]]) 4 sz_24 rfl rfl rfl rfl rfl rfl rfl rfl rfl ?_), trivial⟩
                  unfold NxL
                  refine wf_end (by kernel_rfl) ?_
                  exact g_go [0, 2, 3, 4] (d27 A41466 (n38924 + 1) c41467 h41468 cs41469 sw41463 sb41464 hC41471) ⟨rfl, rfl, rfl, rfl, trivial⟩ (.cons _ (.cons_cons _ (.cons_cons _ (.cons_cons _ (.cons_cons _ (.cons_cons _ (.cons_cons _ (.slnil)))))))) rfl
                · refine on_s 9 rfl gn rfl (s_val (v_ldB1 5 ld_24 rfl rfl rfl) rfl ?_)
                  refine ⟨sels [0, 1, 2] rfl, sels [0, 1, 2] rfl, ?_⟩
                  obtain ⟨ce41473, hK41474, hr41472⟩ := Rw.read (s := St w []) h13 hb40456
                  obtain ⟨A41475, n41476, c41477, rfl, h41478⟩ := hK41474
                  refine wf_v 11 rfl (v_idxR (s := St w []) slE_24 rfl rfl h13 hb40456) gn rfl hns (by kernel_rfl) (by kernel_rfl) (by kernel_rfl) rfl ?_
                  refine wf_v 12 rfl (v_fldA fo_38_1 rfl) gn rfl hns (by kernel_rfl) (by kernel_rfl) (by kernel_rfl) rfl ?_
                  refine wf_v 13 rfl (v_ldA1 (kk := (x38921 : Int).toNat * 2) (j := 1) (St w []) ld_27 rfl hr41472 rfl (me 2 rfl)) gn rfl hns (by kernel_rfl) (by kernel_rfl) (by kernel_rfl) rfl ?_
                  refine wf_all [1, 14] (by kernel_rfl) rfl ⟨?_, ?_, trivial⟩
                  · refine on_s 1 rfl gn rfl (s_val (v_ldB1 3 ld_24 rfl rfl rfl) rfl ?_)
                    refine ⟨sels [0, 1, 2] rfl, sels [0, 1, 2] rfl, ?_⟩
                    refine wf_all [14] (by kernel_rfl) rfl ⟨on_s 14 rfl gn rfl (s_call [.slice A41475 n41476 c41477] rfl Try.func9 rfl rfl rfl fun w41499 hL41500 => ?_), trivial⟩
                    have hp41501 : List.Perm ([.own (.slice A38923 n38924 c38925) 38 2 n38924 cs38927, .own (.slice A32681 n32682 c32683) 61 2 n32682 (x32680.flatMap enc_api_Sym), .own (.slice A14011 n14012 c14013) 58 2 n14012 (x14010.flatMap enc_api_TermDef), .box gb18 26 [.slice A14011 n14012 c14013, .slice A32681 n32682 c32683, .slice A38923 n38924 c38925], .box gb16 26 [.slice none 0 0, .slice none 0 0, .slice none 0 0], .box gb14 26 [.slice A2 n3 c4, .slice A6 n7 c8, .slice A10 n11 c12]] : List Ent) (([] : List Ent) ++ ([.own (.slice A38923 n38924 c38925) 38 2 n38924 cs38927, .own (.slice A32681 n32682 c32683) 61 2 n32682 (x32680.flatMap enc_api_Sym), .own (.slice A14011 n14012 c14013) 58 2 n14012 (x14010.flatMap enc_api_TermDef), .box gb18 26 [.slice A14011 n14012 c14013, .slice A32681 n32682 c32683, .slice A38923 n38924 c38925], .box gb16 26 [.slice none 0 0, .slice none 0 0, .slice none 0 0], .box gb14 26 [.slice A2 n3 c4, .slice A6 n7 c8, .slice A10 n11 c12]] : List Ent)) := perm_of_idx [] [0, 1, 2, 3, 4, 5] rfl rfl (by kernel_rfl)
                    refine Calls.mono (trellislaw11_twinRow_calls w41499 (Fl ([] : List Snap)) ((ix x1.prods x38921).rhs) A41475 n41476 c41477 (Rw.mono h41478 (hL41500.toSt hp41501 (me 2 rfl))) (hL41500.hFl (Sl := ([] : List Snap)) hp41501 (sels [] rfl)) (hL41500.into hp41501 (Fl ([] : List Snap))) r40474 hv40475) ?_
                    rintro _ w41506 ⟨A41502, n41503, c41504, rfl, hM41507, h41505⟩
                    have hL41508 := hL41500.call hp41501 hM41507
                    refine ⟨_, _, _, rfl, hL41508, ?_⟩
                    refine ⟨sels [1, 2, 3] rfl, sels [0, 1, 2] rfl, ?_⟩
                    refine wf_v 15 rfl (v_build #[.int .i64 ((ix x1.prods x38921).lhs), .slice A41502 n41503 c41504] bd_38 rfl (by kernel_rfl)) gn rfl hns (by kernel_rfl) (by kernel_rfl) (by kernel_rfl) rfl ?_
                    refine wf_freeze (F := F) (dk := k_api_Ref) (Sm w.heap.size F w []) 0 rfl (Ow.weak hL41500.env.size h41505) (me 1 rfl) Sm.ok (Cells.flat _) fun sw41513 sb41514 h41512 => ?_
                    have hC41518 : Cells k_api_Prod (Sm w.heap.size F sw41513 sb41514).w (Sm w.heap.size F sw41513 sb41514).av ([(⟨(ix x1.prods x38921).lhs, r40474⟩ : api_Prod)] : List api_Prod) [.int .i64 ((ix x1.prods x38921).lhs), .slice A41502 n41503 c41504] := (Cells.cons (c1 := [.int .i64 ((ix x1.prods x38921).lhs), .slice A41502 n41503 c41504]) ⟨A41502, n41503, c41504, rfl, h41512⟩ Cells.nil)
                    refine wf_all [16] (by kernel_rfl) rfl ⟨on_s 16 rfl gn rfl (s_litO (xs := ([(⟨(ix x1.prods x38921).lhs, r40474⟩ : api_Prod)] : List api_Prod)) [.int .i64 ((ix x1.prods x38921).lhs), .slice A41502 n41503 c41504] bs_24_1 rfl (by kernel_rfl) rfl rfl rfl rfl fun gb41519 h41520 => ?_), trivial⟩
                    refine ⟨sels [1, 2, 3] rfl, sels [1, 2, 3] rfl, ?_⟩
                    refine wf_mark (F := F) fun sw41524 sb41525 ho41526 => ?_
                    obtain ⟨cs41530, hc41531⟩ : ∃ x : List Value, x = cs38927 ++ [.int .i64 ((ix x1.prods x38921).lhs), .slice A41502 n41503 c41504] := ⟨_, rfl⟩
                    have hC41532 : Cells k_api_Prod (Sm w.heap.size F sw41524 sb41525).w (Sm w.heap.size F sw41524 sb41525).av x40500 cs41530 := by rw [hv40501, hc41531]; exact Cells.app (Cells.older (s := Sm w.heap.size F sw38928 sb38929) hC38930 (ho41526 _ (me 1 rfl) Sm.ok)) (Cells.older (s := Sm w.heap.size F sw41513 sb41514) hC41518 (ho41526 _ (me 0 rfl) Sm.ok))
                    refine wf_all [17] (by kernel_rfl) rfl ⟨on_l 17 rfl gn rfl (s_app (zs := x40500) 1 ap_24 rfl rfl rfl h38926 (Nat.le_refl _) (Src.ownAll 0 rfl h41520 hC41518) hc41531.symm (app_len hv40501 h41520.hq) hb40502 rfl rfl fun A41527 c41528 h41529 => ?_), trivial⟩
                    unfold NxL
                    refine wf_all [18] (by kernel_rfl) rfl ⟨on_l 18 rfl gn rfl (s_val (v_fldB fo_26_2 rfl) rfl ?_), trivial⟩
                    unfold NxL
                    refine wf_all [19] (by kernel_rfl) rfl ⟨on_l 19 rfl gn rfl (s_stB (vs := [.slice A41527 (n38924 + 1) c41528]) (cs' := [.slice A14011 n14012 c14013, .slice A32681 n32682 c32683, .slice A41527 (n38924 + 1) c41528]) (M' := [.own (.slice (some ⟨gb41519, 0, none⟩) 1 1) 38 2 1 [.int .i64 ((ix x1.prods x38921).lhs), .slice A41502 n41503 c41504], .own (.slice A41527 (n38924 + 1) c41528) 38 2 (n38924 + 1) cs41530, .own (.slice A32681 n32682 c32683) 61 2 n32682 (x32680.flatMap enc_api_Sym), .own (.slice A14011 n14012 c14013) 58 2 n14012 (x14010.flatMap enc_api_TermDef), .box gb18 26 [.slice A14011 n14012 c14013, .slice A32681 n32682 c32683, .slice A41527 (n38924 + 1) c41528], .box gb16 26 [.slice none 0 0, .slice none 0 0, .slice none 0 0], .box gb14 26 [.slice A2 n3 c4, .slice A6 n7 c8, .slice A10 n11 c12]]) 4 sz_24 rfl rfl rfl rfl rfl rfl rfl rfl rfl ?_), trivial⟩
                    unfold NxL
                    refine wf_end (by kernel_rfl) ?_
                    exact g_go [0, 2, 3, 4] (d27 A41527 (n38924 + 1) c41528 h41529 cs41530 sw41524 sb41525 hC41532) ⟨rfl, rfl, rfl, rfl, trivial⟩ (.cons _ (.cons_cons _ (.cons_cons _ (.cons_cons _ (.cons_cons _ (.cons_cons _ (.cons_cons _ (.slnil)))))))) rfl
                  · refine on_s 14 rfl gn rfl (s_call [.slice A41475 n41476 c41477] rfl Try.func9 rfl rfl rfl fun w41533 hL41534 => ?_)
                    have hp41535 : List.Perm ([.own (.slice A38923 n38924 c38925) 38 2 n38924 cs38927, .own (.slice A32681 n32682 c32683) 61 2 n32682 (x32680.flatMap enc_api_Sym), .own (.slice A14011 n14012 c14013) 58 2 n14012 (x14010.flatMap enc_api_TermDef), .box gb18 26 [.slice A14011 n14012 c14013, .slice A32681 n32682 c32683, .slice A38923 n38924 c38925], .box gb16 26 [.slice none 0 0, .slice none 0 0, .slice none 0 0], .box gb14 26 [.slice A2 n3 c4, .slice A6 n7 c8, .slice A10 n11 c12]] : List Ent) (([] : List Ent) ++ ([.own (.slice A38923 n38924 c38925) 38 2 n38924 cs38927, .own (.slice A32681 n32682 c32683) 61 2 n32682 (x32680.flatMap enc_api_Sym), .own (.slice A14011 n14012 c14013) 58 2 n14012 (x14010.flatMap enc_api_TermDef), .box gb18 26 [.slice A14011 n14012 c14013, .slice A32681 n32682 c32683, .slice A38923 n38924 c38925], .box gb16 26 [.slice none 0 0, .slice none 0 0, .slice none 0 0], .box gb14 26 [.slice A2 n3 c4, .slice A6 n7 c8, .slice A10 n11 c12]] : List Ent)) := perm_of_idx [] [0, 1, 2, 3, 4, 5] rfl rfl (by kernel_rfl)
                    refine Calls.mono (trellislaw11_twinRow_calls w41533 (Fl ([] : List Snap)) ((ix x1.prods x38921).rhs) A41475 n41476 c41477 (Rw.mono h41478 (hL41534.toSt hp41535 (me 2 rfl))) (hL41534.hFl (Sl := ([] : List Snap)) hp41535 (sels [] rfl)) (hL41534.into hp41535 (Fl ([] : List Snap))) r40474 hv40475) ?_
                    rintro _ w41540 ⟨A41536, n41537, c41538, rfl, hM41541, h41539⟩
                    have hL41542 := hL41534.call hp41535 hM41541
                    refine ⟨_, _, _, rfl, hL41542, ?_⟩
                    refine ⟨sels [1, 2, 3] rfl, sels [0, 1, 2] rfl, ?_⟩
                    refine wf_v 15 rfl (v_build #[.int .i64 ((ix x1.prods x38921).lhs), .slice A41536 n41537 c41538] bd_38 rfl (by kernel_rfl)) gn rfl hns (by kernel_rfl) (by kernel_rfl) (by kernel_rfl) rfl ?_
                    refine wf_freeze (F := F) (dk := k_api_Ref) (Sm w.heap.size F w []) 0 rfl (Ow.weak hL41534.env.size h41539) (me 1 rfl) Sm.ok (Cells.flat _) fun sw41571 sb41572 h41570 => ?_
                    refine wf_all [1, 16] (by kernel_rfl) rfl ⟨?_, ?_, trivial⟩
                    · refine on_s 1 rfl gn rfl (s_val (v_ldB1 3 ld_24 rfl rfl rfl) rfl ?_)
                      refine ⟨sels [0, 1, 2] rfl, sels [1, 2, 3] rfl, ?_⟩
                      have hC41579 : Cells k_api_Prod (Sm w.heap.size F sw41571 sb41572).w (Sm w.heap.size F sw41571 sb41572).av ([(⟨(ix x1.prods x38921).lhs, r40474⟩ : api_Prod)] : List api_Prod) [.int .i64 ((ix x1.prods x38921).lhs), .slice A41536 n41537 c41538] := (Cells.cons (c1 := [.int .i64 ((ix x1.prods x38921).lhs), .slice A41536 n41537 c41538]) ⟨A41536, n41537, c41538, rfl, h41570⟩ Cells.nil)
                      refine wf_all [16] (by kernel_rfl) rfl ⟨on_s 16 rfl gn rfl (s_litO (xs := ([(⟨(ix x1.prods x38921).lhs, r40474⟩ : api_Prod)] : List api_Prod)) [.int .i64 ((ix x1.prods x38921).lhs), .slice A41536 n41537 c41538] bs_24_1 rfl (by kernel_rfl) rfl rfl rfl rfl fun gb41580 h41581 => ?_), trivial⟩
                      refine ⟨sels [1, 2, 3] rfl, sels [1, 2, 3] rfl, ?_⟩
                      refine wf_mark (F := F) fun sw41585 sb41586 ho41587 => ?_
                      obtain ⟨cs41591, hc41592⟩ : ∃ x : List Value, x = cs38927 ++ [.int .i64 ((ix x1.prods x38921).lhs), .slice A41536 n41537 c41538] := ⟨_, rfl⟩
                      have hC41593 : Cells k_api_Prod (Sm w.heap.size F sw41585 sb41586).w (Sm w.heap.size F sw41585 sb41586).av x40500 cs41591 := by rw [hv40501, hc41592]; exact Cells.app (Cells.older (s := Sm w.heap.size F sw38928 sb38929) hC38930 (ho41587 _ (me 1 rfl) Sm.ok)) (Cells.older (s := Sm w.heap.size F sw41571 sb41572) hC41579 (ho41587 _ (me 0 rfl) Sm.ok))
                      refine wf_all [17] (by kernel_rfl) rfl ⟨on_l 17 rfl gn rfl (s_app (zs := x40500) 1 ap_24 rfl rfl rfl h38926 (Nat.le_refl _) (Src.ownAll 0 rfl h41581 hC41579) hc41592.symm (app_len hv40501 h41581.hq) hb40502 rfl rfl fun A41588 c41589 h41590 => ?_), trivial⟩
                      unfold NxL
                      refine wf_all [18] (by kernel_rfl) rfl ⟨on_l 18 rfl gn rfl (s_val (v_fldB fo_26_2 rfl) rfl ?_), trivial⟩
                      unfold NxL
                      refine wf_all [19] (by kernel_rfl) rfl ⟨on_l 19 rfl gn rfl (s_stB (vs := [.slice A41588 (n38924 + 1) c41589]) (cs' := [.slice A14011 n14012 c14013, .slice A32681 n32682 c32683, .slice A41588 (n38924 + 1) c41589]) (M' := [.own (.slice (some ⟨gb41580, 0, none⟩) 1 1) 38 2 1 [.int .i64 ((ix x1.prods x38921).lhs), .slice A41536 n41537 c41538], .own (.slice A41588 (n38924 + 1) c41589) 38 2 (n38924 + 1) cs41591, .own (.slice A32681 n32682 c32683) 61 2 n32682 (x32680.flatMap enc_api_Sym), .own (.slice A14011 n14012 c14013) 58 2 n14012 (x14010.flatMap enc_api_TermDef), .box gb18 26 [.slice A14011 n14012 c14013, .slice A32681 n32682 c32683, .slice A41588 (n38924 + 1) c41589], .box gb16 26 [.slice none 0 0, .slice none 0 0, .slice none 0 0], .box gb14 26 [.slice A2 n3 c4, .slice A6 n7 c8, .slice A10 n11 c12]]) 4 sz_24 rfl rfl rfl rfl rfl rfl rfl rfl rfl ?_), trivial⟩
                      unfold NxL
                      refine wf_end (by kernel_rfl) ?_
                      exact g_go [0, 2, 3, 4] (d27 A41588 (n38924 + 1) c41589 h41590 cs41591 sw41585 sb41586 hC41593) ⟨rfl, rfl, rfl, rfl, trivial⟩ (.cons _ (.cons_cons _ (.cons_cons _ (.cons_cons _ (.cons_cons _ (.cons_cons _ (.cons_cons _ (.slnil)))))))) rfl
                    · have hC41594 : Cells k_api_Prod (Sm w.heap.size F sw41571 sb41572).w (Sm w.heap.size F sw41571 sb41572).av ([(⟨(ix x1.prods x38921).lhs, r40474⟩ : api_Prod)] : List api_Prod) [.int .i64 ((ix x1.prods x38921).lhs), .slice A41536 n41537 c41538] := (Cells.cons (c1 := [.int .i64 ((ix x1.prods x38921).lhs), .slice A41536 n41537 c41538]) ⟨A41536, n41537, c41538, rfl, h41570⟩ Cells.nil)
                      refine on_s 16 rfl gn rfl (s_litO (xs := ([(⟨(ix x1.prods x38921).lhs, r40474⟩ : api_Prod)] : List api_Prod)) [.int .i64 ((ix x1.prods x38921).lhs), .slice A41536 n41537 c41538] bs_24_1 rfl (by kernel_rfl) rfl rfl rfl rfl fun gb41595 h41596 => ?_)
                      refine ⟨sels [1, 2, 3] rfl, sels [1, 2, 3] rfl, ?_⟩
                      refine wf_all [1] (by kernel_rfl) rfl ⟨on_s 1 rfl gn rfl (s_val (v_ldB1 4 ld_24 rfl rfl rfl) rfl ?_), trivial⟩
                      refine ⟨sels [1, 2, 3] rfl, sels [1, 2, 3] rfl, ?_⟩
                      refine wf_mark (F := F) fun sw41600 sb41601 ho41602 => ?_
                      obtain ⟨cs41606, hc41607⟩ : ∃ x : List Value, x = cs38927 ++ [.int .i64 ((ix x1.prods x38921).lhs), .slice A41536 n41537 c41538] := ⟨_, rfl⟩
                      have hC41608 : Cells k_api_Prod (Sm w.heap.size F sw41600 sb41601).w (Sm w.heap.size F sw41600 sb41601).av x40500 cs41606 := by rw [hv40501, hc41607]; exact Cells.app (Cells.older (s := Sm w.heap.size F sw38928 sb38929) hC38930 (ho41602 _ (me 1 rfl) Sm.ok)) (Cells.older (s := Sm w.heap.size F sw41571 sb41572) hC41594 (ho41602 _ (me 0 rfl) Sm.ok))
                      refine wf_all [17] (by kernel_rfl) rfl ⟨on_l 17 rfl gn rfl (s_app (zs := x40500) 1 ap_24 rfl rfl rfl h38926 (Nat.le_refl _) (Src.ownAll 0 rfl h41596 hC41594) hc41607.symm (app_len hv40501 h41596.hq) hb40502 rfl rfl fun A41603 c41604 h41605 => ?_), trivial⟩
                      unfold NxL
                      refine wf_all [18] (by kernel_rfl) rfl ⟨on_l 18 rfl gn rfl (s_val (v_fldB fo_26_2 rfl) rfl ?_), trivial⟩
                      unfold NxL
                      refine wf_all [19] (by kernel_rfl) rfl ⟨on_l 19 rfl gn rfl (s_stB (vs := [.slice A41603 (n38924 + 1) c41604]) (cs' := [.slice A14011 n14012 c14013, .slice A32681 n32682 c32683, .slice A41603 (n38924 + 1) c41604]) (M' := [.own (.slice (some ⟨gb41595, 0, none⟩) 1 1) 38 2 1 [.int .i64 ((ix x1.prods x38921).lhs), .slice A41536 n41537 c41538], .own (.slice A41603 (n38924 + 1) c41604) 38 2 (n38924 + 1) cs41606, .own (.slice A32681 n32682 c32683) 61 2 n32682 (x32680.flatMap enc_api_Sym), .own (.slice A14011 n14012 c14013) 58 2 n14012 (x14010.flatMap enc_api_TermDef), .box gb18 26 [.slice A14011 n14012 c14013, .slice A32681 n32682 c32683, .slice A41603 (n38924 + 1) c41604], .box gb16 26 [.slice none 0 0, .slice none 0 0, .slice none 0 0], .box gb14 26 [.slice A2 n3 c4, .slice A6 n7 c8, .slice A10 n11 c12]]) 4 sz_24 rfl rfl rfl rfl rfl rfl rfl rfl rfl ?_), trivial⟩
                      unfold NxL
                      refine wf_end (by kernel_rfl) ?_
                      exact g_go [0, 2, 3, 4] (d27 A41603 (n38924 + 1) c41604 h41605 cs41606 sw41600 sb41601 hC41608) ⟨rfl, rfl, rfl, rfl, trivial⟩ (.cons _ (.cons_cons _ (.cons_cons _ (.cons_cons _ (.cons_cons _ (.cons_cons _ (.cons_cons _ (.slnil)))))))) rfl
              · refine on_s 9 rfl gn rfl (s_val (v_ldB1 5 ld_24 rfl rfl rfl) rfl ?_)
                refine ⟨sels [0, 1, 2] rfl, sels [0, 1, 2] rfl, ?_⟩
                obtain ⟨ce41610, hK41611, hr41609⟩ := Rw.read (s := St w []) h13 hb40456
                obtain ⟨A41612, n41613, c41614, rfl, h41615⟩ := hK41611
                refine wf_v 11 rfl (v_idxR (s := St w []) slE_24 rfl rfl h13 hb40456) gn rfl hns (by kernel_rfl) (by kernel_rfl) (by kernel_rfl) rfl ?_
                refine wf_v 12 rfl (v_fldA fo_38_1 rfl) gn rfl hns (by kernel_rfl) (by kernel_rfl) (by kernel_rfl) rfl ?_
                refine wf_v 13 rfl (v_ldA1 (kk := (x38921 : Int).toNat * 2) (j := 1) (St w []) ld_27 rfl hr41609 rfl (me 2 rfl)) gn rfl hns (by kernel_rfl) (by kernel_rfl) (by kernel_rfl) rfl ?_
                refine wf_all [1, 3, 14] (by kernel_rfl) rfl ⟨?_, ?_, ?_, trivial⟩
                · refine on_s 1 rfl gn rfl (s_val (v_ldB1 3 ld_24 rfl rfl rfl) rfl ?_)
                  refine ⟨sels [0, 1, 2] rfl, sels [0, 1, 2] rfl, ?_⟩
                  refine wf_all [3, 14] (by kernel_rfl) rfl ⟨?_, ?_, trivial⟩
                  · refine on_s 3 rfl gn rfl (s_val (v_ldB1 5 ld_24 rfl rfl rfl) rfl ?_)
                    refine ⟨sels [0, 1, 2] rfl, sels [0, 1, 2] rfl, ?_⟩
                    obtain ⟨ce41637, hK41638, hr41636⟩ := Rw.read (s := St w []) h13 hb40456
                    obtain ⟨A41639, n41640, c41641, rfl, h41642⟩ := hK41638
                    refine wf_v 5 rfl (v_idxR (s := St w []) slE_24 rfl rfl h13 hb40456) gn rfl hns (by kernel_rfl) (by kernel_rfl) (by kernel_rfl) rfl ?_
                    refine wf_v 6 rfl (v_fldA fo_38_0 rfl) gn rfl hns (by kernel_rfl) (by kernel_rfl) (by kernel_rfl) rfl ?_
                    refine wf_v 7 rfl (v_ldA1 (kk := (x38921 : Int).toNat * 2) (j := 0) (St w []) ld_3 rfl hr41636 rfl (me 2 rfl)) gn rfl hns (by kernel_rfl) (by kernel_rfl) (by kernel_rfl) rfl ?_
                    refine wf_all [14] (by kernel_rfl) rfl ⟨on_s 14 rfl gn rfl (s_call [.slice A41612 n41613 c41614] rfl Try.func9 rfl rfl rfl fun w41653 hL41654 => ?_), trivial⟩
                    have hp41655 : List.Perm ([.own (.slice A38923 n38924 c38925) 38 2 n38924 cs38927, .own (.slice A32681 n32682 c32683) 61 2 n32682 (x32680.flatMap enc_api_Sym), .own (.slice A14011 n14012 c14013) 58 2 n14012 (x14010.flatMap enc_api_TermDef), .box gb18 26 [.slice A14011 n14012 c14013, .slice A32681 n32682 c32683, .slice A38923 n38924 c38925], .box gb16 26 [.slice none 0 0, .slice none 0 0, .slice none 0 0], .box gb14 26 [.slice A2 n3 c4, .slice A6 n7 c8, .slice A10 n11 c12]] : List Ent) (([] : List Ent) ++ ([.own (.slice A38923 n38924 c38925) 38 2 n38924 cs38927, .own (.slice A32681 n32682 c32683) 61 2 n32682 (x32680.flatMap enc_api_Sym), .own (.slice A14011 n14012 c14013) 58 2 n14012 (x14010.flatMap enc_api_TermDef), .box gb18 26 [.slice A14011 n14012 c14013, .slice A32681 n32682 c32683, .slice A38923 n38924 c38925], .box gb16 26 [.slice none 0 0, .slice none 0 0, .slice none 0 0], .box gb14 26 [.slice A2 n3 c4, .slice A6 n7 c8, .slice A10 n11 c12]] : List Ent)) := perm_of_idx [] [0, 1, 2, 3, 4, 5] rfl rfl (by kernel_rfl)
                    refine Calls.mono (trellislaw11_twinRow_calls w41653 (Fl ([] : List Snap)) ((ix x1.prods x38921).rhs) A41612 n41613 c41614 (Rw.mono h41615 (hL41654.toSt hp41655 (me 2 rfl))) (hL41654.hFl (Sl := ([] : List Snap)) hp41655 (sels [] rfl)) (hL41654.into hp41655 (Fl ([] : List Snap))) r40474 hv40475) ?_
                    rintro _ w41660 ⟨A41656, n41657, c41658, rfl, hM41661, h41659⟩
                    have hL41662 := hL41654.call hp41655 hM41661
                    refine ⟨_, _, _, rfl, hL41662, ?_⟩
                    refine ⟨sels [1, 2, 3] rfl, sels [0, 1, 2] rfl, ?_⟩
                    refine wf_v 15 rfl (v_build #[.int .i64 ((ix x1.prods x38921).lhs), .slice A41656 n41657 c41658] bd_38 rfl (by kernel_rfl)) gn rfl hns (by kernel_rfl) (by kernel_rfl) (by kernel_rfl) rfl ?_
                    refine wf_freeze (F := F) (dk := k_api_Ref) (Sm w.heap.size F w []) 0 rfl (Ow.weak hL41654.env.size h41659) (me 1 rfl) Sm.ok (Cells.flat _) fun sw41667 sb41668 h41666 => ?_
                    have hC41672 : Cells k_api_Prod (Sm w.heap.size F sw41667 sb41668).w (Sm w.heap.size F sw41667 sb41668).av ([(⟨(ix x1.prods x38921).lhs, r40474⟩ : api_Prod)] : List api_Prod) [.int .i64 ((ix x1.prods x38921).lhs), .slice A41656 n41657 c41658] := (Cells.cons (c1 := [.int .i64 ((ix x1.prods x38921).lhs), .slice A41656 n41657 c41658]) ⟨A41656, n41657, c41658, rfl, h41666⟩ Cells.nil)
                    refine wf_all [16] (by kernel_rfl) rfl ⟨on_s 16 rfl gn rfl (s_litO (xs := ([(⟨(ix x1.prods x38921).lhs, r40474⟩ : api_Prod)] : List api_Prod)) [.int .i64 ((ix x1.prods x38921).lhs), .slice A41656 n41657 c41658] bs_24_1 rfl (by kernel_rfl) rfl rfl rfl rfl fun gb41673 h41674 => ?_), trivial⟩
                    refine ⟨sels [1, 2, 3] rfl, sels [1, 2, 3] rfl, ?_⟩
                    refine wf_mark (F := F) fun sw41678 sb41679 ho41680 => ?_
                    obtain ⟨cs41684, hc41685⟩ : ∃ x : List Value, x = cs38927 ++ [.int .i64 ((ix x1.prods x38921).lhs), .slice A41656 n41657 c41658] := ⟨_, rfl⟩
                    have hC41686 : Cells k_api_Prod (Sm w.heap.size F sw41678 sb41679).w (Sm w.heap.size F sw41678 sb41679).av x40500 cs41684 := by rw [hv40501, hc41685]; exact Cells.app (Cells.older (s := Sm w.heap.size F sw38928 sb38929) hC38930 (ho41680 _ (me 1 rfl) Sm.ok)) (Cells.older (s := Sm w.heap.size F sw41667 sb41668) hC41672 (ho41680 _ (me 0 rfl) Sm.ok))
                    refine wf_all [17] (by kernel_rfl) rfl ⟨on_l 17 rfl gn rfl (s_app (zs := x40500) 1 ap_24 rfl rfl rfl h38926 (Nat.le_refl _) (Src.ownAll 0 rfl h41674 hC41672) hc41685.symm (app_len hv40501 h41674.hq) hb40502 rfl rfl fun A41681 c41682 h41683 => ?_), trivial⟩
                    unfold NxL
                    refine wf_all [18] (by kernel_rfl) rfl ⟨on_l 18 rfl gn rfl (s_val (v_fldB fo_26_2 rfl) rfl ?_), trivial⟩
                    unfold NxL
                    refine wf_all [19] (by kernel_rfl) rfl ⟨on_l 19 rfl gn rfl (s_stB (vs := [.slice A41681 (n38924 + 1) c41682]) (cs' := [.slice A14011 n14012 c14013, .slice A32681 n32682 c32683, .slice A41681 (n38924 + 1) c41682]) (M' := [.own (.slice (some ⟨gb41673, 0, none⟩) 1 1) 38 2 1 [.int .i64 ((ix x1.prods x38921).lhs), .slice A41656 n41657 c41658], .own (.slice A41681 (n38924 + 1) c41682) 38 2 (n38924 + 1) cs41684, .own (.slice A32681 n32682 c32683) 61 2 n32682 (x32680.flatMap enc_api_Sym), .own (.slice A14011 n14012 c14013) 58 2 n14012 (x14010.flatMap enc_api_TermDef), .box gb18 26 [.slice A14011 n14012 c14013, .slice A32681 n32682 c32683, .slice A41681 (n38924 + 1) c41682], .box gb16 26 [.slice none 0 0, .slice none 0 0, .slice none 0 0], .box gb14 26 [.slice A2 n3 c4, .slice A6 n7 c8, .slice A10 n11 c12]]) 4 sz_24 rfl rfl rfl rfl rfl rfl rfl rfl rfl ?_), trivial⟩
                    unfold NxL
                    refine wf_end (by kernel_rfl) ?_
                    exact g_go [0, 2, 3, 4] (d27 A41681 (n38924 + 1) c41682 h41683 cs41684 sw41678 sb41679 hC41686) ⟨rfl, rfl, rfl, rfl, trivial⟩ (.cons _ (.cons_cons _ (.cons_cons _ (.cons_cons _ (.cons_cons _ (.cons_cons _ (.cons_cons _ (.slnil)))))))) rfl
                  · refine on_s 14 rfl gn rfl (s_call [.slice A41612 n41613 c41614] rfl Try.func9 rfl rfl rfl fun w41687 hL41688 => ?_)
                    have hp41689 : List.Perm ([.own (.slice A38923 n38924 c38925) 38 2 n38924 cs38927, .own (.slice A32681 n32682 c32683) 61 2 n32682 (x32680.flatMap enc_api_Sym), .own (.slice A14011 n14012 c14013) 58 2 n14012 (x14010.flatMap enc_api_TermDef), .box gb18 26 [.slice A14011 n14012 c14013, .slice A32681 n32682 c32683, .slice A38923 n38924 c38925], .box gb16 26 [.slice none 0 0, .slice none 0 0, .slice none 0 0], .box gb14 26 [.slice A2 n3 c4, .slice A6 n7 c8, .slice A10 n11 c12]] : List Ent) (([] : List Ent) ++ ([.own (.slice A38923 n38924 c38925) 38 2 n38924 cs38927, .own (.slice A32681 n32682 c32683) 61 2 n32682 (x32680.flatMap enc_api_Sym), .own (.slice A14011 n14012 c14013) 58 2 n14012 (x14010.flatMap enc_api_TermDef), .box gb18 26 [.slice A14011 n14012 c14013, .slice A32681 n32682 c32683, .slice A38923 n38924 c38925], .box gb16 26 [.slice none 0 0, .slice none 0 0, .slice none 0 0], .box gb14 26 [.slice A2 n3 c4, .slice A6 n7 c8, .slice A10 n11 c12]] : List Ent)) := perm_of_idx [] [0, 1, 2, 3, 4, 5] rfl rfl (by kernel_rfl)
                    refine Calls.mono (trellislaw11_twinRow_calls w41687 (Fl ([] : List Snap)) ((ix x1.prods x38921).rhs) A41612 n41613 c41614 (Rw.mono h41615 (hL41688.toSt hp41689 (me 2 rfl))) (hL41688.hFl (Sl := ([] : List Snap)) hp41689 (sels [] rfl)) (hL41688.into hp41689 (Fl ([] : List Snap))) r40474 hv40475) ?_
                    rintro _ w41694 ⟨A41690, n41691, c41692, rfl, hM41695, h41693⟩
                    have hL41696 := hL41688.call hp41689 hM41695
                    refine ⟨_, _, _, rfl, hL41696, ?_⟩
                    refine ⟨sels [1, 2, 3] rfl, sels [0, 1, 2] rfl, ?_⟩
                    refine wf_all [3] (by kernel_rfl) rfl ⟨on_s 3 rfl gn rfl (s_val (v_ldB1 6 ld_24 rfl rfl rfl) rfl ?_), trivial⟩
                    refine ⟨sels [1, 2, 3] rfl, sels [0, 1, 2] rfl, ?_⟩
                    obtain ⟨ce41698, hK41699, hr41697⟩ := Rw.read (s := St w []) h13 hb40456
                    obtain ⟨A41700, n41701, c41702, rfl, h41703⟩ := hK41699
                    refine wf_v 5 rfl (v_idxR (s := St w []) slE_24 rfl rfl h13 hb40456) gn rfl hns (by kernel_rfl) (by kernel_rfl) (by kernel_rfl) rfl ?_
                    refine wf_v 6 rfl (v_fldA fo_38_0 rfl) gn rfl hns (by kernel_rfl) (by kernel_rfl) (by kernel_rfl) rfl ?_
                    refine wf_v 7 rfl (v_ldA1 (kk := (x38921 : Int).toNat * 2) (j := 0) (St w []) ld_3 rfl hr41697 rfl (me 2 rfl)) gn rfl hns (by kernel_rfl) (by kernel_rfl) (by kernel_rfl) rfl ?_
                    refine wf_v 15 rfl (v_build #[.int .i64 ((ix x1.prods x38921).lhs), .slice A41690 n41691 c41692] bd_38 rfl (by kernel_rfl)) gn rfl hns (by kernel_rfl) (by kernel_rfl) (by kernel_rfl) rfl ?_
                    refine wf_freeze (F := F) (dk := k_api_Ref) (Sm w.heap.size F w []) 0 rfl (Ow.weak hL41688.env.size h41693) (me 1 rfl) Sm.ok (Cells.flat _) fun sw41708 sb41709 h41707 => ?_
                    have hC41713 : Cells k_api_Prod (Sm w.heap.size F sw41708 sb41709).w (Sm w.heap.size F sw41708 sb41709).av ([(⟨(ix x1.prods x38921).lhs, r40474⟩ : api_Prod)] : List api_Prod) [.int .i64 ((ix x1.prods x38921).lhs), .slice A41690 n41691 c41692] := (Cells.cons (c1 := [.int .i64 ((ix x1.prods x38921).lhs), .slice A41690 n41691 c41692]) ⟨A41690, n41691, c41692, rfl, h41707⟩ Cells.nil)
                    refine wf_all [16] (by kernel_rfl) rfl ⟨on_s 16 rfl gn rfl (s_litO (xs := ([(⟨(ix x1.prods x38921).lhs, r40474⟩ : api_Prod)] : List api_Prod)) [.int .i64 ((ix x1.prods x38921).lhs), .slice A41690 n41691 c41692] bs_24_1 rfl (by kernel_rfl) rfl rfl rfl rfl fun gb41714 h41715 => ?_), trivial⟩
                    refine ⟨sels [1, 2, 3] rfl, sels [1, 2, 3] rfl, ?_⟩
                    refine wf_mark (F := F) fun sw41719 sb41720 ho41721 => ?_
                    obtain ⟨cs41725, hc41726⟩ : ∃ x : List Value, x = cs38927 ++ [.int .i64 ((ix x1.prods x38921).lhs), .slice A41690 n41691 c41692] := ⟨_, rfl⟩
                    have hC41727 : Cells k_api_Prod (Sm w.heap.size F sw41719 sb41720).w (Sm w.heap.size F sw41719 sb41720).av x40500 cs41725 := by rw [hv40501, hc41726]; exact Cells.app (Cells.older (s := Sm w.heap.size F sw38928 sb38929) hC38930 (ho41721 _ (me 1 rfl) Sm.ok)) (Cells.older (s := Sm w.heap.size F sw41708 sb41709) hC41713 (ho41721 _ (me 0 rfl) Sm.ok))
                    refine wf_all [17] (by kernel_rfl) rfl ⟨on_l 17 rfl gn rfl (s_app (zs := x40500) 1 ap_24 rfl rfl rfl h38926 (Nat.le_refl _) (Src.ownAll 0 rfl h41715 hC41713) hc41726.symm (app_len hv40501 h41715.hq) hb40502 rfl rfl fun A41722 c41723 h41724 => ?_), trivial⟩
                    unfold NxL
                    refine wf_all [18] (by kernel_rfl) rfl ⟨on_l 18 rfl gn rfl (s_val (v_fldB fo_26_2 rfl) rfl ?_), trivial⟩
                    unfold NxL
                    refine wf_all [19] (by kernel_rfl) rfl ⟨on_l 19 rfl gn rfl (s_stB (vs := [.slice A41722 (n38924 + 1) c41723]) (cs' := [.slice A14011 n14012 c14013, .slice A32681 n32682 c32683, .slice A41722 (n38924 + 1) c41723]) (M' := [.own (.slice (some ⟨gb41714, 0, none⟩) 1 1) 38 2 1 [.int .i64 ((ix x1.prods x38921).lhs), .slice A41690 n41691 c41692], .own (.slice A41722 (n38924 + 1) c41723) 38 2 (n38924 + 1) cs41725, .own (.slice A32681 n32682 c32683) 61 2 n32682 (x32680.flatMap enc_api_Sym), .own (.slice A14011 n14012 c14013) 58 2 n14012 (x14010.flatMap enc_api_TermDef), .box gb18 26 [.slice A14011 n14012 c14013, .slice A32681 n32682 c32683, .slice A41722 (n38924 + 1) c41723], .box gb16 26 [.slice none 0 0, .slice none 0 0, .slice none 0 0], .box gb14 26 [.slice A2 n3 c4, .slice A6 n7 c8, .slice A10 n11 c12]]) 4 sz_24 rfl rfl rfl rfl rfl rfl rfl rfl rfl ?_), trivial⟩
                    unfold NxL
                    refine wf_end (by kernel_rfl) ?_
                    exact g_go [0, 2, 3, 4] (d27 A41722 (n38924 + 1) c41723 h41724 cs41725 sw41719 sb41720 hC41727) ⟨rfl, rfl, rfl, rfl, trivial⟩ (.cons _ (.cons_cons _ (.cons_cons _ (.cons_cons _ (.cons_cons _ (.cons_cons _ (.cons_cons _ (.slnil)))))))) rfl
                · refine on_s 3 rfl gn rfl (s_val (v_ldB1 5 ld_24 rfl rfl rfl) rfl ?_)
                  refine ⟨sels [0, 1, 2] rfl, sels [0, 1, 2] rfl, ?_⟩
                  obtain ⟨ce41729, hK41730, hr41728⟩ := Rw.read (s := St w []) h13 hb40456
                  obtain ⟨A41731, n41732, c41733, rfl, h41734⟩ := hK41730
                  refine wf_v 5 rfl (v_idxR (s := St w []) slE_24 rfl rfl h13 hb40456) gn rfl hns (by kernel_rfl) (by kernel_rfl) (by kernel_rfl) rfl ?_
                  refine wf_v 6 rfl (v_fldA fo_38_0 rfl) gn rfl hns (by kernel_rfl) (by kernel_rfl) (by kernel_rfl) rfl ?_
                  refine wf_v 7 rfl (v_ldA1 (kk := (x38921 : Int).toNat * 2) (j := 0) (St w []) ld_3 rfl hr41728 rfl (me 2 rfl)) gn rfl hns (by kernel_rfl) (by kernel_rfl) (by kernel_rfl) rfl ?_
                  refine wf_all [1, 14] (by kernel_rfl) rfl ⟨?_, ?_, trivial⟩
                  · refine on_s 1 rfl gn rfl (s_val (v_ldB1 3 ld_24 rfl rfl rfl) rfl ?_)
                    refine ⟨sels [0, 1, 2] rfl, sels [0, 1, 2] rfl, ?_⟩
                    refine wf_all [14] (by kernel_rfl) rfl ⟨on_s 14 rfl gn rfl (s_call [.slice A41612 n41613 c41614] rfl Try.func9 rfl rfl rfl fun w41755 hL41756 => ?_), trivial⟩
                    have hp41757 : List.Perm ([.own (.slice A38923 n38924 c38925) 38 2 n38924 cs38927, .own (.slice A32681 n32682 c32683) 61 2 n32682 (x32680.flatMap enc_api_Sym), .own (.slice A14011 n14012 c14013) 58 2 n14012 (x14010.flatMap enc_api_TermDef), .box gb18 26 [.slice A14011 n14012 c14013, .slice A32681 n32682 c32683, .slice A38923 n38924 c38925], .box gb16 26 [.slice none 0 0, .slice none 0 0, .slice none 0 0], .box gb14 26 [.slice A2 n3 c4, .slice A6 n7 c8, .slice A10 n11 c12]] : List Ent) (([] : List Ent) ++ ([.own (.slice A38923 n38924 c38925) 38 2 n38924 cs38927, .own (.slice A32681 n32682 c32683) 61 2 n32682 (x32680.flatMap enc_api_Sym), .own (.slice A14011 n14012 c14013) 58 2 n14012 (x14010.flatMap enc_api_TermDef), .box gb18 26 [.slice A14011 n14012 c14013, .slice A32681 n32682 c32683, .slice A38923 n38924 c38925], .box gb16 26 [.slice none 0 0, .slice none 0 0, .slice none 0 0], .box gb14 26 [.slice A2 n3 c4, .slice A6 n7 c8, .slice A10 n11 c12]] : List Ent)) := perm_of_idx [] [0, 1, 2, 3, 4, 5] rfl rfl (by kernel_rfl)
                    refine Calls.mono (trellislaw11_twinRow_calls w41755 (Fl ([] : List Snap)) ((ix x1.prods x38921).rhs) A41612 n41613 c41614 (Rw.mono h41615 (hL41756.toSt hp41757 (me 2 rfl))) (hL41756.hFl (Sl := ([] : List Snap)) hp41757 (sels [] rfl)) (hL41756.into hp41757 (Fl ([] : List Snap))) r40474 hv40475) ?_
                    rintro _ w41762 ⟨A41758, n41759, c41760, rfl, hM41763, h41761⟩
                    have hL41764 := hL41756.call hp41757 hM41763
                    refine ⟨_, _, _, rfl, hL41764, ?_⟩
                    refine ⟨sels [1, 2, 3] rfl, sels [0, 1, 2] rfl, ?_⟩
                    refine wf_v 15 rfl (v_build #[.int .i64 ((ix x1.prods x38921).lhs), .slice A41758 n41759 c41760] bd_38 rfl (by kernel_rfl)) gn rfl hns (by kernel_rfl) (by kernel_rfl) (by kernel_rfl) rfl ?_
                    refine wf_freeze (F := F) (dk := k_api_Ref) (Sm w.heap.size F w []) 0 rfl (Ow.weak hL41756.env.size h41761) (me 1 rfl) Sm.ok (Cells.flat _) fun sw41769 sb41770 h41768 => ?_
                    have hC41774 : Cells k_api_Prod (Sm w.heap.size F sw41769 sb41770).w (Sm w.heap.size F sw41769 sb41770).av ([(⟨(ix x1.prods x38921).lhs, r40474⟩ : api_Prod)] : List api_Prod) [.int .i64 ((ix x1.prods x38921).lhs), .slice A41758 n41759 c41760] := (Cells.cons (c1 := [.int .i64 ((ix x1.prods x38921).lhs), .slice A41758 n41759 c41760]) ⟨A41758, n41759, c41760, rfl, h41768⟩ Cells.nil)
                    refine wf_all [16] (by kernel_rfl) rfl ⟨on_s 16 rfl gn rfl (s_litO (xs := ([(⟨(ix x1.prods x38921).lhs, r40474⟩ : api_Prod)] : List api_Prod)) [.int .i64 ((ix x1.prods x38921).lhs), .slice A41758 n41759 c41760] bs_24_1 rfl (by kernel_rfl) rfl rfl rfl rfl fun gb41775 h41776 => ?_), trivial⟩
                    refine ⟨sels [1, 2, 3] rfl, sels [1, 2, 3] rfl, ?_⟩
                    refine wf_mark (F := F) fun sw41780 sb41781 ho41782 => ?_
                    obtain ⟨cs41786, hc41787⟩ : ∃ x : List Value, x = cs38927 ++ [.int .i64 ((ix x1.prods x38921).lhs), .slice A41758 n41759 c41760] := ⟨_, rfl⟩
                    have hC41788 : Cells k_api_Prod (Sm w.heap.size F sw41780 sb41781).w (Sm w.heap.size F sw41780 sb41781).av x40500 cs41786 := by rw [hv40501, hc41787]; exact Cells.app (Cells.older (s := Sm w.heap.size F sw38928 sb38929) hC38930 (ho41782 _ (me 1 rfl) Sm.ok)) (Cells.older (s := Sm w.heap.size F sw41769 sb41770) hC41774 (ho41782 _ (me 0 rfl) Sm.ok))
                    refine wf_all [17] (by kernel_rfl) rfl ⟨on_l 17 rfl gn rfl (s_app (zs := x40500) 1 ap_24 rfl rfl rfl h38926 (Nat.le_refl _) (Src.ownAll 0 rfl h41776 hC41774) hc41787.symm (app_len hv40501 h41776.hq) hb40502 rfl rfl fun A41783 c41784 h41785 => ?_), trivial⟩
                    unfold NxL
                    refine wf_all [18] (by kernel_rfl) rfl ⟨on_l 18 rfl gn rfl (s_val (v_fldB fo_26_2 rfl) rfl ?_), trivial⟩
                    unfold NxL
                    refine wf_all [19] (by kernel_rfl) rfl ⟨on_l 19 rfl gn rfl (s_stB (vs := [.slice A41783 (n38924 + 1) c41784]) (cs' := [.slice A14011 n14012 c14013, .slice A32681 n32682 c32683, .slice A41783 (n38924 + 1) c41784]) (M' := [.own (.slice (some ⟨gb41775, 0, none⟩) 1 1) 38 2 1 [.int .i64 ((ix x1.prods x38921).lhs), .slice A41758 n41759 c41760], .own (.slice A41783 (n38924 + 1) c41784) 38 2 (n38924 + 1) cs41786, .own (.slice A32681 n32682 c32683) 61 2 n32682 (x32680.flatMap enc_api_Sym), .own (.slice A14011 n14012 c14013) 58 2 n14012 (x14010.flatMap enc_api_TermDef), .box gb18 26 [.slice A14011 n14012 c14013, .slice A32681 n32682 c32683, .slice A41783 (n38924 + 1) c41784], .box gb16 26 [.slice none 0 0, .slice none 0 0, .slice none 0 0], .box gb14 26 [.slice A2 n3 c4, .slice A6 n7 c8, .slice A10 n11 c12]]) 4 sz_24 rfl rfl rfl rfl rfl rfl rfl rfl rfl ?_), trivial⟩
                    unfold NxL
                    refine wf_end (by kernel_rfl) ?_
                    exact g_go [0, 2, 3, 4] (d27 A41783 (n38924 + 1) c41784 h41785 cs41786 sw41780 sb41781 hC41788) ⟨rfl, rfl, rfl, rfl, trivial⟩ (.cons _ (.cons_cons _ (.cons_cons _ (.cons_cons _ (.cons_cons _ (.cons_cons _ (.cons_cons _ (.slnil)))))))) rfl
                  · refine on_s 14 rfl gn rfl (s_call [.slice A41612 n41613 c41614] rfl Try.func9 rfl rfl rfl fun w41789 hL41790 => ?_)
                    have hp41791 : List.Perm ([.own (.slice A38923 n38924 c38925) 38 2 n38924 cs38927, .own (.slice A32681 n32682 c32683) 61 2 n32682 (x32680.flatMap enc_api_Sym), .own (.slice A14011 n14012 c14013) 58 2 n14012 (x14010.flatMap enc_api_TermDef), .box gb18 26 [.slice A14011 n14012 c14013, .slice A32681 n32682 c32683, .slice A38923 n38924 c38925], .box gb16 26 [.slice none 0 0, .slice none 0 0, .slice none 0 0], .box gb14 26 [.slice A2 n3 c4, .slice A6 n7 c8, .slice A10 n11 c12]] : List Ent) (([] : List Ent) ++ ([.own (.slice A38923 n38924 c38925) 38 2 n38924 cs38927, .own (.slice A32681 n32682 c32683) 61 2 n32682 (x32680.flatMap enc_api_Sym), .own (.slice A14011 n14012 c14013) 58 2 n14012 (x14010.flatMap enc_api_TermDef), .box gb18 26 [.slice A14011 n14012 c14013, .slice A32681 n32682 c32683, .slice A38923 n38924 c38925], .box gb16 26 [.slice none 0 0, .slice none 0 0, .slice none 0 0], .box gb14 26 [.slice A2 n3 c4, .slice A6 n7 c8, .slice A10 n11 c12]] : List Ent)) := perm_of_idx [] [0, 1, 2, 3, 4, 5] rfl rfl (by kernel_rfl)
                    refine Calls.mono (trellislaw11_twinRow_calls w41789 (Fl ([] : List Snap)) ((ix x1.prods x38921).rhs) A41612 n41613 c41614 (Rw.mono h41615 (hL41790.toSt hp41791 (me 2 rfl))) (hL41790.hFl (Sl := ([] : List Snap)) hp41791 (sels [] rfl)) (hL41790.into hp41791 (Fl ([] : List Snap))) r40474 hv40475) ?_
                    rintro _ w41796 ⟨A41792, n41793, c41794, rfl, hM41797, h41795⟩
                    have hL41798 := hL41790.call hp41791 hM41797
                    refine ⟨_, _, _, rfl, hL41798, ?_⟩
                    refine ⟨sels [1, 2, 3] rfl, sels [0, 1, 2] rfl, ?_⟩
                    refine wf_v 15 rfl (v_build #[.int .i64 ((ix x1.prods x38921).lhs), .slice A41792 n41793 c41794] bd_38 rfl (by kernel_rfl)) gn rfl hns (by kernel_rfl) (by kernel_rfl) (by kernel_rfl) rfl ?_
                    refine wf_freeze (F := F) (dk := k_api_Ref) (Sm w.heap.size F w []) 0 rfl (Ow.weak hL41790.env.size h41795) (me 1 rfl) Sm.ok (Cells.flat _) fun sw41827 sb41828 h41826 => ?_
                    refine wf_all [1, 16] (by kernel_rfl) rfl ⟨?_, ?_, trivial⟩
                    · refine on_s 1 rfl gn rfl (s_val (v_ldB1 3 ld_24 rfl rfl rfl) rfl ?_)
                      refine ⟨sels [0, 1, 2] rfl, sels [1, 2, 3] rfl, ?_⟩
                      have hC41835 : Cells k_api_Prod (Sm w.heap.size F sw41827 sb41828).w (Sm w.heap.size F sw41827 sb41828).av ([(⟨(ix x1.prods x38921).lhs, r40474⟩ : api_Prod)] : List api_Prod) [.int .i64 ((ix x1.prods x38921).lhs), .slice A41792 n41793 c41794] := (Cells.cons (c1 := [.int .i64 ((ix x1.prods x38921).lhs), .slice A41792 n41793 c41794]) ⟨A41792, n41793, c41794, rfl, h41826⟩ Cells.nil)
                      refine wf_all [16] (by kernel_rfl) rfl ⟨on_s 16 rfl gn rfl (s_litO (xs := ([(⟨(ix x1.prods x38921).lhs, r40474⟩ : api_Prod)] : List api_Prod)) [.int .i64 ((ix x1.prods x38921).lhs), .slice A41792 n41793 c41794] bs_24_1 rfl (by kernel_rfl) rfl rfl rfl rfl fun gb41836 h41837 => ?_), trivial⟩
                      refine ⟨sels [1, 2, 3] rfl, sels [1, 2, 3] rfl, ?_⟩
                      refine wf_mark (F := F) fun sw41841 sb41842 ho41843 => ?_
                      obtain ⟨cs41847, hc41848⟩ : ∃ x : List Value, x = cs38927 ++ [.int .i64 ((ix x1.prods x38921).lhs), .slice A41792 n41793 c41794] := ⟨_, rfl⟩
                      have hC41849 : Cells k_api_Prod (Sm w.heap.size F sw41841 sb41842).w (Sm w.heap.size F sw41841 sb41842).av x40500 cs41847 := by rw [hv40501, hc41848]; exact Cells.app (Cells.older (s := Sm w.heap.size F sw38928 sb38929) hC38930 (ho41843 _ (me 1 rfl) Sm.ok)) (Cells.older (s := Sm w.heap.size F sw41827 sb41828) hC41835 (ho41843 _ (me 0 rfl) Sm.ok))
                      refine wf_all [17] (by kernel_rfl) rfl ⟨on_l 17 rfl gn rfl (s_app (zs := x40500) 1 ap_24 rfl rfl rfl h38926 (Nat.le_refl _) (Src.ownAll 0 rfl h41837 hC41835) hc41848.symm (app_len hv40501 h41837.hq) hb40502 rfl rfl fun A41844 c41845 h41846 => ?_), trivial⟩
                      unfold NxL
                      refine wf_all [18] (by kernel_rfl) rfl ⟨on_l 18 rfl gn rfl (s_val (v_fldB fo_26_2 rfl) rfl ?_), trivial⟩
                      unfold NxL
                      refine wf_all [19] (by kernel_rfl) rfl ⟨on_l 19 rfl gn rfl (s_stB (vs := [.slice A41844 (n38924 + 1) c41845]) (cs' := [.slice A14011 n14012 c14013, .slice A32681 n32682 c32683, .slice A41844 (n38924 + 1) c41845]) (M' := [.own (.slice (some ⟨gb41836, 0, none⟩) 1 1) 38 2 1 [.int .i64 ((ix x1.prods x38921).lhs), .slice A41792 n41793 c41794], .own (.slice A41844 (n38924 + 1) c41845) 38 2 (n38924 + 1) cs41847, .own (.slice A32681 n32682 c32683) 61 2 n32682 (x32680.flatMap enc_api_Sym), .own (.slice A14011 n14012 c14013) 58 2 n14012 (x14010.flatMap enc_api_TermDef), .box gb18 26 [.slice A14011 n14012 c14013, .slice A32681 n32682 c32683, .slice A41844 (n38924 + 1) c41845], .box gb16 26 [.slice none 0 0, .slice none 0 0, .slice none 0 0], .box gb14 26 [.slice A2 n3 c4, .slice A6 n7 c8, .slice A10 n11 c12]]) 4 sz_24 rfl rfl rfl rfl rfl rfl rfl rfl rfl ?_), trivial⟩
                      unfold NxL
                      refine wf_end (by kernel_rfl) ?_
                      exact g_go [0, 2, 3, 4] (d27 A41844 (n38924 + 1) c41845 h41846 cs41847 sw41841 sb41842 hC41849) ⟨rfl, rfl, rfl, rfl, trivial⟩ (.cons _ (.cons_cons _ (.cons_cons _ (.cons_cons _ (.cons_cons _ (.cons_cons _ (.cons_cons _ (.slnil)))))))) rfl
                    · have hC41850 : Cells k_api_Prod (Sm w.heap.size F sw41827 sb41828).w (Sm w.heap.size F sw41827 sb41828).av ([(⟨(ix x1.prods x38921).lhs, r40474⟩ : api_Prod)] : List api_Prod) [.int .i64 ((ix x1.prods x38921).lhs), .slice A41792 n41793 c41794] := (Cells.cons (c1 := [.int .i64 ((ix x1.prods x38921).lhs), .slice A41792 n41793 c41794]) ⟨A41792, n41793, c41794, rfl, h41826⟩ Cells.nil)
                      refine on_s 16 rfl gn rfl (s_litO (xs := ([(⟨(ix x1.prods x38921).lhs, r40474⟩ : api_Prod)] : List api_Prod)) [.int .i64 ((ix x1.prods x38921).lhs), .slice A41792 n41793 c41794] bs_24_1 rfl (by kernel_rfl) rfl rfl rfl rfl fun gb41851 h41852 => ?_)
                      refine ⟨sels [1, 2, 3] rfl, sels [1, 2, 3] rfl, ?_⟩
                      refine wf_all [1] (by kernel_rfl) rfl ⟨on_s 1 rfl gn rfl (s_val (v_ldB1 4 ld_24 rfl rfl rfl) rfl ?_), trivial⟩
                      refine ⟨sels [1, 2, 3] rfl, sels [1, 2, 3] rfl, ?_⟩
                      refine wf_mark (F := F) fun sw41856 sb41857 ho41858 => ?_
                      obtain ⟨cs41862, hc41863⟩ : ∃ x : List Value, x = cs38927 ++ [.int .i64 ((ix x1.prods x38921).lhs), .slice A41792 n41793 c41794] := ⟨_, rfl⟩
                      have hC41864 : Cells k_api_Prod (Sm w.heap.size F sw41856 sb41857).w (Sm w.heap.size F sw41856 sb41857).av x40500 cs41862 := by rw [hv40501, hc41863]; exact Cells.app (Cells.older (s := Sm w.heap.size F sw38928 sb38929) hC38930 (ho41858 _ (me 1 rfl) Sm.ok)) (Cells.older (s := Sm w.heap.size F sw41827 sb41828) hC41850 (ho41858 _ (me 0 rfl) Sm.ok))
                      refine wf_all [17] (by kernel_rfl) rfl ⟨on_l 17 rfl gn rfl (s_app (zs := x40500) 1 ap_24 rfl rfl rfl h38926 (Nat.le_refl _) (Src.ownAll 0 rfl h41852 hC41850) hc41863.symm (app_len hv40501 h41852.hq) hb40502 rfl rfl fun A41859 c41860 h41861 => ?_), trivial⟩
                      unfold NxL
                      refine wf_all [18] (by kernel_rfl) rfl ⟨on_l 18 rfl gn rfl (s_val (v_fldB fo_26_2 rfl) rfl ?_), trivial⟩
                      unfold NxL
                      refine wf_all [19] (by kernel_rfl) rfl ⟨on_l 19 rfl gn rfl (s_stB (vs := [.slice A41859 (n38924 + 1) c41860]) (cs' := [.slice A14011 n14012 c14013, .slice A32681 n32682 c32683, .slice A41859 (n38924 + 1) c41860]) (M' := [.own (.slice (some ⟨gb41851, 0, none⟩) 1 1) 38 2 1 [.int .i64 ((ix x1.prods x38921).lhs), .slice A41792 n41793 c41794], .own (.slice A41859 (n38924 + 1) c41860) 38 2 (n38924 + 1) cs41862, .own (.slice A32681 n32682 c32683) 61 2 n32682 (x32680.flatMap enc_api_Sym), .own (.slice A14011 n14012 c14013) 58 2 n14012 (x14010.flatMap enc_api_TermDef), .box gb18 26 [.slice A14011 n14012 c14013, .slice A32681 n32682 c32683, .slice A41859 (n38924 + 1) c41860], .box gb16 26 [.slice none 0 0, .slice none 0 0, .slice none 0 0], .box gb14 26 [.slice A2 n3 c4, .slice A6 n7 c8, .slice A10 n11 c12]]) 4 sz_24 rfl rfl rfl rfl rfl rfl rfl rfl rfl ?_), trivial⟩
                      unfold NxL
                      refine wf_end (by kernel_rfl) ?_
                      exact g_go [0, 2, 3, 4] (d27 A41859 (n38924 + 1) c41860 h41861 cs41862 sw41856 sb41857 hC41864) ⟨rfl, rfl, rfl, rfl, trivial⟩ (.cons _ (.cons_cons _ (.cons_cons _ (.cons_cons _ (.cons_cons _ (.cons_cons _ (.cons_cons _ (.slnil)))))))) rfl
                · refine on_s 14 rfl gn rfl (s_call [.slice A41612 n41613 c41614] rfl Try.func9 rfl rfl rfl fun w41865 hL41866 => ?_)
                  have hp41867 : List.Perm ([.own (.slice A38923 n38924 c38925) 38 2 n38924 cs38927, .own (.slice A32681 n32682 c32683) 61 2 n32682 (x32680.flatMap enc_api_Sym), .own (.slice A14011 n14012 c14013) 58 2 n14012 (x14010.flatMap enc_api_TermDef), .box gb18 26 [.slice A14011 n14012 c14013, .slice A32681 n32682 c32683, .slice A38923 n38924 c38925], .box gb16 26 [.slice none 0 0, .slice none 0 0, .slice none 0 0], .box gb14 26 [.slice A2 n3 c4, .slice A6 n7 c8, .slice A10 n11 c12]] : List Ent) (([] : List Ent) ++ ([.own (.slice A38923 n38924 c38925) 38 2 n38924 cs38927, .own (.slice A32681 n32682 c32683) 61 2 n32682 (x32680.flatMap enc_api_Sym), .own (.slice A14011 n14012 c14013) 58 2 n14012 (x14010.flatMap enc_api_TermDef), .box gb18 26 [.slice A14011 n14012 c14013, .slice A32681 n32682 c32683, .slice A38923 n38924 c38925], .box gb16 26 [.slice none 0 0, .slice none 0 0, .slice none 0 0], .box gb14 26 [.slice A2 n3 c4, .slice A6 n7 c8, .slice A10 n11 c12]] : List Ent)) := perm_of_idx [] [0, 1, 2, 3, 4, 5] rfl rfl (by kernel_rfl)
                  refine Calls.mono (trellislaw11_twinRow_calls w41865 (Fl ([] : List Snap)) ((ix x1.prods x38921).rhs) A41612 n41613 c41614 (Rw.mono h41615 (hL41866.toSt hp41867 (me 2 rfl))) (hL41866.hFl (Sl := ([] : List Snap)) hp41867 (sels [] rfl)) (hL41866.into hp41867 (Fl ([] : List Snap))) r40474 hv40475) ?_
                  rintro _ w41872 ⟨A41868, n41869, c41870, rfl, hM41873, h41871⟩
                  have hL41874 := hL41866.call hp41867 hM41873
                  refine ⟨_, _, _, rfl, hL41874, ?_⟩
                  refine ⟨sels [1, 2, 3] rfl, sels [0, 1, 2] rfl, ?_⟩
                  refine wf_all [1, 3] (by kernel_rfl) rfl ⟨?_, ?_, trivial⟩
                  · refine on_s 1 rfl gn rfl (s_val (v_ldB1 4 ld_24 rfl rfl rfl) rfl ?_)
                    refine ⟨sels [1, 2, 3] rfl, sels [0, 1, 2] rfl, ?_⟩
                    refine wf_all [3] (by kernel_rfl) rfl ⟨on_s 3 rfl gn rfl (s_val (v_ldB1 6 ld_24 rfl rfl rfl) rfl ?_), trivial⟩
                    refine ⟨sels [1, 2, 3] rfl, sels [0, 1, 2] rfl, ?_⟩
                    obtain ⟨ce41876, hK41877, hr41875⟩ := Rw.read (s := St w []) h13 hb40456
                    obtain ⟨A41878, n41879, c41880, rfl, h41881⟩ := hK41877
                    refine wf_v 5 rfl (v_idxR (s := St w []) slE_24 rfl rfl h13 hb40456) gn rfl hns (by kernel_rfl) (by kernel_rfl) (by kernel_rfl) rfl ?_
                    refine wf_v 6 rfl (v_fldA fo_38_0 rfl) gn rfl hns (by kernel_rfl) (by kernel_rfl) (by kernel_rfl) rfl ?_
                    refine wf_v 7 rfl (v_ldA1 (kk := (x38921 : Int).toNat * 2) (j := 0) (St w []) ld_3 rfl hr41875 rfl (me 2 rfl)) gn rfl hns (by kernel_rfl) (by kernel_rfl) (by kernel_rfl) rfl ?_
                    refine wf_v 15 rfl (v_build #[.int .i64 ((ix x1.prods x38921).lhs), .slice A41868 n41869 c41870] bd_38 rfl (by kernel_rfl)) gn rfl hns (by kernel_rfl) (by kernel_rfl) (by kernel_rfl) rfl ?_
                    refine wf_freeze (F := F) (dk := k_api_Ref) (Sm w.heap.size F w []) 0 rfl (Ow.weak hL41866.env.size h41871) (me 1 rfl) Sm.ok (Cells.flat _) fun sw41886 sb41887 h41885 => ?_
                    have hC41891 : Cells k_api_Prod (Sm w.heap.size F sw41886 sb41887).w (Sm w.heap.size F sw41886 sb41887).av ([(⟨(ix x1.prods x38921).lhs, r40474⟩ : api_Prod)] : List api_Prod) [.int .i64 ((ix x1.prods x38921).lhs), .slice A41868 n41869 c41870] := (Cells.cons (c1 := [.int .i64 ((ix x1.prods x38921).lhs), .slice A41868 n41869 c41870]) ⟨A41868, n41869, c41870, rfl, h41885⟩ Cells.nil)
                    refine wf_all [16] (by kernel_rfl) rfl ⟨on_s 16 rfl gn rfl (s_litO (xs := ([(⟨(ix x1.prods x38921).lhs, r40474⟩ : api_Prod)] : List api_Prod)) [.int .i64 ((ix x1.prods x38921).lhs), .slice A41868 n41869 c41870] bs_24_1 rfl (by kernel_rfl) rfl rfl rfl rfl fun gb41892 h41893 => ?_), trivial⟩
                    refine ⟨sels [1, 2, 3] rfl, sels [1, 2, 3] rfl, ?_⟩
                    refine wf_mark (F := F) fun sw41897 sb41898 ho41899 => ?_
                    obtain ⟨cs41903, hc41904⟩ : ∃ x : List Value, x = cs38927 ++ [.int .i64 ((ix x1.prods x38921).lhs), .slice A41868 n41869 c41870] := ⟨_, rfl⟩
                    have hC41905 : Cells k_api_Prod (Sm w.heap.size F sw41897 sb41898).w (Sm w.heap.size F sw41897 sb41898).av x40500 cs41903 := by rw [hv40501, hc41904]; exact Cells.app (Cells.older (s := Sm w.heap.size F sw38928 sb38929) hC38930 (ho41899 _ (me 1 rfl) Sm.ok)) (Cells.older (s := Sm w.heap.size F sw41886 sb41887) hC41891 (ho41899 _ (me 0 rfl) Sm.ok))
                    refine wf_all [17] (by kernel_rfl) rfl ⟨on_l 17 rfl gn rfl (s_app (zs := x40500) 1 ap_24 rfl rfl rfl h38926 (Nat.le_refl _) (Src.ownAll 0 rfl h41893 hC41891) hc41904.symm (app_len hv40501 h41893.hq) hb40502 rfl rfl fun A41900 c41901 h41902 => ?_), trivial⟩
                    unfold NxL
                    refine wf_all [18] (by kernel_rfl) rfl ⟨on_l 18 rfl gn rfl (s_val (v_fldB fo_26_2 rfl) rfl ?_), trivial⟩
                    unfold NxL
                    refine wf_all [19] (by kernel_rfl) rfl ⟨on_l 19 rfl gn rfl (s_stB (vs := [.slice A41900 (n38924 + 1) c41901]) (cs' := [.slice A14011 n14012 c14013, .slice A32681 n32682 c32683, .slice A41900 (n38924 + 1) c41901]) (M' := [.own (.slice (some ⟨gb41892, 0, none⟩) 1 1) 38 2 1 [.int .i64 ((ix x1.prods x38921).lhs), .slice A41868 n41869 c41870], .own (.slice A41900 (n38924 + 1) c41901) 38 2 (n38924 + 1) cs41903, .own (.slice A32681 n32682 c32683) 61 2 n32682 (x32680.flatMap enc_api_Sym), .own (.slice A14011 n14012 c14013) 58 2 n14012 (x14010.flatMap enc_api_TermDef), .box gb18 26 [.slice A14011 n14012 c14013, .slice A32681 n32682 c32683, .slice A41900 (n38924 + 1) c41901], .box gb16 26 [.slice none 0 0, .slice none 0 0, .slice none 0 0], .box gb14 26 [.slice A2 n3 c4, .slice A6 n7 c8, .slice A10 n11 c12]]) 4 sz_24 rfl rfl rfl rfl rfl rfl rfl rfl rfl ?_), trivial⟩
                    unfold NxL
                    refine wf_end (by kernel_rfl) ?_
                    exact g_go [0, 2, 3, 4] (d27 A41900 (n38924 + 1) c41901 h41902 cs41903 sw41897 sb41898 hC41905) ⟨rfl, rfl, rfl, rfl, trivial⟩ (.cons _ (.cons_cons _ (.cons_cons _ (.cons_cons _ (.cons_cons _ (.cons_cons _ (.cons_cons _ (.slnil)))))))) rfl
                  · refine on_s 3 rfl gn rfl (s_val (v_ldB1 6 ld_24 rfl rfl rfl) rfl ?_)
                    refine ⟨sels [1, 2, 3] rfl, sels [0, 1, 2] rfl, ?_⟩
                    obtain ⟨ce41907, hK41908, hr41906⟩ := Rw.read (s := St w []) h13 hb40456
                    obtain ⟨A41909, n41910, c41911, rfl, h41912⟩ := hK41908
                    refine wf_v 5 rfl (v_idxR (s := St w []) slE_24 rfl rfl h13 hb40456) gn rfl hns (by kernel_rfl) (by kernel_rfl) (by kernel_rfl) rfl ?_
                    refine wf_v 6 rfl (v_fldA fo_38_0 rfl) gn rfl hns (by kernel_rfl) (by kernel_rfl) (by kernel_rfl) rfl ?_
                    refine wf_v 7 rfl (v_ldA1 (kk := (x38921 : Int).toNat * 2) (j := 0) (St w []) ld_3 rfl hr41906 rfl (me 2 rfl)) gn rfl hns (by kernel_rfl) (by kernel_rfl) (by kernel_rfl) rfl ?_
                    refine wf_v 15 rfl (v_build #[.int .i64 ((ix x1.prods x38921).lhs), .slice A41868 n41869 c41870] bd_38 rfl (by kernel_rfl)) gn rfl hns (by kernel_rfl) (by kernel_rfl) (by kernel_rfl) rfl ?_
                    refine wf_freeze (F := F) (dk := k_api_Ref) (Sm w.heap.size F w []) 0 rfl (Ow.weak hL41866.env.size h41871) (me 1 rfl) Sm.ok (Cells.flat _) fun sw41941 sb41942 h41940 => ?_
                    refine wf_all [1, 16] (by kernel_rfl) rfl ⟨?_, ?_, trivial⟩
                    · refine on_s 1 rfl gn rfl (s_val (v_ldB1 3 ld_24 rfl rfl rfl) rfl ?_)
                      refine ⟨sels [0, 1, 2] rfl, sels [1, 2, 3] rfl, ?_⟩
                      have hC41949 : Cells k_api_Prod (Sm w.heap.size F sw41941 sb41942).w (Sm w.heap.size F sw41941 sb41942).av ([(⟨(ix x1.prods x38921).lhs, r40474⟩ : api_Prod)] : List api_Prod) [.int .i64 ((ix x1.prods x38921).lhs), .slice A41868 n41869 c41870] := (Cells.cons (c1 := [.int .i64 ((ix x1.prods x38921).lhs), .slice A41868 n41869 c41870]) ⟨A41868, n41869, c41870, rfl, h41940⟩ Cells.nil)
                      refine wf_all [16] (by kernel_rfl) rfl ⟨on_s 16 rfl gn rfl (s_litO (xs := ([(⟨(ix x1.prods x38921).lhs, r40474⟩ : api_Prod)] : List api_Prod)) [.int .i64 ((ix x1.prods x38921).lhs), .slice A41868 n41869 c41870] bs_24_1 rfl (by kernel_rfl) rfl rfl rfl rfl fun gb41950 h41951 => ?_), trivial⟩
                      refine ⟨sels [1, 2, 3] rfl, sels [1, 2, 3] rfl, ?_⟩
                      refine wf_mark (F := F) fun sw41955 sb41956 ho41957 => ?_
                      obtain ⟨cs41961, hc41962⟩ : ∃ x : List Value, x = cs38927 ++ [.int .i64 ((ix x1.prods x38921).lhs), .slice A41868 n41869 c41870] := ⟨_, rfl⟩
                      have hC41963 : Cells k_api_Prod (Sm w.heap.size F sw41955 sb41956).w (Sm w.heap.size F sw41955 sb41956).av x40500 cs41961 := by rw [hv40501, hc41962]; exact Cells.app (Cells.older (s := Sm w.heap.size F sw38928 sb38929) hC38930 (ho41957 _ (me 1 rfl) Sm.ok)) (Cells.older (s := Sm w.heap.size F sw41941 sb41942) hC41949 (ho41957 _ (me 0 rfl) Sm.ok))
                      refine wf_all [17] (by kernel_rfl) rfl ⟨on_l 17 rfl gn rfl (s_app (zs := x40500) 1 ap_24 rfl rfl rfl h38926 (Nat.le_refl _) (Src.ownAll 0 rfl h41951 hC41949) hc41962.symm (app_len hv40501 h41951.hq) hb40502 rfl rfl fun A41958 c41959 h41960 => ?_), trivial⟩
                      unfold NxL
                      refine wf_all [18] (by kernel_rfl) rfl ⟨on_l 18 rfl gn rfl (s_val (v_fldB fo_26_2 rfl) rfl ?_), trivial⟩
                      unfold NxL
                      refine wf_all [19] (by kernel_rfl) rfl ⟨on_l 19 rfl gn rfl (s_stB (vs := [.slice A41958 (n38924 + 1) c41959]) (cs' := [.slice A14011 n14012 c14013, .slice A32681 n32682 c32683, .slice A41958 (n38924 + 1) c41959]) (M' := [.own (.slice (some ⟨gb41950, 0, none⟩) 1 1) 38 2 1 [.int .i64 ((ix x1.prods x38921).lhs), .slice A41868 n41869 c41870], .own (.slice A41958 (n38924 + 1) c41959) 38 2 (n38924 + 1) cs41961, .own (.slice A32681 n32682 c32683) 61 2 n32682 (x32680.flatMap enc_api_Sym), .own (.slice A14011 n14012 c14013) 58 2 n14012 (x14010.flatMap enc_api_TermDef), .box gb18 26 [.slice A14011 n14012 c14013, .slice A32681 n32682 c32683, .slice A41958 (n38924 + 1) c41959], .box gb16 26 [.slice none 0 0, .slice none 0 0, .slice none 0 0], .box gb14 26 [.slice A2 n3 c4, .slice A6 n7 c8, .slice A10 n11 c12]]) 4 sz_24 rfl rfl rfl rfl rfl rfl rfl rfl rfl ?_), trivial⟩
                      unfold NxL
                      refine wf_end (by kernel_rfl) ?_
                      exact g_go [0, 2, 3, 4] (d27 A41958 (n38924 + 1) c41959 h41960 cs41961 sw41955 sb41956 hC41963) ⟨rfl, rfl, rfl, rfl, trivial⟩ (.cons _ (.cons_cons _ (.cons_cons _ (.cons_cons _ (.cons_cons _ (.cons_cons _ (.cons_cons _ (.slnil)))))))) rfl
                    · have hC41964 : Cells k_api_Prod (Sm w.heap.size F sw41941 sb41942).w (Sm w.heap.size F sw41941 sb41942).av ([(⟨(ix x1.prods x38921).lhs, r40474⟩ : api_Prod)] : List api_Prod) [.int .i64 ((ix x1.prods x38921).lhs), .slice A41868 n41869 c41870] := (Cells.cons (c1 := [.int .i64 ((ix x1.prods x38921).lhs), .slice A41868 n41869 c41870]) ⟨A41868, n41869, c41870, rfl, h41940⟩ Cells.nil)
                      refine on_s 16 rfl gn rfl (s_litO (xs := ([(⟨(ix x1.prods x38921).lhs, r40474⟩ : api_Prod)] : List api_Prod)) [.int .i64 ((ix x1.prods x38921).lhs), .slice A41868 n41869 c41870] bs_24_1 rfl (by kernel_rfl) rfl rfl rfl rfl fun gb41965 h41966 => ?_)
                      refine ⟨sels [1, 2, 3] rfl, sels [1, 2, 3] rfl, ?_⟩
                      refine wf_all [1] (by kernel_rfl) rfl ⟨on_s 1 rfl gn rfl (s_val (v_ldB1 4 ld_24 rfl rfl rfl) rfl ?_), trivial⟩
                      refine ⟨sels [1, 2, 3] rfl, sels [1, 2, 3] rfl, ?_⟩
                      refine wf_mark (F := F) fun sw41970 sb41971 ho41972 => ?_
                      obtain ⟨cs41976, hc41977⟩ : ∃ x : List Value, x = cs38927 ++ [.int .i64 ((ix x1.prods x38921).lhs), .slice A41868 n41869 c41870] := ⟨_, rfl⟩
                      have hC41978 : Cells k_api_Prod (Sm w.heap.size F sw41970 sb41971).w (Sm w.heap.size F sw41970 sb41971).av x40500 cs41976 := by rw [hv40501, hc41977]; exact Cells.app (Cells.older (s := Sm w.heap.size F sw38928 sb38929) hC38930 (ho41972 _ (me 1 rfl) Sm.ok)) (Cells.older (s := Sm w.heap.size F sw41941 sb41942) hC41964 (ho41972 _ (me 0 rfl) Sm.ok))
                      refine wf_all [17] (by kernel_rfl) rfl ⟨on_l 17 rfl gn rfl (s_app (zs := x40500) 1 ap_24 rfl rfl rfl h38926 (Nat.le_refl _) (Src.ownAll 0 rfl h41966 hC41964) hc41977.symm (app_len hv40501 h41966.hq) hb40502 rfl rfl fun A41973 c41974 h41975 => ?_), trivial⟩
                      unfold NxL
                      refine wf_all [18] (by kernel_rfl) rfl ⟨on_l 18 rfl gn rfl (s_val (v_fldB fo_26_2 rfl) rfl ?_), trivial⟩
                      unfold NxL
                      refine wf_all [19] (by kernel_rfl) rfl ⟨on_l 19 rfl gn rfl (s_stB (vs := [.slice A41973 (n38924 + 1) c41974]) (cs' := [.slice A14011 n14012 c14013, .slice A32681 n32682 c32683, .slice A41973 (n38924 + 1) c41974]) (M' := [.own (.slice (some ⟨gb41965, 0, none⟩) 1 1) 38 2 1 [.int .i64 ((ix x1.prods x38921).lhs), .slice A41868 n41869 c41870], .own (.slice A41973 (n38924 + 1) c41974) 38 2 (n38924 + 1) cs41976, .own (.slice A32681 n32682 c32683) 61 2 n32682 (x32680.flatMap enc_api_Sym), .own (.slice A14011 n14012 c14013) 58 2 n14012 (x14010.flatMap enc_api_TermDef), .box gb18 26 [.slice A14011 n14012 c14013, .slice A32681 n32682 c32683, .slice A41973 (n38924 + 1) c41974], .box gb16 26 [.slice none 0 0, .slice none 0 0, .slice none 0 0], .box gb14 26 [.slice A2 n3 c4, .slice A6 n7 c8, .slice A10 n11 c12]]) 4 sz_24 rfl rfl rfl rfl rfl rfl rfl rfl rfl ?_), trivial⟩
                      unfold NxL
                      refine wf_end (by kernel_rfl) ?_
                      exact g_go [0, 2, 3, 4] (d27 A41973 (n38924 + 1) c41974 h41975 cs41976 sw41970 sb41971 hC41978) ⟨rfl, rfl, rfl, rfl, trivial⟩ (.cons _ (.cons_cons _ (.cons_cons _ (.cons_cons _ (.cons_cons _ (.cons_cons _ (.cons_cons _ (.slnil)))))))) rfl
            · have h := if_neg' hp40455 h
              refine g_false (c := trellislaw11_twin_c44) rfl _ rfl ((decide_eq_false hp40455)) ?_
              refine g_exit (c := trellislaw11_twin_c46) [.code trellislaw11_twin_c36] rfl rfl ?_
              refine g_seq (c := trellislaw11_twin_c36) rfl ?_
              refine g_region (c := trellislaw11_twin_c50) rfl rfl ?_
              refine wl_v 0 rfl (v_ldB [.slice A14011 n14012 c14013, .slice A32681 n32682 c32683, .slice A38923 n38924 c38925] 3 ld_26 rfl rfl rfl rfl) gn rfl ?_
              refine wl_s 1 rfl (s_stB (vs := [.slice A14011 n14012 c14013, .slice A32681 n32682 c32683, .slice A38923 n38924 c38925]) (cs' := [.slice A14011 n14012 c14013, .slice A32681 n32682 c32683, .slice A38923 n38924 c38925]) (M' := [.own (.slice A38923 n38924 c38925) 38 2 n38924 cs38927, .own (.slice A32681 n32682 c32683) 61 2 n32682 (x32680.flatMap enc_api_Sym), .own (.slice A14011 n14012 c14013) 58 2 n14012 (x14010.flatMap enc_api_TermDef), .box gb18 26 [.slice A14011 n14012 c14013, .slice A32681 n32682 c32683, .slice A38923 n38924 c38925], .box gb16 26 [.slice A14011 n14012 c14013, .slice A32681 n32682 c32683, .slice A38923 n38924 c38925], .box gb14 26 [.slice A2 n3 c4, .slice A6 n7 c8, .slice A10 n11 c12]]) 4 sz_26 rfl rfl rfl rfl rfl rfl rfl rfl rfl ?_) gn
              refine w_end 2 rfl ?_
              have h := Out.inr hO3 h
              have h := Out.inr hO2 h
              have h := Out.inr hO1 h
              refine g_retR (c := trellislaw11_twin_c51) [.agg #[.slice A14011 n14012 c14013, .slice A32681 n32682 c32683, .slice A38923 n38924 c38925]] rfl Try.func8 rfl (.cell (cs := [.slice A14011 n14012 c14013, .slice A32681 n32682 c32683, .slice A38923 n38924 c38925]) (us := [.slice A14011 n14012 c14013, .slice A32681 n32682 c32683, .slice A38923 n38924 c38925]) 4 rfl ld_26 rfl rfl rfl (.nil)) fun wr hLr => ?_
              have hMr : B.Loc w wr [.own (.slice A14011 n14012 c14013) 58 2 n14012 (x14010.flatMap enc_api_TermDef), .own (.slice A32681 n32682 c32683) 61 2 n32682 (x32680.flatMap enc_api_Sym), .own (.slice A38923 n38924 c38925) 38 2 n38924 cs38927] [St w []] := hLr.pick (rest := [.box gb18 26 [.slice A14011 n14012 c14013, .slice A32681 n32682 c32683, .slice A38923 n38924 c38925], .box gb16 26 [.slice A14011 n14012 c14013, .slice A32681 n32682 c32683, .slice A38923 n38924 c38925], .box gb14 26 [.slice A2 n3 c4, .slice A6 n7 c8, .slice A10 n11 c12]]) (perm_of_idx [2, 1, 0] [3, 4, 5] rfl rfl (by kernel_rfl)) (sels [2] rfl)
              have hMi : ∀ e ∈ ([.own (.slice A14011 n14012 c14013) 58 2 n14012 (x14010.flatMap enc_api_TermDef), .own (.slice A32681 n32682 c32683) 61 2 n32682 (x32680.flatMap enc_api_Sym), .own (.slice A38923 n38924 c38925) 38 2 n38924 cs38927] : List Ent), e ∈ ([.own (.slice A38923 n38924 c38925) 38 2 n38924 cs38927, .own (.slice A32681 n32682 c32683) 61 2 n32682 (x32680.flatMap enc_api_Sym), .own (.slice A14011 n14012 c14013) 58 2 n14012 (x14010.flatMap enc_api_TermDef), .box gb18 26 [.slice A14011 n14012 c14013, .slice A32681 n32682 c32683, .slice A38923 n38924 c38925], .box gb16 26 [.slice A14011 n14012 c14013, .slice A32681 n32682 c32683, .slice A38923 n38924 c38925], .box gb14 26 [.slice A2 n3 c4, .slice A6 n7 c8, .slice A10 n11 c12]] : List Ent) := sels [2, 1, 0] rfl
              show trellislaw11_twin_R w F  r (.returned (packV [.agg #[.slice A14011 n14012 c14013, .slice A32681 n32682 c32683, .slice A38923 n38924 c38925]])) wr
              rw [h]
              exact ⟨A14011, n14012, c14013, A32681, n32682, c32683, A38923, n38924, c38925, cs38927, rfl, hMr, h14014, h32684, h38926, (hLr.outC (s := Sm w.heap.size F sw38928 sb38929) hMi (me 0 rfl) Sm.ok hC38930)⟩
          refine g_nil 38 2 ?_
          exact g_go [0, 0, 1] (key3 _ h none 0 0 (Ow.nil (z := w.heap.size)) [] w [] Cells.nil) ⟨rfl, rfl, rfl, rfl, trivial⟩ (.cons_cons _ (.cons_cons _ (.cons_cons _ (.cons_cons _ (.cons_cons _ (.cons_cons _ (.slnil))))))) rfl
      refine g_nil 61 2 ?_
      exact g_go [0, 1] (key2 _ h none 0 0 (Ow.nil (z := w.heap.size))) ⟨rfl, rfl, rfl, rfl, trivial⟩ (.cons_cons _ (.cons_cons _ (.cons_cons _ (.cons_cons _ (.cons_cons _ (.slnil)))))) rfl
  refine g_nil 58 2 ?_
  exact g_go [0, 1] (key1 _ h none 0 0 (Ow.nil (z := w.heap.size))) ⟨rfl, rfl, rfl, rfl, trivial⟩ (.cons_cons _ (.cons_cons _ (.cons_cons _ (.cons_cons _ (.slnil))))) rfl
noncomputable abbrev trellisref11_Row_c0 : Code := bodyOf Try.f28
noncomputable abbrev trellisref11_Row_c1 : Code := Code.fst trellisref11_Row_c0
noncomputable abbrev trellisref11_Row_c2 : Code := Code.snd trellisref11_Row_c0
noncomputable abbrev trellisref11_Row_c3 : Code := Code.fst trellisref11_Row_c2
noncomputable abbrev trellisref11_Row_c4 : Code := Code.snd trellisref11_Row_c2
noncomputable abbrev trellisref11_Row_c5 : Code := Code.fst trellisref11_Row_c3
noncomputable abbrev trellisref11_Row_c6 : Code := Code.snd trellisref11_Row_c3
noncomputable abbrev trellisref11_Row_c7 : Code := Code.fst trellisref11_Row_c6
noncomputable abbrev trellisref11_Row_c8 : Code := Code.fst trellisref11_Row_c7
noncomputable abbrev trellisref11_Row_c9 : Code := Code.fst trellisref11_Row_c8
noncomputable abbrev trellisref11_Row_c10 : Code := Code.snd trellisref11_Row_c8
noncomputable abbrev trellisref11_Row_c11 : Code := Code.fst trellisref11_Row_c9
noncomputable abbrev trellisref11_Row_c12 : Code := Code.snd trellisref11_Row_c9
noncomputable abbrev trellisref11_Row_c13 : Code := Code.fst trellisref11_Row_c12
noncomputable abbrev trellisref11_Row_c14 : Code := Code.snd trellisref11_Row_c12
noncomputable abbrev trellisref11_Row_c15 : Code := Code.fst trellisref11_Row_c10
noncomputable abbrev trellisref11_Row_c16 : Code := Code.snd trellisref11_Row_c10
noncomputable abbrev trellisref11_Row_c17 : Code := Code.fst trellisref11_Row_c15
noncomputable abbrev trellisref11_Row_c18 : Code := Code.fst trellisref11_Row_c17
noncomputable abbrev trellisref11_Row_c19 : Code := Code.snd trellisref11_Row_c17
noncomputable abbrev trellisref11_Row_c20 : Code := Code.fst trellisref11_Row_c19
noncomputable abbrev trellisref11_Row_c21 : Code := Code.snd trellisref11_Row_c19
noncomputable abbrev trellisref11_Row_c22 : Code := Code.fst trellisref11_Row_c20
noncomputable abbrev trellisref11_Row_c23 : Code := Code.snd trellisref11_Row_c20
noncomputable abbrev trellisref11_Row_c24 : Code := Code.fst trellisref11_Row_c4
noncomputable abbrev trellisref11_Row_c25 : Code := Code.snd trellisref11_Row_c4
abbrev trellisref11_Row_R (w : World) (F : Nat → Prop) (r : Bool) : Ending → World → Prop := fun e w' => e = .returned (.bool r) ∧ B.Loc w w' [] [St w []]
noncomputable abbrev trellisref11_Row_C (w : World) (F : Nat → Prop) (r : Bool) : Cx := ⟨Try.prog, 28, Try.f28, 33, trellisref11_Row_R w F  r, w⟩
theorem trellisref11_Row_calls (w : World) (F : Nat → Prop) (x1 : api_Gram) (x14 : List api_Ref) (A2 : Option Addr) (n3 : Nat) (c4 : Nat) (A6 : Option Addr) (n7 : Nat) (c8 : Nat) (A10 : Option Addr) (n11 : Nat) (c12 : Nat) (A15 : Option Addr) (n16 : Nat) (c17 : Nat) (h5 : Rw k_api_TermDef w (St w []).av A2 n3 c4 x1.terms) (h9 : Rw k_api_Sym w (St w []).av A6 n7 c8 x1.syms) (h13 : Rw k_api_Prod w (St w []).av A10 n11 c12 x1.prods) (h18 : Rw k_api_Ref w (St w []).av A15 n16 c17 x14) (hF : ∀ b, F b → b < w.heap.size ∧ ∀ o ∈ ([] : List (List Nat)), b ∉ o) (hL0 : B.Loc w w [] [Sm w.heap.size F w [], St w []]) (r : Bool) (h : trellisref11_Row x1 x14 r) : Calls Try.prog 28 #[.agg #[.slice A2 n3 c4, .slice A6 n7 c8, .slice A10 n11 c12], .slice A15 n16 c17] w (trellisref11_Row_R w F  r) := by
  unfold trellisref11_Row at h
  refine calls_of_Loc (vs := [.agg #[.slice A2 n3 c4, .slice A6 n7 c8, .slice A10 n11 c12], .slice A15 n16 c17]) 33 Try.func28 rfl Try.ntmps28 rfl hL0 ?_
  show G (trellisref11_Row_C w F r) _ _ _ _
  refine g_seq (c := trellisref11_Row_c0) rfl ?_
  refine g_region (c := trellisref11_Row_c1) rfl rfl ?_
  refine wl_s 0 rfl (s_box [.slice A2 n3 c4, .slice A6 n7 c8, .slice A10 n11 c12] rfl rfl rfl fun gb19 => ?_) gn
  refine wl_v 1 rfl (v_assign rfl) gn rfl ?_
  refine w_end 2 rfl ?_
  refine g_seq (c := trellisref11_Row_c2) rfl ?_
  refine g_seq (c := trellisref11_Row_c3) rfl ?_
  refine g_region (c := trellisref11_Row_c5) rfl rfl ?_
  refine wl_v 0 rfl (v_assign rfl) gn rfl ?_
  refine w_end 1 rfl ?_
  refine g_block (c := trellisref11_Row_c6) rfl ?_
  refine g_loop (c := trellisref11_Row_c7) rfl ?_
  have key1 : ∀ s, Rounds (fun (s : Int) o => trellisref11_Row_b1 x14 x1 s o) s r → (fun (s : Int) => ∀ (_ : Unit), G (trellisref11_Row_C w F r) [.code trellisref11_Row_c8, .inLoop trellisref11_Row_c8, .inBlock 0, .code trellisref11_Row_c4] [(1, .slice A15 n16 c17), (2, .pointer (some ⟨gb19, 0, none⟩)), (5, .int .i64 s)] [.box gb19 26 [.slice A2 n3 c4, .slice A6 n7 c8, .slice A10 n11 c12]] [Sm w.heap.size F w [], St w []]) s := by
    intro s hs
    refine Rounds.ind (mot := (fun (s : Int) => ∀ (_ : Unit), G (trellisref11_Row_C w F r) [.code trellisref11_Row_c8, .inLoop trellisref11_Row_c8, .inBlock 0, .code trellisref11_Row_c4] [(1, .slice A15 n16 c17), (2, .pointer (some ⟨gb19, 0, none⟩)), (5, .int .i64 s)] [.box gb19 26 [.slice A2 n3 c4, .slice A6 n7 c8, .slice A10 n11 c12]] [Sm w.heap.size F w [], St w []])) ?_ hs
    clear hs s
    intro x34 o1 h hO1
    show ∀ (_ : Unit), G (trellisref11_Row_C w F r) [.code trellisref11_Row_c8, .inLoop trellisref11_Row_c8, .inBlock 0, .code trellisref11_Row_c4] [(1, .slice A15 n16 c17), (2, .pointer (some ⟨gb19, 0, none⟩)), (5, .int .i64 x34)] [.box gb19 26 [.slice A2 n3 c4, .slice A6 n7 c8, .slice A10 n11 c12]] [Sm w.heap.size F w [], St w []]
    intro _
    have h : trellisref11_Row_b1 x14 x1 x34 o1 := h
    unfold trellisref11_Row_b1 at h
    refine g_seq (c := trellisref11_Row_c8) rfl ?_
    refine g_seq (c := trellisref11_Row_c9) rfl ?_
    refine g_region (c := trellisref11_Row_c11) rfl rfl ?_
    refine wl_v 0 rfl (v_move rfl) gn rfl ?_
    refine wl_v 1 rfl (v_move rfl) gn rfl ?_
    refine wl_v 2 rfl (v_lenQ un_27 rfl h18.hq) gn rfl ?_
    refine wl_v 3 rfl (v_bin rfl rfl rfl) gn rfl ?_
    refine w_end 4 rfl ?_
    by_cases hp47 : x34 < (x14.length : Int)
    · have h := if_pos' hp47 h
      refine g_true (c := trellisref11_Row_c12) rfl _ rfl ((decide_eq_true hp47)) ?_
      refine g_skip (c := trellisref11_Row_c13) rfl ?_
      refine g_seq (c := trellisref11_Row_c10) rfl ?_
      refine g_block (c := trellisref11_Row_c15) rfl ?_
      refine g_seq (c := trellisref11_Row_c17) rfl ?_
      obtain ⟨hb48, h⟩ := h
      by_cases hp50 : (ix x14 x34).sym < 0
      · have h := if_pos' hp50 h
        have hns : Region.noSelect (Code.ops trellisref11_Row_c18) = true := by kernel_rfl
        refine g_drawF (c := trellisref11_Row_c18) [.box gb19 26 [.slice A2 n3 c4, .slice A6 n7 c8, .slice A10 n11 c12]] [Sm w.heap.size F w [], St w []] [] 21 rfl rfl mix rfl (.cons_cons _ (.slnil)) (sels [0, 1] rfl) ?_
        refine wf_v 0 rfl (v_move rfl) gn rfl hns (by kernel_rfl) (by kernel_rfl) rfl rfl ?_
        refine wf_v 1 rfl (v_move rfl) gn rfl hns (by kernel_rfl) (by kernel_rfl) rfl rfl ?_
        have hr52 := Rw.readF (s := St w []) (hl := hl_api_Ref) (h1 := h1_api_Ref) h18 hb48
        refine wf_v 2 rfl (v_idxR (s := St w []) slE_27 rfl rfl h18 hb48) gn rfl hns (by kernel_rfl) (by kernel_rfl) rfl rfl ?_
        refine wf_v 3 rfl (v_fldA fo_36_0 rfl) gn rfl hns (by kernel_rfl) (by kernel_rfl) rfl rfl ?_
        refine wf_v 4 rfl (v_ldA1 (kk := (x34 : Int).toNat * 3) (j := 0) (St w []) ld_3 rfl hr52 rfl (me 1 rfl)) gn rfl hns (by kernel_rfl) (by kernel_rfl) rfl rfl ?_
        refine wf_v 5 rfl (v_bin rfl rfl rfl) gn rfl hns (by kernel_rfl) (by kernel_rfl) rfl rfl ?_
        refine wf_v 6 rfl (v_move rfl) gn rfl hns (by kernel_rfl) (by kernel_rfl) rfl rfl ?_
        refine wf_bool 18 rfl ((decide_eq_true hp50)) ?_
        refine wf_pass 7 rfl (ps 18 rfl rfl rfl) hns (by kernel_rfl) (by kernel_rfl) rfl rfl ?_
        refine wf_pass 8 rfl (ps 18 rfl rfl rfl) hns (by kernel_rfl) (by kernel_rfl) rfl rfl ?_
        refine wf_pass 9 rfl (ps 18 rfl rfl rfl) hns (by kernel_rfl) (by kernel_rfl) rfl rfl ?_
        refine wf_pass 10 rfl (ps 18 rfl rfl rfl) hns (by kernel_rfl) (by kernel_rfl) rfl rfl ?_
        refine wf_pass 11 rfl (ps 18 rfl rfl rfl) hns (by kernel_rfl) (by kernel_rfl) rfl rfl ?_
        refine wf_pass 12 rfl (ps 18 rfl rfl rfl) hns (by kernel_rfl) (by kernel_rfl) rfl rfl ?_
        refine wf_pass 13 rfl (ps 18 rfl rfl rfl) hns (by kernel_rfl) (by kernel_rfl) rfl rfl ?_
        refine wf_pass 14 rfl (ps 18 rfl rfl rfl) hns (by kernel_rfl) (by kernel_rfl) rfl rfl ?_
        refine wf_pass 15 rfl (ps 18 rfl rfl rfl) hns (by kernel_rfl) (by kernel_rfl) rfl rfl ?_
        refine wf_pass 16 rfl (ps 18 rfl rfl rfl) hns (by kernel_rfl) (by kernel_rfl) rfl rfl ?_
        refine wf_pass 17 rfl (ps 18 rfl rfl rfl) hns (by kernel_rfl) (by kernel_rfl) rfl rfl ?_
        refine wf_pass 18 rfl (ps 18 rfl rfl rfl) hns (by kernel_rfl) (by kernel_rfl) rfl rfl ?_
        refine wf_pass 19 rfl (ps 18 rfl rfl rfl) hns (by kernel_rfl) (by kernel_rfl) rfl rfl ?_
        refine wf_v 20 rfl (v_pick (b := true) rfl rfl) gn rfl hns (by kernel_rfl) (by kernel_rfl) rfl rfl ?_
        refine wf_end (by kernel_rfl) ?_
        refine g_true (c := trellisref11_Row_c19) rfl _ rfl (rfl) ?_
        refine g_seq (c := trellisref11_Row_c20) rfl ?_
        refine g_region (c := trellisref11_Row_c22) rfl rfl ?_
        refine wl_v 0 rfl (v_assign rfl) gn rfl ?_
        refine w_end 1 rfl ?_
        have h := Out.inr hO1 h
        refine g_retR (c := trellisref11_Row_c23) [.bool false] rfl Try.func28 rfl (.tmp rfl (.nil)) fun wr hLr => ?_
        have hMr : B.Loc w wr [] [St w []] := hLr.pick (rest := [.box gb19 26 [.slice A2 n3 c4, .slice A6 n7 c8, .slice A10 n11 c12]]) (perm_of_idx [] [0] rfl rfl (by kernel_rfl)) (sels [1] rfl)
        have hMi : ∀ e ∈ ([] : List Ent), e ∈ ([.box gb19 26 [.slice A2 n3 c4, .slice A6 n7 c8, .slice A10 n11 c12]] : List Ent) := sels [] rfl
        show trellisref11_Row_R w F  r (.returned (packV [.bool false])) wr
        rw [h]
        exact ⟨rfl, hMr⟩
      · have h := if_neg' hp50 h
        have hns : Region.noSelect (Code.ops trellisref11_Row_c18) = true := by kernel_rfl
        refine g_drawF (c := trellisref11_Row_c18) [.box gb19 26 [.slice A2 n3 c4, .slice A6 n7 c8, .slice A10 n11 c12]] [Sm w.heap.size F w [], St w []] [] 21 rfl rfl mix rfl (.cons_cons _ (.slnil)) (sels [0, 1] rfl) ?_
        refine wf_v 0 rfl (v_move rfl) gn rfl hns (by kernel_rfl) (by kernel_rfl) rfl rfl ?_
        refine wf_v 1 rfl (v_move rfl) gn rfl hns (by kernel_rfl) (by kernel_rfl) rfl rfl ?_
        have hr56 := Rw.readF (s := St w []) (hl := hl_api_Ref) (h1 := h1_api_Ref) h18 hb48
        refine wf_v 2 rfl (v_idxR (s := St w []) slE_27 rfl rfl h18 hb48) gn rfl hns (by kernel_rfl) (by kernel_rfl) rfl rfl ?_
        refine wf_v 3 rfl (v_fldA fo_36_0 rfl) gn rfl hns (by kernel_rfl) (by kernel_rfl) rfl rfl ?_
        refine wf_v 4 rfl (v_ldA1 (kk := (x34 : Int).toNat * 3) (j := 0) (St w []) ld_3 rfl hr56 rfl (me 1 rfl)) gn rfl hns (by kernel_rfl) (by kernel_rfl) rfl rfl ?_
        refine wf_v 5 rfl (v_bin rfl rfl rfl) gn rfl hns (by kernel_rfl) (by kernel_rfl) rfl rfl ?_
        refine wf_v 6 rfl (v_move rfl) gn rfl hns (by kernel_rfl) (by kernel_rfl) rfl rfl ?_
        refine wf_bool 18 rfl ((decide_eq_false hp50)) ?_
        refine wf_v 7 rfl (v_move rfl) (gy 18 rfl rfl) rfl hns (by kernel_rfl) (by kernel_rfl) rfl rfl ?_
        refine wf_v 8 rfl (v_move rfl) (gy 18 rfl rfl) rfl hns (by kernel_rfl) (by kernel_rfl) rfl rfl ?_
        have hr57 := Rw.readF (s := St w []) (hl := hl_api_Ref) (h1 := h1_api_Ref) h18 hb48
        refine wf_v 9 rfl (v_idxR (s := St w []) slE_27 rfl rfl h18 hb48) (gy 18 rfl rfl) rfl hns (by kernel_rfl) (by kernel_rfl) rfl rfl ?_
        refine wf_v 10 rfl (v_fldA fo_36_0 rfl) (gy 18 rfl rfl) rfl hns (by kernel_rfl) (by kernel_rfl) rfl rfl ?_
        refine wf_v 11 rfl (v_ldA1 (kk := (x34 : Int).toNat * 3) (j := 0) (St w []) ld_3 rfl hr57 rfl (me 1 rfl)) (gy 18 rfl rfl) rfl hns (by kernel_rfl) (by kernel_rfl) rfl rfl ?_
        refine wf_v 12 rfl (v_fldB fo_26_0 rfl) (gy 18 rfl rfl) rfl hns (by kernel_rfl) (by kernel_rfl) rfl rfl ?_
        refine wf_v 13 rfl (v_ldB1 0 ld_22 rfl rfl rfl) (gy 18 rfl rfl) rfl hns (by kernel_rfl) (by kernel_rfl) rfl rfl ?_
        refine wf_v 14 rfl (v_lenQ un_22 rfl h5.hq) (gy 18 rfl rfl) rfl hns (by kernel_rfl) (by kernel_rfl) rfl rfl ?_
        refine wf_v 15 rfl (v_fldB fo_26_1 rfl) (gy 18 rfl rfl) rfl hns (by kernel_rfl) (by kernel_rfl) rfl rfl ?_
        refine wf_v 16 rfl (v_ldB1 0 ld_23 rfl rfl rfl) (gy 18 rfl rfl) rfl hns (by kernel_rfl) (by kernel_rfl) rfl rfl ?_
        refine wf_v 17 rfl (v_lenQ un_23 rfl h9.hq) (gy 18 rfl rfl) rfl hns (by kernel_rfl) (by kernel_rfl) rfl rfl ?_
        refine wf_v 18 rfl (v_bin rfl rfl rfl) (gy 18 rfl rfl) rfl hns (by kernel_rfl) (by kernel_rfl) rfl rfl ?_
        refine wf_v 19 rfl (v_bin rfl rfl rfl) (gy 18 rfl rfl) rfl hns (by kernel_rfl) (by kernel_rfl) rfl rfl ?_
        refine wf_v 20 rfl (v_pick (b := false) rfl rfl) gn rfl hns (by kernel_rfl) (by kernel_rfl) rfl rfl ?_
        refine wf_end (by kernel_rfl) ?_
        by_cases hp58 : (ix x14 x34).sym ≥ w64 ((x1.terms.length : Int) + (x1.syms.length : Int))
        · have h := if_pos' hp58 h
          refine g_true (c := trellisref11_Row_c19) rfl _ rfl ((decide_eq_true hp58)) ?_
          refine g_seq (c := trellisref11_Row_c20) rfl ?_
          refine g_region (c := trellisref11_Row_c22) rfl rfl ?_
          refine wl_v 0 rfl (v_assign rfl) gn rfl ?_
          refine w_end 1 rfl ?_
          have h := Out.inr hO1 h
          refine g_retR (c := trellisref11_Row_c23) [.bool false] rfl Try.func28 rfl (.tmp rfl (.nil)) fun wr hLr => ?_
          have hMr : B.Loc w wr [] [St w []] := hLr.pick (rest := [.box gb19 26 [.slice A2 n3 c4, .slice A6 n7 c8, .slice A10 n11 c12]]) (perm_of_idx [] [0] rfl rfl (by kernel_rfl)) (sels [1] rfl)
          have hMi : ∀ e ∈ ([] : List Ent), e ∈ ([.box gb19 26 [.slice A2 n3 c4, .slice A6 n7 c8, .slice A10 n11 c12]] : List Ent) := sels [] rfl
          show trellisref11_Row_R w F  r (.returned (packV [.bool false])) wr
          rw [h]
          exact ⟨rfl, hMr⟩
        · have h := if_neg' hp58 h
          refine g_false (c := trellisref11_Row_c19) rfl _ rfl ((decide_eq_false hp58)) ?_
          refine g_skip (c := trellisref11_Row_c21) rfl ?_
          refine g_inBlock ?_
          refine g_region (c := trellisref11_Row_c16) rfl rfl ?_
          refine wl_v 0 rfl (v_move rfl) gn rfl ?_
          refine wl_v 1 rfl (v_bin rfl rfl rfl) gn rfl ?_
          refine wl_v 2 rfl (v_assign rfl) gn rfl ?_
          refine w_end 3 rfl ?_
          refine g_inLoop ?_
          have ih := Out.inl hO1 h
          exact g_go [0, 1] (ih ()) ⟨rfl, rfl, rfl, trivial⟩ (.cons_cons _ (.slnil)) rfl
    · have h := if_neg' hp47 h
      refine g_false (c := trellisref11_Row_c12) rfl _ rfl ((decide_eq_false hp47)) ?_
      refine g_exit (c := trellisref11_Row_c14) [.code trellisref11_Row_c4] rfl rfl ?_
      refine g_seq (c := trellisref11_Row_c4) rfl ?_
      refine g_region (c := trellisref11_Row_c24) rfl rfl ?_
      refine wl_v 0 rfl (v_assign rfl) gn rfl ?_
      refine w_end 1 rfl ?_
      have h := Out.inr hO1 h
      refine g_retR (c := trellisref11_Row_c25) [.bool true] rfl Try.func28 rfl (.tmp rfl (.nil)) fun wr hLr => ?_
      have hMr : B.Loc w wr [] [St w []] := hLr.pick (rest := [.box gb19 26 [.slice A2 n3 c4, .slice A6 n7 c8, .slice A10 n11 c12]]) (perm_of_idx [] [0] rfl rfl (by kernel_rfl)) (sels [1] rfl)
      have hMi : ∀ e ∈ ([] : List Ent), e ∈ ([.box gb19 26 [.slice A2 n3 c4, .slice A6 n7 c8, .slice A10 n11 c12]] : List Ent) := sels [] rfl
      show trellisref11_Row_R w F  r (.returned (packV [.bool true])) wr
      rw [h]
      exact ⟨rfl, hMr⟩
  exact g_go [0, 1] (key1 _ h ()) ⟨rfl, rfl, rfl, trivial⟩ (.cons_cons _ (.slnil)) rfl
noncomputable abbrev trellisref11_Sound_c0 : Code := bodyOf Try.f27
noncomputable abbrev trellisref11_Sound_c1 : Code := Code.fst trellisref11_Sound_c0
noncomputable abbrev trellisref11_Sound_c2 : Code := Code.snd trellisref11_Sound_c0
noncomputable abbrev trellisref11_Sound_c3 : Code := Code.fst trellisref11_Sound_c2
noncomputable abbrev trellisref11_Sound_c4 : Code := Code.snd trellisref11_Sound_c2
noncomputable abbrev trellisref11_Sound_c5 : Code := Code.fst trellisref11_Sound_c3
noncomputable abbrev trellisref11_Sound_c6 : Code := Code.snd trellisref11_Sound_c3
noncomputable abbrev trellisref11_Sound_c7 : Code := Code.fst trellisref11_Sound_c6
noncomputable abbrev trellisref11_Sound_c8 : Code := Code.snd trellisref11_Sound_c6
noncomputable abbrev trellisref11_Sound_c9 : Code := Code.fst trellisref11_Sound_c7
noncomputable abbrev trellisref11_Sound_c10 : Code := Code.snd trellisref11_Sound_c7
noncomputable abbrev trellisref11_Sound_c11 : Code := Code.fst trellisref11_Sound_c4
noncomputable abbrev trellisref11_Sound_c12 : Code := Code.snd trellisref11_Sound_c4
noncomputable abbrev trellisref11_Sound_c13 : Code := Code.fst trellisref11_Sound_c11
noncomputable abbrev trellisref11_Sound_c14 : Code := Code.snd trellisref11_Sound_c11
noncomputable abbrev trellisref11_Sound_c15 : Code := Code.fst trellisref11_Sound_c14
noncomputable abbrev trellisref11_Sound_c16 : Code := Code.fst trellisref11_Sound_c15
noncomputable abbrev trellisref11_Sound_c17 : Code := Code.fst trellisref11_Sound_c16
noncomputable abbrev trellisref11_Sound_c18 : Code := Code.snd trellisref11_Sound_c16
noncomputable abbrev trellisref11_Sound_c19 : Code := Code.fst trellisref11_Sound_c17
noncomputable abbrev trellisref11_Sound_c20 : Code := Code.snd trellisref11_Sound_c17
noncomputable abbrev trellisref11_Sound_c21 : Code := Code.fst trellisref11_Sound_c20
noncomputable abbrev trellisref11_Sound_c22 : Code := Code.snd trellisref11_Sound_c20
noncomputable abbrev trellisref11_Sound_c23 : Code := Code.fst trellisref11_Sound_c18
noncomputable abbrev trellisref11_Sound_c24 : Code := Code.snd trellisref11_Sound_c18
noncomputable abbrev trellisref11_Sound_c25 : Code := Code.fst trellisref11_Sound_c23
noncomputable abbrev trellisref11_Sound_c26 : Code := Code.fst trellisref11_Sound_c25
noncomputable abbrev trellisref11_Sound_c27 : Code := Code.snd trellisref11_Sound_c25
noncomputable abbrev trellisref11_Sound_c28 : Code := Code.fst trellisref11_Sound_c27
noncomputable abbrev trellisref11_Sound_c29 : Code := Code.snd trellisref11_Sound_c27
noncomputable abbrev trellisref11_Sound_c30 : Code := Code.fst trellisref11_Sound_c29
noncomputable abbrev trellisref11_Sound_c31 : Code := Code.snd trellisref11_Sound_c29
noncomputable abbrev trellisref11_Sound_c32 : Code := Code.fst trellisref11_Sound_c30
noncomputable abbrev trellisref11_Sound_c33 : Code := Code.snd trellisref11_Sound_c30
noncomputable abbrev trellisref11_Sound_c34 : Code := Code.fst trellisref11_Sound_c12
noncomputable abbrev trellisref11_Sound_c35 : Code := Code.snd trellisref11_Sound_c12
abbrev trellisref11_Sound_R (w : World) (F : Nat → Prop) (r : Bool) : Ending → World → Prop := fun e w' => e = .returned (.bool r) ∧ B.Loc w w' [] [St w []]
noncomputable abbrev trellisref11_Sound_C (w : World) (F : Nat → Prop) (r : Bool) : Cx := ⟨Try.prog, 27, Try.f27, 51, trellisref11_Sound_R w F  r, w⟩
theorem trellisref11_Sound_calls (w : World) (F : Nat → Prop) (x1 : api_Gram) (A2 : Option Addr) (n3 : Nat) (c4 : Nat) (A6 : Option Addr) (n7 : Nat) (c8 : Nat) (A10 : Option Addr) (n11 : Nat) (c12 : Nat) (h5 : Rw k_api_TermDef w (St w []).av A2 n3 c4 x1.terms) (h9 : Rw k_api_Sym w (St w []).av A6 n7 c8 x1.syms) (h13 : Rw k_api_Prod w (St w []).av A10 n11 c12 x1.prods) (hF : ∀ b, F b → b < w.heap.size ∧ ∀ o ∈ ([] : List (List Nat)), b ∉ o) (hL0 : B.Loc w w [] [Sm w.heap.size F w [], St w []]) (r : Bool) (h : trellisref11_Sound x1 r) : Calls Try.prog 27 #[.agg #[.slice A2 n3 c4, .slice A6 n7 c8, .slice A10 n11 c12]] w (trellisref11_Sound_R w F  r) := by
  unfold trellisref11_Sound at h
  refine calls_of_Loc (vs := [.agg #[.slice A2 n3 c4, .slice A6 n7 c8, .slice A10 n11 c12]]) 51 Try.func27 rfl Try.ntmps27 rfl hL0 ?_
  show G (trellisref11_Sound_C w F r) _ _ _ _
  refine g_seq (c := trellisref11_Sound_c0) rfl ?_
  refine g_region (c := trellisref11_Sound_c1) rfl rfl ?_
  refine wl_s 0 rfl (s_box [.slice A2 n3 c4, .slice A6 n7 c8, .slice A10 n11 c12] rfl rfl rfl fun gb14 => ?_) gn
  refine wl_v 1 rfl (v_assign rfl) gn rfl ?_
  refine w_end 2 rfl ?_
  refine g_seq (c := trellisref11_Sound_c2) rfl ?_
  refine g_seq (c := trellisref11_Sound_c3) rfl ?_
  have j1 : ∀ (x19 : Bool) (h : trellisref11_Sound_j1 x1 x19 r) , G (trellisref11_Sound_C w F r) [.code trellisref11_Sound_c6, .code trellisref11_Sound_c4] [(1, .pointer (some ⟨gb14, 0, none⟩)), (20, .bool x19)] [.box gb14 26 [.slice A2 n3 c4, .slice A6 n7 c8, .slice A10 n11 c12]] [Sm w.heap.size F w [], St w []] := by
    intro x19 h
    unfold trellisref11_Sound_j1 at h
    by_cases hp20 : x19 = true
    · have h := if_pos' hp20 h
      refine g_true (c := trellisref11_Sound_c6) rfl _ rfl (hp20) ?_
      refine g_seq (c := trellisref11_Sound_c7) rfl ?_
      refine g_region (c := trellisref11_Sound_c9) rfl rfl ?_
      refine wl_v 0 rfl (v_assign rfl) gn rfl ?_
      refine w_end 1 rfl ?_
      refine g_retR (c := trellisref11_Sound_c10) [.bool false] rfl Try.func27 rfl (.tmp rfl (.nil)) fun wr hLr => ?_
      have hMr : B.Loc w wr [] [St w []] := hLr.pick (rest := [.box gb14 26 [.slice A2 n3 c4, .slice A6 n7 c8, .slice A10 n11 c12]]) (perm_of_idx [] [0] rfl rfl (by kernel_rfl)) (sels [1] rfl)
      have hMi : ∀ e ∈ ([] : List Ent), e ∈ ([.box gb14 26 [.slice A2 n3 c4, .slice A6 n7 c8, .slice A10 n11 c12]] : List Ent) := sels [] rfl
      show trellisref11_Sound_R w F  r (.returned (packV [.bool false])) wr
      rw [h]
      exact ⟨rfl, hMr⟩
    · have h := if_neg' hp20 h
      refine g_false (c := trellisref11_Sound_c6) rfl _ rfl ((bf hp20)) ?_
      refine g_skip (c := trellisref11_Sound_c8) rfl ?_
      refine g_seq (c := trellisref11_Sound_c4) rfl ?_
      refine g_seq (c := trellisref11_Sound_c11) rfl ?_
      refine g_region (c := trellisref11_Sound_c13) rfl rfl ?_
      refine wl_v 0 rfl (v_assign rfl) gn rfl ?_
      refine w_end 1 rfl ?_
      refine g_block (c := trellisref11_Sound_c14) rfl ?_
      refine g_loop (c := trellisref11_Sound_c15) rfl ?_
      have key2 : ∀ s, Rounds (fun (s : Int) o => trellisref11_Sound_b2 x1 s o) s r → (fun (s : Int) => ∀ (_ : Unit), G (trellisref11_Sound_C w F r) [.code trellisref11_Sound_c16, .inLoop trellisref11_Sound_c16, .inBlock 0, .code trellisref11_Sound_c12] [(1, .pointer (some ⟨gb14, 0, none⟩)), (3, .int .i64 s)] [.box gb14 26 [.slice A2 n3 c4, .slice A6 n7 c8, .slice A10 n11 c12]] [Sm w.heap.size F w [], St w []]) s := by
        intro s hs
        refine Rounds.ind (mot := (fun (s : Int) => ∀ (_ : Unit), G (trellisref11_Sound_C w F r) [.code trellisref11_Sound_c16, .inLoop trellisref11_Sound_c16, .inBlock 0, .code trellisref11_Sound_c12] [(1, .pointer (some ⟨gb14, 0, none⟩)), (3, .int .i64 s)] [.box gb14 26 [.slice A2 n3 c4, .slice A6 n7 c8, .slice A10 n11 c12]] [Sm w.heap.size F w [], St w []])) ?_ hs
        clear hs s
        intro x44 o1 h hO1
        show ∀ (_ : Unit), G (trellisref11_Sound_C w F r) [.code trellisref11_Sound_c16, .inLoop trellisref11_Sound_c16, .inBlock 0, .code trellisref11_Sound_c12] [(1, .pointer (some ⟨gb14, 0, none⟩)), (3, .int .i64 x44)] [.box gb14 26 [.slice A2 n3 c4, .slice A6 n7 c8, .slice A10 n11 c12]] [Sm w.heap.size F w [], St w []]
        intro _
        have h : trellisref11_Sound_b2 x1 x44 o1 := h
        unfold trellisref11_Sound_b2 at h
        refine g_seq (c := trellisref11_Sound_c16) rfl ?_
        refine g_seq (c := trellisref11_Sound_c17) rfl ?_
        refine g_region (c := trellisref11_Sound_c19) rfl rfl ?_
        refine wl_v 0 rfl (v_move rfl) gn rfl ?_
        refine wl_v 1 rfl (v_fldB fo_26_2 rfl) gn rfl ?_
        refine wl_v 2 rfl (v_ldB1 0 ld_24 rfl rfl rfl) gn rfl ?_
        refine wl_v 3 rfl (v_lenQ un_24 rfl h13.hq) gn rfl ?_
        refine wl_v 4 rfl (v_bin rfl rfl rfl) gn rfl ?_
        refine w_end 5 rfl ?_
        by_cases hp67 : x44 < (x1.prods.length : Int)
        · have h := if_pos' hp67 h
          refine g_true (c := trellisref11_Sound_c20) rfl _ rfl ((decide_eq_true hp67)) ?_
          refine g_skip (c := trellisref11_Sound_c21) rfl ?_
          refine g_seq (c := trellisref11_Sound_c18) rfl ?_
          refine g_block (c := trellisref11_Sound_c23) rfl ?_
          refine g_seq (c := trellisref11_Sound_c25) rfl ?_
          refine g_region (c := trellisref11_Sound_c26) rfl rfl ?_
          refine wl_v 0 rfl (v_fldB fo_26_2 rfl) gn rfl ?_
          refine wl_v 1 rfl (v_ldB1 0 ld_24 rfl rfl rfl) gn rfl ?_
          refine wl_v 2 rfl (v_move rfl) gn rfl ?_
          obtain ⟨hb68, h⟩ := h
          obtain ⟨ce70, hK71, hr69⟩ := Rw.read (s := St w []) h13 hb68
          obtain ⟨A72, n73, c74, rfl, h75⟩ := hK71
          refine wl_v 3 rfl (v_idxR (s := St w []) slE_24 rfl rfl h13 hb68) gn rfl ?_
          refine wl_v 4 rfl (v_ldA (St w []) ld_38 rfl hr69 rfl (me 1 rfl)) gn rfl ?_
          refine wl_s 5 rfl (s_alloc [.int .i64 0, .slice none 0 0] zr_38 rfl fun gb76 => ?_) gn
          refine wl_s 6 rfl (s_stB (vs := [.int .i64 ((ix x1.prods x44).lhs), .slice A72 n73 c74]) (cs' := [.int .i64 ((ix x1.prods x44).lhs), .slice A72 n73 c74]) (M' := [.box gb76 38 [.int .i64 ((ix x1.prods x44).lhs), .slice A72 n73 c74], .box gb14 26 [.slice A2 n3 c4, .slice A6 n7 c8, .slice A10 n11 c12]]) 0 sz_38 rfl rfl rfl rfl rfl rfl rfl rfl rfl ?_) gn
          refine w_end 7 rfl ?_
          refine g_seq (c := trellisref11_Sound_c27) rfl ?_
          refine g_region (c := trellisref11_Sound_c28) rfl rfl ?_
          refine wl_v 0 rfl (v_fldB fo_38_0 rfl) gn rfl ?_
          refine wl_v 1 rfl (v_ldB1 0 ld_3 rfl rfl rfl) gn rfl ?_
          refine wl_v 2 rfl (v_bin rfl rfl rfl) gn rfl ?_
          refine wl_v 3 rfl (v_move rfl) gn rfl ?_
          by_cases hp78 : (ix x1.prods x44).lhs < -1
          · have h := if_pos' hp78 h
            refine w_bool 36 rfl ((decide_eq_true hp78)) ?_
            refine wl_pass 4 rfl (ps 36 rfl rfl rfl) ?_
            refine wl_pass 5 rfl (ps 36 rfl rfl rfl) ?_
            refine wl_pass 6 rfl (ps 36 rfl rfl rfl) ?_
            refine wl_pass 7 rfl (ps 36 rfl rfl rfl) ?_
            refine wl_pass 8 rfl (ps 36 rfl rfl rfl) ?_
            refine wl_pass 9 rfl (ps 36 rfl rfl rfl) ?_
            refine wl_v 10 rfl (v_pick (b := true) rfl rfl) gn rfl ?_
            refine wl_v 11 rfl (v_move rfl) gn rfl ?_
            refine wl_pass 12 rfl (ps 44 rfl rfl rfl) ?_
            refine wl_pass 13 rfl (ps 44 rfl rfl rfl) ?_
            refine wl_pass 14 rfl (ps 44 rfl rfl rfl) ?_
            refine wl_pass 15 rfl (ps 44 rfl rfl rfl) ?_
            refine wl_pass 16 rfl (ps 44 rfl rfl rfl) ?_
            refine wl_v 17 rfl (v_pick (b := true) rfl rfl) gn rfl ?_
            refine w_end 18 rfl ?_
            refine g_true (c := trellisref11_Sound_c29) rfl _ rfl (rfl) ?_
            refine g_seq (c := trellisref11_Sound_c30) rfl ?_
            refine g_region (c := trellisref11_Sound_c32) rfl rfl ?_
            refine wl_v 0 rfl (v_assign rfl) gn rfl ?_
            refine w_end 1 rfl ?_
            have h := Out.inr hO1 h
            refine g_retR (c := trellisref11_Sound_c33) [.bool false] rfl Try.func27 rfl (.tmp rfl (.nil)) fun wr hLr => ?_
            have hMr : B.Loc w wr [] [St w []] := hLr.pick (rest := [.box gb76 38 [.int .i64 ((ix x1.prods x44).lhs), .slice A72 n73 c74], .box gb14 26 [.slice A2 n3 c4, .slice A6 n7 c8, .slice A10 n11 c12]]) (perm_of_idx [] [0, 1] rfl rfl (by kernel_rfl)) (sels [1] rfl)
            have hMi : ∀ e ∈ ([] : List Ent), e ∈ ([.box gb76 38 [.int .i64 ((ix x1.prods x44).lhs), .slice A72 n73 c74], .box gb14 26 [.slice A2 n3 c4, .slice A6 n7 c8, .slice A10 n11 c12]] : List Ent) := sels [] rfl
            show trellisref11_Sound_R w F  r (.returned (packV [.bool false])) wr
            rw [h]
            exact ⟨rfl, hMr⟩
          · have h := if_neg' hp78 h
            refine w_bool 36 rfl ((decide_eq_false hp78)) ?_
            refine wl_v 4 rfl (v_fldB fo_38_0 rfl) (gy 36 rfl rfl) rfl ?_
            refine wl_v 5 rfl (v_ldB1 0 ld_3 rfl rfl rfl) (gy 36 rfl rfl) rfl ?_
            refine wl_v 6 rfl (v_fldB fo_26_1 rfl) (gy 36 rfl rfl) rfl ?_
            refine wl_v 7 rfl (v_ldB1 1 ld_23 rfl rfl rfl) (gy 36 rfl rfl) rfl ?_
            refine wl_v 8 rfl (v_lenQ un_23 rfl h9.hq) (gy 36 rfl rfl) rfl ?_
            refine wl_v 9 rfl (v_bin rfl rfl rfl) (gy 36 rfl rfl) rfl ?_
            refine wl_v 10 rfl (v_pick (b := false) rfl rfl) gn rfl ?_
            refine wl_v 11 rfl (v_move rfl) gn rfl ?_
            by_cases hp79 : (ix x1.prods x44).lhs ≥ (x1.syms.length : Int)
            · have h := if_pos' hp79 h
              refine w_bool 44 rfl ((decide_eq_true hp79)) ?_
              refine wl_pass 12 rfl (ps 44 rfl rfl rfl) ?_
              refine wl_pass 13 rfl (ps 44 rfl rfl rfl) ?_
              refine wl_pass 14 rfl (ps 44 rfl rfl rfl) ?_
              refine wl_pass 15 rfl (ps 44 rfl rfl rfl) ?_
              refine wl_pass 16 rfl (ps 44 rfl rfl rfl) ?_
              refine wl_v 17 rfl (v_pick (b := true) rfl rfl) gn rfl ?_
              refine w_end 18 rfl ?_
              refine g_true (c := trellisref11_Sound_c29) rfl _ rfl (rfl) ?_
              refine g_seq (c := trellisref11_Sound_c30) rfl ?_
              refine g_region (c := trellisref11_Sound_c32) rfl rfl ?_
              refine wl_v 0 rfl (v_assign rfl) gn rfl ?_
              refine w_end 1 rfl ?_
              have h := Out.inr hO1 h
              refine g_retR (c := trellisref11_Sound_c33) [.bool false] rfl Try.func27 rfl (.tmp rfl (.nil)) fun wr hLr => ?_
              have hMr : B.Loc w wr [] [St w []] := hLr.pick (rest := [.box gb76 38 [.int .i64 ((ix x1.prods x44).lhs), .slice A72 n73 c74], .box gb14 26 [.slice A2 n3 c4, .slice A6 n7 c8, .slice A10 n11 c12]]) (perm_of_idx [] [0, 1] rfl rfl (by kernel_rfl)) (sels [1] rfl)
              have hMi : ∀ e ∈ ([] : List Ent), e ∈ ([.box gb76 38 [.int .i64 ((ix x1.prods x44).lhs), .slice A72 n73 c74], .box gb14 26 [.slice A2 n3 c4, .slice A6 n7 c8, .slice A10 n11 c12]] : List Ent) := sels [] rfl
              show trellisref11_Sound_R w F  r (.returned (packV [.bool false])) wr
              rw [h]
              exact ⟨rfl, hMr⟩
            · have h := if_neg' hp79 h
              refine w_bool 44 rfl ((decide_eq_false hp79)) ?_
              refine wl_v 12 rfl (v_ldB [.slice A2 n3 c4, .slice A6 n7 c8, .slice A10 n11 c12] 1 ld_26 rfl rfl rfl rfl) (gy 44 rfl rfl) rfl ?_
              refine wl_v 13 rfl (v_fldB fo_38_1 rfl) (gy 44 rfl rfl) rfl ?_
              refine wl_v 14 rfl (v_ldB1 0 ld_27 rfl rfl rfl) (gy 44 rfl rfl) rfl ?_
              obtain ⟨r83, hv84, h⟩ := h
              refine wl_s 15 rfl (s_call [.agg #[.slice A2 n3 c4, .slice A6 n7 c8, .slice A10 n11 c12], .slice A72 n73 c74] rfl Try.func28 rfl rfl rfl fun w80 hL81 => ?_) (gy 44 rfl rfl)
              have hp82 : List.Perm ([.box gb76 38 [.int .i64 ((ix x1.prods x44).lhs), .slice A72 n73 c74], .box gb14 26 [.slice A2 n3 c4, .slice A6 n7 c8, .slice A10 n11 c12]] : List Ent) (([] : List Ent) ++ ([.box gb76 38 [.int .i64 ((ix x1.prods x44).lhs), .slice A72 n73 c74], .box gb14 26 [.slice A2 n3 c4, .slice A6 n7 c8, .slice A10 n11 c12]] : List Ent)) := perm_of_idx [] [0, 1] rfl rfl (by kernel_rfl)
              refine Calls.mono (trellisref11_Row_calls w80 (Fl ([] : List Snap)) x1 ((ix x1.prods x44).rhs) A2 n3 c4 A6 n7 c8 A10 n11 c12 A72 n73 c74 (Rw.mono h5 (hL81.toSt hp82 (me 1 rfl))) (Rw.mono h9 (hL81.toSt hp82 (me 1 rfl))) (Rw.mono h13 (hL81.toSt hp82 (me 1 rfl))) (Rw.mono h75 (hL81.toSt hp82 (me 1 rfl))) (hL81.hFl (Sl := ([] : List Snap)) hp82 (sels [] rfl)) (hL81.into hp82 (Fl ([] : List Snap))) r83 hv84) ?_
              rintro _ w85 ⟨rfl, hM86⟩
              have hL87 := hL81.call hp82 hM86
              refine ⟨_, _, _, rfl, hL87, ?_⟩
              refine wl_v 16 rfl (v_not rfl) (gy 44 rfl rfl) rfl ?_
              refine wl_v 17 rfl (v_pick (b := false) rfl rfl) gn rfl ?_
              refine w_end 18 rfl ?_
              by_cases hp88 : r83 = true
              · have h := if_pos' hp88 h
                refine g_false (c := trellisref11_Sound_c29) rfl _ rfl ((nf hp88)) ?_
                refine g_skip (c := trellisref11_Sound_c31) rfl ?_
                refine g_inBlock ?_
                refine g_region (c := trellisref11_Sound_c24) rfl rfl ?_
                refine wl_v 0 rfl (v_move rfl) gn rfl ?_
                refine wl_v 1 rfl (v_bin rfl rfl rfl) gn rfl ?_
                refine wl_v 2 rfl (v_assign rfl) gn rfl ?_
                refine w_end 3 rfl ?_
                refine g_inLoop ?_
                have ih := Out.inl hO1 h
                exact g_go [0, 1] (ih ()) ⟨rfl, rfl, trivial⟩ (.cons _ (.cons_cons _ (.slnil))) rfl
              · have h := if_neg' hp88 h
                refine g_true (c := trellisref11_Sound_c29) rfl _ rfl ((nt (bf hp88))) ?_
                refine g_seq (c := trellisref11_Sound_c30) rfl ?_
                refine g_region (c := trellisref11_Sound_c32) rfl rfl ?_
                refine wl_v 0 rfl (v_assign rfl) gn rfl ?_
                refine w_end 1 rfl ?_
                have h := Out.inr hO1 h
                refine g_retR (c := trellisref11_Sound_c33) [.bool false] rfl Try.func27 rfl (.tmp rfl (.nil)) fun wr hLr => ?_
                have hMr : B.Loc w wr [] [St w []] := hLr.pick (rest := [.box gb76 38 [.int .i64 ((ix x1.prods x44).lhs), .slice A72 n73 c74], .box gb14 26 [.slice A2 n3 c4, .slice A6 n7 c8, .slice A10 n11 c12]]) (perm_of_idx [] [0, 1] rfl rfl (by kernel_rfl)) (sels [1] rfl)
                have hMi : ∀ e ∈ ([] : List Ent), e ∈ ([.box gb76 38 [.int .i64 ((ix x1.prods x44).lhs), .slice A72 n73 c74], .box gb14 26 [.slice A2 n3 c4, .slice A6 n7 c8, .slice A10 n11 c12]] : List Ent) := sels [] rfl
                show trellisref11_Sound_R w F  r (.returned (packV [.bool false])) wr
                rw [h]
                exact ⟨rfl, hMr⟩
        · have h := if_neg' hp67 h
          refine g_false (c := trellisref11_Sound_c20) rfl _ rfl ((decide_eq_false hp67)) ?_
          refine g_exit (c := trellisref11_Sound_c22) [.code trellisref11_Sound_c12] rfl rfl ?_
          refine g_seq (c := trellisref11_Sound_c12) rfl ?_
          refine g_region (c := trellisref11_Sound_c34) rfl rfl ?_
          refine wl_v 0 rfl (v_assign rfl) gn rfl ?_
          refine w_end 1 rfl ?_
          have h := Out.inr hO1 h
          refine g_retR (c := trellisref11_Sound_c35) [.bool true] rfl Try.func27 rfl (.tmp rfl (.nil)) fun wr hLr => ?_
          have hMr : B.Loc w wr [] [St w []] := hLr.pick (rest := [.box gb14 26 [.slice A2 n3 c4, .slice A6 n7 c8, .slice A10 n11 c12]]) (perm_of_idx [] [0] rfl rfl (by kernel_rfl)) (sels [1] rfl)
          have hMi : ∀ e ∈ ([] : List Ent), e ∈ ([.box gb14 26 [.slice A2 n3 c4, .slice A6 n7 c8, .slice A10 n11 c12]] : List Ent) := sels [] rfl
          show trellisref11_Sound_R w F  r (.returned (packV [.bool true])) wr
          rw [h]
          exact ⟨rfl, hMr⟩
      exact g_go [0, 1] (key2 _ h ()) ⟨rfl, rfl, trivial⟩ (.cons_cons _ (.slnil)) rfl
  refine g_region (c := trellisref11_Sound_c5) rfl rfl ?_
  refine wl_v 0 rfl (v_fldB fo_26_0 rfl) gn rfl ?_
  refine wl_v 1 rfl (v_ldB1 0 ld_22 rfl rfl rfl) gn rfl ?_
  refine wl_v 2 rfl (v_lenQ un_22 rfl h5.hq) gn rfl ?_
  refine wl_v 3 rfl (v_bin rfl rfl rfl) gn rfl ?_
  refine wl_v 4 rfl (v_move rfl) gn rfl ?_
  by_cases hp89 : (x1.terms.length : Int) < 1
  · have h := if_pos' hp89 h
    refine w_bool 9 rfl ((decide_eq_true hp89)) ?_
    refine wl_pass 5 rfl (ps 9 rfl rfl rfl) ?_
    refine wl_pass 6 rfl (ps 9 rfl rfl rfl) ?_
    refine wl_pass 7 rfl (ps 9 rfl rfl rfl) ?_
    refine wl_pass 8 rfl (ps 9 rfl rfl rfl) ?_
    refine wl_v 9 rfl (v_pick (b := true) rfl rfl) gn rfl ?_
    refine wl_v 10 rfl (v_move rfl) gn rfl ?_
    refine wl_pass 11 rfl (ps 15 rfl rfl rfl) ?_
    refine wl_pass 12 rfl (ps 15 rfl rfl rfl) ?_
    refine wl_pass 13 rfl (ps 15 rfl rfl rfl) ?_
    refine wl_pass 14 rfl (ps 15 rfl rfl rfl) ?_
    refine wl_v 15 rfl (v_pick (b := true) rfl rfl) gn rfl ?_
    refine w_end 16 rfl ?_
    exact g_go [0, 1] (j1 true h) ⟨rfl, rfl, trivial⟩ (.cons_cons _ (.slnil)) rfl
  · have h := if_neg' hp89 h
    refine w_bool 9 rfl ((decide_eq_false hp89)) ?_
    refine wl_v 5 rfl (v_fldB fo_26_0 rfl) (gy 9 rfl rfl) rfl ?_
    refine wl_v 6 rfl (v_ldB1 0 ld_22 rfl rfl rfl) (gy 9 rfl rfl) rfl ?_
    refine wl_v 7 rfl (v_lenQ un_22 rfl h5.hq) (gy 9 rfl rfl) rfl ?_
    refine wl_v 8 rfl (v_bin rfl rfl rfl) (gy 9 rfl rfl) rfl ?_
    refine wl_v 9 rfl (v_pick (b := false) rfl rfl) gn rfl ?_
    refine wl_v 10 rfl (v_move rfl) gn rfl ?_
    by_cases hp90 : (x1.terms.length : Int) > 64
    · have h := if_pos' hp90 h
      refine w_bool 15 rfl ((decide_eq_true hp90)) ?_
      refine wl_pass 11 rfl (ps 15 rfl rfl rfl) ?_
      refine wl_pass 12 rfl (ps 15 rfl rfl rfl) ?_
      refine wl_pass 13 rfl (ps 15 rfl rfl rfl) ?_
      refine wl_pass 14 rfl (ps 15 rfl rfl rfl) ?_
      refine wl_v 15 rfl (v_pick (b := true) rfl rfl) gn rfl ?_
      refine w_end 16 rfl ?_
      exact g_go [0, 1] (j1 true h) ⟨rfl, rfl, trivial⟩ (.cons_cons _ (.slnil)) rfl
    · have h := if_neg' hp90 h
      refine w_bool 15 rfl ((decide_eq_false hp90)) ?_
      refine wl_v 11 rfl (v_fldB fo_26_1 rfl) (gy 15 rfl rfl) rfl ?_
      refine wl_v 12 rfl (v_ldB1 0 ld_23 rfl rfl rfl) (gy 15 rfl rfl) rfl ?_
      refine wl_v 13 rfl (v_lenQ un_23 rfl h9.hq) (gy 15 rfl rfl) rfl ?_
      refine wl_v 14 rfl (v_bin rfl rfl rfl) (gy 15 rfl rfl) rfl ?_
      refine wl_v 15 rfl (v_pick (b := false) rfl rfl) gn rfl ?_
      refine w_end 16 rfl ?_
      exact g_go [0, 1] (j1 (decide ((x1.syms.length : Int) > 128)) h) ⟨rfl, rfl, trivial⟩ (.cons_cons _ (.slnil)) rfl
noncomputable abbrev trellisref11_goes_c0 : Code := bodyOf Try.f30
noncomputable abbrev trellisref11_goes_c1 : Code := Code.fst trellisref11_goes_c0
noncomputable abbrev trellisref11_goes_c2 : Code := Code.snd trellisref11_goes_c0
noncomputable abbrev trellisref11_goes_c3 : Code := Code.fst trellisref11_goes_c2
noncomputable abbrev trellisref11_goes_c4 : Code := Code.snd trellisref11_goes_c2
noncomputable abbrev trellisref11_goes_c5 : Code := Code.fst trellisref11_goes_c3
noncomputable abbrev trellisref11_goes_c6 : Code := Code.snd trellisref11_goes_c3
noncomputable abbrev trellisref11_goes_c7 : Code := Code.fst trellisref11_goes_c6
noncomputable abbrev trellisref11_goes_c8 : Code := Code.fst trellisref11_goes_c7
noncomputable abbrev trellisref11_goes_c9 : Code := Code.fst trellisref11_goes_c8
noncomputable abbrev trellisref11_goes_c10 : Code := Code.snd trellisref11_goes_c8
noncomputable abbrev trellisref11_goes_c11 : Code := Code.fst trellisref11_goes_c9
noncomputable abbrev trellisref11_goes_c12 : Code := Code.snd trellisref11_goes_c9
noncomputable abbrev trellisref11_goes_c13 : Code := Code.fst trellisref11_goes_c12
noncomputable abbrev trellisref11_goes_c14 : Code := Code.snd trellisref11_goes_c12
noncomputable abbrev trellisref11_goes_c15 : Code := Code.fst trellisref11_goes_c10
noncomputable abbrev trellisref11_goes_c16 : Code := Code.snd trellisref11_goes_c10
noncomputable abbrev trellisref11_goes_c17 : Code := Code.fst trellisref11_goes_c15
noncomputable abbrev trellisref11_goes_c18 : Code := Code.fst trellisref11_goes_c17
noncomputable abbrev trellisref11_goes_c19 : Code := Code.snd trellisref11_goes_c17
noncomputable abbrev trellisref11_goes_c20 : Code := Code.fst trellisref11_goes_c19
noncomputable abbrev trellisref11_goes_c21 : Code := Code.snd trellisref11_goes_c19
noncomputable abbrev trellisref11_goes_c22 : Code := Code.fst trellisref11_goes_c20
noncomputable abbrev trellisref11_goes_c23 : Code := Code.snd trellisref11_goes_c20
noncomputable abbrev trellisref11_goes_c24 : Code := Code.fst trellisref11_goes_c4
noncomputable abbrev trellisref11_goes_c25 : Code := Code.snd trellisref11_goes_c4
abbrev trellisref11_goes_R (w : World) (F : Nat → Prop) (r : Bool) : Ending → World → Prop := fun e w' => e = .returned (.bool r) ∧ B.Loc w w' [] [St w []]
noncomputable abbrev trellisref11_goes_C (w : World) (F : Nat → Prop) (r : Bool) : Cx := ⟨Try.prog, 30, Try.f30, 21, trellisref11_goes_R w F  r, w⟩
theorem trellisref11_goes_calls (w : World) (F : Nat → Prop) (x1 : List Bool) (x6 : List api_Ref) (A2 : Option Addr) (n3 : Nat) (c4 : Nat) (A7 : Option Addr) (n8 : Nat) (c9 : Nat) (h5 : Rw kBool w (St w []).av A2 n3 c4 x1) (h10 : Rw k_api_Ref w (St w []).av A7 n8 c9 x6) (hF : ∀ b, F b → b < w.heap.size ∧ ∀ o ∈ ([] : List (List Nat)), b ∉ o) (hL0 : B.Loc w w [] [Sm w.heap.size F w [], St w []]) (r : Bool) (h : trellisref11_goes x1 x6 r) : Calls Try.prog 30 #[.slice A2 n3 c4, .slice A7 n8 c9] w (trellisref11_goes_R w F  r) := by
  unfold trellisref11_goes at h
  refine calls_of_Loc (vs := [.slice A2 n3 c4, .slice A7 n8 c9]) 21 Try.func30 rfl Try.ntmps30 rfl hL0 ?_
  show G (trellisref11_goes_C w F r) _ _ _ _
  refine g_seq (c := trellisref11_goes_c0) rfl ?_
  refine g_region (c := trellisref11_goes_c1) rfl rfl ?_
  refine wl_v 0 rfl (v_assign rfl) gn rfl ?_
  refine w_end 1 rfl ?_
  refine g_seq (c := trellisref11_goes_c2) rfl ?_
  refine g_seq (c := trellisref11_goes_c3) rfl ?_
  refine g_region (c := trellisref11_goes_c5) rfl rfl ?_
  refine wl_v 0 rfl (v_assign rfl) gn rfl ?_
  refine w_end 1 rfl ?_
  refine g_block (c := trellisref11_goes_c6) rfl ?_
  refine g_loop (c := trellisref11_goes_c7) rfl ?_
  have key1 : ∀ s, Rounds (fun (s : Int) o => trellisref11_goes_b1 x6 x1 s o) s r → (fun (s : Int) => ∀ (_ : Unit), G (trellisref11_goes_C w F r) [.code trellisref11_goes_c8, .inLoop trellisref11_goes_c8, .inBlock 0, .code trellisref11_goes_c4] [(0, .slice A2 n3 c4), (1, .slice A7 n8 c9), (5, .int .i64 s)] [] [Sm w.heap.size F w [], St w []]) s := by
    intro s hs
    refine Rounds.ind (mot := (fun (s : Int) => ∀ (_ : Unit), G (trellisref11_goes_C w F r) [.code trellisref11_goes_c8, .inLoop trellisref11_goes_c8, .inBlock 0, .code trellisref11_goes_c4] [(0, .slice A2 n3 c4), (1, .slice A7 n8 c9), (5, .int .i64 s)] [] [Sm w.heap.size F w [], St w []])) ?_ hs
    clear hs s
    intro x18 o1 h hO1
    show ∀ (_ : Unit), G (trellisref11_goes_C w F r) [.code trellisref11_goes_c8, .inLoop trellisref11_goes_c8, .inBlock 0, .code trellisref11_goes_c4] [(0, .slice A2 n3 c4), (1, .slice A7 n8 c9), (5, .int .i64 x18)] [] [Sm w.heap.size F w [], St w []]
    intro _
    have h : trellisref11_goes_b1 x6 x1 x18 o1 := h
    unfold trellisref11_goes_b1 at h
    refine g_seq (c := trellisref11_goes_c8) rfl ?_
    refine g_seq (c := trellisref11_goes_c9) rfl ?_
    refine g_region (c := trellisref11_goes_c11) rfl rfl ?_
    refine wl_v 0 rfl (v_move rfl) gn rfl ?_
    refine wl_v 1 rfl (v_move rfl) gn rfl ?_
    refine wl_v 2 rfl (v_lenQ un_27 rfl h10.hq) gn rfl ?_
    refine wl_v 3 rfl (v_bin rfl rfl rfl) gn rfl ?_
    refine w_end 4 rfl ?_
    by_cases hp25 : x18 < (x6.length : Int)
    · have h := if_pos' hp25 h
      refine g_true (c := trellisref11_goes_c12) rfl _ rfl ((decide_eq_true hp25)) ?_
      refine g_skip (c := trellisref11_goes_c13) rfl ?_
      refine g_seq (c := trellisref11_goes_c10) rfl ?_
      refine g_block (c := trellisref11_goes_c15) rfl ?_
      refine g_seq (c := trellisref11_goes_c17) rfl ?_
      refine g_region (c := trellisref11_goes_c18) rfl rfl ?_
      refine wl_v 0 rfl (v_move rfl) gn rfl ?_
      refine wl_v 1 rfl (v_move rfl) gn rfl ?_
      refine wl_v 2 rfl (v_move rfl) gn rfl ?_
      obtain ⟨hb26, h⟩ := h
      have hr27 := Rw.readF (s := St w []) (hl := hl_api_Ref) (h1 := h1_api_Ref) h10 hb26
      refine wl_v 3 rfl (v_idxR (s := St w []) slE_27 rfl rfl h10 hb26) gn rfl ?_
      refine wl_v 4 rfl (v_fldA fo_36_0 rfl) gn rfl ?_
      refine wl_v 5 rfl (v_ldA1 (kk := (x18 : Int).toNat * 3) (j := 0) (St w []) ld_3 rfl hr27 rfl (me 1 rfl)) gn rfl ?_
      obtain ⟨hb28, h⟩ := h
      have hr29 := Rw.readF (s := St w []) (hl := hlB) (h1 := hone_bool) h5 hb28
      refine wl_v 6 rfl (v_idxR (s := St w []) slE_40 rfl rfl h5 hb28) gn rfl ?_
      refine wl_v 7 rfl (v_ldA1 (kk := ((ix x6 x18).sym : Int).toNat * 1) (j := 0) (St w []) ld_4 rfl hr29 rfl (me 1 rfl)) gn rfl ?_
      refine wl_v 8 rfl (v_not rfl) gn rfl ?_
      refine w_end 9 rfl ?_
      by_cases hp30 : (ix x1 ((ix x6 x18).sym)) = true
      · have h := if_pos' hp30 h
        refine g_false (c := trellisref11_goes_c19) rfl _ rfl ((nf hp30)) ?_
        refine g_skip (c := trellisref11_goes_c21) rfl ?_
        refine g_inBlock ?_
        refine g_region (c := trellisref11_goes_c16) rfl rfl ?_
        refine wl_v 0 rfl (v_move rfl) gn rfl ?_
        refine wl_v 1 rfl (v_bin rfl rfl rfl) gn rfl ?_
        refine wl_v 2 rfl (v_assign rfl) gn rfl ?_
        refine w_end 3 rfl ?_
        refine g_inLoop ?_
        have ih := Out.inl hO1 h
        exact g_go [0, 1] (ih ()) ⟨rfl, rfl, rfl, trivial⟩ (.slnil) rfl
      · have h := if_neg' hp30 h
        refine g_true (c := trellisref11_goes_c19) rfl _ rfl ((nt (bf hp30))) ?_
        refine g_seq (c := trellisref11_goes_c20) rfl ?_
        refine g_region (c := trellisref11_goes_c22) rfl rfl ?_
        refine wl_v 0 rfl (v_assign rfl) gn rfl ?_
        refine w_end 1 rfl ?_
        have h := Out.inr hO1 h
        refine g_retR (c := trellisref11_goes_c23) [.bool false] rfl Try.func30 rfl (.tmp rfl (.nil)) fun wr hLr => ?_
        have hMr : B.Loc w wr [] [St w []] := hLr.pick (rest := []) (perm_of_idx [] [] rfl rfl (by kernel_rfl)) (sels [1] rfl)
        have hMi : ∀ e ∈ ([] : List Ent), e ∈ ([] : List Ent) := sels [] rfl
        show trellisref11_goes_R w F  r (.returned (packV [.bool false])) wr
        rw [h]
        exact ⟨rfl, hMr⟩
    · have h := if_neg' hp25 h
      refine g_false (c := trellisref11_goes_c12) rfl _ rfl ((decide_eq_false hp25)) ?_
      refine g_exit (c := trellisref11_goes_c14) [.code trellisref11_goes_c4] rfl rfl ?_
      refine g_seq (c := trellisref11_goes_c4) rfl ?_
      refine g_region (c := trellisref11_goes_c24) rfl rfl ?_
      refine wl_v 0 rfl (v_assign rfl) gn rfl ?_
      refine w_end 1 rfl ?_
      have h := Out.inr hO1 h
      refine g_retR (c := trellisref11_goes_c25) [.bool true] rfl Try.func30 rfl (.tmp rfl (.nil)) fun wr hLr => ?_
      have hMr : B.Loc w wr [] [St w []] := hLr.pick (rest := []) (perm_of_idx [] [] rfl rfl (by kernel_rfl)) (sels [1] rfl)
      have hMi : ∀ e ∈ ([] : List Ent), e ∈ ([] : List Ent) := sels [] rfl
      show trellisref11_goes_R w F  r (.returned (packV [.bool true])) wr
      rw [h]
      exact ⟨rfl, hMr⟩
  exact g_go [0, 1] (key1 _ h ()) ⟨rfl, rfl, rfl, trivial⟩ (.slnil) rfl
end Go.Proofs.Ytelafghkjlpojaa.K
