/- What the machine's calls do, function by function, printed by my own tool. Condition of each: its relation holds of the answer, and what is handed in lies in memory as told. -/
import Derived.Test.YtelafghkjlpojaaK2
set_option linter.unusedVariables false
set_option maxRecDepth 100000
set_option maxHeartbeats 4000000
namespace Go.Proofs.Ytelafghkjlpojaa.K
open Go.Proofs.Ytelafghkjlpojaa.B Go.Proofs.Ytelafghkjlpojaa.R Go.RowKit
noncomputable abbrev first_solve_c0 : Code := bodyOf Try.f33
noncomputable abbrev first_solve_c1 : Code := Code.fst first_solve_c0
noncomputable abbrev first_solve_c2 : Code := Code.snd first_solve_c0
noncomputable abbrev first_solve_c3 : Code := Code.fst first_solve_c2
noncomputable abbrev first_solve_c4 : Code := Code.snd first_solve_c2
noncomputable abbrev first_solve_c5 : Code := Code.fst first_solve_c4
noncomputable abbrev first_solve_c6 : Code := Code.snd first_solve_c4
noncomputable abbrev first_solve_c7 : Code := Code.fst first_solve_c5
noncomputable abbrev first_solve_c8 : Code := Code.snd first_solve_c5
noncomputable abbrev first_solve_c9 : Code := Code.fst first_solve_c8
noncomputable abbrev first_solve_c10 : Code := Code.fst first_solve_c9
noncomputable abbrev first_solve_c11 : Code := Code.fst first_solve_c10
noncomputable abbrev first_solve_c12 : Code := Code.snd first_solve_c10
noncomputable abbrev first_solve_c13 : Code := Code.fst first_solve_c12
noncomputable abbrev first_solve_c14 : Code := Code.snd first_solve_c12
noncomputable abbrev first_solve_c15 : Code := Code.fst first_solve_c13
noncomputable abbrev first_solve_c16 : Code := Code.snd first_solve_c13
noncomputable abbrev first_solve_c17 : Code := Code.fst first_solve_c14
noncomputable abbrev first_solve_c18 : Code := Code.snd first_solve_c14
noncomputable abbrev first_solve_c19 : Code := Code.fst first_solve_c17
noncomputable abbrev first_solve_c20 : Code := Code.fst first_solve_c19
noncomputable abbrev first_solve_c21 : Code := Code.snd first_solve_c19
noncomputable abbrev first_solve_c22 : Code := Code.fst first_solve_c6
noncomputable abbrev first_solve_c23 : Code := Code.fst first_solve_c22
noncomputable abbrev first_solve_c24 : Code := Code.fst first_solve_c23
noncomputable abbrev first_solve_c25 : Code := Code.fst first_solve_c24
noncomputable abbrev first_solve_c26 : Code := Code.snd first_solve_c24
noncomputable abbrev first_solve_c27 : Code := Code.fst first_solve_c26
noncomputable abbrev first_solve_c28 : Code := Code.snd first_solve_c26
noncomputable abbrev first_solve_c29 : Code := Code.fst first_solve_c27
noncomputable abbrev first_solve_c30 : Code := Code.snd first_solve_c27
noncomputable abbrev first_solve_c31 : Code := Code.fst first_solve_c30
noncomputable abbrev first_solve_c32 : Code := Code.fst first_solve_c31
noncomputable abbrev first_solve_c33 : Code := Code.fst first_solve_c32
noncomputable abbrev first_solve_c34 : Code := Code.snd first_solve_c32
noncomputable abbrev first_solve_c35 : Code := Code.fst first_solve_c34
noncomputable abbrev first_solve_c36 : Code := Code.snd first_solve_c34
noncomputable abbrev first_solve_c37 : Code := Code.fst first_solve_c35
noncomputable abbrev first_solve_c38 : Code := Code.snd first_solve_c35
noncomputable abbrev first_solve_c39 : Code := Code.fst first_solve_c36
noncomputable abbrev first_solve_c40 : Code := Code.snd first_solve_c36
noncomputable abbrev first_solve_c41 : Code := Code.fst first_solve_c39
noncomputable abbrev first_solve_c42 : Code := Code.fst first_solve_c41
noncomputable abbrev first_solve_c43 : Code := Code.snd first_solve_c41
noncomputable abbrev first_solve_c44 : Code := Code.fst first_solve_c43
noncomputable abbrev first_solve_c45 : Code := Code.snd first_solve_c43
noncomputable abbrev first_solve_c46 : Code := Code.fst first_solve_c44
noncomputable abbrev first_solve_c47 : Code := Code.snd first_solve_c44
noncomputable abbrev first_solve_c48 : Code := Code.fst first_solve_c47
noncomputable abbrev first_solve_c49 : Code := Code.snd first_solve_c47
noncomputable abbrev first_solve_c50 : Code := Code.fst first_solve_c45
noncomputable abbrev first_solve_c51 : Code := Code.snd first_solve_c45
noncomputable abbrev first_solve_c52 : Code := Code.fst first_solve_c51
noncomputable abbrev first_solve_c53 : Code := Code.snd first_solve_c51
noncomputable abbrev first_solve_c54 : Code := Code.fst first_solve_c53
noncomputable abbrev first_solve_c55 : Code := Code.snd first_solve_c53
noncomputable abbrev first_solve_c56 : Code := Code.fst first_solve_c28
noncomputable abbrev first_solve_c57 : Code := Code.snd first_solve_c28
noncomputable abbrev first_solve_c58 : Code := Code.fst first_solve_c56
noncomputable abbrev first_solve_c59 : Code := Code.snd first_solve_c56
noncomputable abbrev first_solve_c60 : Code := Code.fst first_solve_c59
noncomputable abbrev first_solve_c61 : Code := Code.snd first_solve_c59
noncomputable abbrev first_solve_c62 : Code := Code.fst first_solve_c60
noncomputable abbrev first_solve_c63 : Code := Code.snd first_solve_c60
abbrev first_solve_R (w : World) (F : Nat → Prop) (r : first_sets) : Ending → World → Prop := fun e w' => e = .returned (.agg (enc_first_sets r).toArray) ∧ B.Loc w w' [] [St w []]
noncomputable abbrev first_solve_C (w : World) (F : Nat → Prop) (r : first_sets) : Cx := ⟨Try.prog, 33, Try.f33, 79, first_solve_R w F  r, w⟩
theorem first_solve_calls (w : World) (F : Nat → Prop) (x1 : api_Gram) (A2 : Option Addr) (n3 : Nat) (c4 : Nat) (A6 : Option Addr) (n7 : Nat) (c8 : Nat) (A10 : Option Addr) (n11 : Nat) (c12 : Nat) (h5 : Rw k_api_TermDef w (St w []).av A2 n3 c4 x1.terms) (h9 : Rw k_api_Sym w (St w []).av A6 n7 c8 x1.syms) (h13 : Rw k_api_Prod w (St w []).av A10 n11 c12 x1.prods) (hF : ∀ b, F b → b < w.heap.size ∧ ∀ o ∈ ([] : List (List Nat)), b ∉ o) (hL0 : B.Loc w w [] [Sm w.heap.size F w [], St w []]) (r : first_sets) (h : first_solve x1 r) : Calls Try.prog 33 #[.agg #[.slice A2 n3 c4, .slice A6 n7 c8, .slice A10 n11 c12]] w (first_solve_R w F  r) := by
  unfold first_solve at h
  refine calls_of_Loc (vs := [.agg #[.slice A2 n3 c4, .slice A6 n7 c8, .slice A10 n11 c12]]) 79 Try.func33 rfl Try.ntmps33 rfl hL0 ?_
  show G (first_solve_C w F r) _ _ _ _
  refine g_seq (c := first_solve_c0) rfl ?_
  refine g_region (c := first_solve_c1) rfl rfl ?_
  refine wl_s 0 rfl (s_box [.slice A2 n3 c4, .slice A6 n7 c8, .slice A10 n11 c12] rfl rfl rfl fun gb14 => ?_) gn
  refine wl_s 1 rfl (s_alloc (enc_first_sets (⟨(fun _ => 0), (fun _ => false)⟩ : first_sets)) zr_67 rfl fun gb16 => ?_) gn
  refine w_end 2 rfl ?_
  refine g_seq (c := first_solve_c2) rfl ?_
  refine g_region (c := first_solve_c3) rfl rfl ?_
  refine wl_s 0 rfl (s_alloc (enc_first_sets (⟨(fun _ => 0), (fun _ => false)⟩ : first_sets)) zr_67 rfl fun gb18 => ?_) gn
  refine w_end 1 rfl ?_
  refine g_seq (c := first_solve_c4) rfl ?_
  refine g_seq (c := first_solve_c5) rfl ?_
  refine g_region (c := first_solve_c7) rfl rfl ?_
  refine wl_v 0 rfl (v_fldB fo_26_0 rfl) gn rfl ?_
  refine wl_v 1 rfl (v_ldB1 2 ld_22 rfl rfl rfl) gn rfl ?_
  refine wl_v 2 rfl (v_lenQ un_22 rfl h5.hq) gn rfl ?_
  refine wl_v 3 rfl (v_move rfl) gn rfl ?_
  refine w_end 4 rfl ?_
  refine g_block (c := first_solve_c8) rfl ?_
  refine g_loop (c := first_solve_c9) rfl ?_
  have key1 : ∀ s, Rounds (fun (s : Int × first_sets) o => first_solve_b1 x1 s.1 s.2 o) s r → (fun (s : Int × first_sets) => ∀ (_ : Unit), G (first_solve_C w F r) [.code first_solve_c10, .inLoop first_solve_c10, .inBlock 0, .code first_solve_c6] [(1, .pointer (some ⟨gb14, 0, none⟩)), (2, .pointer (some ⟨gb16, 0, none⟩)), (3, .pointer (some ⟨gb18, 0, none⟩)), (13, .int .i64 (x1.terms.length : Int)), (14, .int .i64 s.1)] [.box gb18 67 (enc_first_sets s.2), .box gb16 67 (enc_first_sets (⟨(fun _ => 0), (fun _ => false)⟩ : first_sets)), .box gb14 26 [.slice A2 n3 c4, .slice A6 n7 c8, .slice A10 n11 c12]] [Sm w.heap.size F w [], St w []]) s := by
    intro s hs
    refine Rounds.ind (mot := (fun (s : Int × first_sets) => ∀ (_ : Unit), G (first_solve_C w F r) [.code first_solve_c10, .inLoop first_solve_c10, .inBlock 0, .code first_solve_c6] [(1, .pointer (some ⟨gb14, 0, none⟩)), (2, .pointer (some ⟨gb16, 0, none⟩)), (3, .pointer (some ⟨gb18, 0, none⟩)), (13, .int .i64 (x1.terms.length : Int)), (14, .int .i64 s.1)] [.box gb18 67 (enc_first_sets s.2), .box gb16 67 (enc_first_sets (⟨(fun _ => 0), (fun _ => false)⟩ : first_sets)), .box gb14 26 [.slice A2 n3 c4, .slice A6 n7 c8, .slice A10 n11 c12]] [Sm w.heap.size F w [], St w []])) ?_ hs
    clear hs s
    intro s o1 h hO1
    obtain ⟨x372, x373⟩ := s
    show ∀ (_ : Unit), G (first_solve_C w F r) [.code first_solve_c10, .inLoop first_solve_c10, .inBlock 0, .code first_solve_c6] [(1, .pointer (some ⟨gb14, 0, none⟩)), (2, .pointer (some ⟨gb16, 0, none⟩)), (3, .pointer (some ⟨gb18, 0, none⟩)), (13, .int .i64 (x1.terms.length : Int)), (14, .int .i64 x372)] [.box gb18 67 (enc_first_sets x373), .box gb16 67 (enc_first_sets (⟨(fun _ => 0), (fun _ => false)⟩ : first_sets)), .box gb14 26 [.slice A2 n3 c4, .slice A6 n7 c8, .slice A10 n11 c12]] [Sm w.heap.size F w [], St w []]
    intro _
    have h : first_solve_b1 x1 x372 x373 o1 := h
    unfold first_solve_b1 at h
    refine g_seq (c := first_solve_c10) rfl ?_
    refine g_region (c := first_solve_c11) rfl rfl ?_
    refine wl_v 0 rfl (v_bin rfl rfl rfl) gn rfl ?_
    refine w_end 1 rfl ?_
    refine g_seq (c := first_solve_c12) rfl ?_
    by_cases hp726 : x372 < (x1.terms.length : Int)
    · have h := if_pos' hp726 h
      refine g_true (c := first_solve_c13) rfl _ rfl ((decide_eq_true hp726)) ?_
      refine g_skip (c := first_solve_c15) rfl ?_
      refine g_seq (c := first_solve_c14) rfl ?_
      refine g_block (c := first_solve_c17) rfl ?_
      refine g_seq (c := first_solve_c19) rfl ?_
      refine g_region (c := first_solve_c20) rfl rfl ?_
      refine wl_v 0 rfl (v_move rfl) gn rfl ?_
      refine wl_v 1 rfl (v_assign rfl) gn rfl ?_
      refine w_end 2 rfl ?_
      refine g_region (c := first_solve_c21) rfl rfl ?_
      refine wl_v 0 rfl (v_move rfl) gn rfl ?_
      refine wl_v 1 rfl (v_move rfl) gn rfl ?_
      obtain ⟨hb727, h⟩ := h
      refine wl_v 2 rfl (v_shl rfl rfl hb727) gn rfl ?_
      refine wl_v 3 rfl (v_fldB fo_67_0 rfl) gn rfl ?_
      obtain ⟨hb728, h⟩ := h
      refine wl_v 4 rfl (v_idxB ar_64 rfl rfl hb728) gn rfl ?_
      obtain ⟨x729, hv730, h⟩ := h
      refine wl_s 5 rfl (s_stP (cs' := (enc_first_sets x729)) (m := [.int .u64 (x373.first x372)]) (m' := [.int .u64 (shlV .u64 1 x372)]) 0 sz_29 rfl rfl rfl (by rw [hv730]; exact (Pt.trans (pt_first_sets_first x373 (upd x373.first x372 (shlV .u64 1 x372))) (Pt.arr (f := x373.first) (enc := fun y => [.int .u64 y]) (fun _ => rfl) hb728 (shlV .u64 1 x372)))) rfl rfl rfl rfl ?_) gn
      refine w_end 6 rfl ?_
      refine g_inBlock ?_
      refine g_region (c := first_solve_c18) rfl rfl ?_
      refine wl_v 0 rfl (v_bin rfl rfl rfl) gn rfl ?_
      refine wl_v 1 rfl (v_move rfl) gn rfl ?_
      refine w_end 2 rfl ?_
      refine g_inLoop ?_
      have ih := Out.inl hO1 h
      exact g_go [0, 1] (ih ()) ⟨rfl, rfl, rfl, rfl, rfl, trivial⟩ (.cons_cons _ (.cons_cons _ (.cons_cons _ (.slnil)))) rfl
    · have h := if_neg' hp726 h
      refine g_false (c := first_solve_c13) rfl _ rfl ((decide_eq_false hp726)) ?_
      refine g_exit (c := first_solve_c16) [.code first_solve_c6] rfl rfl ?_
      refine g_block (c := first_solve_c6) rfl ?_
      refine g_loop (c := first_solve_c22) rfl ?_
      have key2 : ∀ s, Rounds (fun (s : first_sets) o => first_solve_b2 x1 s o) s o1 → (fun (s : first_sets) => ∀ (_ : Unit), G (first_solve_C w F r) [.code first_solve_c23, .inLoop first_solve_c23, .inBlock 2] [(1, .pointer (some ⟨gb14, 0, none⟩)), (2, .pointer (some ⟨gb16, 0, none⟩)), (3, .pointer (some ⟨gb18, 0, none⟩))] [.box gb18 67 (enc_first_sets s), .box gb16 67 (enc_first_sets (⟨(fun _ => 0), (fun _ => false)⟩ : first_sets)), .box gb14 26 [.slice A2 n3 c4, .slice A6 n7 c8, .slice A10 n11 c12]] [Sm w.heap.size F w [], St w []]) s := by
        intro s hs
        refine Rounds.ind (mot := (fun (s : first_sets) => ∀ (_ : Unit), G (first_solve_C w F r) [.code first_solve_c23, .inLoop first_solve_c23, .inBlock 2] [(1, .pointer (some ⟨gb14, 0, none⟩)), (2, .pointer (some ⟨gb16, 0, none⟩)), (3, .pointer (some ⟨gb18, 0, none⟩))] [.box gb18 67 (enc_first_sets s), .box gb16 67 (enc_first_sets (⟨(fun _ => 0), (fun _ => false)⟩ : first_sets)), .box gb14 26 [.slice A2 n3 c4, .slice A6 n7 c8, .slice A10 n11 c12]] [Sm w.heap.size F w [], St w []])) ?_ hs
        clear hs s
        intro x847 o2 h hO2
        show ∀ (_ : Unit), G (first_solve_C w F r) [.code first_solve_c23, .inLoop first_solve_c23, .inBlock 2] [(1, .pointer (some ⟨gb14, 0, none⟩)), (2, .pointer (some ⟨gb16, 0, none⟩)), (3, .pointer (some ⟨gb18, 0, none⟩))] [.box gb18 67 (enc_first_sets x847), .box gb16 67 (enc_first_sets (⟨(fun _ => 0), (fun _ => false)⟩ : first_sets)), .box gb14 26 [.slice A2 n3 c4, .slice A6 n7 c8, .slice A10 n11 c12]] [Sm w.heap.size F w [], St w []]
        intro _
        have h : first_solve_b2 x1 x847 o2 := h
        unfold first_solve_b2 at h
        refine g_block (c := first_solve_c23) rfl ?_
        refine g_seq (c := first_solve_c24) rfl ?_
        refine g_region (c := first_solve_c25) rfl rfl ?_
        refine wl_v 0 rfl (v_ldP 0 ld_67 rfl rfl (hp := (Pt.refl _ (enc_first_sets x847))) (hl_first_sets x847)) gn rfl ?_
        refine wl_s 1 rfl (s_alloc (enc_first_sets (⟨(fun _ => 0), (fun _ => false)⟩ : first_sets)) zr_67 rfl fun gb963 => ?_) gn
        obtain ⟨x965, hv966, h⟩ := h
        refine wl_s 2 rfl (s_stP (cs' := (enc_first_sets x965)) (m := (enc_first_sets (⟨(fun _ => 0), (fun _ => false)⟩ : first_sets))) (m' := (enc_first_sets x847)) 0 sz_67 rfl rfl rfl (by rw [hv966]; exact (Pt.refl _ (enc_first_sets x847))) rfl (hl_first_sets (⟨(fun _ => 0), (fun _ => false)⟩ : first_sets)) (hl_first_sets x847) (ho_first_sets x847) ?_) gn
        refine w_end 3 rfl ?_
        refine g_seq (c := first_solve_c26) rfl ?_
        refine g_seq (c := first_solve_c27) rfl ?_
        refine g_region (c := first_solve_c29) rfl rfl ?_
        refine wl_v 0 rfl (v_fldB fo_26_2 rfl) gn rfl ?_
        refine wl_v 1 rfl (v_ldB1 3 ld_24 rfl rfl rfl) gn rfl ?_
        refine wl_v 2 rfl (v_lenQ un_24 rfl h13.hq) gn rfl ?_
        refine wl_v 3 rfl (v_move rfl) gn rfl ?_
        refine w_end 4 rfl ?_
        refine g_block (c := first_solve_c30) rfl ?_
        refine g_loop (c := first_solve_c31) rfl ?_
        have key3 : ∀ s, Rounds (fun (s : Int × first_sets) o => first_solve_b3 x1 x847 s.1 s.2 o) s o2 → (fun (s : Int × first_sets) => ∀ (_ : Unit), G (first_solve_C w F r) [.code first_solve_c32, .inLoop first_solve_c32, .inBlock 4, .code first_solve_c28, .inBlock 3, .inLoop first_solve_c23, .inBlock 2] [(1, .pointer (some ⟨gb14, 0, none⟩)), (2, .pointer (some ⟨gb16, 0, none⟩)), (3, .pointer (some ⟨gb18, 0, none⟩)), (5, .pointer (some ⟨gb963, 0, none⟩)), (25, .slice A10 n11 c12), (26, .int .i64 (x1.prods.length : Int)), (27, .int .i64 s.1)] [.box gb963 67 (enc_first_sets s.2), .box gb18 67 (enc_first_sets x847), .box gb16 67 (enc_first_sets (⟨(fun _ => 0), (fun _ => false)⟩ : first_sets)), .box gb14 26 [.slice A2 n3 c4, .slice A6 n7 c8, .slice A10 n11 c12]] [Sm w.heap.size F w [], St w []]) s := by
          intro s hs
          refine Rounds.ind (mot := (fun (s : Int × first_sets) => ∀ (_ : Unit), G (first_solve_C w F r) [.code first_solve_c32, .inLoop first_solve_c32, .inBlock 4, .code first_solve_c28, .inBlock 3, .inLoop first_solve_c23, .inBlock 2] [(1, .pointer (some ⟨gb14, 0, none⟩)), (2, .pointer (some ⟨gb16, 0, none⟩)), (3, .pointer (some ⟨gb18, 0, none⟩)), (5, .pointer (some ⟨gb963, 0, none⟩)), (25, .slice A10 n11 c12), (26, .int .i64 (x1.prods.length : Int)), (27, .int .i64 s.1)] [.box gb963 67 (enc_first_sets s.2), .box gb18 67 (enc_first_sets x847), .box gb16 67 (enc_first_sets (⟨(fun _ => 0), (fun _ => false)⟩ : first_sets)), .box gb14 26 [.slice A2 n3 c4, .slice A6 n7 c8, .slice A10 n11 c12]] [Sm w.heap.size F w [], St w []])) ?_ hs
          clear hs s
          intro s o3 h hO3
          obtain ⟨x1004, x1005⟩ := s
          show ∀ (_ : Unit), G (first_solve_C w F r) [.code first_solve_c32, .inLoop first_solve_c32, .inBlock 4, .code first_solve_c28, .inBlock 3, .inLoop first_solve_c23, .inBlock 2] [(1, .pointer (some ⟨gb14, 0, none⟩)), (2, .pointer (some ⟨gb16, 0, none⟩)), (3, .pointer (some ⟨gb18, 0, none⟩)), (5, .pointer (some ⟨gb963, 0, none⟩)), (25, .slice A10 n11 c12), (26, .int .i64 (x1.prods.length : Int)), (27, .int .i64 x1004)] [.box gb963 67 (enc_first_sets x1005), .box gb18 67 (enc_first_sets x847), .box gb16 67 (enc_first_sets (⟨(fun _ => 0), (fun _ => false)⟩ : first_sets)), .box gb14 26 [.slice A2 n3 c4, .slice A6 n7 c8, .slice A10 n11 c12]] [Sm w.heap.size F w [], St w []]
          intro _
          have h : first_solve_b3 x1 x847 x1004 x1005 o3 := h
          unfold first_solve_b3 at h
          refine g_seq (c := first_solve_c32) rfl ?_
          refine g_region (c := first_solve_c33) rfl rfl ?_
          refine wl_v 0 rfl (v_bin rfl rfl rfl) gn rfl ?_
          refine w_end 1 rfl ?_
          refine g_seq (c := first_solve_c34) rfl ?_
          by_cases hp1042 : x1004 < (x1.prods.length : Int)
          · have h := if_pos' hp1042 h
            refine g_true (c := first_solve_c35) rfl _ rfl ((decide_eq_true hp1042)) ?_
            refine g_skip (c := first_solve_c37) rfl ?_
            refine g_seq (c := first_solve_c36) rfl ?_
            refine g_block (c := first_solve_c39) rfl ?_
            refine g_seq (c := first_solve_c41) rfl ?_
            refine g_region (c := first_solve_c42) rfl rfl ?_
            obtain ⟨hb1043, h⟩ := h
            obtain ⟨ce1045, hK1046, hr1044⟩ := Rw.read (s := St w []) h13 hb1043
            obtain ⟨A1047, n1048, c1049, rfl, h1050⟩ := hK1046
            refine wl_v 0 rfl (v_idxR (s := St w []) slE_24 rfl rfl h13 hb1043) gn rfl ?_
            refine wl_v 1 rfl (v_ldA (St w []) ld_38 rfl hr1044 rfl (me 1 rfl)) gn rfl ?_
            refine wl_s 2 rfl (s_alloc [.int .i64 0, .slice none 0 0] zr_38 rfl fun gb1051 => ?_) gn
            refine wl_s 3 rfl (s_stB (vs := [.int .i64 ((ix x1.prods x1004).lhs), .slice A1047 n1048 c1049]) (cs' := [.int .i64 ((ix x1.prods x1004).lhs), .slice A1047 n1048 c1049]) (M' := [.box gb1051 38 [.int .i64 ((ix x1.prods x1004).lhs), .slice A1047 n1048 c1049], .box gb963 67 (enc_first_sets x1005), .box gb18 67 (enc_first_sets x847), .box gb16 67 (enc_first_sets (⟨(fun _ => 0), (fun _ => false)⟩ : first_sets)), .box gb14 26 [.slice A2 n3 c4, .slice A6 n7 c8, .slice A10 n11 c12]]) 0 sz_38 rfl rfl rfl rfl rfl rfl rfl rfl rfl ?_) gn
            refine w_end 4 rfl ?_
            refine g_seq (c := first_solve_c43) rfl ?_
            refine g_seq (c := first_solve_c44) rfl ?_
            refine g_region (c := first_solve_c46) rfl rfl ?_
            refine wl_v 0 rfl (v_fldB fo_38_0 rfl) gn rfl ?_
            refine wl_v 1 rfl (v_ldB1 0 ld_3 rfl rfl rfl) gn rfl ?_
            refine wl_v 2 rfl (v_bin rfl rfl rfl) gn rfl ?_
            refine w_end 3 rfl ?_
            by_cases hp1053 : (ix x1.prods x1004).lhs < 0
            · have h := if_pos' hp1053 h
              refine g_true (c := first_solve_c47) rfl _ rfl ((decide_eq_true hp1053)) ?_
              refine g_exit (c := first_solve_c48) [.code first_solve_c40, .inLoop first_solve_c32, .inBlock 4, .code first_solve_c28, .inBlock 3, .inLoop first_solve_c23, .inBlock 2] rfl rfl ?_
              refine g_region (c := first_solve_c40) rfl rfl ?_
              refine wl_v 0 rfl (v_bin rfl rfl rfl) gn rfl ?_
              refine wl_v 1 rfl (v_move rfl) gn rfl ?_
              refine w_end 2 rfl ?_
              refine g_inLoop ?_
              have ih := Out.inl hO3 h
              exact g_go [0, 1] (ih ()) ⟨rfl, rfl, rfl, rfl, rfl, rfl, rfl, trivial⟩ (.cons _ (.cons_cons _ (.cons_cons _ (.cons_cons _ (.cons_cons _ (.slnil)))))) rfl
            · have h := if_neg' hp1053 h
              refine g_false (c := first_solve_c47) rfl _ rfl ((decide_eq_false hp1053)) ?_
              refine g_skip (c := first_solve_c49) rfl ?_
              refine g_seq (c := first_solve_c45) rfl ?_
              refine g_region (c := first_solve_c50) rfl rfl ?_
              refine wl_v 0 rfl (v_fldB fo_26_0 rfl) gn rfl ?_
              refine wl_v 1 rfl (v_ldB1 4 ld_22 rfl rfl rfl) gn rfl ?_
              refine wl_v 2 rfl (v_lenQ un_22 rfl h5.hq) gn rfl ?_
              refine wl_v 3 rfl (v_fldB fo_38_0 rfl) gn rfl ?_
              refine wl_v 4 rfl (v_ldB1 0 ld_3 rfl rfl rfl) gn rfl ?_
              refine wl_v 5 rfl (v_bin rfl rfl rfl) gn rfl ?_
              refine wl_v 6 rfl (v_assign rfl) gn rfl ?_
              refine w_end 7 rfl ?_
              refine g_seq (c := first_solve_c51) rfl ?_
              refine g_region (c := first_solve_c52) rfl rfl ?_
              refine wl_v 0 rfl (v_fldB fo_38_1 rfl) gn rfl ?_
              refine wl_v 1 rfl (v_ldB1 0 ld_27 rfl rfl rfl) gn rfl ?_
              obtain ⟨r1057, hv1058, h⟩ := h
              refine wl_s 2 rfl (s_call [.pointer (some ⟨gb963, 0, none⟩), .slice A1047 n1048 c1049] rfl Try.func34 rfl rfl rfl fun w1054 hL1055 => ?_) gn
              have hp1056 : List.Perm ([.box gb1051 38 [.int .i64 ((ix x1.prods x1004).lhs), .slice A1047 n1048 c1049], .box gb963 67 (enc_first_sets x1005), .box gb18 67 (enc_first_sets x847), .box gb16 67 (enc_first_sets (⟨(fun _ => 0), (fun _ => false)⟩ : first_sets)), .box gb14 26 [.slice A2 n3 c4, .slice A6 n7 c8, .slice A10 n11 c12]] : List Ent) (([.box gb963 67 (enc_first_sets x1005)] : List Ent) ++ ([.box gb1051 38 [.int .i64 ((ix x1.prods x1004).lhs), .slice A1047 n1048 c1049], .box gb18 67 (enc_first_sets x847), .box gb16 67 (enc_first_sets (⟨(fun _ => 0), (fun _ => false)⟩ : first_sets)), .box gb14 26 [.slice A2 n3 c4, .slice A6 n7 c8, .slice A10 n11 c12]] : List Ent)) := perm_of_idx [1] [0, 2, 3, 4] rfl rfl (by kernel_rfl)
              refine Calls.mono (first_sets_of_calls w1054 (Fl ([] : List Snap)) x1005 ((ix x1.prods x1004).rhs) gb963 67 A1047 n1048 c1049 (Rw.mono h1050 (hL1055.toSt hp1056 (me 1 rfl))) (hL1055.hFl (Sl := ([] : List Snap)) hp1056 (sels [] rfl)) (hL1055.into hp1056 (Fl ([] : List Snap))) r1057 hv1058) ?_
              rintro _ w1059 ⟨rfl, hM1060⟩
              have hL1061 := hL1055.call hp1056 hM1060
              refine ⟨_, _, _, rfl, hL1061, ?_⟩
              refine wl_v 3 rfl (v_move rfl) gn rfl ?_
              refine wl_v 4 rfl (v_extract rfl rfl) gn rfl ?_
              refine wl_v 5 rfl (v_extract rfl rfl) gn rfl ?_
              refine wl_v 6 rfl (v_assign rfl) gn rfl ?_
              refine wl_v 7 rfl (v_assign rfl) gn rfl ?_
              refine w_end 8 rfl ?_
              refine g_seq (c := first_solve_c53) rfl ?_
              refine g_region (c := first_solve_c54) rfl rfl ?_
              refine wl_v 0 rfl (v_move rfl) gn rfl ?_
              refine wl_v 1 rfl (v_fldB fo_67_0 rfl) gn rfl ?_
              obtain ⟨hb1062, h⟩ := h
              refine wl_v 2 rfl (v_idxB ar_64 rfl rfl hb1062) gn rfl ?_
              refine wl_v 3 rfl (v_ldP1 0 ld_29 rfl rfl (hp := (Pt.trans (pt_first_sets_first r1057.2.2 (upd r1057.2.2.first (w64 ((x1.terms.length : Int) + ((ix x1.prods x1004).lhs))) (r1057.2.2.first (w64 ((x1.terms.length : Int) + ((ix x1.prods x1004).lhs)))))) (Pt.arr (f := r1057.2.2.first) (enc := fun y => [.int .u64 y]) (fun _ => rfl) hb1062 (r1057.2.2.first (w64 ((x1.terms.length : Int) + ((ix x1.prods x1004).lhs))))))) rfl) gn rfl ?_
              refine wl_v 4 rfl (v_move rfl) gn rfl ?_
              refine wl_v 5 rfl (v_bin rfl rfl rfl) gn rfl ?_
              refine wl_v 6 rfl (v_fldB fo_67_0 rfl) gn rfl ?_
              refine wl_v 7 rfl (v_idxB ar_64 rfl rfl hb1062) gn rfl ?_
              obtain ⟨x1063, hv1064, h⟩ := h
              refine wl_s 8 rfl (s_stP (cs' := (enc_first_sets x1063)) (m := [.int .u64 (r1057.2.2.first (w64 ((x1.terms.length : Int) + ((ix x1.prods x1004).lhs))))]) (m' := [.int .u64 (bits .or .u64 (r1057.2.2.first (w64 ((x1.terms.length : Int) + ((ix x1.prods x1004).lhs)))) r1057.1)]) 0 sz_29 rfl rfl rfl (by rw [hv1064]; exact (Pt.trans (pt_first_sets_first r1057.2.2 (upd r1057.2.2.first (w64 ((x1.terms.length : Int) + ((ix x1.prods x1004).lhs))) (bits .or .u64 (r1057.2.2.first (w64 ((x1.terms.length : Int) + ((ix x1.prods x1004).lhs)))) r1057.1))) (Pt.arr (f := r1057.2.2.first) (enc := fun y => [.int .u64 y]) (fun _ => rfl) hb1062 (bits .or .u64 (r1057.2.2.first (w64 ((x1.terms.length : Int) + ((ix x1.prods x1004).lhs)))) r1057.1)))) rfl rfl rfl rfl ?_) gn
              refine w_end 9 rfl ?_
              refine g_region (c := first_solve_c55) rfl rfl ?_
              refine wl_v 0 rfl (v_move rfl) gn rfl ?_
              refine wl_v 1 rfl (v_move rfl) gn rfl ?_
              refine wl_v 2 rfl (v_fldB fo_67_1 rfl) gn rfl ?_
              refine wl_v 3 rfl (v_idxB ar_65 rfl rfl hb1062) gn rfl ?_
              refine wl_v 4 rfl (v_ldP1 0 ld_4 rfl rfl (hp := (Pt.trans (pt_first_sets_vanishes x1063 (upd x1063.vanishes (w64 ((x1.terms.length : Int) + ((ix x1.prods x1004).lhs))) (x1063.vanishes (w64 ((x1.terms.length : Int) + ((ix x1.prods x1004).lhs)))))) (Pt.arr (f := x1063.vanishes) (enc := fun y => [.bool y]) (fun _ => rfl) hb1062 (x1063.vanishes (w64 ((x1.terms.length : Int) + ((ix x1.prods x1004).lhs))))))) rfl) gn rfl ?_
              refine wl_v 5 rfl (v_move rfl) gn rfl ?_
              by_cases hp1065 : (x1063.vanishes (w64 ((x1.terms.length : Int) + ((ix x1.prods x1004).lhs)))) = true
              · have h := if_pos' hp1065 h
                refine w_bool 59 rfl (hp1065) ?_
                refine wl_pass 6 rfl (ps 59 rfl rfl rfl) ?_
                refine wl_v 7 rfl (v_pick (b := true) rfl rfl) gn rfl ?_
                refine wl_v 8 rfl (v_fldB fo_67_1 rfl) gn rfl ?_
                refine wl_v 9 rfl (v_idxB ar_65 rfl rfl hb1062) gn rfl ?_
                obtain ⟨x1066, hv1067, h⟩ := h
                refine wl_s 10 rfl (s_stP (cs' := (enc_first_sets x1066)) (m := [.bool (x1063.vanishes (w64 ((x1.terms.length : Int) + ((ix x1.prods x1004).lhs))))]) (m' := [.bool true]) 0 sz_4 rfl rfl rfl (by rw [hv1067]; exact (Pt.trans (pt_first_sets_vanishes x1063 (upd x1063.vanishes (w64 ((x1.terms.length : Int) + ((ix x1.prods x1004).lhs))) true)) (Pt.arr (f := x1063.vanishes) (enc := fun y => [.bool y]) (fun _ => rfl) hb1062 true))) rfl rfl rfl rfl ?_) gn
                refine w_end 11 rfl ?_
                refine g_inBlock ?_
                refine g_region (c := first_solve_c40) rfl rfl ?_
                refine wl_v 0 rfl (v_bin rfl rfl rfl) gn rfl ?_
                refine wl_v 1 rfl (v_move rfl) gn rfl ?_
                refine w_end 2 rfl ?_
                refine g_inLoop ?_
                have ih := Out.inl hO3 h
                exact g_go [0, 1] (ih ()) ⟨rfl, rfl, rfl, rfl, rfl, rfl, rfl, trivial⟩ (.cons_cons _ (.cons _ (.cons_cons _ (.cons_cons _ (.cons_cons _ (.slnil)))))) rfl
              · have h := if_neg' hp1065 h
                refine w_bool 59 rfl ((bf hp1065)) ?_
                refine wl_v 6 rfl (v_move rfl) (gy 59 rfl rfl) rfl ?_
                refine wl_v 7 rfl (v_pick (b := false) rfl rfl) gn rfl ?_
                refine wl_v 8 rfl (v_fldB fo_67_1 rfl) gn rfl ?_
                refine wl_v 9 rfl (v_idxB ar_65 rfl rfl hb1062) gn rfl ?_
                obtain ⟨x1068, hv1069, h⟩ := h
                refine wl_s 10 rfl (s_stP (cs' := (enc_first_sets x1068)) (m := [.bool (x1063.vanishes (w64 ((x1.terms.length : Int) + ((ix x1.prods x1004).lhs))))]) (m' := [.bool r1057.2.1]) 0 sz_4 rfl rfl rfl (by rw [hv1069]; exact (Pt.trans (pt_first_sets_vanishes x1063 (upd x1063.vanishes (w64 ((x1.terms.length : Int) + ((ix x1.prods x1004).lhs))) r1057.2.1)) (Pt.arr (f := x1063.vanishes) (enc := fun y => [.bool y]) (fun _ => rfl) hb1062 r1057.2.1))) rfl rfl rfl rfl ?_) gn
                refine w_end 11 rfl ?_
                refine g_inBlock ?_
                refine g_region (c := first_solve_c40) rfl rfl ?_
                refine wl_v 0 rfl (v_bin rfl rfl rfl) gn rfl ?_
                refine wl_v 1 rfl (v_move rfl) gn rfl ?_
                refine w_end 2 rfl ?_
                refine g_inLoop ?_
                have ih := Out.inl hO3 h
                exact g_go [0, 1] (ih ()) ⟨rfl, rfl, rfl, rfl, rfl, rfl, rfl, trivial⟩ (.cons_cons _ (.cons _ (.cons_cons _ (.cons_cons _ (.cons_cons _ (.slnil)))))) rfl
          · have h := if_neg' hp1042 h
            refine g_false (c := first_solve_c35) rfl _ rfl ((decide_eq_false hp1042)) ?_
            refine g_exit (c := first_solve_c38) [.code first_solve_c28, .inBlock 3, .inLoop first_solve_c23, .inBlock 2] rfl rfl ?_
            refine g_seq (c := first_solve_c28) rfl ?_
            refine g_seq (c := first_solve_c56) rfl ?_
            refine g_region (c := first_solve_c58) rfl rfl ?_
            refine wl_v 0 rfl (v_fldB fo_67_0 rfl) gn rfl ?_
            refine wl_v 1 rfl (v_ldP 0 ld_64 rfl rfl (hp := (pt_first_sets_first x1005 x1005.first)) (encA_len (sz := 1) (f := fun j => [.int .u64 (x1005.first j)]) (fun j => rfl) 192)) gn rfl ?_
            refine wl_v 2 rfl (v_fldB fo_67_0 rfl) gn rfl ?_
            refine wl_v 3 rfl (v_ldP 1 ld_64 rfl rfl (hp := (pt_first_sets_first x847 x847.first)) (encA_len (sz := 1) (f := fun j => [.int .u64 (x847.first j)]) (fun j => rfl) 192)) gn rfl ?_
            refine wl_v 4 rfl (v_eqA (f1 := x1005.first) (f2 := x847.first) (enc := fun y => .int .u64 y) ae_64 rfl rfl (fun a b => by simp [leafEq, int_dec])) gn rfl ?_
            refine wl_v 5 rfl (v_move rfl) gn rfl ?_
            by_cases hp1070 : (aeq 192 x1005.first x847.first) = true
            · have h := if_pos' hp1070 h
              refine w_bool 70 rfl (hp1070) ?_
              refine wl_v 6 rfl (v_fldB fo_67_1 rfl) (gy 70 rfl rfl) rfl ?_
              refine wl_v 7 rfl (v_ldP 0 ld_65 rfl rfl (hp := (pt_first_sets_vanishes x1005 x1005.vanishes)) (encA_len (sz := 1) (f := fun j => [.bool (x1005.vanishes j)]) (fun j => rfl) 192)) (gy 70 rfl rfl) rfl ?_
              refine wl_v 8 rfl (v_fldB fo_67_1 rfl) (gy 70 rfl rfl) rfl ?_
              refine wl_v 9 rfl (v_ldP 1 ld_65 rfl rfl (hp := (pt_first_sets_vanishes x847 x847.vanishes)) (encA_len (sz := 1) (f := fun j => [.bool (x847.vanishes j)]) (fun j => rfl) 192)) (gy 70 rfl rfl) rfl ?_
              refine wl_v 10 rfl (v_eqA (f1 := x1005.vanishes) (f2 := x847.vanishes) (enc := fun y => .bool y) ae_65 rfl rfl (fun a b => by simp [leafEq, bool_dec])) (gy 70 rfl rfl) rfl ?_
              refine wl_v 11 rfl (v_pick (b := true) rfl rfl) gn rfl ?_
              refine w_end 12 rfl ?_
              by_cases hp1071 : (aeq 192 x1005.vanishes x847.vanishes) = true
              · have h := if_pos' hp1071 h
                refine g_true (c := first_solve_c59) rfl _ rfl (hp1071) ?_
                refine g_seq (c := first_solve_c60) rfl ?_
                refine g_region (c := first_solve_c62) rfl rfl ?_
                refine wl_v 0 rfl (v_ldP 1 ld_67 rfl rfl (hp := (Pt.refl _ (enc_first_sets x847))) (hl_first_sets x847)) gn rfl ?_
                obtain ⟨x1072, hv1073, h⟩ := h
                refine wl_s 1 rfl (s_stP (cs' := (enc_first_sets x1072)) (m := (enc_first_sets (⟨(fun _ => 0), (fun _ => false)⟩ : first_sets))) (m' := (enc_first_sets x847)) 2 sz_67 rfl rfl rfl (by rw [hv1073]; exact (Pt.refl _ (enc_first_sets x847))) rfl (hl_first_sets (⟨(fun _ => 0), (fun _ => false)⟩ : first_sets)) (hl_first_sets x847) (ho_first_sets x847) ?_) gn
                refine w_end 2 rfl ?_
                have h := Out.inr hO3 h
                have h := Out.inr hO2 h
                have h := Out.inr hO1 h
                refine g_retR (c := first_solve_c63) [.agg (enc_first_sets x1072).toArray] rfl Try.func33 rfl (.cell (cs := (enc_first_sets x1072)) (us := (enc_first_sets x1072)) 2 rfl ld_67 rfl (bigtake (hl_first_sets x1072)) (hl_first_sets x1072) (.nil)) fun wr hLr => ?_
                have hMr : B.Loc w wr [] [St w []] := hLr.pick (rest := [.box gb963 67 (enc_first_sets x1005), .box gb18 67 (enc_first_sets x847), .box gb16 67 (enc_first_sets x1072), .box gb14 26 [.slice A2 n3 c4, .slice A6 n7 c8, .slice A10 n11 c12]]) (perm_of_idx [] [0, 1, 2, 3] rfl rfl (by kernel_rfl)) (sels [1] rfl)
                have hMi : ∀ e ∈ ([] : List Ent), e ∈ ([.box gb963 67 (enc_first_sets x1005), .box gb18 67 (enc_first_sets x847), .box gb16 67 (enc_first_sets x1072), .box gb14 26 [.slice A2 n3 c4, .slice A6 n7 c8, .slice A10 n11 c12]] : List Ent) := sels [] rfl
                show first_solve_R w F  r (.returned (packV [.agg (enc_first_sets x1072).toArray])) wr
                rw [h]
                exact ⟨rfl, hMr⟩
              · have h := if_neg' hp1071 h
                refine g_false (c := first_solve_c59) rfl _ rfl ((bf hp1071)) ?_
                refine g_skip (c := first_solve_c61) rfl ?_
                refine g_region (c := first_solve_c57) rfl rfl ?_
                refine wl_v 0 rfl (v_ldP 0 ld_67 rfl rfl (hp := (Pt.refl _ (enc_first_sets x1005))) (hl_first_sets x1005)) gn rfl ?_
                obtain ⟨x1074, hv1075, h⟩ := h
                refine wl_s 1 rfl (s_stP (cs' := (enc_first_sets x1074)) (m := (enc_first_sets x847)) (m' := (enc_first_sets x1005)) 1 sz_67 rfl rfl rfl (by rw [hv1075]; exact (Pt.refl _ (enc_first_sets x1005))) rfl (hl_first_sets x847) (hl_first_sets x1005) (ho_first_sets x1005) ?_) gn
                refine w_end 2 rfl ?_
                refine g_inBlock ?_
                refine g_inLoop ?_
                have h := Out.inr hO3 h
                have ih := Out.inl hO2 h
                exact g_go [0, 1] (ih ()) ⟨rfl, rfl, rfl, trivial⟩ (.cons _ (.cons_cons _ (.cons_cons _ (.cons_cons _ (.slnil))))) rfl
            · have h := if_neg' hp1070 h
              refine w_bool 70 rfl ((bf hp1070)) ?_
              refine wl_pass 6 rfl (ps 70 rfl rfl rfl) ?_
              refine wl_pass 7 rfl (ps 70 rfl rfl rfl) ?_
              refine wl_pass 8 rfl (ps 70 rfl rfl rfl) ?_
              refine wl_pass 9 rfl (ps 70 rfl rfl rfl) ?_
              refine wl_pass 10 rfl (ps 70 rfl rfl rfl) ?_
              refine wl_v 11 rfl (v_pick (b := false) rfl rfl) gn rfl ?_
              refine w_end 12 rfl ?_
              refine g_false (c := first_solve_c59) rfl _ rfl (rfl) ?_
              refine g_skip (c := first_solve_c61) rfl ?_
              refine g_region (c := first_solve_c57) rfl rfl ?_
              refine wl_v 0 rfl (v_ldP 0 ld_67 rfl rfl (hp := (Pt.refl _ (enc_first_sets x1005))) (hl_first_sets x1005)) gn rfl ?_
              obtain ⟨x1076, hv1077, h⟩ := h
              refine wl_s 1 rfl (s_stP (cs' := (enc_first_sets x1076)) (m := (enc_first_sets x847)) (m' := (enc_first_sets x1005)) 1 sz_67 rfl rfl rfl (by rw [hv1077]; exact (Pt.refl _ (enc_first_sets x1005))) rfl (hl_first_sets x847) (hl_first_sets x1005) (ho_first_sets x1005) ?_) gn
              refine w_end 2 rfl ?_
              refine g_inBlock ?_
              refine g_inLoop ?_
              have h := Out.inr hO3 h
              have ih := Out.inl hO2 h
              exact g_go [0, 1] (ih ()) ⟨rfl, rfl, rfl, trivial⟩ (.cons _ (.cons_cons _ (.cons_cons _ (.cons_cons _ (.slnil))))) rfl
        exact g_go [0, 1] (key3 _ h ()) ⟨rfl, rfl, rfl, rfl, rfl, rfl, rfl, trivial⟩ (.cons_cons _ (.cons_cons _ (.cons_cons _ (.cons_cons _ (.slnil))))) rfl
      exact g_go [0, 1] (key2 _ h ()) ⟨rfl, rfl, rfl, trivial⟩ (.cons_cons _ (.cons_cons _ (.cons_cons _ (.slnil)))) rfl
  exact g_go [0, 1] (key1 _ h ()) ⟨rfl, rfl, rfl, rfl, rfl, trivial⟩ (.cons_cons _ (.cons_cons _ (.cons_cons _ (.slnil)))) rfl
noncomputable abbrev first_Of_c0 : Code := bodyOf Try.f13
noncomputable abbrev first_Of_c1 : Code := Code.fst first_Of_c0
noncomputable abbrev first_Of_c2 : Code := Code.snd first_Of_c0
noncomputable abbrev first_Of_c3 : Code := Code.fst first_Of_c2
noncomputable abbrev first_Of_c4 : Code := Code.snd first_Of_c2
noncomputable abbrev first_Of_c5 : Code := Code.fst first_Of_c3
noncomputable abbrev first_Of_c6 : Code := Code.snd first_Of_c3
noncomputable abbrev first_Of_c7 : Code := Code.fst first_Of_c6
noncomputable abbrev first_Of_c8 : Code := Code.snd first_Of_c6
noncomputable abbrev first_Of_c9 : Code := Code.fst first_Of_c7
noncomputable abbrev first_Of_c10 : Code := Code.snd first_Of_c7
noncomputable abbrev first_Of_c11 : Code := Code.fst first_Of_c4
noncomputable abbrev first_Of_c12 : Code := Code.snd first_Of_c4
noncomputable abbrev first_Of_c13 : Code := Code.fst first_Of_c12
noncomputable abbrev first_Of_c14 : Code := Code.snd first_Of_c12
noncomputable abbrev first_Of_c15 : Code := Code.fst first_Of_c14
noncomputable abbrev first_Of_c16 : Code := Code.snd first_Of_c14
noncomputable abbrev first_Of_c17 : Code := Code.fst first_Of_c15
noncomputable abbrev first_Of_c18 : Code := Code.snd first_Of_c15
noncomputable abbrev first_Of_c19 : Code := Code.fst first_Of_c18
noncomputable abbrev first_Of_c20 : Code := Code.snd first_Of_c18
noncomputable abbrev first_Of_c21 : Code := Code.fst first_Of_c16
noncomputable abbrev first_Of_c22 : Code := Code.snd first_Of_c16
abbrev first_Of_R (w : World) (F : Nat → Prop) (r : Int) : Ending → World → Prop := fun e w' => e = .returned (.int .u64 r) ∧ B.Loc w w' [] [St w []]
noncomputable abbrev first_Of_C (w : World) (F : Nat → Prop) (r : Int) : Cx := ⟨Try.prog, 13, Try.f13, 31, first_Of_R w F  r, w⟩
theorem first_Of_calls (w : World) (F : Nat → Prop) (x1 : api_Gram) (x14 : List api_Ref) (x19 : Int) (A2 : Option Addr) (n3 : Nat) (c4 : Nat) (A6 : Option Addr) (n7 : Nat) (c8 : Nat) (A10 : Option Addr) (n11 : Nat) (c12 : Nat) (A15 : Option Addr) (n16 : Nat) (c17 : Nat) (h5 : Rw k_api_TermDef w (St w []).av A2 n3 c4 x1.terms) (h9 : Rw k_api_Sym w (St w []).av A6 n7 c8 x1.syms) (h13 : Rw k_api_Prod w (St w []).av A10 n11 c12 x1.prods) (h18 : Rw k_api_Ref w (St w []).av A15 n16 c17 x14) (hF : ∀ b, F b → b < w.heap.size ∧ ∀ o ∈ ([] : List (List Nat)), b ∉ o) (hL0 : B.Loc w w [] [Sm w.heap.size F w [], St w []]) (r : Int) (h : first_Of x1 x14 x19 r) : Calls Try.prog 13 #[.agg #[.slice A2 n3 c4, .slice A6 n7 c8, .slice A10 n11 c12], .slice A15 n16 c17, .int .u64 x19] w (first_Of_R w F  r) := by
  unfold first_Of at h
  refine calls_of_Loc (vs := [.agg #[.slice A2 n3 c4, .slice A6 n7 c8, .slice A10 n11 c12], .slice A15 n16 c17, .int .u64 x19]) 31 Try.func13 rfl Try.ntmps13 rfl hL0 ?_
  show G (first_Of_C w F r) _ _ _ _
  refine g_seq (c := first_Of_c0) rfl ?_
  refine g_region (c := first_Of_c1) rfl rfl ?_
  refine wl_s 0 rfl (s_box [.slice A2 n3 c4, .slice A6 n7 c8, .slice A10 n11 c12] rfl rfl rfl fun gb20 => ?_) gn
  refine wl_v 1 rfl (v_assign rfl) gn rfl ?_
  refine w_end 2 rfl ?_
  refine g_seq (c := first_Of_c2) rfl ?_
  refine g_seq (c := first_Of_c3) rfl ?_
  have j1 : ∀ (x40 : Bool) (h : first_Of_j1 x1 x14 x19 x40 r) , G (first_Of_C w F r) [.code first_Of_c6, .code first_Of_c4] [(1, .slice A15 n16 c17), (2, .int .u64 x19), (3, .pointer (some ⟨gb20, 0, none⟩)), (18, .bool x40)] [.box gb20 26 [.slice A2 n3 c4, .slice A6 n7 c8, .slice A10 n11 c12]] [Sm w.heap.size F w [], St w []] := by
    intro x40 h
    unfold first_Of_j1 at h
    by_cases hp41 : x40 = true
    · have h := if_pos' hp41 h
      refine g_true (c := first_Of_c6) rfl _ rfl (hp41) ?_
      refine g_seq (c := first_Of_c7) rfl ?_
      refine g_region (c := first_Of_c9) rfl rfl ?_
      refine wl_v 0 rfl (v_assign rfl) gn rfl ?_
      refine w_end 1 rfl ?_
      refine g_retR (c := first_Of_c10) [.int .u64 0] rfl Try.func13 rfl (.tmp rfl (.nil)) fun wr hLr => ?_
      have hMr : B.Loc w wr [] [St w []] := hLr.pick (rest := [.box gb20 26 [.slice A2 n3 c4, .slice A6 n7 c8, .slice A10 n11 c12]]) (perm_of_idx [] [0] rfl rfl (by kernel_rfl)) (sels [1] rfl)
      have hMi : ∀ e ∈ ([] : List Ent), e ∈ ([.box gb20 26 [.slice A2 n3 c4, .slice A6 n7 c8, .slice A10 n11 c12]] : List Ent) := sels [] rfl
      show first_Of_R w F  r (.returned (packV [.int .u64 0])) wr
      rw [h]
      exact ⟨rfl, hMr⟩
    · have h := if_neg' hp41 h
      refine g_false (c := first_Of_c6) rfl _ rfl ((bf hp41)) ?_
      refine g_skip (c := first_Of_c8) rfl ?_
      refine g_seq (c := first_Of_c4) rfl ?_
      refine g_region (c := first_Of_c11) rfl rfl ?_
      refine wl_v 0 rfl (v_ldB [.slice A2 n3 c4, .slice A6 n7 c8, .slice A10 n11 c12] 0 ld_26 rfl rfl rfl rfl) gn rfl ?_
      obtain ⟨r45, hv46, h⟩ := h
      refine wl_s 1 rfl (s_call [.agg #[.slice A2 n3 c4, .slice A6 n7 c8, .slice A10 n11 c12]] rfl Try.func33 rfl rfl rfl fun w42 hL43 => ?_) gn
      have hp44 : List.Perm ([.box gb20 26 [.slice A2 n3 c4, .slice A6 n7 c8, .slice A10 n11 c12]] : List Ent) (([] : List Ent) ++ ([.box gb20 26 [.slice A2 n3 c4, .slice A6 n7 c8, .slice A10 n11 c12]] : List Ent)) := perm_of_idx [] [0] rfl rfl (by kernel_rfl)
      refine Calls.mono (first_solve_calls w42 (Fl ([] : List Snap)) x1 A2 n3 c4 A6 n7 c8 A10 n11 c12 (Rw.mono h5 (hL43.toSt hp44 (me 1 rfl))) (Rw.mono h9 (hL43.toSt hp44 (me 1 rfl))) (Rw.mono h13 (hL43.toSt hp44 (me 1 rfl))) (hL43.hFl (Sl := ([] : List Snap)) hp44 (sels [] rfl)) (hL43.into hp44 (Fl ([] : List Snap))) r45 hv46) ?_
      rintro _ w47 ⟨rfl, hM48⟩
      have hL49 := hL43.call hp44 hM48
      refine ⟨_, _, _, rfl, hL49, ?_⟩
      refine wl_s 2 rfl (s_alloc (enc_first_sets (⟨(fun _ => 0), (fun _ => false)⟩ : first_sets)) zr_67 rfl fun gb50 => ?_) gn
      obtain ⟨x52, hv53, h⟩ := h
      refine wl_s 3 rfl (s_stP (cs' := (enc_first_sets x52)) (m := (enc_first_sets (⟨(fun _ => 0), (fun _ => false)⟩ : first_sets))) (m' := (enc_first_sets r45)) 0 sz_67 rfl rfl rfl (by rw [hv53]; exact (Pt.refl _ (enc_first_sets r45))) rfl (hl_first_sets (⟨(fun _ => 0), (fun _ => false)⟩ : first_sets)) (hl_first_sets r45) (ho_first_sets r45) ?_) gn
      refine w_end 4 rfl ?_
      refine g_seq (c := first_Of_c12) rfl ?_
      refine g_region (c := first_Of_c13) rfl rfl ?_
      refine wl_v 0 rfl (v_move rfl) gn rfl ?_
      obtain ⟨r57, hv58, h⟩ := h
      refine wl_s 1 rfl (s_call [.pointer (some ⟨gb50, 0, none⟩), .slice A15 n16 c17] rfl Try.func34 rfl rfl rfl fun w54 hL55 => ?_) gn
      have hp56 : List.Perm ([.box gb50 67 (enc_first_sets x52), .box gb20 26 [.slice A2 n3 c4, .slice A6 n7 c8, .slice A10 n11 c12]] : List Ent) (([.box gb50 67 (enc_first_sets x52)] : List Ent) ++ ([.box gb20 26 [.slice A2 n3 c4, .slice A6 n7 c8, .slice A10 n11 c12]] : List Ent)) := perm_of_idx [0] [1] rfl rfl (by kernel_rfl)
      refine Calls.mono (first_sets_of_calls w54 (Fl ([] : List Snap)) x52 x14 gb50 67 A15 n16 c17 (Rw.mono h18 (hL55.toSt hp56 (me 1 rfl))) (hL55.hFl (Sl := ([] : List Snap)) hp56 (sels [] rfl)) (hL55.into hp56 (Fl ([] : List Snap))) r57 hv58) ?_
      rintro _ w59 ⟨rfl, hM60⟩
      have hL61 := hL55.call hp56 hM60
      refine ⟨_, _, _, rfl, hL61, ?_⟩
      refine wl_v 2 rfl (v_move rfl) gn rfl ?_
      refine wl_v 3 rfl (v_extract rfl rfl) gn rfl ?_
      refine wl_v 4 rfl (v_extract rfl rfl) gn rfl ?_
      refine wl_v 5 rfl (v_assign rfl) gn rfl ?_
      refine wl_v 6 rfl (v_assign rfl) gn rfl ?_
      refine w_end 7 rfl ?_
      refine g_seq (c := first_Of_c14) rfl ?_
      refine g_seq (c := first_Of_c15) rfl ?_
      refine g_region (c := first_Of_c17) rfl rfl ?_
      refine wl_v 0 rfl (v_move rfl) gn rfl ?_
      refine w_end 1 rfl ?_
      by_cases hp62 : r57.2.1 = true
      · have h := if_pos' hp62 h
        refine g_true (c := first_Of_c18) rfl _ rfl (hp62) ?_
        refine g_region (c := first_Of_c19) rfl rfl ?_
        refine wl_v 0 rfl (v_move rfl) gn rfl ?_
        refine wl_v 1 rfl (v_move rfl) gn rfl ?_
        refine wl_v 2 rfl (v_bin rfl rfl rfl) gn rfl ?_
        refine wl_v 3 rfl (v_assign rfl) gn rfl ?_
        refine w_end 4 rfl ?_
        refine g_seq (c := first_Of_c16) rfl ?_
        refine g_region (c := first_Of_c21) rfl rfl ?_
        refine wl_v 0 rfl (v_move rfl) gn rfl ?_
        refine wl_v 1 rfl (v_assign rfl) gn rfl ?_
        refine w_end 2 rfl ?_
        refine g_retR (c := first_Of_c22) [.int .u64 (bits .or .u64 r57.1 x19)] rfl Try.func13 rfl (.tmp rfl (.nil)) fun wr hLr => ?_
        have hMr : B.Loc w wr [] [St w []] := hLr.pick (rest := [.box gb50 67 (enc_first_sets r57.2.2), .box gb20 26 [.slice A2 n3 c4, .slice A6 n7 c8, .slice A10 n11 c12]]) (perm_of_idx [] [0, 1] rfl rfl (by kernel_rfl)) (sels [1] rfl)
        have hMi : ∀ e ∈ ([] : List Ent), e ∈ ([.box gb50 67 (enc_first_sets r57.2.2), .box gb20 26 [.slice A2 n3 c4, .slice A6 n7 c8, .slice A10 n11 c12]] : List Ent) := sels [] rfl
        show first_Of_R w F  r (.returned (packV [.int .u64 (bits .or .u64 r57.1 x19)])) wr
        rw [h]
        exact ⟨rfl, hMr⟩
      · have h := if_neg' hp62 h
        refine g_false (c := first_Of_c18) rfl _ rfl ((bf hp62)) ?_
        refine g_skip (c := first_Of_c20) rfl ?_
        refine g_seq (c := first_Of_c16) rfl ?_
        refine g_region (c := first_Of_c21) rfl rfl ?_
        refine wl_v 0 rfl (v_move rfl) gn rfl ?_
        refine wl_v 1 rfl (v_assign rfl) gn rfl ?_
        refine w_end 2 rfl ?_
        refine g_retR (c := first_Of_c22) [.int .u64 r57.1] rfl Try.func13 rfl (.tmp rfl (.nil)) fun wr hLr => ?_
        have hMr : B.Loc w wr [] [St w []] := hLr.pick (rest := [.box gb50 67 (enc_first_sets r57.2.2), .box gb20 26 [.slice A2 n3 c4, .slice A6 n7 c8, .slice A10 n11 c12]]) (perm_of_idx [] [0, 1] rfl rfl (by kernel_rfl)) (sels [1] rfl)
        have hMi : ∀ e ∈ ([] : List Ent), e ∈ ([.box gb50 67 (enc_first_sets r57.2.2), .box gb20 26 [.slice A2 n3 c4, .slice A6 n7 c8, .slice A10 n11 c12]] : List Ent) := sels [] rfl
        show first_Of_R w F  r (.returned (packV [.int .u64 r57.1])) wr
        rw [h]
        exact ⟨rfl, hMr⟩
  refine g_region (c := first_Of_c5) rfl rfl ?_
  refine wl_v 0 rfl (v_ldB [.slice A2 n3 c4, .slice A6 n7 c8, .slice A10 n11 c12] 0 ld_26 rfl rfl rfl rfl) gn rfl ?_
  obtain ⟨r66, hv67, h⟩ := h
  refine wl_s 1 rfl (s_call [.agg #[.slice A2 n3 c4, .slice A6 n7 c8, .slice A10 n11 c12]] rfl Try.func31 rfl rfl rfl fun w63 hL64 => ?_) gn
  have hp65 : List.Perm ([.box gb20 26 [.slice A2 n3 c4, .slice A6 n7 c8, .slice A10 n11 c12]] : List Ent) (([] : List Ent) ++ ([.box gb20 26 [.slice A2 n3 c4, .slice A6 n7 c8, .slice A10 n11 c12]] : List Ent)) := perm_of_idx [] [0] rfl rfl (by kernel_rfl)
  refine Calls.mono (first_sound_calls w63 (Fl ([] : List Snap)) x1 A2 n3 c4 A6 n7 c8 A10 n11 c12 (Rw.mono h5 (hL64.toSt hp65 (me 1 rfl))) (Rw.mono h9 (hL64.toSt hp65 (me 1 rfl))) (Rw.mono h13 (hL64.toSt hp65 (me 1 rfl))) (hL64.hFl (Sl := ([] : List Snap)) hp65 (sels [] rfl)) (hL64.into hp65 (Fl ([] : List Snap))) r66 hv67) ?_
  rintro _ w68 ⟨rfl, hM69⟩
  have hL70 := hL64.call hp65 hM69
  refine ⟨_, _, _, rfl, hL70, ?_⟩
  refine wl_v 2 rfl (v_not rfl) gn rfl ?_
  refine wl_v 3 rfl (v_move rfl) gn rfl ?_
  by_cases hp71 : r66 = true
  · have h := if_pos' hp71 h
    refine w_bool 13 rfl ((nf hp71)) ?_
    refine wl_v 4 rfl (v_ldB [.slice A2 n3 c4, .slice A6 n7 c8, .slice A10 n11 c12] 0 ld_26 rfl rfl rfl rfl) (gy 13 rfl rfl) rfl ?_
    refine wl_v 5 rfl (v_move rfl) (gy 13 rfl rfl) rfl ?_
    obtain ⟨r75, hv76, h⟩ := h
    refine wl_s 6 rfl (s_call [.agg #[.slice A2 n3 c4, .slice A6 n7 c8, .slice A10 n11 c12], .slice A15 n16 c17] rfl Try.func32 rfl rfl rfl fun w72 hL73 => ?_) (gy 13 rfl rfl)
    have hp74 : List.Perm ([.box gb20 26 [.slice A2 n3 c4, .slice A6 n7 c8, .slice A10 n11 c12]] : List Ent) (([] : List Ent) ++ ([.box gb20 26 [.slice A2 n3 c4, .slice A6 n7 c8, .slice A10 n11 c12]] : List Ent)) := perm_of_idx [] [0] rfl rfl (by kernel_rfl)
    refine Calls.mono (first_symbols_calls w72 (Fl ([] : List Snap)) x1 x14 A2 n3 c4 A6 n7 c8 A10 n11 c12 A15 n16 c17 (Rw.mono h5 (hL73.toSt hp74 (me 1 rfl))) (Rw.mono h9 (hL73.toSt hp74 (me 1 rfl))) (Rw.mono h13 (hL73.toSt hp74 (me 1 rfl))) (Rw.mono h18 (hL73.toSt hp74 (me 1 rfl))) (hL73.hFl (Sl := ([] : List Snap)) hp74 (sels [] rfl)) (hL73.into hp74 (Fl ([] : List Snap))) r75 hv76) ?_
    rintro _ w77 ⟨rfl, hM78⟩
    have hL79 := hL73.call hp74 hM78
    refine ⟨_, _, _, rfl, hL79, ?_⟩
    refine wl_v 7 rfl (v_not rfl) (gy 13 rfl rfl) rfl ?_
    refine wl_v 8 rfl (v_pick (b := false) rfl rfl) gn rfl ?_
    refine w_end 9 rfl ?_
    exact g_go [0, 1] (j1 (!r75) h) ⟨rfl, rfl, rfl, rfl, trivial⟩ (.cons_cons _ (.slnil)) rfl
  · have h := if_neg' hp71 h
    refine w_bool 13 rfl ((nt (bf hp71))) ?_
    refine wl_pass 4 rfl (ps 13 rfl rfl rfl) ?_
    refine wl_pass 5 rfl (ps 13 rfl rfl rfl) ?_
    refine wl_pass 6 rfl (ps 13 rfl rfl rfl) ?_
    refine wl_pass 7 rfl (ps 13 rfl rfl rfl) ?_
    refine wl_v 8 rfl (v_pick (b := true) rfl rfl) gn rfl ?_
    refine w_end 9 rfl ?_
    exact g_go [0, 1] (j1 true h) ⟨rfl, rfl, rfl, rfl, trivial⟩ (.cons_cons _ (.slnil)) rfl
noncomputable abbrev trellislaw11_sameRow_c0 : Code := bodyOf Try.f36
noncomputable abbrev trellislaw11_sameRow_c1 : Code := Code.fst trellislaw11_sameRow_c0
noncomputable abbrev trellislaw11_sameRow_c2 : Code := Code.snd trellislaw11_sameRow_c0
noncomputable abbrev trellislaw11_sameRow_c3 : Code := Code.fst trellislaw11_sameRow_c2
noncomputable abbrev trellislaw11_sameRow_c4 : Code := Code.snd trellislaw11_sameRow_c2
noncomputable abbrev trellislaw11_sameRow_c5 : Code := Code.fst trellislaw11_sameRow_c3
noncomputable abbrev trellislaw11_sameRow_c6 : Code := Code.snd trellislaw11_sameRow_c3
noncomputable abbrev trellislaw11_sameRow_c7 : Code := Code.fst trellislaw11_sameRow_c6
noncomputable abbrev trellislaw11_sameRow_c8 : Code := Code.snd trellislaw11_sameRow_c6
noncomputable abbrev trellislaw11_sameRow_c9 : Code := Code.fst trellislaw11_sameRow_c4
noncomputable abbrev trellislaw11_sameRow_c10 : Code := Code.snd trellislaw11_sameRow_c4
noncomputable abbrev trellislaw11_sameRow_c11 : Code := Code.fst trellislaw11_sameRow_c9
noncomputable abbrev trellislaw11_sameRow_c12 : Code := Code.snd trellislaw11_sameRow_c9
noncomputable abbrev trellislaw11_sameRow_c13 : Code := Code.fst trellislaw11_sameRow_c12
noncomputable abbrev trellislaw11_sameRow_c14 : Code := Code.fst trellislaw11_sameRow_c13
noncomputable abbrev trellislaw11_sameRow_c15 : Code := Code.fst trellislaw11_sameRow_c14
noncomputable abbrev trellislaw11_sameRow_c16 : Code := Code.snd trellislaw11_sameRow_c14
noncomputable abbrev trellislaw11_sameRow_c17 : Code := Code.fst trellislaw11_sameRow_c15
noncomputable abbrev trellislaw11_sameRow_c18 : Code := Code.snd trellislaw11_sameRow_c15
noncomputable abbrev trellislaw11_sameRow_c19 : Code := Code.fst trellislaw11_sameRow_c18
noncomputable abbrev trellislaw11_sameRow_c20 : Code := Code.snd trellislaw11_sameRow_c18
noncomputable abbrev trellislaw11_sameRow_c21 : Code := Code.fst trellislaw11_sameRow_c16
noncomputable abbrev trellislaw11_sameRow_c22 : Code := Code.snd trellislaw11_sameRow_c16
noncomputable abbrev trellislaw11_sameRow_c23 : Code := Code.fst trellislaw11_sameRow_c21
noncomputable abbrev trellislaw11_sameRow_c24 : Code := Code.fst trellislaw11_sameRow_c23
noncomputable abbrev trellislaw11_sameRow_c25 : Code := Code.snd trellislaw11_sameRow_c23
noncomputable abbrev trellislaw11_sameRow_c26 : Code := Code.fst trellislaw11_sameRow_c25
noncomputable abbrev trellislaw11_sameRow_c27 : Code := Code.snd trellislaw11_sameRow_c25
noncomputable abbrev trellislaw11_sameRow_c28 : Code := Code.fst trellislaw11_sameRow_c26
noncomputable abbrev trellislaw11_sameRow_c29 : Code := Code.snd trellislaw11_sameRow_c26
noncomputable abbrev trellislaw11_sameRow_c30 : Code := Code.fst trellislaw11_sameRow_c10
noncomputable abbrev trellislaw11_sameRow_c31 : Code := Code.snd trellislaw11_sameRow_c10
noncomputable abbrev trellislaw11_sameRow_c32 : Code := Code.fst trellislaw11_sameRow_c7
noncomputable abbrev trellislaw11_sameRow_c33 : Code := Code.snd trellislaw11_sameRow_c7
abbrev trellislaw11_sameRow_R (w : World) (F : Nat → Prop) (r : Bool) : Ending → World → Prop := fun e w' => e = .returned (.bool r) ∧ B.Loc w w' [] [St w []]
noncomputable abbrev trellislaw11_sameRow_C (w : World) (F : Nat → Prop) (r : Bool) : Cx := ⟨Try.prog, 36, Try.f36, 26, trellislaw11_sameRow_R w F  r, w⟩
theorem trellislaw11_sameRow_calls (w : World) (F : Nat → Prop) (x1 : List api_Ref) (x6 : List api_Ref) (A2 : Option Addr) (n3 : Nat) (c4 : Nat) (A7 : Option Addr) (n8 : Nat) (c9 : Nat) (h5 : Rw k_api_Ref w (St w []).av A2 n3 c4 x1) (h10 : Rw k_api_Ref w (St w []).av A7 n8 c9 x6) (hF : ∀ b, F b → b < w.heap.size ∧ ∀ o ∈ ([] : List (List Nat)), b ∉ o) (hL0 : B.Loc w w [] [Sm w.heap.size F w [], St w []]) (r : Bool) (h : trellislaw11_sameRow x1 x6 r) : Calls Try.prog 36 #[.slice A2 n3 c4, .slice A7 n8 c9] w (trellislaw11_sameRow_R w F  r) := by
  unfold trellislaw11_sameRow at h
  refine calls_of_Loc (vs := [.slice A2 n3 c4, .slice A7 n8 c9]) 26 Try.func36 rfl Try.ntmps36 rfl hL0 ?_
  show G (trellislaw11_sameRow_C w F r) _ _ _ _
  refine g_seq (c := trellislaw11_sameRow_c0) rfl ?_
  refine g_region (c := trellislaw11_sameRow_c1) rfl rfl ?_
  refine wl_v 0 rfl (v_assign rfl) gn rfl ?_
  refine w_end 1 rfl ?_
  refine g_seq (c := trellislaw11_sameRow_c2) rfl ?_
  refine g_seq (c := trellislaw11_sameRow_c3) rfl ?_
  refine g_region (c := trellislaw11_sameRow_c5) rfl rfl ?_
  refine wl_v 0 rfl (v_move rfl) gn rfl ?_
  refine wl_v 1 rfl (v_lenQ un_27 rfl h5.hq) gn rfl ?_
  refine wl_v 2 rfl (v_move rfl) gn rfl ?_
  refine wl_v 3 rfl (v_lenQ un_27 rfl h10.hq) gn rfl ?_
  refine wl_v 4 rfl (v_bin rfl rfl rfl) gn rfl ?_
  refine w_end 5 rfl ?_
  by_cases hp11 : (x1.length : Int) = (x6.length : Int)
  · have h := if_pos' hp11 h
    refine g_false (c := trellislaw11_sameRow_c6) rfl _ rfl ((eqib hp11)) ?_
    refine g_skip (c := trellislaw11_sameRow_c8) rfl ?_
    refine g_seq (c := trellislaw11_sameRow_c4) rfl ?_
    refine g_seq (c := trellislaw11_sameRow_c9) rfl ?_
    refine g_region (c := trellislaw11_sameRow_c11) rfl rfl ?_
    refine wl_v 0 rfl (v_assign rfl) gn rfl ?_
    refine w_end 1 rfl ?_
    refine g_block (c := trellislaw11_sameRow_c12) rfl ?_
    refine g_loop (c := trellislaw11_sameRow_c13) rfl ?_
    have key1 : ∀ s, Rounds (fun (s : Int) o => trellislaw11_sameRow_b1 x1 x6 s o) s r → (fun (s : Int) => ∀ (_ : Unit), G (trellislaw11_sameRow_C w F r) [.code trellislaw11_sameRow_c14, .inLoop trellislaw11_sameRow_c14, .inBlock 0, .code trellislaw11_sameRow_c10] [(0, .slice A2 n3 c4), (1, .slice A7 n8 c9), (5, .int .i64 s)] [] [Sm w.heap.size F w [], St w []]) s := by
      intro s hs
      refine Rounds.ind (mot := (fun (s : Int) => ∀ (_ : Unit), G (trellislaw11_sameRow_C w F r) [.code trellislaw11_sameRow_c14, .inLoop trellislaw11_sameRow_c14, .inBlock 0, .code trellislaw11_sameRow_c10] [(0, .slice A2 n3 c4), (1, .slice A7 n8 c9), (5, .int .i64 s)] [] [Sm w.heap.size F w [], St w []])) ?_ hs
      clear hs s
      intro x23 o1 h hO1
      show ∀ (_ : Unit), G (trellislaw11_sameRow_C w F r) [.code trellislaw11_sameRow_c14, .inLoop trellislaw11_sameRow_c14, .inBlock 0, .code trellislaw11_sameRow_c10] [(0, .slice A2 n3 c4), (1, .slice A7 n8 c9), (5, .int .i64 x23)] [] [Sm w.heap.size F w [], St w []]
      intro _
      have h : trellislaw11_sameRow_b1 x1 x6 x23 o1 := h
      unfold trellislaw11_sameRow_b1 at h
      refine g_seq (c := trellislaw11_sameRow_c14) rfl ?_
      refine g_seq (c := trellislaw11_sameRow_c15) rfl ?_
      refine g_region (c := trellislaw11_sameRow_c17) rfl rfl ?_
      refine wl_v 0 rfl (v_move rfl) gn rfl ?_
      refine wl_v 1 rfl (v_move rfl) gn rfl ?_
      refine wl_v 2 rfl (v_lenQ un_27 rfl h5.hq) gn rfl ?_
      refine wl_v 3 rfl (v_bin rfl rfl rfl) gn rfl ?_
      refine w_end 4 rfl ?_
      by_cases hp34 : x23 < (x1.length : Int)
      · have h := if_pos' hp34 h
        refine g_true (c := trellislaw11_sameRow_c18) rfl _ rfl ((decide_eq_true hp34)) ?_
        refine g_skip (c := trellislaw11_sameRow_c19) rfl ?_
        refine g_seq (c := trellislaw11_sameRow_c16) rfl ?_
        refine g_block (c := trellislaw11_sameRow_c21) rfl ?_
        refine g_seq (c := trellislaw11_sameRow_c23) rfl ?_
        obtain ⟨hb35, h⟩ := h
        obtain ⟨hb37, h⟩ := h
        have hns : Region.noSelect (Code.ops trellislaw11_sameRow_c24) = true := by kernel_rfl
        refine g_drawF (c := trellislaw11_sameRow_c24) [] [Sm w.heap.size F w [], St w []] [] 9 rfl rfl mix rfl (.slnil) (sels [0, 1] rfl) ?_
        refine wf_v 0 rfl (v_move rfl) gn rfl hns (by kernel_rfl) (by kernel_rfl) rfl rfl ?_
        refine wf_v 1 rfl (v_move rfl) gn rfl hns (by kernel_rfl) (by kernel_rfl) rfl rfl ?_
        have hr41 := Rw.readF (s := St w []) (hl := hl_api_Ref) (h1 := h1_api_Ref) h5 hb35
        refine wf_v 2 rfl (v_idxR (s := St w []) slE_27 rfl rfl h5 hb35) gn rfl hns (by kernel_rfl) (by kernel_rfl) rfl rfl ?_
        refine wf_v 3 rfl (v_ldA (St w []) ld_36 rfl hr41 rfl (me 1 rfl)) gn rfl hns (by kernel_rfl) (by kernel_rfl) rfl rfl ?_
        refine wf_v 4 rfl (v_move rfl) gn rfl hns (by kernel_rfl) (by kernel_rfl) rfl rfl ?_
        refine wf_v 5 rfl (v_move rfl) gn rfl hns (by kernel_rfl) (by kernel_rfl) rfl rfl ?_
        have hr42 := Rw.readF (s := St w []) (hl := hl_api_Ref) (h1 := h1_api_Ref) h10 hb37
        refine wf_v 6 rfl (v_idxR (s := St w []) slE_27 rfl rfl h10 hb37) gn rfl hns (by kernel_rfl) (by kernel_rfl) rfl rfl ?_
        refine wf_v 7 rfl (v_ldA (St w []) ld_36 rfl hr42 rfl (me 1 rfl)) gn rfl hns (by kernel_rfl) (by kernel_rfl) rfl rfl ?_
        refine wf_v 8 rfl (v_neSt eq_36 rfl rfl (eqd_api_Ref (ix x1 x23) (ix x6 x23))) gn rfl hns (by kernel_rfl) (by kernel_rfl) rfl rfl ?_
        refine wf_end (by kernel_rfl) ?_
        by_cases hp43 : ix x1 x23 = ix x6 x23
        · have h := if_pos' hp43 h
          refine g_false (c := trellislaw11_sameRow_c25) rfl _ rfl ((nf (decide_eq_true hp43))) ?_
          refine g_skip (c := trellislaw11_sameRow_c27) rfl ?_
          refine g_inBlock ?_
          refine g_region (c := trellislaw11_sameRow_c22) rfl rfl ?_
          refine wl_v 0 rfl (v_move rfl) gn rfl ?_
          refine wl_v 1 rfl (v_bin rfl rfl rfl) gn rfl ?_
          refine wl_v 2 rfl (v_assign rfl) gn rfl ?_
          refine w_end 3 rfl ?_
          refine g_inLoop ?_
          have ih := Out.inl hO1 h
          exact g_go [0, 1] (ih ()) ⟨rfl, rfl, rfl, trivial⟩ (.slnil) rfl
        · have h := if_neg' hp43 h
          refine g_true (c := trellislaw11_sameRow_c25) rfl _ rfl ((nt (decide_eq_false hp43))) ?_
          refine g_seq (c := trellislaw11_sameRow_c26) rfl ?_
          refine g_region (c := trellislaw11_sameRow_c28) rfl rfl ?_
          refine wl_v 0 rfl (v_assign rfl) gn rfl ?_
          refine w_end 1 rfl ?_
          have h := Out.inr hO1 h
          refine g_retR (c := trellislaw11_sameRow_c29) [.bool false] rfl Try.func36 rfl (.tmp rfl (.nil)) fun wr hLr => ?_
          have hMr : B.Loc w wr [] [St w []] := hLr.pick (rest := []) (perm_of_idx [] [] rfl rfl (by kernel_rfl)) (sels [1] rfl)
          have hMi : ∀ e ∈ ([] : List Ent), e ∈ ([] : List Ent) := sels [] rfl
          show trellislaw11_sameRow_R w F  r (.returned (packV [.bool false])) wr
          rw [h]
          exact ⟨rfl, hMr⟩
      · have h := if_neg' hp34 h
        refine g_false (c := trellislaw11_sameRow_c18) rfl _ rfl ((decide_eq_false hp34)) ?_
        refine g_exit (c := trellislaw11_sameRow_c20) [.code trellislaw11_sameRow_c10] rfl rfl ?_
        refine g_seq (c := trellislaw11_sameRow_c10) rfl ?_
        refine g_region (c := trellislaw11_sameRow_c30) rfl rfl ?_
        refine wl_v 0 rfl (v_assign rfl) gn rfl ?_
        refine w_end 1 rfl ?_
        have h := Out.inr hO1 h
        refine g_retR (c := trellislaw11_sameRow_c31) [.bool true] rfl Try.func36 rfl (.tmp rfl (.nil)) fun wr hLr => ?_
        have hMr : B.Loc w wr [] [St w []] := hLr.pick (rest := []) (perm_of_idx [] [] rfl rfl (by kernel_rfl)) (sels [1] rfl)
        have hMi : ∀ e ∈ ([] : List Ent), e ∈ ([] : List Ent) := sels [] rfl
        show trellislaw11_sameRow_R w F  r (.returned (packV [.bool true])) wr
        rw [h]
        exact ⟨rfl, hMr⟩
    exact g_go [0, 1] (key1 _ h ()) ⟨rfl, rfl, rfl, trivial⟩ (.slnil) rfl
  · have h := if_neg' hp11 h
    refine g_true (c := trellislaw11_sameRow_c6) rfl _ rfl ((neib hp11)) ?_
    refine g_seq (c := trellislaw11_sameRow_c7) rfl ?_
    refine g_region (c := trellislaw11_sameRow_c32) rfl rfl ?_
    refine wl_v 0 rfl (v_assign rfl) gn rfl ?_
    refine w_end 1 rfl ?_
    refine g_retR (c := trellislaw11_sameRow_c33) [.bool false] rfl Try.func36 rfl (.tmp rfl (.nil)) fun wr hLr => ?_
    have hMr : B.Loc w wr [] [St w []] := hLr.pick (rest := []) (perm_of_idx [] [] rfl rfl (by kernel_rfl)) (sels [1] rfl)
    have hMi : ∀ e ∈ ([] : List Ent), e ∈ ([] : List Ent) := sels [] rfl
    show trellislaw11_sameRow_R w F  r (.returned (packV [.bool false])) wr
    rw [h]
    exact ⟨rfl, hMr⟩
noncomputable abbrev trellislaw11_same_c0 : Code := bodyOf Try.f35
noncomputable abbrev trellislaw11_same_c1 : Code := Code.fst trellislaw11_same_c0
noncomputable abbrev trellislaw11_same_c2 : Code := Code.snd trellislaw11_same_c0
noncomputable abbrev trellislaw11_same_c3 : Code := Code.fst trellislaw11_same_c2
noncomputable abbrev trellislaw11_same_c4 : Code := Code.snd trellislaw11_same_c2
noncomputable abbrev trellislaw11_same_c5 : Code := Code.fst trellislaw11_same_c3
noncomputable abbrev trellislaw11_same_c6 : Code := Code.snd trellislaw11_same_c3
noncomputable abbrev trellislaw11_same_c7 : Code := Code.fst trellislaw11_same_c6
noncomputable abbrev trellislaw11_same_c8 : Code := Code.snd trellislaw11_same_c6
noncomputable abbrev trellislaw11_same_c9 : Code := Code.fst trellislaw11_same_c7
noncomputable abbrev trellislaw11_same_c10 : Code := Code.snd trellislaw11_same_c7
noncomputable abbrev trellislaw11_same_c11 : Code := Code.fst trellislaw11_same_c4
noncomputable abbrev trellislaw11_same_c12 : Code := Code.snd trellislaw11_same_c4
noncomputable abbrev trellislaw11_same_c13 : Code := Code.fst trellislaw11_same_c11
noncomputable abbrev trellislaw11_same_c14 : Code := Code.snd trellislaw11_same_c11
noncomputable abbrev trellislaw11_same_c15 : Code := Code.fst trellislaw11_same_c14
noncomputable abbrev trellislaw11_same_c16 : Code := Code.fst trellislaw11_same_c15
noncomputable abbrev trellislaw11_same_c17 : Code := Code.fst trellislaw11_same_c16
noncomputable abbrev trellislaw11_same_c18 : Code := Code.snd trellislaw11_same_c16
noncomputable abbrev trellislaw11_same_c19 : Code := Code.fst trellislaw11_same_c17
noncomputable abbrev trellislaw11_same_c20 : Code := Code.snd trellislaw11_same_c17
noncomputable abbrev trellislaw11_same_c21 : Code := Code.fst trellislaw11_same_c20
noncomputable abbrev trellislaw11_same_c22 : Code := Code.snd trellislaw11_same_c20
noncomputable abbrev trellislaw11_same_c23 : Code := Code.fst trellislaw11_same_c18
noncomputable abbrev trellislaw11_same_c24 : Code := Code.snd trellislaw11_same_c18
noncomputable abbrev trellislaw11_same_c25 : Code := Code.fst trellislaw11_same_c23
noncomputable abbrev trellislaw11_same_c26 : Code := Code.fst trellislaw11_same_c25
noncomputable abbrev trellislaw11_same_c27 : Code := Code.snd trellislaw11_same_c25
noncomputable abbrev trellislaw11_same_c28 : Code := Code.fst trellislaw11_same_c27
noncomputable abbrev trellislaw11_same_c29 : Code := Code.snd trellislaw11_same_c27
noncomputable abbrev trellislaw11_same_c30 : Code := Code.fst trellislaw11_same_c28
noncomputable abbrev trellislaw11_same_c31 : Code := Code.snd trellislaw11_same_c28
noncomputable abbrev trellislaw11_same_c32 : Code := Code.fst trellislaw11_same_c12
noncomputable abbrev trellislaw11_same_c33 : Code := Code.snd trellislaw11_same_c12
noncomputable abbrev trellislaw11_same_c34 : Code := Code.fst trellislaw11_same_c32
noncomputable abbrev trellislaw11_same_c35 : Code := Code.snd trellislaw11_same_c32
noncomputable abbrev trellislaw11_same_c36 : Code := Code.fst trellislaw11_same_c35
noncomputable abbrev trellislaw11_same_c37 : Code := Code.fst trellislaw11_same_c36
noncomputable abbrev trellislaw11_same_c38 : Code := Code.fst trellislaw11_same_c37
noncomputable abbrev trellislaw11_same_c39 : Code := Code.snd trellislaw11_same_c37
noncomputable abbrev trellislaw11_same_c40 : Code := Code.fst trellislaw11_same_c38
noncomputable abbrev trellislaw11_same_c41 : Code := Code.snd trellislaw11_same_c38
noncomputable abbrev trellislaw11_same_c42 : Code := Code.fst trellislaw11_same_c41
noncomputable abbrev trellislaw11_same_c43 : Code := Code.snd trellislaw11_same_c41
noncomputable abbrev trellislaw11_same_c44 : Code := Code.fst trellislaw11_same_c39
noncomputable abbrev trellislaw11_same_c45 : Code := Code.snd trellislaw11_same_c39
noncomputable abbrev trellislaw11_same_c46 : Code := Code.fst trellislaw11_same_c44
noncomputable abbrev trellislaw11_same_c47 : Code := Code.fst trellislaw11_same_c46
noncomputable abbrev trellislaw11_same_c48 : Code := Code.snd trellislaw11_same_c46
noncomputable abbrev trellislaw11_same_c49 : Code := Code.fst trellislaw11_same_c48
noncomputable abbrev trellislaw11_same_c50 : Code := Code.snd trellislaw11_same_c48
noncomputable abbrev trellislaw11_same_c51 : Code := Code.fst trellislaw11_same_c49
noncomputable abbrev trellislaw11_same_c52 : Code := Code.snd trellislaw11_same_c49
noncomputable abbrev trellislaw11_same_c53 : Code := Code.fst trellislaw11_same_c33
noncomputable abbrev trellislaw11_same_c54 : Code := Code.snd trellislaw11_same_c33
noncomputable abbrev trellislaw11_same_c55 : Code := Code.fst trellislaw11_same_c53
noncomputable abbrev trellislaw11_same_c56 : Code := Code.snd trellislaw11_same_c53
noncomputable abbrev trellislaw11_same_c57 : Code := Code.fst trellislaw11_same_c56
noncomputable abbrev trellislaw11_same_c58 : Code := Code.fst trellislaw11_same_c57
noncomputable abbrev trellislaw11_same_c59 : Code := Code.fst trellislaw11_same_c58
noncomputable abbrev trellislaw11_same_c60 : Code := Code.snd trellislaw11_same_c58
noncomputable abbrev trellislaw11_same_c61 : Code := Code.fst trellislaw11_same_c59
noncomputable abbrev trellislaw11_same_c62 : Code := Code.snd trellislaw11_same_c59
noncomputable abbrev trellislaw11_same_c63 : Code := Code.fst trellislaw11_same_c62
noncomputable abbrev trellislaw11_same_c64 : Code := Code.snd trellislaw11_same_c62
noncomputable abbrev trellislaw11_same_c65 : Code := Code.fst trellislaw11_same_c60
noncomputable abbrev trellislaw11_same_c66 : Code := Code.snd trellislaw11_same_c60
noncomputable abbrev trellislaw11_same_c67 : Code := Code.fst trellislaw11_same_c65
noncomputable abbrev trellislaw11_same_c68 : Code := Code.fst trellislaw11_same_c67
noncomputable abbrev trellislaw11_same_c69 : Code := Code.snd trellislaw11_same_c67
noncomputable abbrev trellislaw11_same_c70 : Code := Code.fst trellislaw11_same_c69
noncomputable abbrev trellislaw11_same_c71 : Code := Code.snd trellislaw11_same_c69
noncomputable abbrev trellislaw11_same_c72 : Code := Code.fst trellislaw11_same_c70
noncomputable abbrev trellislaw11_same_c73 : Code := Code.snd trellislaw11_same_c70
noncomputable abbrev trellislaw11_same_c74 : Code := Code.fst trellislaw11_same_c54
noncomputable abbrev trellislaw11_same_c75 : Code := Code.snd trellislaw11_same_c54
abbrev trellislaw11_same_R (w : World) (F : Nat → Prop) (r : Bool) : Ending → World → Prop := fun e w' => e = .returned (.bool r) ∧ B.Loc w w' [] [St w []]
noncomputable abbrev trellislaw11_same_C (w : World) (F : Nat → Prop) (r : Bool) : Cx := ⟨Try.prog, 35, Try.f35, 105, trellislaw11_same_R w F  r, w⟩
theorem trellislaw11_same_calls (w : World) (F : Nat → Prop) (x1 : api_Gram) (x14 : api_Gram) (A2 : Option Addr) (n3 : Nat) (c4 : Nat) (A6 : Option Addr) (n7 : Nat) (c8 : Nat) (A10 : Option Addr) (n11 : Nat) (c12 : Nat) (A15 : Option Addr) (n16 : Nat) (c17 : Nat) (A19 : Option Addr) (n20 : Nat) (c21 : Nat) (A23 : Option Addr) (n24 : Nat) (c25 : Nat) (h5 : Rw k_api_TermDef w (St w []).av A2 n3 c4 x1.terms) (h9 : Rw k_api_Sym w (St w []).av A6 n7 c8 x1.syms) (h13 : Rw k_api_Prod w (St w []).av A10 n11 c12 x1.prods) (h18 : Rw k_api_TermDef w (St w []).av A15 n16 c17 x14.terms) (h22 : Rw k_api_Sym w (St w []).av A19 n20 c21 x14.syms) (h26 : Rw k_api_Prod w (St w []).av A23 n24 c25 x14.prods) (hF : ∀ b, F b → b < w.heap.size ∧ ∀ o ∈ ([] : List (List Nat)), b ∉ o) (hL0 : B.Loc w w [] [Sm w.heap.size F w [], St w []]) (r : Bool) (h : trellislaw11_same x1 x14 r) : Calls Try.prog 35 #[.agg #[.slice A2 n3 c4, .slice A6 n7 c8, .slice A10 n11 c12], .agg #[.slice A15 n16 c17, .slice A19 n20 c21, .slice A23 n24 c25]] w (trellislaw11_same_R w F  r) := by
  unfold trellislaw11_same at h
  refine calls_of_Loc (vs := [.agg #[.slice A2 n3 c4, .slice A6 n7 c8, .slice A10 n11 c12], .agg #[.slice A15 n16 c17, .slice A19 n20 c21, .slice A23 n24 c25]]) 105 Try.func35 rfl Try.ntmps35 rfl hL0 ?_
  show G (trellislaw11_same_C w F r) _ _ _ _
  refine g_seq (c := trellislaw11_same_c0) rfl ?_
  refine g_region (c := trellislaw11_same_c1) rfl rfl ?_
  refine wl_s 0 rfl (s_box [.slice A2 n3 c4, .slice A6 n7 c8, .slice A10 n11 c12] rfl rfl rfl fun gb27 => ?_) gn
  refine wl_s 1 rfl (s_box [.slice A15 n16 c17, .slice A19 n20 c21, .slice A23 n24 c25] rfl rfl rfl fun gb29 => ?_) gn
  refine wl_v 2 rfl (v_assign rfl) gn rfl ?_
  refine w_end 3 rfl ?_
  refine g_seq (c := trellislaw11_same_c2) rfl ?_
  refine g_seq (c := trellislaw11_same_c3) rfl ?_
  have j1 : ∀ (x34 : Bool) (h : trellislaw11_same_j1 x1 x14 x34 r) , G (trellislaw11_same_C w F r) [.code trellislaw11_same_c6, .code trellislaw11_same_c4] [(2, .pointer (some ⟨gb27, 0, none⟩)), (3, .pointer (some ⟨gb29, 0, none⟩)), (32, .bool x34)] [.box gb29 26 [.slice A15 n16 c17, .slice A19 n20 c21, .slice A23 n24 c25], .box gb27 26 [.slice A2 n3 c4, .slice A6 n7 c8, .slice A10 n11 c12]] [Sm w.heap.size F w [], St w []] := by
    intro x34 h
    unfold trellislaw11_same_j1 at h
    by_cases hp35 : x34 = true
    · have h := if_pos' hp35 h
      refine g_true (c := trellislaw11_same_c6) rfl _ rfl (hp35) ?_
      refine g_seq (c := trellislaw11_same_c7) rfl ?_
      refine g_region (c := trellislaw11_same_c9) rfl rfl ?_
      refine wl_v 0 rfl (v_assign rfl) gn rfl ?_
      refine w_end 1 rfl ?_
      refine g_retR (c := trellislaw11_same_c10) [.bool false] rfl Try.func35 rfl (.tmp rfl (.nil)) fun wr hLr => ?_
      have hMr : B.Loc w wr [] [St w []] := hLr.pick (rest := [.box gb29 26 [.slice A15 n16 c17, .slice A19 n20 c21, .slice A23 n24 c25], .box gb27 26 [.slice A2 n3 c4, .slice A6 n7 c8, .slice A10 n11 c12]]) (perm_of_idx [] [0, 1] rfl rfl (by kernel_rfl)) (sels [1] rfl)
      have hMi : ∀ e ∈ ([] : List Ent), e ∈ ([.box gb29 26 [.slice A15 n16 c17, .slice A19 n20 c21, .slice A23 n24 c25], .box gb27 26 [.slice A2 n3 c4, .slice A6 n7 c8, .slice A10 n11 c12]] : List Ent) := sels [] rfl
      show trellislaw11_same_R w F  r (.returned (packV [.bool false])) wr
      rw [h]
      exact ⟨rfl, hMr⟩
    · have h := if_neg' hp35 h
      refine g_false (c := trellislaw11_same_c6) rfl _ rfl ((bf hp35)) ?_
      refine g_skip (c := trellislaw11_same_c8) rfl ?_
      refine g_seq (c := trellislaw11_same_c4) rfl ?_
      refine g_seq (c := trellislaw11_same_c11) rfl ?_
      refine g_region (c := trellislaw11_same_c13) rfl rfl ?_
      refine wl_v 0 rfl (v_assign rfl) gn rfl ?_
      refine w_end 1 rfl ?_
      refine g_block (c := trellislaw11_same_c14) rfl ?_
      refine g_loop (c := trellislaw11_same_c15) rfl ?_
      have key2 : ∀ s, Rounds (fun (s : Int) o => trellislaw11_same_b2 x1 x14 s o) s r → (fun (s : Int) => ∀ (_ : Unit), G (trellislaw11_same_C w F r) [.code trellislaw11_same_c16, .inLoop trellislaw11_same_c16, .inBlock 0, .code trellislaw11_same_c12] [(2, .pointer (some ⟨gb27, 0, none⟩)), (3, .pointer (some ⟨gb29, 0, none⟩)), (5, .int .i64 s)] [.box gb29 26 [.slice A15 n16 c17, .slice A19 n20 c21, .slice A23 n24 c25], .box gb27 26 [.slice A2 n3 c4, .slice A6 n7 c8, .slice A10 n11 c12]] [Sm w.heap.size F w [], St w []]) s := by
        intro s hs
        refine Rounds.ind (mot := (fun (s : Int) => ∀ (_ : Unit), G (trellislaw11_same_C w F r) [.code trellislaw11_same_c16, .inLoop trellislaw11_same_c16, .inBlock 0, .code trellislaw11_same_c12] [(2, .pointer (some ⟨gb27, 0, none⟩)), (3, .pointer (some ⟨gb29, 0, none⟩)), (5, .int .i64 s)] [.box gb29 26 [.slice A15 n16 c17, .slice A19 n20 c21, .slice A23 n24 c25], .box gb27 26 [.slice A2 n3 c4, .slice A6 n7 c8, .slice A10 n11 c12]] [Sm w.heap.size F w [], St w []])) ?_ hs
        clear hs s
        intro x1426 o1 h hO1
        show ∀ (_ : Unit), G (trellislaw11_same_C w F r) [.code trellislaw11_same_c16, .inLoop trellislaw11_same_c16, .inBlock 0, .code trellislaw11_same_c12] [(2, .pointer (some ⟨gb27, 0, none⟩)), (3, .pointer (some ⟨gb29, 0, none⟩)), (5, .int .i64 x1426)] [.box gb29 26 [.slice A15 n16 c17, .slice A19 n20 c21, .slice A23 n24 c25], .box gb27 26 [.slice A2 n3 c4, .slice A6 n7 c8, .slice A10 n11 c12]] [Sm w.heap.size F w [], St w []]
        intro _
        have h : trellislaw11_same_b2 x1 x14 x1426 o1 := h
        unfold trellislaw11_same_b2 at h
        refine g_seq (c := trellislaw11_same_c16) rfl ?_
        refine g_seq (c := trellislaw11_same_c17) rfl ?_
        refine g_region (c := trellislaw11_same_c19) rfl rfl ?_
        refine wl_v 0 rfl (v_move rfl) gn rfl ?_
        refine wl_v 1 rfl (v_fldB fo_26_0 rfl) gn rfl ?_
        refine wl_v 2 rfl (v_ldB1 1 ld_22 rfl rfl rfl) gn rfl ?_
        refine wl_v 3 rfl (v_lenQ un_22 rfl h5.hq) gn rfl ?_
        refine wl_v 4 rfl (v_bin rfl rfl rfl) gn rfl ?_
        refine w_end 5 rfl ?_
        by_cases hp2816 : x1426 < (x1.terms.length : Int)
        · have h := if_pos' hp2816 h
          refine g_true (c := trellislaw11_same_c20) rfl _ rfl ((decide_eq_true hp2816)) ?_
          refine g_skip (c := trellislaw11_same_c21) rfl ?_
          refine g_seq (c := trellislaw11_same_c18) rfl ?_
          refine g_block (c := trellislaw11_same_c23) rfl ?_
          refine g_seq (c := trellislaw11_same_c25) rfl ?_
          obtain ⟨hb2817, h⟩ := h
          obtain ⟨hb2819, h⟩ := h
          have hns : Region.noSelect (Code.ops trellislaw11_same_c26) = true := by kernel_rfl
          refine g_drawF (c := trellislaw11_same_c26) [.box gb29 26 [.slice A15 n16 c17, .slice A19 n20 c21, .slice A23 n24 c25], .box gb27 26 [.slice A2 n3 c4, .slice A6 n7 c8, .slice A10 n11 c12]] [Sm w.heap.size F w [], St w []] [] 11 rfl rfl mix rfl (.cons_cons _ (.cons_cons _ (.slnil))) (sels [0, 1] rfl) ?_
          refine wf_v 0 rfl (v_fldB fo_26_0 rfl) gn rfl hns (by kernel_rfl) (by kernel_rfl) rfl rfl ?_
          refine wf_v 1 rfl (v_ldB1 1 ld_22 rfl rfl rfl) gn rfl hns (by kernel_rfl) (by kernel_rfl) rfl rfl ?_
          refine wf_v 2 rfl (v_move rfl) gn rfl hns (by kernel_rfl) (by kernel_rfl) rfl rfl ?_
          have hr2823 := Rw.readF (s := St w []) (hl := hl_api_TermDef) (h1 := h1_api_TermDef) h5 hb2817
          refine wf_v 3 rfl (v_idxR (s := St w []) slE_22 rfl rfl h5 hb2817) gn rfl hns (by kernel_rfl) (by kernel_rfl) rfl rfl ?_
          refine wf_v 4 rfl (v_ldA (St w []) ld_58 rfl hr2823 rfl (me 1 rfl)) gn rfl hns (by kernel_rfl) (by kernel_rfl) rfl rfl ?_
          refine wf_v 5 rfl (v_fldB fo_26_0 rfl) gn rfl hns (by kernel_rfl) (by kernel_rfl) rfl rfl ?_
          refine wf_v 6 rfl (v_ldB1 0 ld_22 rfl rfl rfl) gn rfl hns (by kernel_rfl) (by kernel_rfl) rfl rfl ?_
          refine wf_v 7 rfl (v_move rfl) gn rfl hns (by kernel_rfl) (by kernel_rfl) rfl rfl ?_
          have hr2824 := Rw.readF (s := St w []) (hl := hl_api_TermDef) (h1 := h1_api_TermDef) h18 hb2819
          refine wf_v 8 rfl (v_idxR (s := St w []) slE_22 rfl rfl h18 hb2819) gn rfl hns (by kernel_rfl) (by kernel_rfl) rfl rfl ?_
          refine wf_v 9 rfl (v_ldA (St w []) ld_58 rfl hr2824 rfl (me 1 rfl)) gn rfl hns (by kernel_rfl) (by kernel_rfl) rfl rfl ?_
          refine wf_v 10 rfl (v_neSt eq_58 rfl rfl (eqd_api_TermDef (ix x1.terms x1426) (ix x14.terms x1426))) gn rfl hns (by kernel_rfl) (by kernel_rfl) rfl rfl ?_
          refine wf_end (by kernel_rfl) ?_
          by_cases hp2825 : ix x1.terms x1426 = ix x14.terms x1426
          · have h := if_pos' hp2825 h
            refine g_false (c := trellislaw11_same_c27) rfl _ rfl ((nf (decide_eq_true hp2825))) ?_
            refine g_skip (c := trellislaw11_same_c29) rfl ?_
            refine g_inBlock ?_
            refine g_region (c := trellislaw11_same_c24) rfl rfl ?_
            refine wl_v 0 rfl (v_move rfl) gn rfl ?_
            refine wl_v 1 rfl (v_bin rfl rfl rfl) gn rfl ?_
            refine wl_v 2 rfl (v_assign rfl) gn rfl ?_
            refine w_end 3 rfl ?_
            refine g_inLoop ?_
            have ih := Out.inl hO1 h
            exact g_go [0, 1] (ih ()) ⟨rfl, rfl, rfl, trivial⟩ (.cons_cons _ (.cons_cons _ (.slnil))) rfl
          · have h := if_neg' hp2825 h
            refine g_true (c := trellislaw11_same_c27) rfl _ rfl ((nt (decide_eq_false hp2825))) ?_
            refine g_seq (c := trellislaw11_same_c28) rfl ?_
            refine g_region (c := trellislaw11_same_c30) rfl rfl ?_
            refine wl_v 0 rfl (v_assign rfl) gn rfl ?_
            refine w_end 1 rfl ?_
            have h := Out.inr hO1 h
            refine g_retR (c := trellislaw11_same_c31) [.bool false] rfl Try.func35 rfl (.tmp rfl (.nil)) fun wr hLr => ?_
            have hMr : B.Loc w wr [] [St w []] := hLr.pick (rest := [.box gb29 26 [.slice A15 n16 c17, .slice A19 n20 c21, .slice A23 n24 c25], .box gb27 26 [.slice A2 n3 c4, .slice A6 n7 c8, .slice A10 n11 c12]]) (perm_of_idx [] [0, 1] rfl rfl (by kernel_rfl)) (sels [1] rfl)
            have hMi : ∀ e ∈ ([] : List Ent), e ∈ ([.box gb29 26 [.slice A15 n16 c17, .slice A19 n20 c21, .slice A23 n24 c25], .box gb27 26 [.slice A2 n3 c4, .slice A6 n7 c8, .slice A10 n11 c12]] : List Ent) := sels [] rfl
            show trellislaw11_same_R w F  r (.returned (packV [.bool false])) wr
            rw [h]
            exact ⟨rfl, hMr⟩
        · have h := if_neg' hp2816 h
          refine g_false (c := trellislaw11_same_c20) rfl _ rfl ((decide_eq_false hp2816)) ?_
          refine g_exit (c := trellislaw11_same_c22) [.code trellislaw11_same_c12] rfl rfl ?_
          refine g_seq (c := trellislaw11_same_c12) rfl ?_
          refine g_seq (c := trellislaw11_same_c32) rfl ?_
          refine g_region (c := trellislaw11_same_c34) rfl rfl ?_
          refine wl_v 0 rfl (v_assign rfl) gn rfl ?_
          refine w_end 1 rfl ?_
          refine g_block (c := trellislaw11_same_c35) rfl ?_
          refine g_loop (c := trellislaw11_same_c36) rfl ?_
          have key3 : ∀ s, Rounds (fun (s : Int) o => trellislaw11_same_b3 x1 x14 s o) s o1 → (fun (s : Int) => ∀ (_ : Unit), G (trellislaw11_same_C w F r) [.code trellislaw11_same_c37, .inLoop trellislaw11_same_c37, .inBlock 2, .code trellislaw11_same_c33] [(2, .pointer (some ⟨gb27, 0, none⟩)), (3, .pointer (some ⟨gb29, 0, none⟩)), (6, .int .i64 s)] [.box gb29 26 [.slice A15 n16 c17, .slice A19 n20 c21, .slice A23 n24 c25], .box gb27 26 [.slice A2 n3 c4, .slice A6 n7 c8, .slice A10 n11 c12]] [Sm w.heap.size F w [], St w []]) s := by
            intro s hs
            refine Rounds.ind (mot := (fun (s : Int) => ∀ (_ : Unit), G (trellislaw11_same_C w F r) [.code trellislaw11_same_c37, .inLoop trellislaw11_same_c37, .inBlock 2, .code trellislaw11_same_c33] [(2, .pointer (some ⟨gb27, 0, none⟩)), (3, .pointer (some ⟨gb29, 0, none⟩)), (6, .int .i64 s)] [.box gb29 26 [.slice A15 n16 c17, .slice A19 n20 c21, .slice A23 n24 c25], .box gb27 26 [.slice A2 n3 c4, .slice A6 n7 c8, .slice A10 n11 c12]] [Sm w.heap.size F w [], St w []])) ?_ hs
            clear hs s
            intro x3286 o2 h hO2
            show ∀ (_ : Unit), G (trellislaw11_same_C w F r) [.code trellislaw11_same_c37, .inLoop trellislaw11_same_c37, .inBlock 2, .code trellislaw11_same_c33] [(2, .pointer (some ⟨gb27, 0, none⟩)), (3, .pointer (some ⟨gb29, 0, none⟩)), (6, .int .i64 x3286)] [.box gb29 26 [.slice A15 n16 c17, .slice A19 n20 c21, .slice A23 n24 c25], .box gb27 26 [.slice A2 n3 c4, .slice A6 n7 c8, .slice A10 n11 c12]] [Sm w.heap.size F w [], St w []]
            intro _
            have h : trellislaw11_same_b3 x1 x14 x3286 o2 := h
            unfold trellislaw11_same_b3 at h
            refine g_seq (c := trellislaw11_same_c37) rfl ?_
            refine g_seq (c := trellislaw11_same_c38) rfl ?_
            refine g_region (c := trellislaw11_same_c40) rfl rfl ?_
            refine wl_v 0 rfl (v_move rfl) gn rfl ?_
            refine wl_v 1 rfl (v_fldB fo_26_1 rfl) gn rfl ?_
            refine wl_v 2 rfl (v_ldB1 1 ld_23 rfl rfl rfl) gn rfl ?_
            refine wl_v 3 rfl (v_lenQ un_23 rfl h9.hq) gn rfl ?_
            refine wl_v 4 rfl (v_bin rfl rfl rfl) gn rfl ?_
            refine w_end 5 rfl ?_
            by_cases hp3746 : x3286 < (x1.syms.length : Int)
            · have h := if_pos' hp3746 h
              refine g_true (c := trellislaw11_same_c41) rfl _ rfl ((decide_eq_true hp3746)) ?_
              refine g_skip (c := trellislaw11_same_c42) rfl ?_
              refine g_seq (c := trellislaw11_same_c39) rfl ?_
              refine g_block (c := trellislaw11_same_c44) rfl ?_
              refine g_seq (c := trellislaw11_same_c46) rfl ?_
              obtain ⟨hb3747, h⟩ := h
              obtain ⟨hb3749, h⟩ := h
              have hns : Region.noSelect (Code.ops trellislaw11_same_c47) = true := by kernel_rfl
              refine g_drawF (c := trellislaw11_same_c47) [.box gb29 26 [.slice A15 n16 c17, .slice A19 n20 c21, .slice A23 n24 c25], .box gb27 26 [.slice A2 n3 c4, .slice A6 n7 c8, .slice A10 n11 c12]] [Sm w.heap.size F w [], St w []] [] 11 rfl rfl mix rfl (.cons_cons _ (.cons_cons _ (.slnil))) (sels [0, 1] rfl) ?_
              refine wf_v 0 rfl (v_fldB fo_26_1 rfl) gn rfl hns (by kernel_rfl) (by kernel_rfl) rfl rfl ?_
              refine wf_v 1 rfl (v_ldB1 1 ld_23 rfl rfl rfl) gn rfl hns (by kernel_rfl) (by kernel_rfl) rfl rfl ?_
              refine wf_v 2 rfl (v_move rfl) gn rfl hns (by kernel_rfl) (by kernel_rfl) rfl rfl ?_
              have hr3753 := Rw.readF (s := St w []) (hl := hl_api_Sym) (h1 := h1_api_Sym) h9 hb3747
              refine wf_v 3 rfl (v_idxR (s := St w []) slE_23 rfl rfl h9 hb3747) gn rfl hns (by kernel_rfl) (by kernel_rfl) rfl rfl ?_
              refine wf_v 4 rfl (v_ldA (St w []) ld_61 rfl hr3753 rfl (me 1 rfl)) gn rfl hns (by kernel_rfl) (by kernel_rfl) rfl rfl ?_
              refine wf_v 5 rfl (v_fldB fo_26_1 rfl) gn rfl hns (by kernel_rfl) (by kernel_rfl) rfl rfl ?_
              refine wf_v 6 rfl (v_ldB1 0 ld_23 rfl rfl rfl) gn rfl hns (by kernel_rfl) (by kernel_rfl) rfl rfl ?_
              refine wf_v 7 rfl (v_move rfl) gn rfl hns (by kernel_rfl) (by kernel_rfl) rfl rfl ?_
              have hr3754 := Rw.readF (s := St w []) (hl := hl_api_Sym) (h1 := h1_api_Sym) h22 hb3749
              refine wf_v 8 rfl (v_idxR (s := St w []) slE_23 rfl rfl h22 hb3749) gn rfl hns (by kernel_rfl) (by kernel_rfl) rfl rfl ?_
              refine wf_v 9 rfl (v_ldA (St w []) ld_61 rfl hr3754 rfl (me 1 rfl)) gn rfl hns (by kernel_rfl) (by kernel_rfl) rfl rfl ?_
              refine wf_v 10 rfl (v_neSt eq_61 rfl rfl (eqd_api_Sym (ix x1.syms x3286) (ix x14.syms x3286))) gn rfl hns (by kernel_rfl) (by kernel_rfl) rfl rfl ?_
              refine wf_end (by kernel_rfl) ?_
              by_cases hp3755 : ix x1.syms x3286 = ix x14.syms x3286
              · have h := if_pos' hp3755 h
                refine g_false (c := trellislaw11_same_c48) rfl _ rfl ((nf (decide_eq_true hp3755))) ?_
                refine g_skip (c := trellislaw11_same_c50) rfl ?_
                refine g_inBlock ?_
                refine g_region (c := trellislaw11_same_c45) rfl rfl ?_
                refine wl_v 0 rfl (v_move rfl) gn rfl ?_
                refine wl_v 1 rfl (v_bin rfl rfl rfl) gn rfl ?_
                refine wl_v 2 rfl (v_assign rfl) gn rfl ?_
                refine w_end 3 rfl ?_
                refine g_inLoop ?_
                have ih := Out.inl hO2 h
                exact g_go [0, 1] (ih ()) ⟨rfl, rfl, rfl, trivial⟩ (.cons_cons _ (.cons_cons _ (.slnil))) rfl
              · have h := if_neg' hp3755 h
                refine g_true (c := trellislaw11_same_c48) rfl _ rfl ((nt (decide_eq_false hp3755))) ?_
                refine g_seq (c := trellislaw11_same_c49) rfl ?_
                refine g_region (c := trellislaw11_same_c51) rfl rfl ?_
                refine wl_v 0 rfl (v_assign rfl) gn rfl ?_
                refine w_end 1 rfl ?_
                have h := Out.inr hO2 h
                have h := Out.inr hO1 h
                refine g_retR (c := trellislaw11_same_c52) [.bool false] rfl Try.func35 rfl (.tmp rfl (.nil)) fun wr hLr => ?_
                have hMr : B.Loc w wr [] [St w []] := hLr.pick (rest := [.box gb29 26 [.slice A15 n16 c17, .slice A19 n20 c21, .slice A23 n24 c25], .box gb27 26 [.slice A2 n3 c4, .slice A6 n7 c8, .slice A10 n11 c12]]) (perm_of_idx [] [0, 1] rfl rfl (by kernel_rfl)) (sels [1] rfl)
                have hMi : ∀ e ∈ ([] : List Ent), e ∈ ([.box gb29 26 [.slice A15 n16 c17, .slice A19 n20 c21, .slice A23 n24 c25], .box gb27 26 [.slice A2 n3 c4, .slice A6 n7 c8, .slice A10 n11 c12]] : List Ent) := sels [] rfl
                show trellislaw11_same_R w F  r (.returned (packV [.bool false])) wr
                rw [h]
                exact ⟨rfl, hMr⟩
            · have h := if_neg' hp3746 h
              refine g_false (c := trellislaw11_same_c41) rfl _ rfl ((decide_eq_false hp3746)) ?_
              refine g_exit (c := trellislaw11_same_c43) [.code trellislaw11_same_c33] rfl rfl ?_
              refine g_seq (c := trellislaw11_same_c33) rfl ?_
              refine g_seq (c := trellislaw11_same_c53) rfl ?_
              refine g_region (c := trellislaw11_same_c55) rfl rfl ?_
              refine wl_v 0 rfl (v_assign rfl) gn rfl ?_
              refine w_end 1 rfl ?_
              refine g_block (c := trellislaw11_same_c56) rfl ?_
              refine g_loop (c := trellislaw11_same_c57) rfl ?_
              have key4 : ∀ s, Rounds (fun (s : Int) o => trellislaw11_same_b4 x1 x14 s o) s o2 → (fun (s : Int) => ∀ (_ : Unit), G (trellislaw11_same_C w F r) [.code trellislaw11_same_c58, .inLoop trellislaw11_same_c58, .inBlock 4, .code trellislaw11_same_c54] [(2, .pointer (some ⟨gb27, 0, none⟩)), (3, .pointer (some ⟨gb29, 0, none⟩)), (7, .int .i64 s)] [.box gb29 26 [.slice A15 n16 c17, .slice A19 n20 c21, .slice A23 n24 c25], .box gb27 26 [.slice A2 n3 c4, .slice A6 n7 c8, .slice A10 n11 c12]] [Sm w.heap.size F w [], St w []]) s := by
                intro s hs
                refine Rounds.ind (mot := (fun (s : Int) => ∀ (_ : Unit), G (trellislaw11_same_C w F r) [.code trellislaw11_same_c58, .inLoop trellislaw11_same_c58, .inBlock 4, .code trellislaw11_same_c54] [(2, .pointer (some ⟨gb27, 0, none⟩)), (3, .pointer (some ⟨gb29, 0, none⟩)), (7, .int .i64 s)] [.box gb29 26 [.slice A15 n16 c17, .slice A19 n20 c21, .slice A23 n24 c25], .box gb27 26 [.slice A2 n3 c4, .slice A6 n7 c8, .slice A10 n11 c12]] [Sm w.heap.size F w [], St w []])) ?_ hs
                clear hs s
                intro x3906 o3 h hO3
                show ∀ (_ : Unit), G (trellislaw11_same_C w F r) [.code trellislaw11_same_c58, .inLoop trellislaw11_same_c58, .inBlock 4, .code trellislaw11_same_c54] [(2, .pointer (some ⟨gb27, 0, none⟩)), (3, .pointer (some ⟨gb29, 0, none⟩)), (7, .int .i64 x3906)] [.box gb29 26 [.slice A15 n16 c17, .slice A19 n20 c21, .slice A23 n24 c25], .box gb27 26 [.slice A2 n3 c4, .slice A6 n7 c8, .slice A10 n11 c12]] [Sm w.heap.size F w [], St w []]
                intro _
                have h : trellislaw11_same_b4 x1 x14 x3906 o3 := h
                unfold trellislaw11_same_b4 at h
                refine g_seq (c := trellislaw11_same_c58) rfl ?_
                refine g_seq (c := trellislaw11_same_c59) rfl ?_
                refine g_region (c := trellislaw11_same_c61) rfl rfl ?_
                refine wl_v 0 rfl (v_move rfl) gn rfl ?_
                refine wl_v 1 rfl (v_fldB fo_26_2 rfl) gn rfl ?_
                refine wl_v 2 rfl (v_ldB1 1 ld_24 rfl rfl rfl) gn rfl ?_
                refine wl_v 3 rfl (v_lenQ un_24 rfl h13.hq) gn rfl ?_
                refine wl_v 4 rfl (v_bin rfl rfl rfl) gn rfl ?_
                refine w_end 5 rfl ?_
                by_cases hp4056 : x3906 < (x1.prods.length : Int)
                · have h := if_pos' hp4056 h
                  refine g_true (c := trellislaw11_same_c62) rfl _ rfl ((decide_eq_true hp4056)) ?_
                  refine g_skip (c := trellislaw11_same_c63) rfl ?_
                  refine g_seq (c := trellislaw11_same_c60) rfl ?_
                  refine g_block (c := trellislaw11_same_c65) rfl ?_
                  refine g_seq (c := trellislaw11_same_c67) rfl ?_
                  obtain ⟨hb4057, h⟩ := h
                  obtain ⟨hb4065, h⟩ := h
                  by_cases hp4073 : (ix x1.prods x3906).lhs = (ix x14.prods x3906).lhs
                  · have h := if_pos' hp4073 h
                    obtain ⟨r4091, hv4092, h⟩ := h
                    have hns : Region.noSelect (Code.ops trellislaw11_same_c68) = true := by kernel_rfl
                    refine g_drawF (c := trellislaw11_same_c68) [.box gb29 26 [.slice A15 n16 c17, .slice A19 n20 c21, .slice A23 n24 c25], .box gb27 26 [.slice A2 n3 c4, .slice A6 n7 c8, .slice A10 n11 c12]] [Sm w.heap.size F w [], St w []] [] 29 rfl rfl mix rfl (.cons_cons _ (.cons_cons _ (.slnil))) (sels [0, 1] rfl) ?_
                    refine wf_v 0 rfl (v_fldB fo_26_2 rfl) gn rfl hns (by kernel_rfl) (by kernel_rfl) rfl rfl ?_
                    refine wf_v 1 rfl (v_ldB1 1 ld_24 rfl rfl rfl) gn rfl hns (by kernel_rfl) (by kernel_rfl) rfl rfl ?_
                    refine wf_v 2 rfl (v_move rfl) gn rfl hns (by kernel_rfl) (by kernel_rfl) rfl rfl ?_
                    obtain ⟨ce4137, hK4138, hr4136⟩ := Rw.read (s := St w []) h13 hb4057
                    obtain ⟨A4139, n4140, c4141, rfl, h4142⟩ := hK4138
                    refine wf_v 3 rfl (v_idxR (s := St w []) slE_24 rfl rfl h13 hb4057) gn rfl hns (by kernel_rfl) (by kernel_rfl) rfl rfl ?_
                    refine wf_v 4 rfl (v_fldA fo_38_0 rfl) gn rfl hns (by kernel_rfl) (by kernel_rfl) rfl rfl ?_
                    refine wf_v 5 rfl (v_ldA1 (kk := (x3906 : Int).toNat * 2) (j := 0) (St w []) ld_3 rfl hr4136 rfl (me 1 rfl)) gn rfl hns (by kernel_rfl) (by kernel_rfl) rfl rfl ?_
                    refine wf_v 6 rfl (v_fldB fo_26_2 rfl) gn rfl hns (by kernel_rfl) (by kernel_rfl) rfl rfl ?_
                    refine wf_v 7 rfl (v_ldB1 0 ld_24 rfl rfl rfl) gn rfl hns (by kernel_rfl) (by kernel_rfl) rfl rfl ?_
                    refine wf_v 8 rfl (v_move rfl) gn rfl hns (by kernel_rfl) (by kernel_rfl) rfl rfl ?_
                    obtain ⟨ce4144, hK4145, hr4143⟩ := Rw.read (s := St w []) h26 hb4065
                    obtain ⟨A4146, n4147, c4148, rfl, h4149⟩ := hK4145
                    refine wf_v 9 rfl (v_idxR (s := St w []) slE_24 rfl rfl h26 hb4065) gn rfl hns (by kernel_rfl) (by kernel_rfl) rfl rfl ?_
                    refine wf_v 10 rfl (v_fldA fo_38_0 rfl) gn rfl hns (by kernel_rfl) (by kernel_rfl) rfl rfl ?_
                    refine wf_v 11 rfl (v_ldA1 (kk := (x3906 : Int).toNat * 2) (j := 0) (St w []) ld_3 rfl hr4143 rfl (me 1 rfl)) gn rfl hns (by kernel_rfl) (by kernel_rfl) rfl rfl ?_
                    refine wf_v 12 rfl (v_bin rfl rfl rfl) gn rfl hns (by kernel_rfl) (by kernel_rfl) rfl rfl ?_
                    refine wf_v 13 rfl (v_move rfl) gn rfl hns (by kernel_rfl) (by kernel_rfl) rfl rfl ?_
                    refine wf_bool 89 rfl ((eqib hp4073)) ?_
                    refine wf_v 14 rfl (v_fldB fo_26_2 rfl) (gy 89 rfl rfl) rfl hns (by kernel_rfl) (by kernel_rfl) rfl rfl ?_
                    refine wf_v 15 rfl (v_ldB1 1 ld_24 rfl rfl rfl) (gy 89 rfl rfl) rfl hns (by kernel_rfl) (by kernel_rfl) rfl rfl ?_
                    refine wf_v 16 rfl (v_move rfl) (gy 89 rfl rfl) rfl hns (by kernel_rfl) (by kernel_rfl) rfl rfl ?_
                    obtain ⟨ce4151, hK4152, hr4150⟩ := Rw.read (s := St w []) h13 hb4057
                    obtain ⟨A4153, n4154, c4155, rfl, h4156⟩ := hK4152
                    refine wf_v 17 rfl (v_idxR (s := St w []) slE_24 rfl rfl h13 hb4057) (gy 89 rfl rfl) rfl hns (by kernel_rfl) (by kernel_rfl) rfl rfl ?_
                    refine wf_v 18 rfl (v_fldA fo_38_1 rfl) (gy 89 rfl rfl) rfl hns (by kernel_rfl) (by kernel_rfl) rfl rfl ?_
                    refine wf_v 19 rfl (v_ldA1 (kk := (x3906 : Int).toNat * 2) (j := 1) (St w []) ld_27 rfl hr4150 rfl (me 1 rfl)) (gy 89 rfl rfl) rfl hns (by kernel_rfl) (by kernel_rfl) rfl rfl ?_
                    refine wf_v 20 rfl (v_fldB fo_26_2 rfl) (gy 89 rfl rfl) rfl hns (by kernel_rfl) (by kernel_rfl) rfl rfl ?_
                    refine wf_v 21 rfl (v_ldB1 0 ld_24 rfl rfl rfl) (gy 89 rfl rfl) rfl hns (by kernel_rfl) (by kernel_rfl) rfl rfl ?_
                    refine wf_v 22 rfl (v_move rfl) (gy 89 rfl rfl) rfl hns (by kernel_rfl) (by kernel_rfl) rfl rfl ?_
                    obtain ⟨ce4158, hK4159, hr4157⟩ := Rw.read (s := St w []) h26 hb4065
                    obtain ⟨A4160, n4161, c4162, rfl, h4163⟩ := hK4159
                    refine wf_v 23 rfl (v_idxR (s := St w []) slE_24 rfl rfl h26 hb4065) (gy 89 rfl rfl) rfl hns (by kernel_rfl) (by kernel_rfl) rfl rfl ?_
                    refine wf_v 24 rfl (v_fldA fo_38_1 rfl) (gy 89 rfl rfl) rfl hns (by kernel_rfl) (by kernel_rfl) rfl rfl ?_
                    refine wf_v 25 rfl (v_ldA1 (kk := (x3906 : Int).toNat * 2) (j := 1) (St w []) ld_27 rfl hr4157 rfl (me 1 rfl)) (gy 89 rfl rfl) rfl hns (by kernel_rfl) (by kernel_rfl) rfl rfl ?_
                    refine wf_all [26] (by kernel_rfl) rfl ⟨on_s 26 rfl (gy 89 rfl rfl) rfl (s_call [.slice A4153 n4154 c4155, .slice A4160 n4161 c4162] rfl Try.func36 rfl rfl rfl fun w4170 hL4171 => ?_), trivial⟩
                    have hp4172 : List.Perm ([.box gb29 26 [.slice A15 n16 c17, .slice A19 n20 c21, .slice A23 n24 c25], .box gb27 26 [.slice A2 n3 c4, .slice A6 n7 c8, .slice A10 n11 c12]] : List Ent) (([] : List Ent) ++ ([.box gb29 26 [.slice A15 n16 c17, .slice A19 n20 c21, .slice A23 n24 c25], .box gb27 26 [.slice A2 n3 c4, .slice A6 n7 c8, .slice A10 n11 c12]] : List Ent)) := perm_of_idx [] [0, 1] rfl rfl (by kernel_rfl)
                    refine Calls.mono (trellislaw11_sameRow_calls w4170 (Fl ([] : List Snap)) ((ix x1.prods x3906).rhs) ((ix x14.prods x3906).rhs) A4153 n4154 c4155 A4160 n4161 c4162 (Rw.mono h4156 (hL4171.toSt hp4172 (me 1 rfl))) (Rw.mono h4163 (hL4171.toSt hp4172 (me 1 rfl))) (hL4171.hFl (Sl := ([] : List Snap)) hp4172 (sels [] rfl)) (hL4171.into hp4172 (Fl ([] : List Snap))) r4091 hv4092) ?_
                    rintro _ w4173 ⟨rfl, hM4174⟩
                    have hL4175 := hL4171.call hp4172 hM4174
                    refine ⟨_, _, _, rfl, hL4175, ?_⟩
                    refine ⟨sels [0, 1] rfl, sels [0, 1] rfl, ?_⟩
                    refine wf_v 27 rfl (v_not rfl) (gy 89 rfl rfl) rfl hns (by kernel_rfl) (by kernel_rfl) rfl rfl ?_
                    refine wf_v 28 rfl (v_pick (b := false) rfl rfl) gn rfl hns (by kernel_rfl) (by kernel_rfl) rfl rfl ?_
                    refine wf_end (by kernel_rfl) ?_
                    by_cases hp4176 : r4091 = true
                    · have h := if_pos' hp4176 h
                      refine g_false (c := trellislaw11_same_c69) rfl _ rfl ((nf hp4176)) ?_
                      refine g_skip (c := trellislaw11_same_c71) rfl ?_
                      refine g_inBlock ?_
                      refine g_region (c := trellislaw11_same_c66) rfl rfl ?_
                      refine wl_v 0 rfl (v_move rfl) gn rfl ?_
                      refine wl_v 1 rfl (v_bin rfl rfl rfl) gn rfl ?_
                      refine wl_v 2 rfl (v_assign rfl) gn rfl ?_
                      refine w_end 3 rfl ?_
                      refine g_inLoop ?_
                      have ih := Out.inl hO3 h
                      exact g_go [0, 1] (ih ()) ⟨rfl, rfl, rfl, trivial⟩ (.cons_cons _ (.cons_cons _ (.slnil))) rfl
                    · have h := if_neg' hp4176 h
                      refine g_true (c := trellislaw11_same_c69) rfl _ rfl ((nt (bf hp4176))) ?_
                      refine g_seq (c := trellislaw11_same_c70) rfl ?_
                      refine g_region (c := trellislaw11_same_c72) rfl rfl ?_
                      refine wl_v 0 rfl (v_assign rfl) gn rfl ?_
                      refine w_end 1 rfl ?_
                      have h := Out.inr hO3 h
                      have h := Out.inr hO2 h
                      have h := Out.inr hO1 h
                      refine g_retR (c := trellislaw11_same_c73) [.bool false] rfl Try.func35 rfl (.tmp rfl (.nil)) fun wr hLr => ?_
                      have hMr : B.Loc w wr [] [St w []] := hLr.pick (rest := [.box gb29 26 [.slice A15 n16 c17, .slice A19 n20 c21, .slice A23 n24 c25], .box gb27 26 [.slice A2 n3 c4, .slice A6 n7 c8, .slice A10 n11 c12]]) (perm_of_idx [] [0, 1] rfl rfl (by kernel_rfl)) (sels [1] rfl)
                      have hMi : ∀ e ∈ ([] : List Ent), e ∈ ([.box gb29 26 [.slice A15 n16 c17, .slice A19 n20 c21, .slice A23 n24 c25], .box gb27 26 [.slice A2 n3 c4, .slice A6 n7 c8, .slice A10 n11 c12]] : List Ent) := sels [] rfl
                      show trellislaw11_same_R w F  r (.returned (packV [.bool false])) wr
                      rw [h]
                      exact ⟨rfl, hMr⟩
                  · have h := if_neg' hp4073 h
                    have hns : Region.noSelect (Code.ops trellislaw11_same_c68) = true := by kernel_rfl
                    refine g_drawF (c := trellislaw11_same_c68) [.box gb29 26 [.slice A15 n16 c17, .slice A19 n20 c21, .slice A23 n24 c25], .box gb27 26 [.slice A2 n3 c4, .slice A6 n7 c8, .slice A10 n11 c12]] [Sm w.heap.size F w [], St w []] [] 29 rfl rfl mix rfl (.cons_cons _ (.cons_cons _ (.slnil))) (sels [0, 1] rfl) ?_
                    refine wf_v 0 rfl (v_fldB fo_26_2 rfl) gn rfl hns (by kernel_rfl) (by kernel_rfl) rfl rfl ?_
                    refine wf_v 1 rfl (v_ldB1 1 ld_24 rfl rfl rfl) gn rfl hns (by kernel_rfl) (by kernel_rfl) rfl rfl ?_
                    refine wf_v 2 rfl (v_move rfl) gn rfl hns (by kernel_rfl) (by kernel_rfl) rfl rfl ?_
                    obtain ⟨ce4192, hK4193, hr4191⟩ := Rw.read (s := St w []) h13 hb4057
                    obtain ⟨A4194, n4195, c4196, rfl, h4197⟩ := hK4193
                    refine wf_v 3 rfl (v_idxR (s := St w []) slE_24 rfl rfl h13 hb4057) gn rfl hns (by kernel_rfl) (by kernel_rfl) rfl rfl ?_
                    refine wf_v 4 rfl (v_fldA fo_38_0 rfl) gn rfl hns (by kernel_rfl) (by kernel_rfl) rfl rfl ?_
                    refine wf_v 5 rfl (v_ldA1 (kk := (x3906 : Int).toNat * 2) (j := 0) (St w []) ld_3 rfl hr4191 rfl (me 1 rfl)) gn rfl hns (by kernel_rfl) (by kernel_rfl) rfl rfl ?_
                    refine wf_v 6 rfl (v_fldB fo_26_2 rfl) gn rfl hns (by kernel_rfl) (by kernel_rfl) rfl rfl ?_
                    refine wf_v 7 rfl (v_ldB1 0 ld_24 rfl rfl rfl) gn rfl hns (by kernel_rfl) (by kernel_rfl) rfl rfl ?_
                    refine wf_v 8 rfl (v_move rfl) gn rfl hns (by kernel_rfl) (by kernel_rfl) rfl rfl ?_
                    obtain ⟨ce4199, hK4200, hr4198⟩ := Rw.read (s := St w []) h26 hb4065
                    obtain ⟨A4201, n4202, c4203, rfl, h4204⟩ := hK4200
                    refine wf_v 9 rfl (v_idxR (s := St w []) slE_24 rfl rfl h26 hb4065) gn rfl hns (by kernel_rfl) (by kernel_rfl) rfl rfl ?_
                    refine wf_v 10 rfl (v_fldA fo_38_0 rfl) gn rfl hns (by kernel_rfl) (by kernel_rfl) rfl rfl ?_
                    refine wf_v 11 rfl (v_ldA1 (kk := (x3906 : Int).toNat * 2) (j := 0) (St w []) ld_3 rfl hr4198 rfl (me 1 rfl)) gn rfl hns (by kernel_rfl) (by kernel_rfl) rfl rfl ?_
                    refine wf_v 12 rfl (v_bin rfl rfl rfl) gn rfl hns (by kernel_rfl) (by kernel_rfl) rfl rfl ?_
                    refine wf_v 13 rfl (v_move rfl) gn rfl hns (by kernel_rfl) (by kernel_rfl) rfl rfl ?_
                    refine wf_bool 89 rfl ((neib hp4073)) ?_
                    refine wf_pass 14 rfl (ps 89 rfl rfl rfl) hns (by kernel_rfl) (by kernel_rfl) rfl rfl ?_
                    refine wf_pass 15 rfl (ps 89 rfl rfl rfl) hns (by kernel_rfl) (by kernel_rfl) rfl rfl ?_
                    refine wf_pass 16 rfl (ps 89 rfl rfl rfl) hns (by kernel_rfl) (by kernel_rfl) rfl rfl ?_
                    refine wf_pass 17 rfl (ps 89 rfl rfl rfl) hns (by kernel_rfl) (by kernel_rfl) rfl rfl ?_
                    refine wf_pass 18 rfl (ps 89 rfl rfl rfl) hns (by kernel_rfl) (by kernel_rfl) rfl rfl ?_
                    refine wf_pass 19 rfl (ps 89 rfl rfl rfl) hns (by kernel_rfl) (by kernel_rfl) rfl rfl ?_
                    refine wf_pass 20 rfl (ps 89 rfl rfl rfl) hns (by kernel_rfl) (by kernel_rfl) rfl rfl ?_
                    refine wf_pass 21 rfl (ps 89 rfl rfl rfl) hns (by kernel_rfl) (by kernel_rfl) rfl rfl ?_
                    refine wf_pass 22 rfl (ps 89 rfl rfl rfl) hns (by kernel_rfl) (by kernel_rfl) rfl rfl ?_
                    refine wf_pass 23 rfl (ps 89 rfl rfl rfl) hns (by kernel_rfl) (by kernel_rfl) rfl rfl ?_
                    refine wf_pass 24 rfl (ps 89 rfl rfl rfl) hns (by kernel_rfl) (by kernel_rfl) rfl rfl ?_
                    refine wf_pass 25 rfl (ps 89 rfl rfl rfl) hns (by kernel_rfl) (by kernel_rfl) rfl rfl ?_
                    refine wf_pass 26 rfl (ps 89 rfl rfl rfl) hns (by kernel_rfl) (by kernel_rfl) rfl rfl ?_
                    refine wf_pass 27 rfl (ps 89 rfl rfl rfl) hns (by kernel_rfl) (by kernel_rfl) rfl rfl ?_
                    refine wf_v 28 rfl (v_pick (b := true) rfl rfl) gn rfl hns (by kernel_rfl) (by kernel_rfl) rfl rfl ?_
                    refine wf_end (by kernel_rfl) ?_
                    refine g_true (c := trellislaw11_same_c69) rfl _ rfl (rfl) ?_
                    refine g_seq (c := trellislaw11_same_c70) rfl ?_
                    refine g_region (c := trellislaw11_same_c72) rfl rfl ?_
                    refine wl_v 0 rfl (v_assign rfl) gn rfl ?_
                    refine w_end 1 rfl ?_
                    have h := Out.inr hO3 h
                    have h := Out.inr hO2 h
                    have h := Out.inr hO1 h
                    refine g_retR (c := trellislaw11_same_c73) [.bool false] rfl Try.func35 rfl (.tmp rfl (.nil)) fun wr hLr => ?_
                    have hMr : B.Loc w wr [] [St w []] := hLr.pick (rest := [.box gb29 26 [.slice A15 n16 c17, .slice A19 n20 c21, .slice A23 n24 c25], .box gb27 26 [.slice A2 n3 c4, .slice A6 n7 c8, .slice A10 n11 c12]]) (perm_of_idx [] [0, 1] rfl rfl (by kernel_rfl)) (sels [1] rfl)
                    have hMi : ∀ e ∈ ([] : List Ent), e ∈ ([.box gb29 26 [.slice A15 n16 c17, .slice A19 n20 c21, .slice A23 n24 c25], .box gb27 26 [.slice A2 n3 c4, .slice A6 n7 c8, .slice A10 n11 c12]] : List Ent) := sels [] rfl
                    show trellislaw11_same_R w F  r (.returned (packV [.bool false])) wr
                    rw [h]
                    exact ⟨rfl, hMr⟩
                · have h := if_neg' hp4056 h
                  refine g_false (c := trellislaw11_same_c62) rfl _ rfl ((decide_eq_false hp4056)) ?_
                  refine g_exit (c := trellislaw11_same_c64) [.code trellislaw11_same_c54] rfl rfl ?_
                  refine g_seq (c := trellislaw11_same_c54) rfl ?_
                  refine g_region (c := trellislaw11_same_c74) rfl rfl ?_
                  refine wl_v 0 rfl (v_assign rfl) gn rfl ?_
                  refine w_end 1 rfl ?_
                  have h := Out.inr hO3 h
                  have h := Out.inr hO2 h
                  have h := Out.inr hO1 h
                  refine g_retR (c := trellislaw11_same_c75) [.bool true] rfl Try.func35 rfl (.tmp rfl (.nil)) fun wr hLr => ?_
                  have hMr : B.Loc w wr [] [St w []] := hLr.pick (rest := [.box gb29 26 [.slice A15 n16 c17, .slice A19 n20 c21, .slice A23 n24 c25], .box gb27 26 [.slice A2 n3 c4, .slice A6 n7 c8, .slice A10 n11 c12]]) (perm_of_idx [] [0, 1] rfl rfl (by kernel_rfl)) (sels [1] rfl)
                  have hMi : ∀ e ∈ ([] : List Ent), e ∈ ([.box gb29 26 [.slice A15 n16 c17, .slice A19 n20 c21, .slice A23 n24 c25], .box gb27 26 [.slice A2 n3 c4, .slice A6 n7 c8, .slice A10 n11 c12]] : List Ent) := sels [] rfl
                  show trellislaw11_same_R w F  r (.returned (packV [.bool true])) wr
                  rw [h]
                  exact ⟨rfl, hMr⟩
              exact g_go [0, 1] (key4 _ h ()) ⟨rfl, rfl, rfl, trivial⟩ (.cons_cons _ (.cons_cons _ (.slnil))) rfl
          exact g_go [0, 1] (key3 _ h ()) ⟨rfl, rfl, rfl, trivial⟩ (.cons_cons _ (.cons_cons _ (.slnil))) rfl
      exact g_go [0, 1] (key2 _ h ()) ⟨rfl, rfl, rfl, trivial⟩ (.cons_cons _ (.cons_cons _ (.slnil))) rfl
  refine g_region (c := trellislaw11_same_c5) rfl rfl ?_
  refine wl_v 0 rfl (v_fldB fo_26_0 rfl) gn rfl ?_
  refine wl_v 1 rfl (v_ldB1 1 ld_22 rfl rfl rfl) gn rfl ?_
  refine wl_v 2 rfl (v_lenQ un_22 rfl h5.hq) gn rfl ?_
  refine wl_v 3 rfl (v_fldB fo_26_0 rfl) gn rfl ?_
  refine wl_v 4 rfl (v_ldB1 0 ld_22 rfl rfl rfl) gn rfl ?_
  refine wl_v 5 rfl (v_lenQ un_22 rfl h18.hq) gn rfl ?_
  refine wl_v 6 rfl (v_bin rfl rfl rfl) gn rfl ?_
  refine wl_v 7 rfl (v_move rfl) gn rfl ?_
  by_cases hp4205 : (x1.terms.length : Int) = (x14.terms.length : Int)
  · have h := if_pos' hp4205 h
    refine w_bool 15 rfl ((eqib hp4205)) ?_
    refine wl_v 8 rfl (v_fldB fo_26_1 rfl) (gy 15 rfl rfl) rfl ?_
    refine wl_v 9 rfl (v_ldB1 1 ld_23 rfl rfl rfl) (gy 15 rfl rfl) rfl ?_
    refine wl_v 10 rfl (v_lenQ un_23 rfl h9.hq) (gy 15 rfl rfl) rfl ?_
    refine wl_v 11 rfl (v_fldB fo_26_1 rfl) (gy 15 rfl rfl) rfl ?_
    refine wl_v 12 rfl (v_ldB1 0 ld_23 rfl rfl rfl) (gy 15 rfl rfl) rfl ?_
    refine wl_v 13 rfl (v_lenQ un_23 rfl h22.hq) (gy 15 rfl rfl) rfl ?_
    refine wl_v 14 rfl (v_bin rfl rfl rfl) (gy 15 rfl rfl) rfl ?_
    refine wl_v 15 rfl (v_pick (b := false) rfl rfl) gn rfl ?_
    refine wl_v 16 rfl (v_move rfl) gn rfl ?_
    by_cases hp4206 : (x1.syms.length : Int) = (x14.syms.length : Int)
    · have h := if_pos' hp4206 h
      refine w_bool 24 rfl ((eqib hp4206)) ?_
      refine wl_v 17 rfl (v_fldB fo_26_2 rfl) (gy 24 rfl rfl) rfl ?_
      refine wl_v 18 rfl (v_ldB1 1 ld_24 rfl rfl rfl) (gy 24 rfl rfl) rfl ?_
      refine wl_v 19 rfl (v_lenQ un_24 rfl h13.hq) (gy 24 rfl rfl) rfl ?_
      refine wl_v 20 rfl (v_fldB fo_26_2 rfl) (gy 24 rfl rfl) rfl ?_
      refine wl_v 21 rfl (v_ldB1 0 ld_24 rfl rfl rfl) (gy 24 rfl rfl) rfl ?_
      refine wl_v 22 rfl (v_lenQ un_24 rfl h26.hq) (gy 24 rfl rfl) rfl ?_
      refine wl_v 23 rfl (v_bin rfl rfl rfl) (gy 24 rfl rfl) rfl ?_
      refine wl_v 24 rfl (v_pick (b := false) rfl rfl) gn rfl ?_
      refine w_end 25 rfl ?_
      exact g_go [0, 1] (j1 ((x1.prods.length : Int) != (x14.prods.length : Int)) h) ⟨rfl, rfl, rfl, trivial⟩ (.cons_cons _ (.cons_cons _ (.slnil))) rfl
    · have h := if_neg' hp4206 h
      refine w_bool 24 rfl ((neib hp4206)) ?_
      refine wl_pass 17 rfl (ps 24 rfl rfl rfl) ?_
      refine wl_pass 18 rfl (ps 24 rfl rfl rfl) ?_
      refine wl_pass 19 rfl (ps 24 rfl rfl rfl) ?_
      refine wl_pass 20 rfl (ps 24 rfl rfl rfl) ?_
      refine wl_pass 21 rfl (ps 24 rfl rfl rfl) ?_
      refine wl_pass 22 rfl (ps 24 rfl rfl rfl) ?_
      refine wl_pass 23 rfl (ps 24 rfl rfl rfl) ?_
      refine wl_v 24 rfl (v_pick (b := true) rfl rfl) gn rfl ?_
      refine w_end 25 rfl ?_
      exact g_go [0, 1] (j1 true h) ⟨rfl, rfl, rfl, trivial⟩ (.cons_cons _ (.cons_cons _ (.slnil))) rfl
  · have h := if_neg' hp4205 h
    refine w_bool 15 rfl ((neib hp4205)) ?_
    refine wl_pass 8 rfl (ps 15 rfl rfl rfl) ?_
    refine wl_pass 9 rfl (ps 15 rfl rfl rfl) ?_
    refine wl_pass 10 rfl (ps 15 rfl rfl rfl) ?_
    refine wl_pass 11 rfl (ps 15 rfl rfl rfl) ?_
    refine wl_pass 12 rfl (ps 15 rfl rfl rfl) ?_
    refine wl_pass 13 rfl (ps 15 rfl rfl rfl) ?_
    refine wl_pass 14 rfl (ps 15 rfl rfl rfl) ?_
    refine wl_v 15 rfl (v_pick (b := true) rfl rfl) gn rfl ?_
    refine wl_v 16 rfl (v_move rfl) gn rfl ?_
    refine wl_pass 17 rfl (ps 24 rfl rfl rfl) ?_
    refine wl_pass 18 rfl (ps 24 rfl rfl rfl) ?_
    refine wl_pass 19 rfl (ps 24 rfl rfl rfl) ?_
    refine wl_pass 20 rfl (ps 24 rfl rfl rfl) ?_
    refine wl_pass 21 rfl (ps 24 rfl rfl rfl) ?_
    refine wl_pass 22 rfl (ps 24 rfl rfl rfl) ?_
    refine wl_pass 23 rfl (ps 24 rfl rfl rfl) ?_
    refine wl_v 24 rfl (v_pick (b := true) rfl rfl) gn rfl ?_
    refine w_end 25 rfl ?_
    exact g_go [0, 1] (j1 true h) ⟨rfl, rfl, rfl, trivial⟩ (.cons_cons _ (.cons_cons _ (.slnil))) rfl
noncomputable abbrev trellislaw11_stillRow_c0 : Code := bodyOf Try.f15
noncomputable abbrev trellislaw11_stillRow_c1 : Code := Code.fst trellislaw11_stillRow_c0
noncomputable abbrev trellislaw11_stillRow_c2 : Code := Code.snd trellislaw11_stillRow_c0
noncomputable abbrev trellislaw11_stillRow_c3 : Code := Code.fst trellislaw11_stillRow_c2
noncomputable abbrev trellislaw11_stillRow_c4 : Code := Code.snd trellislaw11_stillRow_c2
noncomputable abbrev trellislaw11_stillRow_c5 : Code := Code.fst trellislaw11_stillRow_c4
noncomputable abbrev trellislaw11_stillRow_c6 : Code := Code.snd trellislaw11_stillRow_c4
noncomputable abbrev trellislaw11_stillRow_c7 : Code := Code.fst trellislaw11_stillRow_c5
noncomputable abbrev trellislaw11_stillRow_c8 : Code := Code.snd trellislaw11_stillRow_c5
noncomputable abbrev trellislaw11_stillRow_c9 : Code := Code.fst trellislaw11_stillRow_c8
noncomputable abbrev trellislaw11_stillRow_c10 : Code := Code.fst trellislaw11_stillRow_c9
noncomputable abbrev trellislaw11_stillRow_c11 : Code := Code.fst trellislaw11_stillRow_c10
noncomputable abbrev trellislaw11_stillRow_c12 : Code := Code.snd trellislaw11_stillRow_c10
noncomputable abbrev trellislaw11_stillRow_c13 : Code := Code.fst trellislaw11_stillRow_c11
noncomputable abbrev trellislaw11_stillRow_c14 : Code := Code.snd trellislaw11_stillRow_c11
noncomputable abbrev trellislaw11_stillRow_c15 : Code := Code.fst trellislaw11_stillRow_c14
noncomputable abbrev trellislaw11_stillRow_c16 : Code := Code.snd trellislaw11_stillRow_c14
noncomputable abbrev trellislaw11_stillRow_c17 : Code := Code.fst trellislaw11_stillRow_c12
noncomputable abbrev trellislaw11_stillRow_c18 : Code := Code.snd trellislaw11_stillRow_c12
noncomputable abbrev trellislaw11_stillRow_c19 : Code := Code.fst trellislaw11_stillRow_c17
noncomputable abbrev trellislaw11_stillRow_c20 : Code := Code.fst trellislaw11_stillRow_c19
noncomputable abbrev trellislaw11_stillRow_c21 : Code := Code.snd trellislaw11_stillRow_c19
noncomputable abbrev trellislaw11_stillRow_c22 : Code := Code.fst trellislaw11_stillRow_c21
noncomputable abbrev trellislaw11_stillRow_c23 : Code := Code.snd trellislaw11_stillRow_c21
noncomputable abbrev trellislaw11_stillRow_c24 : Code := Code.fst trellislaw11_stillRow_c22
noncomputable abbrev trellislaw11_stillRow_c25 : Code := Code.snd trellislaw11_stillRow_c22
noncomputable abbrev trellislaw11_stillRow_c26 : Code := Code.fst trellislaw11_stillRow_c6
noncomputable abbrev trellislaw11_stillRow_c27 : Code := Code.snd trellislaw11_stillRow_c6
abbrev trellislaw11_stillRow_R (w : World) (F : Nat → Prop) (r : Bool) : Ending → World → Prop := fun e w' => e = .returned (.bool r) ∧ B.Loc w w' [] [St w []]
noncomputable abbrev trellislaw11_stillRow_C (w : World) (F : Nat → Prop) (r : Bool) : Cx := ⟨Try.prog, 15, Try.f15, 30, trellislaw11_stillRow_R w F  r, w⟩
theorem trellislaw11_stillRow_calls (w : World) (F : Nat → Prop) (x1 : List api_Ref) (x6 : List api_Ref) (A2 : Option Addr) (n3 : Nat) (c4 : Nat) (A7 : Option Addr) (n8 : Nat) (c9 : Nat) (h5 : Rw k_api_Ref w (St w []).av A2 n3 c4 x1) (h10 : Rw k_api_Ref w (St w []).av A7 n8 c9 x6) (hF : ∀ b, F b → b < w.heap.size ∧ ∀ o ∈ ([] : List (List Nat)), b ∉ o) (hL0 : B.Loc w w [] [Sm w.heap.size F w [], St w []]) (r : Bool) (h : trellislaw11_stillRow x1 x6 r) : Calls Try.prog 15 #[.slice A2 n3 c4, .slice A7 n8 c9] w (trellislaw11_stillRow_R w F  r) := by
  unfold trellislaw11_stillRow at h
  refine calls_of_Loc (vs := [.slice A2 n3 c4, .slice A7 n8 c9]) 30 Try.func15 rfl Try.ntmps15 rfl hL0 ?_
  show G (trellislaw11_stillRow_C w F r) _ _ _ _
  refine g_seq (c := trellislaw11_stillRow_c0) rfl ?_
  refine g_region (c := trellislaw11_stillRow_c1) rfl rfl ?_
  refine wl_v 0 rfl (v_assign rfl) gn rfl ?_
  refine w_end 1 rfl ?_
  refine g_seq (c := trellislaw11_stillRow_c2) rfl ?_
  refine g_region (c := trellislaw11_stillRow_c3) rfl rfl ?_
  refine wl_v 0 rfl (v_move rfl) gn rfl ?_
  refine wl_v 1 rfl (v_move rfl) gn rfl ?_
  refine wl_v 2 rfl (v_lenQ un_27 rfl h10.hq) gn rfl ?_
  refine wl_v 3 rfl (v_bin rfl rfl rfl) gn rfl ?_
  obtain ⟨hb11, h⟩ := h
  have h12 := Rw.cutHi (hv := w64 ((x6.length : Int) + 20)) h5 (by have q := hb11; have q1 := h5.hq; have q2 := h5.hn; omega)
  refine wl_v 4 rfl (v_cutHi (i := w64 ((x6.length : Int) + 20)) slE_27 rfl rfl (by have q := hb11; have q1 := h5.hq; have q2 := h5.hn; omega) h5.hn rfl) gn rfl ?_
  refine wl_v 5 rfl (v_assign rfl) gn rfl ?_
  refine w_end 6 rfl ?_
  refine g_seq (c := trellislaw11_stillRow_c4) rfl ?_
  refine g_seq (c := trellislaw11_stillRow_c5) rfl ?_
  refine g_region (c := trellislaw11_stillRow_c7) rfl rfl ?_
  refine wl_v 0 rfl (v_assign rfl) gn rfl ?_
  refine w_end 1 rfl ?_
  refine g_block (c := trellislaw11_stillRow_c8) rfl ?_
  refine g_loop (c := trellislaw11_stillRow_c9) rfl ?_
  have key1 : ∀ s, Rounds (fun (s : Int) o => trellislaw11_stillRow_b1 x6 x1 s o) s r → (fun (s : Int) => ∀ (_ : Unit), G (trellislaw11_stillRow_C w F r) [.code trellislaw11_stillRow_c10, .inLoop trellislaw11_stillRow_c10, .inBlock 0, .code trellislaw11_stillRow_c6] [(0, .slice A2 n3 c4), (1, .slice A7 n8 c9), (5, .slice A2 ((w64 ((x6.length : Int) + 20) : Int).toNat) c4), (6, .int .i64 s)] [] [Sm w.heap.size F w [], St w []]) s := by
    intro s hs
    refine Rounds.ind (mot := (fun (s : Int) => ∀ (_ : Unit), G (trellislaw11_stillRow_C w F r) [.code trellislaw11_stillRow_c10, .inLoop trellislaw11_stillRow_c10, .inBlock 0, .code trellislaw11_stillRow_c6] [(0, .slice A2 n3 c4), (1, .slice A7 n8 c9), (5, .slice A2 ((w64 ((x6.length : Int) + 20) : Int).toNat) c4), (6, .int .i64 s)] [] [Sm w.heap.size F w [], St w []])) ?_ hs
    clear hs s
    intro x17 o1 h hO1
    show ∀ (_ : Unit), G (trellislaw11_stillRow_C w F r) [.code trellislaw11_stillRow_c10, .inLoop trellislaw11_stillRow_c10, .inBlock 0, .code trellislaw11_stillRow_c6] [(0, .slice A2 n3 c4), (1, .slice A7 n8 c9), (5, .slice A2 ((w64 ((x6.length : Int) + 20) : Int).toNat) c4), (6, .int .i64 x17)] [] [Sm w.heap.size F w [], St w []]
    intro _
    have h : trellislaw11_stillRow_b1 x6 x1 x17 o1 := h
    unfold trellislaw11_stillRow_b1 at h
    refine g_seq (c := trellislaw11_stillRow_c10) rfl ?_
    refine g_seq (c := trellislaw11_stillRow_c11) rfl ?_
    refine g_region (c := trellislaw11_stillRow_c13) rfl rfl ?_
    refine wl_v 0 rfl (v_move rfl) gn rfl ?_
    refine wl_v 1 rfl (v_bin rfl rfl rfl) gn rfl ?_
    refine w_end 2 rfl ?_
    by_cases hp30 : x17 < 20
    · have h := if_pos' hp30 h
      refine g_true (c := trellislaw11_stillRow_c14) rfl _ rfl ((decide_eq_true hp30)) ?_
      refine g_skip (c := trellislaw11_stillRow_c15) rfl ?_
      refine g_seq (c := trellislaw11_stillRow_c12) rfl ?_
      refine g_block (c := trellislaw11_stillRow_c17) rfl ?_
      refine g_seq (c := trellislaw11_stillRow_c19) rfl ?_
      refine g_region (c := trellislaw11_stillRow_c20) rfl rfl ?_
      refine wl_v 0 rfl (v_move rfl) gn rfl ?_
      refine wl_v 1 rfl (v_move rfl) gn rfl ?_
      refine wl_v 2 rfl (v_lenQ un_27 rfl h10.hq) gn rfl ?_
      refine wl_v 3 rfl (v_move rfl) gn rfl ?_
      refine wl_v 4 rfl (v_bin rfl rfl rfl) gn rfl ?_
      obtain ⟨hb31, h⟩ := h
      have hr32 := Rw.readF (s := St w []) (hl := hl_api_Ref) (h1 := h1_api_Ref) h12 hb31
      refine wl_v 5 rfl (v_idxR (s := St w []) slE_27 rfl rfl h12 hb31) gn rfl ?_
      refine wl_v 6 rfl (v_ldA (St w []) ld_36 rfl hr32 rfl (me 1 rfl)) gn rfl ?_
      refine wl_v 7 rfl (v_move rfl) gn rfl ?_
      refine wl_v 8 rfl (v_bin rfl rfl rfl) gn rfl ?_
      refine wl_v 9 rfl (v_build #[.int .i64 (w64 (900 + x17)), .string (⟨#[109, 97, 114, 107]⟩ : ByteArray), .string (⟨#[]⟩ : ByteArray)] bd_36 rfl (by kernel_rfl)) gn rfl ?_
      refine wl_v 10 rfl (v_neSt eq_36 rfl rfl (eqd_api_Ref (ix (x1.take (w64 ((x6.length : Int) + 20) : Int).toNat) (w64 ((x6.length : Int) + x17))) (⟨w64 (900 + x17), (⟨#[109, 97, 114, 107]⟩ : ByteArray), (⟨#[]⟩ : ByteArray)⟩ : api_Ref))) gn rfl ?_
      refine w_end 11 rfl ?_
      by_cases hp33 : ix (x1.take (w64 ((x6.length : Int) + 20) : Int).toNat) (w64 ((x6.length : Int) + x17)) = (⟨w64 (900 + x17), (⟨#[109, 97, 114, 107]⟩ : ByteArray), (⟨#[]⟩ : ByteArray)⟩ : api_Ref)
      · have h := if_pos' hp33 h
        refine g_false (c := trellislaw11_stillRow_c21) rfl _ rfl ((nf (decide_eq_true hp33))) ?_
        refine g_skip (c := trellislaw11_stillRow_c23) rfl ?_
        refine g_inBlock ?_
        refine g_region (c := trellislaw11_stillRow_c18) rfl rfl ?_
        refine wl_v 0 rfl (v_move rfl) gn rfl ?_
        refine wl_v 1 rfl (v_bin rfl rfl rfl) gn rfl ?_
        refine wl_v 2 rfl (v_assign rfl) gn rfl ?_
        refine w_end 3 rfl ?_
        refine g_inLoop ?_
        have ih := Out.inl hO1 h
        exact g_go [0, 1] (ih ()) ⟨rfl, rfl, rfl, rfl, trivial⟩ (.slnil) rfl
      · have h := if_neg' hp33 h
        refine g_true (c := trellislaw11_stillRow_c21) rfl _ rfl ((nt (decide_eq_false hp33))) ?_
        refine g_seq (c := trellislaw11_stillRow_c22) rfl ?_
        refine g_region (c := trellislaw11_stillRow_c24) rfl rfl ?_
        refine wl_v 0 rfl (v_assign rfl) gn rfl ?_
        refine w_end 1 rfl ?_
        have h := Out.inr hO1 h
        refine g_retR (c := trellislaw11_stillRow_c25) [.bool false] rfl Try.func15 rfl (.tmp rfl (.nil)) fun wr hLr => ?_
        have hMr : B.Loc w wr [] [St w []] := hLr.pick (rest := []) (perm_of_idx [] [] rfl rfl (by kernel_rfl)) (sels [1] rfl)
        have hMi : ∀ e ∈ ([] : List Ent), e ∈ ([] : List Ent) := sels [] rfl
        show trellislaw11_stillRow_R w F  r (.returned (packV [.bool false])) wr
        rw [h]
        exact ⟨rfl, hMr⟩
    · have h := if_neg' hp30 h
      refine g_false (c := trellislaw11_stillRow_c14) rfl _ rfl ((decide_eq_false hp30)) ?_
      refine g_exit (c := trellislaw11_stillRow_c16) [.code trellislaw11_stillRow_c6] rfl rfl ?_
      refine g_seq (c := trellislaw11_stillRow_c6) rfl ?_
      refine g_region (c := trellislaw11_stillRow_c26) rfl rfl ?_
      refine wl_v 0 rfl (v_move rfl) gn rfl ?_
      refine wl_v 1 rfl (v_move rfl) gn rfl ?_
      obtain ⟨r37, hv38, h⟩ := h
      refine wl_s 2 rfl (s_call [.slice A2 n3 c4, .slice A7 n8 c9] rfl Try.func36 rfl rfl rfl fun w34 hL35 => ?_) gn
      have hp36 : List.Perm ([] : List Ent) (([] : List Ent) ++ ([] : List Ent)) := perm_of_idx [] [] rfl rfl (by kernel_rfl)
      refine Calls.mono (trellislaw11_sameRow_calls w34 (Fl ([] : List Snap)) x1 x6 A2 n3 c4 A7 n8 c9 (Rw.mono h5 (hL35.toSt hp36 (me 1 rfl))) (Rw.mono h10 (hL35.toSt hp36 (me 1 rfl))) (hL35.hFl (Sl := ([] : List Snap)) hp36 (sels [] rfl)) (hL35.into hp36 (Fl ([] : List Snap))) r37 hv38) ?_
      rintro _ w39 ⟨rfl, hM40⟩
      have hL41 := hL35.call hp36 hM40
      refine ⟨_, _, _, rfl, hL41, ?_⟩
      refine wl_v 3 rfl (v_assign rfl) gn rfl ?_
      refine w_end 4 rfl ?_
      have h := Out.inr hO1 h
      refine g_retR (c := trellislaw11_stillRow_c27) [.bool r37] rfl Try.func15 rfl (.tmp rfl (.nil)) fun wr hLr => ?_
      have hMr : B.Loc w wr [] [St w []] := hLr.pick (rest := []) (perm_of_idx [] [] rfl rfl (by kernel_rfl)) (sels [1] rfl)
      have hMi : ∀ e ∈ ([] : List Ent), e ∈ ([] : List Ent) := sels [] rfl
      show trellislaw11_stillRow_R w F  r (.returned (packV [.bool r37])) wr
      rw [h]
      exact ⟨rfl, hMr⟩
  exact g_go [0, 1] (key1 _ h ()) ⟨rfl, rfl, rfl, rfl, trivial⟩ (.slnil) rfl
noncomputable abbrev trellislaw11_still_c0 : Code := bodyOf Try.f14
noncomputable abbrev trellislaw11_still_c1 : Code := Code.fst trellislaw11_still_c0
noncomputable abbrev trellislaw11_still_c2 : Code := Code.snd trellislaw11_still_c0
noncomputable abbrev trellislaw11_still_c3 : Code := Code.fst trellislaw11_still_c2
noncomputable abbrev trellislaw11_still_c4 : Code := Code.snd trellislaw11_still_c2
noncomputable abbrev trellislaw11_still_c5 : Code := Code.fst trellislaw11_still_c4
noncomputable abbrev trellislaw11_still_c6 : Code := Code.snd trellislaw11_still_c4
noncomputable abbrev trellislaw11_still_c7 : Code := Code.fst trellislaw11_still_c6
noncomputable abbrev trellislaw11_still_c8 : Code := Code.snd trellislaw11_still_c6
noncomputable abbrev trellislaw11_still_c9 : Code := Code.fst trellislaw11_still_c8
noncomputable abbrev trellislaw11_still_c10 : Code := Code.snd trellislaw11_still_c8
noncomputable abbrev trellislaw11_still_c11 : Code := Code.fst trellislaw11_still_c9
noncomputable abbrev trellislaw11_still_c12 : Code := Code.snd trellislaw11_still_c9
noncomputable abbrev trellislaw11_still_c13 : Code := Code.fst trellislaw11_still_c12
noncomputable abbrev trellislaw11_still_c14 : Code := Code.fst trellislaw11_still_c13
noncomputable abbrev trellislaw11_still_c15 : Code := Code.fst trellislaw11_still_c14
noncomputable abbrev trellislaw11_still_c16 : Code := Code.snd trellislaw11_still_c14
noncomputable abbrev trellislaw11_still_c17 : Code := Code.fst trellislaw11_still_c15
noncomputable abbrev trellislaw11_still_c18 : Code := Code.snd trellislaw11_still_c15
noncomputable abbrev trellislaw11_still_c19 : Code := Code.fst trellislaw11_still_c18
noncomputable abbrev trellislaw11_still_c20 : Code := Code.snd trellislaw11_still_c18
noncomputable abbrev trellislaw11_still_c21 : Code := Code.fst trellislaw11_still_c16
noncomputable abbrev trellislaw11_still_c22 : Code := Code.snd trellislaw11_still_c16
noncomputable abbrev trellislaw11_still_c23 : Code := Code.fst trellislaw11_still_c21
noncomputable abbrev trellislaw11_still_c24 : Code := Code.fst trellislaw11_still_c23
noncomputable abbrev trellislaw11_still_c25 : Code := Code.snd trellislaw11_still_c23
noncomputable abbrev trellislaw11_still_c26 : Code := Code.fst trellislaw11_still_c25
noncomputable abbrev trellislaw11_still_c27 : Code := Code.snd trellislaw11_still_c25
noncomputable abbrev trellislaw11_still_c28 : Code := Code.fst trellislaw11_still_c26
noncomputable abbrev trellislaw11_still_c29 : Code := Code.snd trellislaw11_still_c26
noncomputable abbrev trellislaw11_still_c30 : Code := Code.fst trellislaw11_still_c10
noncomputable abbrev trellislaw11_still_c31 : Code := Code.snd trellislaw11_still_c10
noncomputable abbrev trellislaw11_still_c32 : Code := Code.fst trellislaw11_still_c30
noncomputable abbrev trellislaw11_still_c33 : Code := Code.snd trellislaw11_still_c30
noncomputable abbrev trellislaw11_still_c34 : Code := Code.fst trellislaw11_still_c33
noncomputable abbrev trellislaw11_still_c35 : Code := Code.snd trellislaw11_still_c33
noncomputable abbrev trellislaw11_still_c36 : Code := Code.fst trellislaw11_still_c31
noncomputable abbrev trellislaw11_still_c37 : Code := Code.snd trellislaw11_still_c31
noncomputable abbrev trellislaw11_still_c38 : Code := Code.fst trellislaw11_still_c36
noncomputable abbrev trellislaw11_still_c39 : Code := Code.snd trellislaw11_still_c36
noncomputable abbrev trellislaw11_still_c40 : Code := Code.fst trellislaw11_still_c39
noncomputable abbrev trellislaw11_still_c41 : Code := Code.fst trellislaw11_still_c40
noncomputable abbrev trellislaw11_still_c42 : Code := Code.fst trellislaw11_still_c41
noncomputable abbrev trellislaw11_still_c43 : Code := Code.snd trellislaw11_still_c41
noncomputable abbrev trellislaw11_still_c44 : Code := Code.fst trellislaw11_still_c42
noncomputable abbrev trellislaw11_still_c45 : Code := Code.snd trellislaw11_still_c42
noncomputable abbrev trellislaw11_still_c46 : Code := Code.fst trellislaw11_still_c45
noncomputable abbrev trellislaw11_still_c47 : Code := Code.snd trellislaw11_still_c45
noncomputable abbrev trellislaw11_still_c48 : Code := Code.fst trellislaw11_still_c43
noncomputable abbrev trellislaw11_still_c49 : Code := Code.snd trellislaw11_still_c43
noncomputable abbrev trellislaw11_still_c50 : Code := Code.fst trellislaw11_still_c48
noncomputable abbrev trellislaw11_still_c51 : Code := Code.fst trellislaw11_still_c50
noncomputable abbrev trellislaw11_still_c52 : Code := Code.snd trellislaw11_still_c50
noncomputable abbrev trellislaw11_still_c53 : Code := Code.fst trellislaw11_still_c52
noncomputable abbrev trellislaw11_still_c54 : Code := Code.snd trellislaw11_still_c52
noncomputable abbrev trellislaw11_still_c55 : Code := Code.fst trellislaw11_still_c53
noncomputable abbrev trellislaw11_still_c56 : Code := Code.snd trellislaw11_still_c53
noncomputable abbrev trellislaw11_still_c57 : Code := Code.fst trellislaw11_still_c37
noncomputable abbrev trellislaw11_still_c58 : Code := Code.snd trellislaw11_still_c37
noncomputable abbrev trellislaw11_still_c59 : Code := Code.fst trellislaw11_still_c34
noncomputable abbrev trellislaw11_still_c60 : Code := Code.snd trellislaw11_still_c34
abbrev trellislaw11_still_R (w : World) (F : Nat → Prop) (r : Bool) : Ending → World → Prop := fun e w' => e = .returned (.bool r) ∧ B.Loc w w' [] [St w []]
noncomputable abbrev trellislaw11_still_C (w : World) (F : Nat → Prop) (r : Bool) : Cx := ⟨Try.prog, 14, Try.f14, 109, trellislaw11_still_R w F  r, w⟩
theorem trellislaw11_still_calls (w : World) (F : Nat → Prop) (x1 : api_Gram) (x14 : api_Gram) (A2 : Option Addr) (n3 : Nat) (c4 : Nat) (A6 : Option Addr) (n7 : Nat) (c8 : Nat) (A10 : Option Addr) (n11 : Nat) (c12 : Nat) (A15 : Option Addr) (n16 : Nat) (c17 : Nat) (A19 : Option Addr) (n20 : Nat) (c21 : Nat) (A23 : Option Addr) (n24 : Nat) (c25 : Nat) (h5 : Rw k_api_TermDef w (St w []).av A2 n3 c4 x1.terms) (h9 : Rw k_api_Sym w (St w []).av A6 n7 c8 x1.syms) (h13 : Rw k_api_Prod w (St w []).av A10 n11 c12 x1.prods) (h18 : Rw k_api_TermDef w (St w []).av A15 n16 c17 x14.terms) (h22 : Rw k_api_Sym w (St w []).av A19 n20 c21 x14.syms) (h26 : Rw k_api_Prod w (St w []).av A23 n24 c25 x14.prods) (hF : ∀ b, F b → b < w.heap.size ∧ ∀ o ∈ ([] : List (List Nat)), b ∉ o) (hL0 : B.Loc w w [] [Sm w.heap.size F w [], St w []]) (r : Bool) (h : trellislaw11_still x1 x14 r) : Calls Try.prog 14 #[.agg #[.slice A2 n3 c4, .slice A6 n7 c8, .slice A10 n11 c12], .agg #[.slice A15 n16 c17, .slice A19 n20 c21, .slice A23 n24 c25]] w (trellislaw11_still_R w F  r) := by
  unfold trellislaw11_still at h
  refine calls_of_Loc (vs := [.agg #[.slice A2 n3 c4, .slice A6 n7 c8, .slice A10 n11 c12], .agg #[.slice A15 n16 c17, .slice A19 n20 c21, .slice A23 n24 c25]]) 109 Try.func14 rfl Try.ntmps14 rfl hL0 ?_
  show G (trellislaw11_still_C w F r) _ _ _ _
  refine g_seq (c := trellislaw11_still_c0) rfl ?_
  refine g_region (c := trellislaw11_still_c1) rfl rfl ?_
  refine wl_s 0 rfl (s_box [.slice A2 n3 c4, .slice A6 n7 c8, .slice A10 n11 c12] rfl rfl rfl fun gb27 => ?_) gn
  refine wl_s 1 rfl (s_box [.slice A15 n16 c17, .slice A19 n20 c21, .slice A23 n24 c25] rfl rfl rfl fun gb29 => ?_) gn
  refine wl_v 2 rfl (v_assign rfl) gn rfl ?_
  refine w_end 3 rfl ?_
  refine g_seq (c := trellislaw11_still_c2) rfl ?_
  refine g_region (c := trellislaw11_still_c3) rfl rfl ?_
  refine wl_v 0 rfl (v_fldB fo_26_0 rfl) gn rfl ?_
  refine wl_v 1 rfl (v_ldB1 1 ld_22 rfl rfl rfl) gn rfl ?_
  refine wl_v 2 rfl (v_fldB fo_26_0 rfl) gn rfl ?_
  refine wl_v 3 rfl (v_ldB1 0 ld_22 rfl rfl rfl) gn rfl ?_
  refine wl_v 4 rfl (v_lenQ un_22 rfl h18.hq) gn rfl ?_
  refine wl_v 5 rfl (v_bin rfl rfl rfl) gn rfl ?_
  obtain ⟨hb31, h⟩ := h
  have h32 := Rw.cutHi (hv := w64 ((x14.terms.length : Int) + 20)) h5 (by have q := hb31; have q1 := h5.hq; have q2 := h5.hn; omega)
  refine wl_v 6 rfl (v_cutHi (i := w64 ((x14.terms.length : Int) + 20)) slE_22 rfl rfl (by have q := hb31; have q1 := h5.hq; have q2 := h5.hn; omega) h5.hn rfl) gn rfl ?_
  refine wl_v 7 rfl (v_assign rfl) gn rfl ?_
  refine w_end 8 rfl ?_
  refine g_seq (c := trellislaw11_still_c4) rfl ?_
  refine g_region (c := trellislaw11_still_c5) rfl rfl ?_
  refine wl_v 0 rfl (v_fldB fo_26_1 rfl) gn rfl ?_
  refine wl_v 1 rfl (v_ldB1 1 ld_23 rfl rfl rfl) gn rfl ?_
  refine wl_v 2 rfl (v_fldB fo_26_1 rfl) gn rfl ?_
  refine wl_v 3 rfl (v_ldB1 0 ld_23 rfl rfl rfl) gn rfl ?_
  refine wl_v 4 rfl (v_lenQ un_23 rfl h22.hq) gn rfl ?_
  refine wl_v 5 rfl (v_bin rfl rfl rfl) gn rfl ?_
  obtain ⟨hb33, h⟩ := h
  have h34 := Rw.cutHi (hv := w64 ((x14.syms.length : Int) + 20)) h9 (by have q := hb33; have q1 := h9.hq; have q2 := h9.hn; omega)
  refine wl_v 6 rfl (v_cutHi (i := w64 ((x14.syms.length : Int) + 20)) slE_23 rfl rfl (by have q := hb33; have q1 := h9.hq; have q2 := h9.hn; omega) h9.hn rfl) gn rfl ?_
  refine wl_v 7 rfl (v_assign rfl) gn rfl ?_
  refine w_end 8 rfl ?_
  refine g_seq (c := trellislaw11_still_c6) rfl ?_
  refine g_region (c := trellislaw11_still_c7) rfl rfl ?_
  refine wl_v 0 rfl (v_fldB fo_26_2 rfl) gn rfl ?_
  refine wl_v 1 rfl (v_ldB1 1 ld_24 rfl rfl rfl) gn rfl ?_
  refine wl_v 2 rfl (v_fldB fo_26_2 rfl) gn rfl ?_
  refine wl_v 3 rfl (v_ldB1 0 ld_24 rfl rfl rfl) gn rfl ?_
  refine wl_v 4 rfl (v_lenQ un_24 rfl h26.hq) gn rfl ?_
  refine wl_v 5 rfl (v_bin rfl rfl rfl) gn rfl ?_
  obtain ⟨hb35, h⟩ := h
  have h36 := Rw.cutHi (hv := w64 ((x14.prods.length : Int) + 20)) h13 (by have q := hb35; have q1 := h13.hq; have q2 := h13.hn; omega)
  refine wl_v 6 rfl (v_cutHi (i := w64 ((x14.prods.length : Int) + 20)) slE_24 rfl rfl (by have q := hb35; have q1 := h13.hq; have q2 := h13.hn; omega) h13.hn rfl) gn rfl ?_
  refine wl_v 7 rfl (v_assign rfl) gn rfl ?_
  refine w_end 8 rfl ?_
  refine g_seq (c := trellislaw11_still_c8) rfl ?_
  refine g_seq (c := trellislaw11_still_c9) rfl ?_
  refine g_region (c := trellislaw11_still_c11) rfl rfl ?_
  refine wl_v 0 rfl (v_assign rfl) gn rfl ?_
  refine w_end 1 rfl ?_
  refine g_block (c := trellislaw11_still_c12) rfl ?_
  refine g_loop (c := trellislaw11_still_c13) rfl ?_
  have key1 : ∀ s, Rounds (fun (s : Int) o => trellislaw11_still_b1 x14 x1 s o) s r → (fun (s : Int) => ∀ (_ : Unit), G (trellislaw11_still_C w F r) [.code trellislaw11_still_c14, .inLoop trellislaw11_still_c14, .inBlock 0, .code trellislaw11_still_c10] [(2, .pointer (some ⟨gb27, 0, none⟩)), (3, .pointer (some ⟨gb29, 0, none⟩)), (5, .slice A2 ((w64 ((x14.terms.length : Int) + 20) : Int).toNat) c4), (6, .slice A6 ((w64 ((x14.syms.length : Int) + 20) : Int).toNat) c8), (7, .slice A10 ((w64 ((x14.prods.length : Int) + 20) : Int).toNat) c12), (8, .int .i64 s)] [.box gb29 26 [.slice A15 n16 c17, .slice A19 n20 c21, .slice A23 n24 c25], .box gb27 26 [.slice A2 n3 c4, .slice A6 n7 c8, .slice A10 n11 c12]] [Sm w.heap.size F w [], St w []]) s := by
    intro s hs
    refine Rounds.ind (mot := (fun (s : Int) => ∀ (_ : Unit), G (trellislaw11_still_C w F r) [.code trellislaw11_still_c14, .inLoop trellislaw11_still_c14, .inBlock 0, .code trellislaw11_still_c10] [(2, .pointer (some ⟨gb27, 0, none⟩)), (3, .pointer (some ⟨gb29, 0, none⟩)), (5, .slice A2 ((w64 ((x14.terms.length : Int) + 20) : Int).toNat) c4), (6, .slice A6 ((w64 ((x14.syms.length : Int) + 20) : Int).toNat) c8), (7, .slice A10 ((w64 ((x14.prods.length : Int) + 20) : Int).toNat) c12), (8, .int .i64 s)] [.box gb29 26 [.slice A15 n16 c17, .slice A19 n20 c21, .slice A23 n24 c25], .box gb27 26 [.slice A2 n3 c4, .slice A6 n7 c8, .slice A10 n11 c12]] [Sm w.heap.size F w [], St w []])) ?_ hs
    clear hs s
    intro x61 o1 h hO1
    show ∀ (_ : Unit), G (trellislaw11_still_C w F r) [.code trellislaw11_still_c14, .inLoop trellislaw11_still_c14, .inBlock 0, .code trellislaw11_still_c10] [(2, .pointer (some ⟨gb27, 0, none⟩)), (3, .pointer (some ⟨gb29, 0, none⟩)), (5, .slice A2 ((w64 ((x14.terms.length : Int) + 20) : Int).toNat) c4), (6, .slice A6 ((w64 ((x14.syms.length : Int) + 20) : Int).toNat) c8), (7, .slice A10 ((w64 ((x14.prods.length : Int) + 20) : Int).toNat) c12), (8, .int .i64 x61)] [.box gb29 26 [.slice A15 n16 c17, .slice A19 n20 c21, .slice A23 n24 c25], .box gb27 26 [.slice A2 n3 c4, .slice A6 n7 c8, .slice A10 n11 c12]] [Sm w.heap.size F w [], St w []]
    intro _
    have h : trellislaw11_still_b1 x14 x1 x61 o1 := h
    unfold trellislaw11_still_b1 at h
    refine g_seq (c := trellislaw11_still_c14) rfl ?_
    refine g_seq (c := trellislaw11_still_c15) rfl ?_
    refine g_region (c := trellislaw11_still_c17) rfl rfl ?_
    refine wl_v 0 rfl (v_move rfl) gn rfl ?_
    refine wl_v 1 rfl (v_bin rfl rfl rfl) gn rfl ?_
    refine w_end 2 rfl ?_
    by_cases hp331 : x61 < 20
    · have h := if_pos' hp331 h
      refine g_true (c := trellislaw11_still_c18) rfl _ rfl ((decide_eq_true hp331)) ?_
      refine g_skip (c := trellislaw11_still_c19) rfl ?_
      refine g_seq (c := trellislaw11_still_c16) rfl ?_
      refine g_block (c := trellislaw11_still_c21) rfl ?_
      refine g_seq (c := trellislaw11_still_c23) rfl ?_
      refine g_region (c := trellislaw11_still_c24) rfl rfl ?_
      refine wl_v 0 rfl (v_move rfl) gn rfl ?_
      refine wl_v 1 rfl (v_fldB fo_26_0 rfl) gn rfl ?_
      refine wl_v 2 rfl (v_ldB1 0 ld_22 rfl rfl rfl) gn rfl ?_
      refine wl_v 3 rfl (v_lenQ un_22 rfl h18.hq) gn rfl ?_
      refine wl_v 4 rfl (v_move rfl) gn rfl ?_
      refine wl_v 5 rfl (v_bin rfl rfl rfl) gn rfl ?_
      obtain ⟨hb332, h⟩ := h
      have hr333 := Rw.readF (s := St w []) (hl := hl_api_TermDef) (h1 := h1_api_TermDef) h32 hb332
      refine wl_v 6 rfl (v_idxR (s := St w []) slE_22 rfl rfl h32 hb332) gn rfl ?_
      refine wl_v 7 rfl (v_ldA (St w []) ld_58 rfl hr333 rfl (me 1 rfl)) gn rfl ?_
      refine wl_v 8 rfl (v_build #[.string (⟨#[109, 97, 114, 107]⟩ : ByteArray), .bool false] bd_58 rfl (by kernel_rfl)) gn rfl ?_
      refine wl_v 9 rfl (v_neSt eq_58 rfl rfl (eqd_api_TermDef (ix (x1.terms.take (w64 ((x14.terms.length : Int) + 20) : Int).toNat) (w64 ((x14.terms.length : Int) + x61))) (⟨(⟨#[109, 97, 114, 107]⟩ : ByteArray), false⟩ : api_TermDef))) gn rfl ?_
      refine wl_v 10 rfl (v_move rfl) gn rfl ?_
      by_cases hp334 : ix (x1.terms.take (w64 ((x14.terms.length : Int) + 20) : Int).toNat) (w64 ((x14.terms.length : Int) + x61)) = (⟨(⟨#[109, 97, 114, 107]⟩ : ByteArray), false⟩ : api_TermDef)
      · have h := if_pos' hp334 h
        refine w_bool 45 rfl ((nf (decide_eq_true hp334))) ?_
        refine wl_v 11 rfl (v_move rfl) (gy 45 rfl rfl) rfl ?_
        refine wl_v 12 rfl (v_fldB fo_26_1 rfl) (gy 45 rfl rfl) rfl ?_
        refine wl_v 13 rfl (v_ldB1 0 ld_23 rfl rfl rfl) (gy 45 rfl rfl) rfl ?_
        refine wl_v 14 rfl (v_lenQ un_23 rfl h22.hq) (gy 45 rfl rfl) rfl ?_
        refine wl_v 15 rfl (v_move rfl) (gy 45 rfl rfl) rfl ?_
        refine wl_v 16 rfl (v_bin rfl rfl rfl) (gy 45 rfl rfl) rfl ?_
        obtain ⟨hb335, h⟩ := h
        have hr336 := Rw.readF (s := St w []) (hl := hl_api_Sym) (h1 := h1_api_Sym) h34 hb335
        refine wl_v 17 rfl (v_idxR (s := St w []) slE_23 rfl rfl h34 hb335) (gy 45 rfl rfl) rfl ?_
        refine wl_v 18 rfl (v_ldA (St w []) ld_61 rfl hr336 rfl (me 1 rfl)) (gy 45 rfl rfl) rfl ?_
        refine wl_v 19 rfl (v_build #[.string (⟨#[109, 97, 114, 107]⟩ : ByteArray), .int .i64 0] bd_61 rfl (by kernel_rfl)) (gy 45 rfl rfl) rfl ?_
        refine wl_v 20 rfl (v_neSt eq_61 rfl rfl (eqd_api_Sym (ix (x1.syms.take (w64 ((x14.syms.length : Int) + 20) : Int).toNat) (w64 ((x14.syms.length : Int) + x61))) (⟨(⟨#[109, 97, 114, 107]⟩ : ByteArray), 0⟩ : api_Sym))) (gy 45 rfl rfl) rfl ?_
        refine wl_v 21 rfl (v_pick (b := false) rfl rfl) gn rfl ?_
        refine wl_v 22 rfl (v_move rfl) gn rfl ?_
        by_cases hp337 : ix (x1.syms.take (w64 ((x14.syms.length : Int) + 20) : Int).toNat) (w64 ((x14.syms.length : Int) + x61)) = (⟨(⟨#[109, 97, 114, 107]⟩ : ByteArray), 0⟩ : api_Sym)
        · have h := if_pos' hp337 h
          refine w_bool 57 rfl ((nf (decide_eq_true hp337))) ?_
          refine wl_v 23 rfl (v_move rfl) (gy 57 rfl rfl) rfl ?_
          refine wl_v 24 rfl (v_fldB fo_26_2 rfl) (gy 57 rfl rfl) rfl ?_
          refine wl_v 25 rfl (v_ldB1 0 ld_24 rfl rfl rfl) (gy 57 rfl rfl) rfl ?_
          refine wl_v 26 rfl (v_lenQ un_24 rfl h26.hq) (gy 57 rfl rfl) rfl ?_
          refine wl_v 27 rfl (v_move rfl) (gy 57 rfl rfl) rfl ?_
          refine wl_v 28 rfl (v_bin rfl rfl rfl) (gy 57 rfl rfl) rfl ?_
          obtain ⟨hb338, h⟩ := h
          obtain ⟨ce340, hK341, hr339⟩ := Rw.read (s := St w []) h36 hb338
          obtain ⟨A342, n343, c344, rfl, h345⟩ := hK341
          refine wl_v 29 rfl (v_idxR (s := St w []) slE_24 rfl rfl h36 hb338) (gy 57 rfl rfl) rfl ?_
          refine wl_v 30 rfl (v_fldA fo_38_0 rfl) (gy 57 rfl rfl) rfl ?_
          refine wl_v 31 rfl (v_ldA1 (kk := (w64 ((x14.prods.length : Int) + x61) : Int).toNat * 2) (j := 0) (St w []) ld_3 rfl hr339 rfl (me 1 rfl)) (gy 57 rfl rfl) rfl ?_
          refine wl_v 32 rfl (v_move rfl) (gy 57 rfl rfl) rfl ?_
          refine wl_v 33 rfl (v_bin rfl rfl rfl) (gy 57 rfl rfl) rfl ?_
          refine wl_v 34 rfl (v_bin rfl rfl rfl) (gy 57 rfl rfl) rfl ?_
          refine wl_v 35 rfl (v_pick (b := false) rfl rfl) gn rfl ?_
          refine wl_v 36 rfl (v_move rfl) gn rfl ?_
          by_cases hp346 : (ix (x1.prods.take (w64 ((x14.prods.length : Int) + 20) : Int).toNat) (w64 ((x14.prods.length : Int) + x61))).lhs = w64 (900 + x61)
          · have h := if_pos' hp346 h
            refine w_bool 71 rfl ((eqib hp346)) ?_
            refine wl_v 37 rfl (v_move rfl) (gy 71 rfl rfl) rfl ?_
            refine wl_v 38 rfl (v_fldB fo_26_2 rfl) (gy 71 rfl rfl) rfl ?_
            refine wl_v 39 rfl (v_ldB1 0 ld_24 rfl rfl rfl) (gy 71 rfl rfl) rfl ?_
            refine wl_v 40 rfl (v_lenQ un_24 rfl h26.hq) (gy 71 rfl rfl) rfl ?_
            refine wl_v 41 rfl (v_move rfl) (gy 71 rfl rfl) rfl ?_
            refine wl_v 42 rfl (v_bin rfl rfl rfl) (gy 71 rfl rfl) rfl ?_
            obtain ⟨ce348, hK349, hr347⟩ := Rw.read (s := St w []) h36 hb338
            obtain ⟨A350, n351, c352, rfl, h353⟩ := hK349
            refine wl_v 43 rfl (v_idxR (s := St w []) slE_24 rfl rfl h36 hb338) (gy 71 rfl rfl) rfl ?_
            refine wl_v 44 rfl (v_fldA fo_38_1 rfl) (gy 71 rfl rfl) rfl ?_
            refine wl_v 45 rfl (v_ldA1 (kk := (w64 ((x14.prods.length : Int) + x61) : Int).toNat * 2) (j := 1) (St w []) ld_27 rfl hr347 rfl (me 1 rfl)) (gy 71 rfl rfl) rfl ?_
            refine wl_v 46 rfl (v_lenQ un_27 rfl h353.hq) (gy 71 rfl rfl) rfl ?_
            refine wl_v 47 rfl (v_bin rfl rfl rfl) (gy 71 rfl rfl) rfl ?_
            refine wl_v 48 rfl (v_pick (b := false) rfl rfl) gn rfl ?_
            refine w_end 49 rfl ?_
            by_cases hp354 : (((ix (x1.prods.take (w64 ((x14.prods.length : Int) + 20) : Int).toNat) (w64 ((x14.prods.length : Int) + x61))).rhs).length : Int) > 0
            · have h := if_pos' hp354 h
              refine g_true (c := trellislaw11_still_c25) rfl _ rfl ((decide_eq_true hp354)) ?_
              refine g_seq (c := trellislaw11_still_c26) rfl ?_
              refine g_region (c := trellislaw11_still_c28) rfl rfl ?_
              refine wl_v 0 rfl (v_assign rfl) gn rfl ?_
              refine w_end 1 rfl ?_
              have h := Out.inr hO1 h
              refine g_retR (c := trellislaw11_still_c29) [.bool false] rfl Try.func14 rfl (.tmp rfl (.nil)) fun wr hLr => ?_
              have hMr : B.Loc w wr [] [St w []] := hLr.pick (rest := [.box gb29 26 [.slice A15 n16 c17, .slice A19 n20 c21, .slice A23 n24 c25], .box gb27 26 [.slice A2 n3 c4, .slice A6 n7 c8, .slice A10 n11 c12]]) (perm_of_idx [] [0, 1] rfl rfl (by kernel_rfl)) (sels [1] rfl)
              have hMi : ∀ e ∈ ([] : List Ent), e ∈ ([.box gb29 26 [.slice A15 n16 c17, .slice A19 n20 c21, .slice A23 n24 c25], .box gb27 26 [.slice A2 n3 c4, .slice A6 n7 c8, .slice A10 n11 c12]] : List Ent) := sels [] rfl
              show trellislaw11_still_R w F  r (.returned (packV [.bool false])) wr
              rw [h]
              exact ⟨rfl, hMr⟩
            · have h := if_neg' hp354 h
              refine g_false (c := trellislaw11_still_c25) rfl _ rfl ((decide_eq_false hp354)) ?_
              refine g_skip (c := trellislaw11_still_c27) rfl ?_
              refine g_inBlock ?_
              refine g_region (c := trellislaw11_still_c22) rfl rfl ?_
              refine wl_v 0 rfl (v_move rfl) gn rfl ?_
              refine wl_v 1 rfl (v_bin rfl rfl rfl) gn rfl ?_
              refine wl_v 2 rfl (v_assign rfl) gn rfl ?_
              refine w_end 3 rfl ?_
              refine g_inLoop ?_
              have ih := Out.inl hO1 h
              exact g_go [0, 1] (ih ()) ⟨rfl, rfl, rfl, rfl, rfl, rfl, trivial⟩ (.cons_cons _ (.cons_cons _ (.slnil))) rfl
          · have h := if_neg' hp346 h
            refine w_bool 71 rfl ((neib hp346)) ?_
            refine wl_pass 37 rfl (ps 71 rfl rfl rfl) ?_
            refine wl_pass 38 rfl (ps 71 rfl rfl rfl) ?_
            refine wl_pass 39 rfl (ps 71 rfl rfl rfl) ?_
            refine wl_pass 40 rfl (ps 71 rfl rfl rfl) ?_
            refine wl_pass 41 rfl (ps 71 rfl rfl rfl) ?_
            refine wl_pass 42 rfl (ps 71 rfl rfl rfl) ?_
            refine wl_pass 43 rfl (ps 71 rfl rfl rfl) ?_
            refine wl_pass 44 rfl (ps 71 rfl rfl rfl) ?_
            refine wl_pass 45 rfl (ps 71 rfl rfl rfl) ?_
            refine wl_pass 46 rfl (ps 71 rfl rfl rfl) ?_
            refine wl_pass 47 rfl (ps 71 rfl rfl rfl) ?_
            refine wl_v 48 rfl (v_pick (b := true) rfl rfl) gn rfl ?_
            refine w_end 49 rfl ?_
            refine g_true (c := trellislaw11_still_c25) rfl _ rfl (rfl) ?_
            refine g_seq (c := trellislaw11_still_c26) rfl ?_
            refine g_region (c := trellislaw11_still_c28) rfl rfl ?_
            refine wl_v 0 rfl (v_assign rfl) gn rfl ?_
            refine w_end 1 rfl ?_
            have h := Out.inr hO1 h
            refine g_retR (c := trellislaw11_still_c29) [.bool false] rfl Try.func14 rfl (.tmp rfl (.nil)) fun wr hLr => ?_
            have hMr : B.Loc w wr [] [St w []] := hLr.pick (rest := [.box gb29 26 [.slice A15 n16 c17, .slice A19 n20 c21, .slice A23 n24 c25], .box gb27 26 [.slice A2 n3 c4, .slice A6 n7 c8, .slice A10 n11 c12]]) (perm_of_idx [] [0, 1] rfl rfl (by kernel_rfl)) (sels [1] rfl)
            have hMi : ∀ e ∈ ([] : List Ent), e ∈ ([.box gb29 26 [.slice A15 n16 c17, .slice A19 n20 c21, .slice A23 n24 c25], .box gb27 26 [.slice A2 n3 c4, .slice A6 n7 c8, .slice A10 n11 c12]] : List Ent) := sels [] rfl
            show trellislaw11_still_R w F  r (.returned (packV [.bool false])) wr
            rw [h]
            exact ⟨rfl, hMr⟩
        · have h := if_neg' hp337 h
          refine w_bool 57 rfl ((nt (decide_eq_false hp337))) ?_
          refine wl_pass 23 rfl (ps 57 rfl rfl rfl) ?_
          refine wl_pass 24 rfl (ps 57 rfl rfl rfl) ?_
          refine wl_pass 25 rfl (ps 57 rfl rfl rfl) ?_
          refine wl_pass 26 rfl (ps 57 rfl rfl rfl) ?_
          refine wl_pass 27 rfl (ps 57 rfl rfl rfl) ?_
          refine wl_pass 28 rfl (ps 57 rfl rfl rfl) ?_
          refine wl_pass 29 rfl (ps 57 rfl rfl rfl) ?_
          refine wl_pass 30 rfl (ps 57 rfl rfl rfl) ?_
          refine wl_pass 31 rfl (ps 57 rfl rfl rfl) ?_
          refine wl_pass 32 rfl (ps 57 rfl rfl rfl) ?_
          refine wl_pass 33 rfl (ps 57 rfl rfl rfl) ?_
          refine wl_pass 34 rfl (ps 57 rfl rfl rfl) ?_
          refine wl_v 35 rfl (v_pick (b := true) rfl rfl) gn rfl ?_
          refine wl_v 36 rfl (v_move rfl) gn rfl ?_
          refine wl_pass 37 rfl (ps 71 rfl rfl rfl) ?_
          refine wl_pass 38 rfl (ps 71 rfl rfl rfl) ?_
          refine wl_pass 39 rfl (ps 71 rfl rfl rfl) ?_
          refine wl_pass 40 rfl (ps 71 rfl rfl rfl) ?_
          refine wl_pass 41 rfl (ps 71 rfl rfl rfl) ?_
          refine wl_pass 42 rfl (ps 71 rfl rfl rfl) ?_
          refine wl_pass 43 rfl (ps 71 rfl rfl rfl) ?_
          refine wl_pass 44 rfl (ps 71 rfl rfl rfl) ?_
          refine wl_pass 45 rfl (ps 71 rfl rfl rfl) ?_
          refine wl_pass 46 rfl (ps 71 rfl rfl rfl) ?_
          refine wl_pass 47 rfl (ps 71 rfl rfl rfl) ?_
          refine wl_v 48 rfl (v_pick (b := true) rfl rfl) gn rfl ?_
          refine w_end 49 rfl ?_
          refine g_true (c := trellislaw11_still_c25) rfl _ rfl (rfl) ?_
          refine g_seq (c := trellislaw11_still_c26) rfl ?_
          refine g_region (c := trellislaw11_still_c28) rfl rfl ?_
          refine wl_v 0 rfl (v_assign rfl) gn rfl ?_
          refine w_end 1 rfl ?_
          have h := Out.inr hO1 h
          refine g_retR (c := trellislaw11_still_c29) [.bool false] rfl Try.func14 rfl (.tmp rfl (.nil)) fun wr hLr => ?_
          have hMr : B.Loc w wr [] [St w []] := hLr.pick (rest := [.box gb29 26 [.slice A15 n16 c17, .slice A19 n20 c21, .slice A23 n24 c25], .box gb27 26 [.slice A2 n3 c4, .slice A6 n7 c8, .slice A10 n11 c12]]) (perm_of_idx [] [0, 1] rfl rfl (by kernel_rfl)) (sels [1] rfl)
          have hMi : ∀ e ∈ ([] : List Ent), e ∈ ([.box gb29 26 [.slice A15 n16 c17, .slice A19 n20 c21, .slice A23 n24 c25], .box gb27 26 [.slice A2 n3 c4, .slice A6 n7 c8, .slice A10 n11 c12]] : List Ent) := sels [] rfl
          show trellislaw11_still_R w F  r (.returned (packV [.bool false])) wr
          rw [h]
          exact ⟨rfl, hMr⟩
      · have h := if_neg' hp334 h
        refine w_bool 45 rfl ((nt (decide_eq_false hp334))) ?_
        refine wl_pass 11 rfl (ps 45 rfl rfl rfl) ?_
        refine wl_pass 12 rfl (ps 45 rfl rfl rfl) ?_
        refine wl_pass 13 rfl (ps 45 rfl rfl rfl) ?_
        refine wl_pass 14 rfl (ps 45 rfl rfl rfl) ?_
        refine wl_pass 15 rfl (ps 45 rfl rfl rfl) ?_
        refine wl_pass 16 rfl (ps 45 rfl rfl rfl) ?_
        refine wl_pass 17 rfl (ps 45 rfl rfl rfl) ?_
        refine wl_pass 18 rfl (ps 45 rfl rfl rfl) ?_
        refine wl_pass 19 rfl (ps 45 rfl rfl rfl) ?_
        refine wl_pass 20 rfl (ps 45 rfl rfl rfl) ?_
        refine wl_v 21 rfl (v_pick (b := true) rfl rfl) gn rfl ?_
        refine wl_v 22 rfl (v_move rfl) gn rfl ?_
        refine wl_pass 23 rfl (ps 57 rfl rfl rfl) ?_
        refine wl_pass 24 rfl (ps 57 rfl rfl rfl) ?_
        refine wl_pass 25 rfl (ps 57 rfl rfl rfl) ?_
        refine wl_pass 26 rfl (ps 57 rfl rfl rfl) ?_
        refine wl_pass 27 rfl (ps 57 rfl rfl rfl) ?_
        refine wl_pass 28 rfl (ps 57 rfl rfl rfl) ?_
        refine wl_pass 29 rfl (ps 57 rfl rfl rfl) ?_
        refine wl_pass 30 rfl (ps 57 rfl rfl rfl) ?_
        refine wl_pass 31 rfl (ps 57 rfl rfl rfl) ?_
        refine wl_pass 32 rfl (ps 57 rfl rfl rfl) ?_
        refine wl_pass 33 rfl (ps 57 rfl rfl rfl) ?_
        refine wl_pass 34 rfl (ps 57 rfl rfl rfl) ?_
        refine wl_v 35 rfl (v_pick (b := true) rfl rfl) gn rfl ?_
        refine wl_v 36 rfl (v_move rfl) gn rfl ?_
        refine wl_pass 37 rfl (ps 71 rfl rfl rfl) ?_
        refine wl_pass 38 rfl (ps 71 rfl rfl rfl) ?_
        refine wl_pass 39 rfl (ps 71 rfl rfl rfl) ?_
        refine wl_pass 40 rfl (ps 71 rfl rfl rfl) ?_
        refine wl_pass 41 rfl (ps 71 rfl rfl rfl) ?_
        refine wl_pass 42 rfl (ps 71 rfl rfl rfl) ?_
        refine wl_pass 43 rfl (ps 71 rfl rfl rfl) ?_
        refine wl_pass 44 rfl (ps 71 rfl rfl rfl) ?_
        refine wl_pass 45 rfl (ps 71 rfl rfl rfl) ?_
        refine wl_pass 46 rfl (ps 71 rfl rfl rfl) ?_
        refine wl_pass 47 rfl (ps 71 rfl rfl rfl) ?_
        refine wl_v 48 rfl (v_pick (b := true) rfl rfl) gn rfl ?_
        refine w_end 49 rfl ?_
        refine g_true (c := trellislaw11_still_c25) rfl _ rfl (rfl) ?_
        refine g_seq (c := trellislaw11_still_c26) rfl ?_
        refine g_region (c := trellislaw11_still_c28) rfl rfl ?_
        refine wl_v 0 rfl (v_assign rfl) gn rfl ?_
        refine w_end 1 rfl ?_
        have h := Out.inr hO1 h
        refine g_retR (c := trellislaw11_still_c29) [.bool false] rfl Try.func14 rfl (.tmp rfl (.nil)) fun wr hLr => ?_
        have hMr : B.Loc w wr [] [St w []] := hLr.pick (rest := [.box gb29 26 [.slice A15 n16 c17, .slice A19 n20 c21, .slice A23 n24 c25], .box gb27 26 [.slice A2 n3 c4, .slice A6 n7 c8, .slice A10 n11 c12]]) (perm_of_idx [] [0, 1] rfl rfl (by kernel_rfl)) (sels [1] rfl)
        have hMi : ∀ e ∈ ([] : List Ent), e ∈ ([.box gb29 26 [.slice A15 n16 c17, .slice A19 n20 c21, .slice A23 n24 c25], .box gb27 26 [.slice A2 n3 c4, .slice A6 n7 c8, .slice A10 n11 c12]] : List Ent) := sels [] rfl
        show trellislaw11_still_R w F  r (.returned (packV [.bool false])) wr
        rw [h]
        exact ⟨rfl, hMr⟩
    · have h := if_neg' hp331 h
      refine g_false (c := trellislaw11_still_c18) rfl _ rfl ((decide_eq_false hp331)) ?_
      refine g_exit (c := trellislaw11_still_c20) [.code trellislaw11_still_c10] rfl rfl ?_
      refine g_seq (c := trellislaw11_still_c10) rfl ?_
      refine g_seq (c := trellislaw11_still_c30) rfl ?_
      refine g_region (c := trellislaw11_still_c32) rfl rfl ?_
      refine wl_v 0 rfl (v_ldB [.slice A2 n3 c4, .slice A6 n7 c8, .slice A10 n11 c12] 1 ld_26 rfl rfl rfl rfl) gn rfl ?_
      refine wl_v 1 rfl (v_ldB [.slice A15 n16 c17, .slice A19 n20 c21, .slice A23 n24 c25] 0 ld_26 rfl rfl rfl rfl) gn rfl ?_
      obtain ⟨r358, hv359, h⟩ := h
      refine wl_s 2 rfl (s_call [.agg #[.slice A2 n3 c4, .slice A6 n7 c8, .slice A10 n11 c12], .agg #[.slice A15 n16 c17, .slice A19 n20 c21, .slice A23 n24 c25]] rfl Try.func35 rfl rfl rfl fun w355 hL356 => ?_) gn
      have hp357 : List.Perm ([.box gb29 26 [.slice A15 n16 c17, .slice A19 n20 c21, .slice A23 n24 c25], .box gb27 26 [.slice A2 n3 c4, .slice A6 n7 c8, .slice A10 n11 c12]] : List Ent) (([] : List Ent) ++ ([.box gb29 26 [.slice A15 n16 c17, .slice A19 n20 c21, .slice A23 n24 c25], .box gb27 26 [.slice A2 n3 c4, .slice A6 n7 c8, .slice A10 n11 c12]] : List Ent)) := perm_of_idx [] [0, 1] rfl rfl (by kernel_rfl)
      refine Calls.mono (trellislaw11_same_calls w355 (Fl ([] : List Snap)) x1 x14 A2 n3 c4 A6 n7 c8 A10 n11 c12 A15 n16 c17 A19 n20 c21 A23 n24 c25 (Rw.mono h5 (hL356.toSt hp357 (me 1 rfl))) (Rw.mono h9 (hL356.toSt hp357 (me 1 rfl))) (Rw.mono h13 (hL356.toSt hp357 (me 1 rfl))) (Rw.mono h18 (hL356.toSt hp357 (me 1 rfl))) (Rw.mono h22 (hL356.toSt hp357 (me 1 rfl))) (Rw.mono h26 (hL356.toSt hp357 (me 1 rfl))) (hL356.hFl (Sl := ([] : List Snap)) hp357 (sels [] rfl)) (hL356.into hp357 (Fl ([] : List Snap))) r358 hv359) ?_
      rintro _ w360 ⟨rfl, hM361⟩
      have hL362 := hL356.call hp357 hM361
      refine ⟨_, _, _, rfl, hL362, ?_⟩
      refine wl_v 3 rfl (v_not rfl) gn rfl ?_
      refine w_end 4 rfl ?_
      by_cases hp363 : r358 = true
      · have h := if_pos' hp363 h
        refine g_false (c := trellislaw11_still_c33) rfl _ rfl ((nf hp363)) ?_
        refine g_skip (c := trellislaw11_still_c35) rfl ?_
        refine g_seq (c := trellislaw11_still_c31) rfl ?_
        refine g_seq (c := trellislaw11_still_c36) rfl ?_
        refine g_region (c := trellislaw11_still_c38) rfl rfl ?_
        refine wl_v 0 rfl (v_assign rfl) gn rfl ?_
        refine w_end 1 rfl ?_
        refine g_block (c := trellislaw11_still_c39) rfl ?_
        refine g_loop (c := trellislaw11_still_c40) rfl ?_
        have key2 : ∀ s, Rounds (fun (s : Int) o => trellislaw11_still_b2 x14 x1 s o) s o1 → (fun (s : Int) => ∀ (_ : Unit), G (trellislaw11_still_C w F r) [.code trellislaw11_still_c41, .inLoop trellislaw11_still_c41, .inBlock 2, .code trellislaw11_still_c37] [(2, .pointer (some ⟨gb27, 0, none⟩)), (3, .pointer (some ⟨gb29, 0, none⟩)), (9, .int .i64 s)] [.box gb29 26 [.slice A15 n16 c17, .slice A19 n20 c21, .slice A23 n24 c25], .box gb27 26 [.slice A2 n3 c4, .slice A6 n7 c8, .slice A10 n11 c12]] [Sm w.heap.size F w [], St w []]) s := by
          intro s hs
          refine Rounds.ind (mot := (fun (s : Int) => ∀ (_ : Unit), G (trellislaw11_still_C w F r) [.code trellislaw11_still_c41, .inLoop trellislaw11_still_c41, .inBlock 2, .code trellislaw11_still_c37] [(2, .pointer (some ⟨gb27, 0, none⟩)), (3, .pointer (some ⟨gb29, 0, none⟩)), (9, .int .i64 s)] [.box gb29 26 [.slice A15 n16 c17, .slice A19 n20 c21, .slice A23 n24 c25], .box gb27 26 [.slice A2 n3 c4, .slice A6 n7 c8, .slice A10 n11 c12]] [Sm w.heap.size F w [], St w []])) ?_ hs
          clear hs s
          intro x443 o2 h hO2
          show ∀ (_ : Unit), G (trellislaw11_still_C w F r) [.code trellislaw11_still_c41, .inLoop trellislaw11_still_c41, .inBlock 2, .code trellislaw11_still_c37] [(2, .pointer (some ⟨gb27, 0, none⟩)), (3, .pointer (some ⟨gb29, 0, none⟩)), (9, .int .i64 x443)] [.box gb29 26 [.slice A15 n16 c17, .slice A19 n20 c21, .slice A23 n24 c25], .box gb27 26 [.slice A2 n3 c4, .slice A6 n7 c8, .slice A10 n11 c12]] [Sm w.heap.size F w [], St w []]
          intro _
          have h : trellislaw11_still_b2 x14 x1 x443 o2 := h
          unfold trellislaw11_still_b2 at h
          refine g_seq (c := trellislaw11_still_c41) rfl ?_
          refine g_seq (c := trellislaw11_still_c42) rfl ?_
          refine g_region (c := trellislaw11_still_c44) rfl rfl ?_
          refine wl_v 0 rfl (v_move rfl) gn rfl ?_
          refine wl_v 1 rfl (v_fldB fo_26_2 rfl) gn rfl ?_
          refine wl_v 2 rfl (v_ldB1 0 ld_24 rfl rfl rfl) gn rfl ?_
          refine wl_v 3 rfl (v_lenQ un_24 rfl h26.hq) gn rfl ?_
          refine wl_v 4 rfl (v_bin rfl rfl rfl) gn rfl ?_
          refine w_end 5 rfl ?_
          by_cases hp522 : x443 < (x14.prods.length : Int)
          · have h := if_pos' hp522 h
            refine g_true (c := trellislaw11_still_c45) rfl _ rfl ((decide_eq_true hp522)) ?_
            refine g_skip (c := trellislaw11_still_c46) rfl ?_
            refine g_seq (c := trellislaw11_still_c43) rfl ?_
            refine g_block (c := trellislaw11_still_c48) rfl ?_
            refine g_seq (c := trellislaw11_still_c50) rfl ?_
            obtain ⟨hb523, h⟩ := h
            obtain ⟨hb531, h⟩ := h
            obtain ⟨r542, hv543, h⟩ := h
            have hns : Region.noSelect (Code.ops trellislaw11_still_c51) = true := by kernel_rfl
            refine g_drawF (c := trellislaw11_still_c51) [.box gb29 26 [.slice A15 n16 c17, .slice A19 n20 c21, .slice A23 n24 c25], .box gb27 26 [.slice A2 n3 c4, .slice A6 n7 c8, .slice A10 n11 c12]] [Sm w.heap.size F w [], St w []] [] 14 rfl rfl mix rfl (.cons_cons _ (.cons_cons _ (.slnil))) (sels [0, 1] rfl) ?_
            refine wf_v 0 rfl (v_fldB fo_26_2 rfl) gn rfl hns (by kernel_rfl) (by kernel_rfl) rfl rfl ?_
            refine wf_v 1 rfl (v_ldB1 1 ld_24 rfl rfl rfl) gn rfl hns (by kernel_rfl) (by kernel_rfl) rfl rfl ?_
            refine wf_v 2 rfl (v_move rfl) gn rfl hns (by kernel_rfl) (by kernel_rfl) rfl rfl ?_
            obtain ⟨ce574, hK575, hr573⟩ := Rw.read (s := St w []) h13 hb523
            obtain ⟨A576, n577, c578, rfl, h579⟩ := hK575
            refine wf_v 3 rfl (v_idxR (s := St w []) slE_24 rfl rfl h13 hb523) gn rfl hns (by kernel_rfl) (by kernel_rfl) rfl rfl ?_
            refine wf_v 4 rfl (v_fldA fo_38_1 rfl) gn rfl hns (by kernel_rfl) (by kernel_rfl) rfl rfl ?_
            refine wf_v 5 rfl (v_ldA1 (kk := (x443 : Int).toNat * 2) (j := 1) (St w []) ld_27 rfl hr573 rfl (me 1 rfl)) gn rfl hns (by kernel_rfl) (by kernel_rfl) rfl rfl ?_
            refine wf_v 6 rfl (v_fldB fo_26_2 rfl) gn rfl hns (by kernel_rfl) (by kernel_rfl) rfl rfl ?_
            refine wf_v 7 rfl (v_ldB1 0 ld_24 rfl rfl rfl) gn rfl hns (by kernel_rfl) (by kernel_rfl) rfl rfl ?_
            refine wf_v 8 rfl (v_move rfl) gn rfl hns (by kernel_rfl) (by kernel_rfl) rfl rfl ?_
            obtain ⟨ce581, hK582, hr580⟩ := Rw.read (s := St w []) h26 hb531
            obtain ⟨A583, n584, c585, rfl, h586⟩ := hK582
            refine wf_v 9 rfl (v_idxR (s := St w []) slE_24 rfl rfl h26 hb531) gn rfl hns (by kernel_rfl) (by kernel_rfl) rfl rfl ?_
            refine wf_v 10 rfl (v_fldA fo_38_1 rfl) gn rfl hns (by kernel_rfl) (by kernel_rfl) rfl rfl ?_
            refine wf_v 11 rfl (v_ldA1 (kk := (x443 : Int).toNat * 2) (j := 1) (St w []) ld_27 rfl hr580 rfl (me 1 rfl)) gn rfl hns (by kernel_rfl) (by kernel_rfl) rfl rfl ?_
            refine wf_all [12] (by kernel_rfl) rfl ⟨on_s 12 rfl gn rfl (s_call [.slice A576 n577 c578, .slice A583 n584 c585] rfl Try.func15 rfl rfl rfl fun w593 hL594 => ?_), trivial⟩
            have hp595 : List.Perm ([.box gb29 26 [.slice A15 n16 c17, .slice A19 n20 c21, .slice A23 n24 c25], .box gb27 26 [.slice A2 n3 c4, .slice A6 n7 c8, .slice A10 n11 c12]] : List Ent) (([] : List Ent) ++ ([.box gb29 26 [.slice A15 n16 c17, .slice A19 n20 c21, .slice A23 n24 c25], .box gb27 26 [.slice A2 n3 c4, .slice A6 n7 c8, .slice A10 n11 c12]] : List Ent)) := perm_of_idx [] [0, 1] rfl rfl (by kernel_rfl)
            refine Calls.mono (trellislaw11_stillRow_calls w593 (Fl ([] : List Snap)) ((ix x1.prods x443).rhs) ((ix x14.prods x443).rhs) A576 n577 c578 A583 n584 c585 (Rw.mono h579 (hL594.toSt hp595 (me 1 rfl))) (Rw.mono h586 (hL594.toSt hp595 (me 1 rfl))) (hL594.hFl (Sl := ([] : List Snap)) hp595 (sels [] rfl)) (hL594.into hp595 (Fl ([] : List Snap))) r542 hv543) ?_
            rintro _ w596 ⟨rfl, hM597⟩
            have hL598 := hL594.call hp595 hM597
            refine ⟨_, _, _, rfl, hL598, ?_⟩
            refine ⟨sels [0, 1] rfl, sels [0, 1] rfl, ?_⟩
            refine wf_v 13 rfl (v_not rfl) gn rfl hns (by kernel_rfl) (by kernel_rfl) rfl rfl ?_
            refine wf_end (by kernel_rfl) ?_
            by_cases hp599 : r542 = true
            · have h := if_pos' hp599 h
              refine g_false (c := trellislaw11_still_c52) rfl _ rfl ((nf hp599)) ?_
              refine g_skip (c := trellislaw11_still_c54) rfl ?_
              refine g_inBlock ?_
              refine g_region (c := trellislaw11_still_c49) rfl rfl ?_
              refine wl_v 0 rfl (v_move rfl) gn rfl ?_
              refine wl_v 1 rfl (v_bin rfl rfl rfl) gn rfl ?_
              refine wl_v 2 rfl (v_assign rfl) gn rfl ?_
              refine w_end 3 rfl ?_
              refine g_inLoop ?_
              have ih := Out.inl hO2 h
              exact g_go [0, 1] (ih ()) ⟨rfl, rfl, rfl, trivial⟩ (.cons_cons _ (.cons_cons _ (.slnil))) rfl
            · have h := if_neg' hp599 h
              refine g_true (c := trellislaw11_still_c52) rfl _ rfl ((nt (bf hp599))) ?_
              refine g_seq (c := trellislaw11_still_c53) rfl ?_
              refine g_region (c := trellislaw11_still_c55) rfl rfl ?_
              refine wl_v 0 rfl (v_assign rfl) gn rfl ?_
              refine w_end 1 rfl ?_
              have h := Out.inr hO2 h
              have h := Out.inr hO1 h
              refine g_retR (c := trellislaw11_still_c56) [.bool false] rfl Try.func14 rfl (.tmp rfl (.nil)) fun wr hLr => ?_
              have hMr : B.Loc w wr [] [St w []] := hLr.pick (rest := [.box gb29 26 [.slice A15 n16 c17, .slice A19 n20 c21, .slice A23 n24 c25], .box gb27 26 [.slice A2 n3 c4, .slice A6 n7 c8, .slice A10 n11 c12]]) (perm_of_idx [] [0, 1] rfl rfl (by kernel_rfl)) (sels [1] rfl)
              have hMi : ∀ e ∈ ([] : List Ent), e ∈ ([.box gb29 26 [.slice A15 n16 c17, .slice A19 n20 c21, .slice A23 n24 c25], .box gb27 26 [.slice A2 n3 c4, .slice A6 n7 c8, .slice A10 n11 c12]] : List Ent) := sels [] rfl
              show trellislaw11_still_R w F  r (.returned (packV [.bool false])) wr
              rw [h]
              exact ⟨rfl, hMr⟩
          · have h := if_neg' hp522 h
            refine g_false (c := trellislaw11_still_c45) rfl _ rfl ((decide_eq_false hp522)) ?_
            refine g_exit (c := trellislaw11_still_c47) [.code trellislaw11_still_c37] rfl rfl ?_
            refine g_seq (c := trellislaw11_still_c37) rfl ?_
            refine g_region (c := trellislaw11_still_c57) rfl rfl ?_
            refine wl_v 0 rfl (v_assign rfl) gn rfl ?_
            refine w_end 1 rfl ?_
            have h := Out.inr hO2 h
            have h := Out.inr hO1 h
            refine g_retR (c := trellislaw11_still_c58) [.bool true] rfl Try.func14 rfl (.tmp rfl (.nil)) fun wr hLr => ?_
            have hMr : B.Loc w wr [] [St w []] := hLr.pick (rest := [.box gb29 26 [.slice A15 n16 c17, .slice A19 n20 c21, .slice A23 n24 c25], .box gb27 26 [.slice A2 n3 c4, .slice A6 n7 c8, .slice A10 n11 c12]]) (perm_of_idx [] [0, 1] rfl rfl (by kernel_rfl)) (sels [1] rfl)
            have hMi : ∀ e ∈ ([] : List Ent), e ∈ ([.box gb29 26 [.slice A15 n16 c17, .slice A19 n20 c21, .slice A23 n24 c25], .box gb27 26 [.slice A2 n3 c4, .slice A6 n7 c8, .slice A10 n11 c12]] : List Ent) := sels [] rfl
            show trellislaw11_still_R w F  r (.returned (packV [.bool true])) wr
            rw [h]
            exact ⟨rfl, hMr⟩
        exact g_go [0, 1] (key2 _ h ()) ⟨rfl, rfl, rfl, trivial⟩ (.cons_cons _ (.cons_cons _ (.slnil))) rfl
      · have h := if_neg' hp363 h
        refine g_true (c := trellislaw11_still_c33) rfl _ rfl ((nt (bf hp363))) ?_
        refine g_seq (c := trellislaw11_still_c34) rfl ?_
        refine g_region (c := trellislaw11_still_c59) rfl rfl ?_
        refine wl_v 0 rfl (v_assign rfl) gn rfl ?_
        refine w_end 1 rfl ?_
        have h := Out.inr hO1 h
        refine g_retR (c := trellislaw11_still_c60) [.bool false] rfl Try.func14 rfl (.tmp rfl (.nil)) fun wr hLr => ?_
        have hMr : B.Loc w wr [] [St w []] := hLr.pick (rest := [.box gb29 26 [.slice A15 n16 c17, .slice A19 n20 c21, .slice A23 n24 c25], .box gb27 26 [.slice A2 n3 c4, .slice A6 n7 c8, .slice A10 n11 c12]]) (perm_of_idx [] [0, 1] rfl rfl (by kernel_rfl)) (sels [1] rfl)
        have hMi : ∀ e ∈ ([] : List Ent), e ∈ ([.box gb29 26 [.slice A15 n16 c17, .slice A19 n20 c21, .slice A23 n24 c25], .box gb27 26 [.slice A2 n3 c4, .slice A6 n7 c8, .slice A10 n11 c12]] : List Ent) := sels [] rfl
        show trellislaw11_still_R w F  r (.returned (packV [.bool false])) wr
        rw [h]
        exact ⟨rfl, hMr⟩
  exact g_go [0, 1] (key1 _ h ()) ⟨rfl, rfl, rfl, rfl, rfl, rfl, trivial⟩ (.cons_cons _ (.cons_cons _ (.slnil))) rfl
end Go.Proofs.Ytelafghkjlpojaa.K
