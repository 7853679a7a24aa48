/- What the machine's calls do, function by function, printed by my own tool. Condition of each: its relation holds of the answer, and what is handed in lies in memory as told. -/
import Derived.Test.YtoifgnogoddmlaaK2
set_option linter.unusedVariables false
set_option maxRecDepth 100000
set_option maxHeartbeats 4000000
namespace Go.Proofs.Ytoifgnogoddmlaa.K
open Go.Proofs.Ytoifgnogoddmlaa.B Go.Proofs.Ytoifgnogoddmlaa.R Go.RowKit
noncomputable abbrev trellisref32_Grow_c0 : Code := bodyOf Try.f17
noncomputable abbrev trellisref32_Grow_c1 : Code := Code.fst trellisref32_Grow_c0
noncomputable abbrev trellisref32_Grow_c2 : Code := Code.snd trellisref32_Grow_c0
noncomputable abbrev trellisref32_Grow_c3 : Code := Code.fst trellisref32_Grow_c2
noncomputable abbrev trellisref32_Grow_c4 : Code := Code.snd trellisref32_Grow_c2
noncomputable abbrev trellisref32_Grow_c5 : Code := Code.fst trellisref32_Grow_c4
noncomputable abbrev trellisref32_Grow_c6 : Code := Code.snd trellisref32_Grow_c4
noncomputable abbrev trellisref32_Grow_c7 : Code := Code.fst trellisref32_Grow_c6
noncomputable abbrev trellisref32_Grow_c8 : Code := Code.snd trellisref32_Grow_c6
noncomputable abbrev trellisref32_Grow_c9 : Code := Code.fst trellisref32_Grow_c7
noncomputable abbrev trellisref32_Grow_c10 : Code := Code.snd trellisref32_Grow_c7
noncomputable abbrev trellisref32_Grow_c11 : Code := Code.fst trellisref32_Grow_c10
noncomputable abbrev trellisref32_Grow_c12 : Code := Code.fst trellisref32_Grow_c11
noncomputable abbrev trellisref32_Grow_c13 : Code := Code.fst trellisref32_Grow_c12
noncomputable abbrev trellisref32_Grow_c14 : Code := Code.snd trellisref32_Grow_c12
noncomputable abbrev trellisref32_Grow_c15 : Code := Code.fst trellisref32_Grow_c13
noncomputable abbrev trellisref32_Grow_c16 : Code := Code.snd trellisref32_Grow_c13
noncomputable abbrev trellisref32_Grow_c17 : Code := Code.fst trellisref32_Grow_c16
noncomputable abbrev trellisref32_Grow_c18 : Code := Code.snd trellisref32_Grow_c16
noncomputable abbrev trellisref32_Grow_c19 : Code := Code.fst trellisref32_Grow_c14
noncomputable abbrev trellisref32_Grow_c20 : Code := Code.snd trellisref32_Grow_c14
noncomputable abbrev trellisref32_Grow_c21 : Code := Code.fst trellisref32_Grow_c19
noncomputable abbrev trellisref32_Grow_c22 : Code := Code.fst trellisref32_Grow_c21
noncomputable abbrev trellisref32_Grow_c23 : Code := Code.snd trellisref32_Grow_c21
noncomputable abbrev trellisref32_Grow_c24 : Code := Code.fst trellisref32_Grow_c23
noncomputable abbrev trellisref32_Grow_c25 : Code := Code.snd trellisref32_Grow_c23
noncomputable abbrev trellisref32_Grow_c26 : Code := Code.fst trellisref32_Grow_c25
noncomputable abbrev trellisref32_Grow_c27 : Code := Code.snd trellisref32_Grow_c25
noncomputable abbrev trellisref32_Grow_c28 : Code := Code.fst trellisref32_Grow_c8
noncomputable abbrev trellisref32_Grow_c29 : Code := Code.snd trellisref32_Grow_c8
abbrev trellisref32_Grow_R (w : World) (F : Nat → Prop) (r : api_Range) : Ending → World → Prop := fun e w' => e = .returned (.agg #[.int .i64 r.from_, .int .i64 r.to]) ∧ B.Loc w w' [] [St w []]
noncomputable abbrev trellisref32_Grow_C (w : World) (F : Nat → Prop) (r : api_Range) : Cx := ⟨Try.prog, 17, Try.f17, 48, trellisref32_Grow_R w F  r, w⟩
theorem trellisref32_Grow_calls (w : World) (F : Nat → Prop) (x1 : List api_Node) (x6 : api_Range) (A2 : Option Addr) (n3 : Nat) (c4 : Nat) (h5 : Rw k_api_Node w (St w []).av A2 n3 c4 x1) (hF : ∀ b, F b → b < w.heap.size ∧ ∀ o ∈ ([] : List (List Nat)), b ∉ o) (hL0 : B.Loc w w [] [Sm w.heap.size F w [], St w []]) (r : api_Range) (h : trellisref32_Grow x1 x6 r) : Calls Try.prog 17 #[.slice A2 n3 c4, .agg #[.int .i64 x6.from_, .int .i64 x6.to]] w (trellisref32_Grow_R w F  r) := by
  unfold trellisref32_Grow at h
  refine calls_of_Loc (vs := [.slice A2 n3 c4, .agg #[.int .i64 x6.from_, .int .i64 x6.to]]) 48 Try.func17 rfl Try.ntmps17 rfl hL0 ?_
  show G (trellisref32_Grow_C w F r) _ _ _ _
  refine g_seq (c := trellisref32_Grow_c0) rfl ?_
  refine g_region (c := trellisref32_Grow_c1) rfl rfl ?_
  refine wl_s 0 rfl (s_box [.int .i64 x6.from_, .int .i64 x6.to] rfl rfl rfl fun gb7 => ?_) gn
  refine wl_s 1 rfl (s_alloc [.int .i64 0, .int .i64 0] zr_24 rfl fun gb9 => ?_) gn
  refine w_end 2 rfl ?_
  refine g_seq (c := trellisref32_Grow_c2) rfl ?_
  refine g_region (c := trellisref32_Grow_c3) rfl rfl ?_
  refine wl_v 0 rfl (v_ldB [.int .i64 x6.from_, .int .i64 x6.to] 1 ld_24 rfl rfl rfl rfl) gn rfl ?_
  obtain ⟨r14, hv15, h⟩ := h
  refine wl_s 1 rfl (s_call [.agg #[.int .i64 x6.from_, .int .i64 x6.to]] rfl Try.func39 rfl rfl rfl fun w11 hL12 => ?_) gn
  have hp13 : List.Perm ([.box gb9 24 [.int .i64 0, .int .i64 0], .box gb7 24 [.int .i64 x6.from_, .int .i64 x6.to]] : List Ent) (([] : List Ent) ++ ([.box gb9 24 [.int .i64 0, .int .i64 0], .box gb7 24 [.int .i64 x6.from_, .int .i64 x6.to]] : List Ent)) := perm_of_idx [] [0, 1] rfl rfl (by kernel_rfl)
  refine Calls.mono (trellisref32_taken_calls w11 (Fl ([] : List Snap)) x6 (hL12.hFl (Sl := ([] : List Snap)) hp13 (sels [] rfl)) (hL12.into hp13 (Fl ([] : List Snap))) r14 hv15) ?_
  rintro _ w16 ⟨rfl, hM17⟩
  have hL18 := hL12.call hp13 hM17
  refine ⟨_, _, _, rfl, hL18, ?_⟩
  refine wl_s 2 rfl (s_alloc [.int .i64 0, .int .i64 0] zr_24 rfl fun gb19 => ?_) gn
  refine wl_s 3 rfl (s_stB (vs := [.int .i64 r14.from_, .int .i64 r14.to]) (cs' := [.int .i64 r14.from_, .int .i64 r14.to]) (M' := [.box gb19 24 [.int .i64 r14.from_, .int .i64 r14.to], .box gb9 24 [.int .i64 0, .int .i64 0], .box gb7 24 [.int .i64 x6.from_, .int .i64 x6.to]]) 0 sz_24 rfl rfl rfl rfl rfl rfl rfl rfl rfl ?_) gn
  refine w_end 4 rfl ?_
  refine g_seq (c := trellisref32_Grow_c4) rfl ?_
  refine g_region (c := trellisref32_Grow_c5) rfl rfl ?_
  refine wl_v 0 rfl (v_move rfl) gn rfl ?_
  refine wl_v 1 rfl (v_ldB [.int .i64 x6.from_, .int .i64 x6.to] 2 ld_24 rfl rfl rfl rfl) gn rfl ?_
  obtain ⟨r24, hv25, h⟩ := h
  refine wl_s 2 rfl (s_call [.agg #[.int .i64 x6.from_, .int .i64 x6.to]] rfl Try.func39 rfl rfl rfl fun w21 hL22 => ?_) gn
  have hp23 : List.Perm ([.box gb19 24 [.int .i64 r14.from_, .int .i64 r14.to], .box gb9 24 [.int .i64 0, .int .i64 0], .box gb7 24 [.int .i64 x6.from_, .int .i64 x6.to]] : List Ent) (([] : List Ent) ++ ([.box gb19 24 [.int .i64 r14.from_, .int .i64 r14.to], .box gb9 24 [.int .i64 0, .int .i64 0], .box gb7 24 [.int .i64 x6.from_, .int .i64 x6.to]] : List Ent)) := perm_of_idx [] [0, 1, 2] rfl rfl (by kernel_rfl)
  refine Calls.mono (trellisref32_taken_calls w21 (Fl ([] : List Snap)) x6 (hL22.hFl (Sl := ([] : List Snap)) hp23 (sels [] rfl)) (hL22.into hp23 (Fl ([] : List Snap))) r24 hv25) ?_
  rintro _ w26 ⟨rfl, hM27⟩
  have hL28 := hL22.call hp23 hM27
  refine ⟨_, _, _, rfl, hL28, ?_⟩
  obtain ⟨r32, hv33, h⟩ := h
  refine wl_s 3 rfl (s_call [.slice A2 n3 c4, .agg #[.int .i64 r24.from_, .int .i64 r24.to]] rfl Try.func40 rfl rfl rfl fun w29 hL30 => ?_) gn
  have hp31 : List.Perm ([.box gb19 24 [.int .i64 r14.from_, .int .i64 r14.to], .box gb9 24 [.int .i64 0, .int .i64 0], .box gb7 24 [.int .i64 x6.from_, .int .i64 x6.to]] : List Ent) (([] : List Ent) ++ ([.box gb19 24 [.int .i64 r14.from_, .int .i64 r14.to], .box gb9 24 [.int .i64 0, .int .i64 0], .box gb7 24 [.int .i64 x6.from_, .int .i64 x6.to]] : List Ent)) := perm_of_idx [] [0, 1, 2] rfl rfl (by kernel_rfl)
  refine Calls.mono (trellisref32_Way_calls w29 (Fl ([] : List Snap)) x1 r24 A2 n3 c4 (Rw.mono h5 (hL30.toSt hp31 (me 1 rfl))) (hL30.hFl (Sl := ([] : List Snap)) hp31 (sels [] rfl)) (hL30.into hp31 (Fl ([] : List Snap))) r32 hv33) ?_
  rintro _ w39 ⟨A34, n35, c36, rfl, hM40, h37⟩
  have hL41 := hL30.call hp31 hM40
  refine ⟨_, _, _, rfl, hL41, ?_⟩
  refine wl_v 4 rfl (v_assign rfl) gn rfl ?_
  refine w_end 5 rfl ?_
  refine g_seq (c := trellisref32_Grow_c6) rfl ?_
  refine g_seq (c := trellisref32_Grow_c7) rfl ?_
  refine g_region (c := trellisref32_Grow_c9) rfl rfl ?_
  refine wl_v 0 rfl (v_assign rfl) gn rfl ?_
  refine w_end 1 rfl ?_
  refine g_block (c := trellisref32_Grow_c10) rfl ?_
  refine g_loop (c := trellisref32_Grow_c11) rfl ?_
  have key1 : ∀ s, Rounds (fun (s : Int × Int × Int) o => trellisref32_Grow_b1 r32 x1 x6 s.1 s.2.1 s.2.2 o) s r → (fun (s : Int × Int × Int) => ∀ (_ : Unit), G (trellisref32_Grow_C w F r) [.code trellisref32_Grow_c12, .inLoop trellisref32_Grow_c12, .inBlock 0, .code trellisref32_Grow_c8] [(0, .slice A2 n3 c4), (3, .pointer (some ⟨gb7, 0, none⟩)), (4, .pointer (some ⟨gb9, 0, none⟩)), (5, .pointer (some ⟨gb19, 0, none⟩)), (6, .slice A34 n35 c36), (7, .int .i64 s.1)] [.own (.slice A34 n35 c36) 3 1 n35 (r32.flatMap (eI .i64)), .box gb19 24 [.int .i64 s.2.1, .int .i64 s.2.2], .box gb9 24 [.int .i64 0, .int .i64 0], .box gb7 24 [.int .i64 x6.from_, .int .i64 x6.to]] [Sm w.heap.size F w [], St w []]) s := by
    intro s hs
    refine Rounds.ind (mot := (fun (s : Int × Int × Int) => ∀ (_ : Unit), G (trellisref32_Grow_C w F r) [.code trellisref32_Grow_c12, .inLoop trellisref32_Grow_c12, .inBlock 0, .code trellisref32_Grow_c8] [(0, .slice A2 n3 c4), (3, .pointer (some ⟨gb7, 0, none⟩)), (4, .pointer (some ⟨gb9, 0, none⟩)), (5, .pointer (some ⟨gb19, 0, none⟩)), (6, .slice A34 n35 c36), (7, .int .i64 s.1)] [.own (.slice A34 n35 c36) 3 1 n35 (r32.flatMap (eI .i64)), .box gb19 24 [.int .i64 s.2.1, .int .i64 s.2.2], .box gb9 24 [.int .i64 0, .int .i64 0], .box gb7 24 [.int .i64 x6.from_, .int .i64 x6.to]] [Sm w.heap.size F w [], St w []])) ?_ hs
    clear hs s
    intro s o1 h hO1
    obtain ⟨x139, x140, x141⟩ := s
    show ∀ (_ : Unit), G (trellisref32_Grow_C w F r) [.code trellisref32_Grow_c12, .inLoop trellisref32_Grow_c12, .inBlock 0, .code trellisref32_Grow_c8] [(0, .slice A2 n3 c4), (3, .pointer (some ⟨gb7, 0, none⟩)), (4, .pointer (some ⟨gb9, 0, none⟩)), (5, .pointer (some ⟨gb19, 0, none⟩)), (6, .slice A34 n35 c36), (7, .int .i64 x139)] [.own (.slice A34 n35 c36) 3 1 n35 (r32.flatMap (eI .i64)), .box gb19 24 [.int .i64 x140, .int .i64 x141], .box gb9 24 [.int .i64 0, .int .i64 0], .box gb7 24 [.int .i64 x6.from_, .int .i64 x6.to]] [Sm w.heap.size F w [], St w []]
    intro _
    have h : trellisref32_Grow_b1 r32 x1 x6 x139 x140 x141 o1 := h
    unfold trellisref32_Grow_b1 at h
    refine g_seq (c := trellisref32_Grow_c12) rfl ?_
    refine g_seq (c := trellisref32_Grow_c13) rfl ?_
    refine g_region (c := trellisref32_Grow_c15) rfl rfl ?_
    refine wl_v 0 rfl (v_move rfl) gn rfl ?_
    refine wl_v 1 rfl (v_move rfl) gn rfl ?_
    refine wl_v 2 rfl (v_lenQ un_45 rfl (Ow.weak hL30.env.size h37).hq) gn rfl ?_
    refine wl_v 3 rfl (v_bin rfl rfl rfl) gn rfl ?_
    refine w_end 4 rfl ?_
    by_cases hp238 : x139 < (r32.length : Int)
    · have h := if_pos' hp238 h
      refine g_true (c := trellisref32_Grow_c16) rfl _ rfl ((decide_eq_true hp238)) ?_
      refine g_skip (c := trellisref32_Grow_c17) rfl ?_
      refine g_seq (c := trellisref32_Grow_c14) rfl ?_
      refine g_block (c := trellisref32_Grow_c19) rfl ?_
      refine g_seq (c := trellisref32_Grow_c21) rfl ?_
      refine g_region (c := trellisref32_Grow_c22) rfl rfl ?_
      refine wl_v 0 rfl (v_move rfl) gn rfl ?_
      refine wl_v 1 rfl (v_move rfl) gn rfl ?_
      refine wl_v 2 rfl (v_move rfl) gn rfl ?_
      obtain ⟨hb239, h⟩ := h
      refine wl_v 3 rfl (v_idxO slE_45 rfl rfl (Ow.weak hL30.env.size h37) hb239) gn rfl ?_
      refine wl_v 4 rfl (v_ldO1 (.int .i64 (ix r32 x139)) 0 ld_3 rfl rfl (fm_get0 (hlI .i64) hb239 rfl)) gn rfl ?_
      obtain ⟨hb240, h⟩ := h
      have hr241 := Rw.readF (s := St w []) (hl := hl_api_Node) (h1 := h1_api_Node) h5 hb240
      refine wl_v 5 rfl (v_idxR (s := St w []) slE_22 rfl rfl h5 hb240) gn rfl ?_
      refine wl_v 6 rfl (v_ldA (St w []) ld_39 rfl hr241 rfl (me 1 rfl)) gn rfl ?_
      refine wl_s 7 rfl (s_alloc [.string (⟨#[]⟩ : ByteArray), .bool false, .string (⟨#[]⟩ : ByteArray), .int .i64 0, .int .i64 0, .int .i64 0, .int .i64 0] zr_39 rfl fun gb242 => ?_) gn
      refine wl_s 8 rfl (s_stB (vs := [.string ((ix x1 (ix r32 x139)).name), .bool ((ix x1 (ix r32 x139)).named), .string ((ix x1 (ix r32 x139)).field), .int .i64 ((ix x1 (ix r32 x139)).from_), .int .i64 ((ix x1 (ix r32 x139)).to), .int .i64 ((ix x1 (ix r32 x139)).kids), .int .i64 ((ix x1 (ix r32 x139)).leaf)]) (cs' := [.string ((ix x1 (ix r32 x139)).name), .bool ((ix x1 (ix r32 x139)).named), .string ((ix x1 (ix r32 x139)).field), .int .i64 ((ix x1 (ix r32 x139)).from_), .int .i64 ((ix x1 (ix r32 x139)).to), .int .i64 ((ix x1 (ix r32 x139)).kids), .int .i64 ((ix x1 (ix r32 x139)).leaf)]) (M' := [.box gb242 39 [.string ((ix x1 (ix r32 x139)).name), .bool ((ix x1 (ix r32 x139)).named), .string ((ix x1 (ix r32 x139)).field), .int .i64 ((ix x1 (ix r32 x139)).from_), .int .i64 ((ix x1 (ix r32 x139)).to), .int .i64 ((ix x1 (ix r32 x139)).kids), .int .i64 ((ix x1 (ix r32 x139)).leaf)], .own (.slice A34 n35 c36) 3 1 n35 (r32.flatMap (eI .i64)), .box gb19 24 [.int .i64 x140, .int .i64 x141], .box gb9 24 [.int .i64 0, .int .i64 0], .box gb7 24 [.int .i64 x6.from_, .int .i64 x6.to]]) 0 sz_39 rfl rfl rfl rfl rfl rfl rfl rfl rfl ?_) gn
      refine w_end 9 rfl ?_
      refine g_seq (c := trellisref32_Grow_c23) rfl ?_
      obtain ⟨r247, hv248, h⟩ := h
      by_cases hp252 : (ix x1 (ix r32 x139)).from_ = r247.from_
      · have h := if_pos' hp252 h
        obtain ⟨r256, hv257, h⟩ := h
        have hns : Region.noSelect (Code.ops trellisref32_Grow_c24) = true := by kernel_rfl
        refine g_drawF (c := trellisref32_Grow_c24) [.box gb242 39 [.string ((ix x1 (ix r32 x139)).name), .bool ((ix x1 (ix r32 x139)).named), .string ((ix x1 (ix r32 x139)).field), .int .i64 ((ix x1 (ix r32 x139)).from_), .int .i64 ((ix x1 (ix r32 x139)).to), .int .i64 ((ix x1 (ix r32 x139)).kids), .int .i64 ((ix x1 (ix r32 x139)).leaf)], .own (.slice A34 n35 c36) 3 1 n35 (r32.flatMap (eI .i64)), .box gb19 24 [.int .i64 x140, .int .i64 x141], .box gb9 24 [.int .i64 0, .int .i64 0], .box gb7 24 [.int .i64 x6.from_, .int .i64 x6.to]] [Sm w.heap.size F w [], St w []] [] 14 rfl rfl mix rfl (.cons_cons _ (.cons_cons _ (.cons_cons _ (.cons_cons _ (.cons_cons _ (.slnil)))))) (sels [0, 1] rfl) ?_
        refine wf_v 0 rfl (v_fldB fo_39_3 rfl) gn rfl hns (by kernel_rfl) (by kernel_rfl) rfl rfl ?_
        refine wf_v 1 rfl (v_ldB1 0 ld_3 rfl rfl rfl) gn rfl hns (by kernel_rfl) (by kernel_rfl) rfl rfl ?_
        refine wf_v 2 rfl (v_ldB [.int .i64 x6.from_, .int .i64 x6.to] 4 ld_24 rfl rfl rfl rfl) gn rfl hns (by kernel_rfl) (by kernel_rfl) rfl rfl ?_
        refine wf_all [3] (by kernel_rfl) rfl ⟨on_s 3 rfl gn rfl (s_call [.agg #[.int .i64 x6.from_, .int .i64 x6.to]] rfl Try.func39 rfl rfl rfl fun w291 hL292 => ?_), trivial⟩
        have hp293 : List.Perm ([.box gb242 39 [.string ((ix x1 (ix r32 x139)).name), .bool ((ix x1 (ix r32 x139)).named), .string ((ix x1 (ix r32 x139)).field), .int .i64 ((ix x1 (ix r32 x139)).from_), .int .i64 ((ix x1 (ix r32 x139)).to), .int .i64 ((ix x1 (ix r32 x139)).kids), .int .i64 ((ix x1 (ix r32 x139)).leaf)], .own (.slice A34 n35 c36) 3 1 n35 (r32.flatMap (eI .i64)), .box gb19 24 [.int .i64 x140, .int .i64 x141], .box gb9 24 [.int .i64 0, .int .i64 0], .box gb7 24 [.int .i64 x6.from_, .int .i64 x6.to]] : List Ent) (([] : List Ent) ++ ([.box gb242 39 [.string ((ix x1 (ix r32 x139)).name), .bool ((ix x1 (ix r32 x139)).named), .string ((ix x1 (ix r32 x139)).field), .int .i64 ((ix x1 (ix r32 x139)).from_), .int .i64 ((ix x1 (ix r32 x139)).to), .int .i64 ((ix x1 (ix r32 x139)).kids), .int .i64 ((ix x1 (ix r32 x139)).leaf)], .own (.slice A34 n35 c36) 3 1 n35 (r32.flatMap (eI .i64)), .box gb19 24 [.int .i64 x140, .int .i64 x141], .box gb9 24 [.int .i64 0, .int .i64 0], .box gb7 24 [.int .i64 x6.from_, .int .i64 x6.to]] : List Ent)) := perm_of_idx [] [0, 1, 2, 3, 4] rfl rfl (by kernel_rfl)
        refine Calls.mono (trellisref32_taken_calls w291 (Fl ([] : List Snap)) x6 (hL292.hFl (Sl := ([] : List Snap)) hp293 (sels [] rfl)) (hL292.into hp293 (Fl ([] : List Snap))) r247 hv248) ?_
        rintro _ w294 ⟨rfl, hM295⟩
        have hL296 := hL292.call hp293 hM295
        refine ⟨_, _, _, rfl, hL296, ?_⟩
        refine ⟨sels [0, 1, 2, 3, 4] rfl, sels [0, 1] rfl, ?_⟩
        refine wf_v 4 rfl (v_field1 fd_24_0 rfl rfl) gn rfl hns (by kernel_rfl) (by kernel_rfl) rfl rfl ?_
        refine wf_v 5 rfl (v_bin rfl rfl rfl) gn rfl hns (by kernel_rfl) (by kernel_rfl) rfl rfl ?_
        refine wf_v 6 rfl (v_move rfl) gn rfl hns (by kernel_rfl) (by kernel_rfl) rfl rfl ?_
        refine wf_bool 34 rfl ((eqib hp252)) ?_
        refine wf_v 7 rfl (v_fldB fo_39_4 rfl) (gy 34 rfl rfl) rfl hns (by kernel_rfl) (by kernel_rfl) rfl rfl ?_
        refine wf_v 8 rfl (v_ldB1 0 ld_3 rfl rfl rfl) (gy 34 rfl rfl) rfl hns (by kernel_rfl) (by kernel_rfl) rfl rfl ?_
        refine wf_v 9 rfl (v_ldB [.int .i64 x6.from_, .int .i64 x6.to] 4 ld_24 rfl rfl rfl rfl) (gy 34 rfl rfl) rfl hns (by kernel_rfl) (by kernel_rfl) rfl rfl ?_
        refine wf_all [10] (by kernel_rfl) rfl ⟨on_s 10 rfl (gy 34 rfl rfl) rfl (s_call [.agg #[.int .i64 x6.from_, .int .i64 x6.to]] rfl Try.func39 rfl rfl rfl fun w303 hL304 => ?_), trivial⟩
        have hp305 : List.Perm ([.box gb242 39 [.string ((ix x1 (ix r32 x139)).name), .bool ((ix x1 (ix r32 x139)).named), .string ((ix x1 (ix r32 x139)).field), .int .i64 ((ix x1 (ix r32 x139)).from_), .int .i64 ((ix x1 (ix r32 x139)).to), .int .i64 ((ix x1 (ix r32 x139)).kids), .int .i64 ((ix x1 (ix r32 x139)).leaf)], .own (.slice A34 n35 c36) 3 1 n35 (r32.flatMap (eI .i64)), .box gb19 24 [.int .i64 x140, .int .i64 x141], .box gb9 24 [.int .i64 0, .int .i64 0], .box gb7 24 [.int .i64 x6.from_, .int .i64 x6.to]] : List Ent) (([] : List Ent) ++ ([.box gb242 39 [.string ((ix x1 (ix r32 x139)).name), .bool ((ix x1 (ix r32 x139)).named), .string ((ix x1 (ix r32 x139)).field), .int .i64 ((ix x1 (ix r32 x139)).from_), .int .i64 ((ix x1 (ix r32 x139)).to), .int .i64 ((ix x1 (ix r32 x139)).kids), .int .i64 ((ix x1 (ix r32 x139)).leaf)], .own (.slice A34 n35 c36) 3 1 n35 (r32.flatMap (eI .i64)), .box gb19 24 [.int .i64 x140, .int .i64 x141], .box gb9 24 [.int .i64 0, .int .i64 0], .box gb7 24 [.int .i64 x6.from_, .int .i64 x6.to]] : List Ent)) := perm_of_idx [] [0, 1, 2, 3, 4] rfl rfl (by kernel_rfl)
        refine Calls.mono (trellisref32_taken_calls w303 (Fl ([] : List Snap)) x6 (hL304.hFl (Sl := ([] : List Snap)) hp305 (sels [] rfl)) (hL304.into hp305 (Fl ([] : List Snap))) r256 hv257) ?_
        rintro _ w306 ⟨rfl, hM307⟩
        have hL308 := hL304.call hp305 hM307
        refine ⟨_, _, _, rfl, hL308, ?_⟩
        refine ⟨sels [0, 1, 2, 3, 4] rfl, sels [0, 1] rfl, ?_⟩
        refine wf_v 11 rfl (v_field1 fd_24_1 rfl rfl) (gy 34 rfl rfl) rfl hns (by kernel_rfl) (by kernel_rfl) rfl rfl ?_
        refine wf_v 12 rfl (v_bin rfl rfl rfl) (gy 34 rfl rfl) rfl hns (by kernel_rfl) (by kernel_rfl) rfl rfl ?_
        refine wf_v 13 rfl (v_pick (b := false) rfl rfl) gn rfl hns (by kernel_rfl) (by kernel_rfl) rfl rfl ?_
        refine wf_end (by kernel_rfl) ?_
        by_cases hp309 : (ix x1 (ix r32 x139)).to = r256.to
        · have h := if_pos' hp309 h
          refine g_false (c := trellisref32_Grow_c25) rfl _ rfl ((eqib hp309)) ?_
          refine g_skip (c := trellisref32_Grow_c27) rfl ?_
          refine g_inBlock ?_
          refine g_region (c := trellisref32_Grow_c20) rfl rfl ?_
          refine wl_v 0 rfl (v_move rfl) gn rfl ?_
          refine wl_v 1 rfl (v_bin rfl rfl rfl) gn rfl ?_
          refine wl_v 2 rfl (v_assign rfl) gn rfl ?_
          refine w_end 3 rfl ?_
          refine g_inLoop ?_
          have ih := Out.inl hO1 h
          exact g_go [0, 1] (ih ()) ⟨rfl, rfl, rfl, rfl, rfl, rfl, trivial⟩ (.cons _ (.cons_cons _ (.cons_cons _ (.cons_cons _ (.cons_cons _ (.slnil)))))) rfl
        · have h := if_neg' hp309 h
          refine g_true (c := trellisref32_Grow_c25) rfl _ rfl ((neib hp309)) ?_
          refine g_region (c := trellisref32_Grow_c26) rfl rfl ?_
          refine wl_v 0 rfl (v_fldB fo_39_3 rfl) gn rfl ?_
          refine wl_v 1 rfl (v_ldB1 0 ld_3 rfl rfl rfl) gn rfl ?_
          refine wl_v 2 rfl (v_fldB fo_39_4 rfl) gn rfl ?_
          refine wl_v 3 rfl (v_ldB1 0 ld_3 rfl rfl rfl) gn rfl ?_
          refine wl_v 4 rfl (v_build #[.int .i64 ((ix x1 (ix r32 x139)).from_), .int .i64 ((ix x1 (ix r32 x139)).to)] bd_24 rfl (by kernel_rfl)) gn rfl ?_
          refine wl_s 5 rfl (s_stB (vs := [.int .i64 ((ix x1 (ix r32 x139)).from_), .int .i64 ((ix x1 (ix r32 x139)).to)]) (cs' := [.int .i64 ((ix x1 (ix r32 x139)).from_), .int .i64 ((ix x1 (ix r32 x139)).to)]) (M' := [.box gb242 39 [.string ((ix x1 (ix r32 x139)).name), .bool ((ix x1 (ix r32 x139)).named), .string ((ix x1 (ix r32 x139)).field), .int .i64 ((ix x1 (ix r32 x139)).from_), .int .i64 ((ix x1 (ix r32 x139)).to), .int .i64 ((ix x1 (ix r32 x139)).kids), .int .i64 ((ix x1 (ix r32 x139)).leaf)], .own (.slice A34 n35 c36) 3 1 n35 (r32.flatMap (eI .i64)), .box gb19 24 [.int .i64 ((ix x1 (ix r32 x139)).from_), .int .i64 ((ix x1 (ix r32 x139)).to)], .box gb9 24 [.int .i64 0, .int .i64 0], .box gb7 24 [.int .i64 x6.from_, .int .i64 x6.to]]) 2 sz_24 rfl rfl rfl rfl rfl rfl rfl rfl rfl ?_) gn
          refine w_end 6 rfl ?_
          refine g_inBlock ?_
          refine g_region (c := trellisref32_Grow_c20) rfl rfl ?_
          refine wl_v 0 rfl (v_move rfl) gn rfl ?_
          refine wl_v 1 rfl (v_bin rfl rfl rfl) gn rfl ?_
          refine wl_v 2 rfl (v_assign rfl) gn rfl ?_
          refine w_end 3 rfl ?_
          refine g_inLoop ?_
          have ih := Out.inl hO1 h
          exact g_go [0, 1] (ih ()) ⟨rfl, rfl, rfl, rfl, rfl, rfl, trivial⟩ (.cons _ (.cons_cons _ (.cons_cons _ (.cons_cons _ (.cons_cons _ (.slnil)))))) rfl
      · have h := if_neg' hp252 h
        have hns : Region.noSelect (Code.ops trellisref32_Grow_c24) = true := by kernel_rfl
        refine g_drawF (c := trellisref32_Grow_c24) [.box gb242 39 [.string ((ix x1 (ix r32 x139)).name), .bool ((ix x1 (ix r32 x139)).named), .string ((ix x1 (ix r32 x139)).field), .int .i64 ((ix x1 (ix r32 x139)).from_), .int .i64 ((ix x1 (ix r32 x139)).to), .int .i64 ((ix x1 (ix r32 x139)).kids), .int .i64 ((ix x1 (ix r32 x139)).leaf)], .own (.slice A34 n35 c36) 3 1 n35 (r32.flatMap (eI .i64)), .box gb19 24 [.int .i64 x140, .int .i64 x141], .box gb9 24 [.int .i64 0, .int .i64 0], .box gb7 24 [.int .i64 x6.from_, .int .i64 x6.to]] [Sm w.heap.size F w [], St w []] [] 14 rfl rfl mix rfl (.cons_cons _ (.cons_cons _ (.cons_cons _ (.cons_cons _ (.cons_cons _ (.slnil)))))) (sels [0, 1] rfl) ?_
        refine wf_v 0 rfl (v_fldB fo_39_3 rfl) gn rfl hns (by kernel_rfl) (by kernel_rfl) rfl rfl ?_
        refine wf_v 1 rfl (v_ldB1 0 ld_3 rfl rfl rfl) gn rfl hns (by kernel_rfl) (by kernel_rfl) rfl rfl ?_
        refine wf_v 2 rfl (v_ldB [.int .i64 x6.from_, .int .i64 x6.to] 4 ld_24 rfl rfl rfl rfl) gn rfl hns (by kernel_rfl) (by kernel_rfl) rfl rfl ?_
        refine wf_all [3] (by kernel_rfl) rfl ⟨on_s 3 rfl gn rfl (s_call [.agg #[.int .i64 x6.from_, .int .i64 x6.to]] rfl Try.func39 rfl rfl rfl fun w328 hL329 => ?_), trivial⟩
        have hp330 : List.Perm ([.box gb242 39 [.string ((ix x1 (ix r32 x139)).name), .bool ((ix x1 (ix r32 x139)).named), .string ((ix x1 (ix r32 x139)).field), .int .i64 ((ix x1 (ix r32 x139)).from_), .int .i64 ((ix x1 (ix r32 x139)).to), .int .i64 ((ix x1 (ix r32 x139)).kids), .int .i64 ((ix x1 (ix r32 x139)).leaf)], .own (.slice A34 n35 c36) 3 1 n35 (r32.flatMap (eI .i64)), .box gb19 24 [.int .i64 x140, .int .i64 x141], .box gb9 24 [.int .i64 0, .int .i64 0], .box gb7 24 [.int .i64 x6.from_, .int .i64 x6.to]] : List Ent) (([] : List Ent) ++ ([.box gb242 39 [.string ((ix x1 (ix r32 x139)).name), .bool ((ix x1 (ix r32 x139)).named), .string ((ix x1 (ix r32 x139)).field), .int .i64 ((ix x1 (ix r32 x139)).from_), .int .i64 ((ix x1 (ix r32 x139)).to), .int .i64 ((ix x1 (ix r32 x139)).kids), .int .i64 ((ix x1 (ix r32 x139)).leaf)], .own (.slice A34 n35 c36) 3 1 n35 (r32.flatMap (eI .i64)), .box gb19 24 [.int .i64 x140, .int .i64 x141], .box gb9 24 [.int .i64 0, .int .i64 0], .box gb7 24 [.int .i64 x6.from_, .int .i64 x6.to]] : List Ent)) := perm_of_idx [] [0, 1, 2, 3, 4] rfl rfl (by kernel_rfl)
        refine Calls.mono (trellisref32_taken_calls w328 (Fl ([] : List Snap)) x6 (hL329.hFl (Sl := ([] : List Snap)) hp330 (sels [] rfl)) (hL329.into hp330 (Fl ([] : List Snap))) r247 hv248) ?_
        rintro _ w331 ⟨rfl, hM332⟩
        have hL333 := hL329.call hp330 hM332
        refine ⟨_, _, _, rfl, hL333, ?_⟩
        refine ⟨sels [0, 1, 2, 3, 4] rfl, sels [0, 1] rfl, ?_⟩
        refine wf_v 4 rfl (v_field1 fd_24_0 rfl rfl) gn rfl hns (by kernel_rfl) (by kernel_rfl) rfl rfl ?_
        refine wf_v 5 rfl (v_bin rfl rfl rfl) gn rfl hns (by kernel_rfl) (by kernel_rfl) rfl rfl ?_
        refine wf_v 6 rfl (v_move rfl) gn rfl hns (by kernel_rfl) (by kernel_rfl) rfl rfl ?_
        refine wf_bool 34 rfl ((neib hp252)) ?_
        refine wf_pass 7 rfl (ps 34 rfl rfl rfl) hns (by kernel_rfl) (by kernel_rfl) rfl rfl ?_
        refine wf_pass 8 rfl (ps 34 rfl rfl rfl) hns (by kernel_rfl) (by kernel_rfl) rfl rfl ?_
        refine wf_pass 9 rfl (ps 34 rfl rfl rfl) hns (by kernel_rfl) (by kernel_rfl) rfl rfl ?_
        refine wf_pass 10 rfl (ps 34 rfl rfl rfl) hns (by kernel_rfl) (by kernel_rfl) rfl rfl ?_
        refine wf_pass 11 rfl (ps 34 rfl rfl rfl) hns (by kernel_rfl) (by kernel_rfl) rfl rfl ?_
        refine wf_pass 12 rfl (ps 34 rfl rfl rfl) hns (by kernel_rfl) (by kernel_rfl) rfl rfl ?_
        refine wf_v 13 rfl (v_pick (b := true) rfl rfl) gn rfl hns (by kernel_rfl) (by kernel_rfl) rfl rfl ?_
        refine wf_end (by kernel_rfl) ?_
        refine g_true (c := trellisref32_Grow_c25) rfl _ rfl (rfl) ?_
        refine g_region (c := trellisref32_Grow_c26) rfl rfl ?_
        refine wl_v 0 rfl (v_fldB fo_39_3 rfl) gn rfl ?_
        refine wl_v 1 rfl (v_ldB1 0 ld_3 rfl rfl rfl) gn rfl ?_
        refine wl_v 2 rfl (v_fldB fo_39_4 rfl) gn rfl ?_
        refine wl_v 3 rfl (v_ldB1 0 ld_3 rfl rfl rfl) gn rfl ?_
        refine wl_v 4 rfl (v_build #[.int .i64 ((ix x1 (ix r32 x139)).from_), .int .i64 ((ix x1 (ix r32 x139)).to)] bd_24 rfl (by kernel_rfl)) gn rfl ?_
        refine wl_s 5 rfl (s_stB (vs := [.int .i64 ((ix x1 (ix r32 x139)).from_), .int .i64 ((ix x1 (ix r32 x139)).to)]) (cs' := [.int .i64 ((ix x1 (ix r32 x139)).from_), .int .i64 ((ix x1 (ix r32 x139)).to)]) (M' := [.box gb242 39 [.string ((ix x1 (ix r32 x139)).name), .bool ((ix x1 (ix r32 x139)).named), .string ((ix x1 (ix r32 x139)).field), .int .i64 ((ix x1 (ix r32 x139)).from_), .int .i64 ((ix x1 (ix r32 x139)).to), .int .i64 ((ix x1 (ix r32 x139)).kids), .int .i64 ((ix x1 (ix r32 x139)).leaf)], .own (.slice A34 n35 c36) 3 1 n35 (r32.flatMap (eI .i64)), .box gb19 24 [.int .i64 ((ix x1 (ix r32 x139)).from_), .int .i64 ((ix x1 (ix r32 x139)).to)], .box gb9 24 [.int .i64 0, .int .i64 0], .box gb7 24 [.int .i64 x6.from_, .int .i64 x6.to]]) 2 sz_24 rfl rfl rfl rfl rfl rfl rfl rfl rfl ?_) gn
        refine w_end 6 rfl ?_
        refine g_inBlock ?_
        refine g_region (c := trellisref32_Grow_c20) rfl rfl ?_
        refine wl_v 0 rfl (v_move rfl) gn rfl ?_
        refine wl_v 1 rfl (v_bin rfl rfl rfl) gn rfl ?_
        refine wl_v 2 rfl (v_assign rfl) gn rfl ?_
        refine w_end 3 rfl ?_
        refine g_inLoop ?_
        have ih := Out.inl hO1 h
        exact g_go [0, 1] (ih ()) ⟨rfl, rfl, rfl, rfl, rfl, rfl, trivial⟩ (.cons _ (.cons_cons _ (.cons_cons _ (.cons_cons _ (.cons_cons _ (.slnil)))))) rfl
    · have h := if_neg' hp238 h
      refine g_false (c := trellisref32_Grow_c16) rfl _ rfl ((decide_eq_false hp238)) ?_
      refine g_exit (c := trellisref32_Grow_c18) [.code trellisref32_Grow_c8] rfl rfl ?_
      refine g_seq (c := trellisref32_Grow_c8) rfl ?_
      refine g_region (c := trellisref32_Grow_c28) rfl rfl ?_
      refine wl_v 0 rfl (v_ldB [.int .i64 x140, .int .i64 x141] 1 ld_24 rfl rfl rfl rfl) gn rfl ?_
      refine wl_s 1 rfl (s_stB (vs := [.int .i64 x140, .int .i64 x141]) (cs' := [.int .i64 x140, .int .i64 x141]) (M' := [.own (.slice A34 n35 c36) 3 1 n35 (r32.flatMap (eI .i64)), .box gb19 24 [.int .i64 x140, .int .i64 x141], .box gb9 24 [.int .i64 x140, .int .i64 x141], .box gb7 24 [.int .i64 x6.from_, .int .i64 x6.to]]) 2 sz_24 rfl rfl rfl rfl rfl rfl rfl rfl rfl ?_) gn
      refine w_end 2 rfl ?_
      have h := Out.inr hO1 h
      refine g_retR (c := trellisref32_Grow_c29) [.agg #[.int .i64 x140, .int .i64 x141]] rfl Try.func17 rfl (.cell (cs := [.int .i64 x140, .int .i64 x141]) (us := [.int .i64 x140, .int .i64 x141]) 2 rfl ld_24 rfl rfl rfl (.nil)) fun wr hLr => ?_
      have hMr : B.Loc w wr [] [St w []] := hLr.pick (rest := [.own (.slice A34 n35 c36) 3 1 n35 (r32.flatMap (eI .i64)), .box gb19 24 [.int .i64 x140, .int .i64 x141], .box gb9 24 [.int .i64 x140, .int .i64 x141], .box gb7 24 [.int .i64 x6.from_, .int .i64 x6.to]]) (perm_of_idx [] [0, 1, 2, 3] rfl rfl (by kernel_rfl)) (sels [1] rfl)
      have hMi : ∀ e ∈ ([] : List Ent), e ∈ ([.own (.slice A34 n35 c36) 3 1 n35 (r32.flatMap (eI .i64)), .box gb19 24 [.int .i64 x140, .int .i64 x141], .box gb9 24 [.int .i64 x140, .int .i64 x141], .box gb7 24 [.int .i64 x6.from_, .int .i64 x6.to]] : List Ent) := sels [] rfl
      show trellisref32_Grow_R w F  r (.returned (packV [.agg #[.int .i64 x140, .int .i64 x141]])) wr
      rw [h]
      exact ⟨rfl, hMr⟩
  exact g_go [0, 1] (key1 _ h ()) ⟨rfl, rfl, rfl, rfl, rfl, rfl, trivial⟩ (.cons_cons _ (.cons_cons _ (.cons_cons _ (.cons_cons _ (.slnil))))) rfl
noncomputable abbrev trellisref32_Steps_c0 : Code := bodyOf Try.f15
noncomputable abbrev trellisref32_Steps_c1 : Code := Code.fst trellisref32_Steps_c0
noncomputable abbrev trellisref32_Steps_c2 : Code := Code.snd trellisref32_Steps_c0
noncomputable abbrev trellisref32_Steps_c3 : Code := Code.fst trellisref32_Steps_c2
noncomputable abbrev trellisref32_Steps_c4 : Code := Code.snd trellisref32_Steps_c2
noncomputable abbrev trellisref32_Steps_c5 : Code := Code.fst trellisref32_Steps_c4
noncomputable abbrev trellisref32_Steps_c6 : Code := Code.fst trellisref32_Steps_c5
noncomputable abbrev trellisref32_Steps_c7 : Code := Code.fst trellisref32_Steps_c6
noncomputable abbrev trellisref32_Steps_c8 : Code := Code.fst trellisref32_Steps_c7
noncomputable abbrev trellisref32_Steps_c9 : Code := Code.snd trellisref32_Steps_c7
noncomputable abbrev trellisref32_Steps_c10 : Code := Code.fst trellisref32_Steps_c9
noncomputable abbrev trellisref32_Steps_c11 : Code := Code.snd trellisref32_Steps_c9
noncomputable abbrev trellisref32_Steps_c12 : Code := Code.fst trellisref32_Steps_c11
noncomputable abbrev trellisref32_Steps_c13 : Code := Code.snd trellisref32_Steps_c11
noncomputable abbrev trellisref32_Steps_c14 : Code := Code.fst trellisref32_Steps_c12
noncomputable abbrev trellisref32_Steps_c15 : Code := Code.snd trellisref32_Steps_c12
noncomputable abbrev trellisref32_Steps_c16 : Code := Code.fst trellisref32_Steps_c15
noncomputable abbrev trellisref32_Steps_c17 : Code := Code.snd trellisref32_Steps_c15
noncomputable abbrev trellisref32_Steps_c18 : Code := Code.fst trellisref32_Steps_c16
noncomputable abbrev trellisref32_Steps_c19 : Code := Code.snd trellisref32_Steps_c16
abbrev trellisref32_Steps_R (w : World) (F : Nat → Prop) (r : List api_Range) : Ending → World → Prop := fun e w' => ∃ A0 : Option Addr, ∃ n0 : Nat, ∃ c0 : Nat, e = .returned (.slice A0 n0 c0) ∧ B.Loc w w' [.own (.slice A0 n0 c0) 24 2 n0 (r.flatMap enc_api_Range)] [St w []] ∧ Ow w.heap.size A0 n0 c0 r
noncomputable abbrev trellisref32_Steps_C (w : World) (F : Nat → Prop) (r : List api_Range) : Cx := ⟨Try.prog, 15, Try.f15, 28, trellisref32_Steps_R w F  r, w⟩
theorem trellisref32_Steps_calls (w : World) (F : Nat → Prop) (x1 : List api_Node) (x6 : api_Range) (A2 : Option Addr) (n3 : Nat) (c4 : Nat) (h5 : Rw k_api_Node w (St w []).av A2 n3 c4 x1) (hF : ∀ b, F b → b < w.heap.size ∧ ∀ o ∈ ([] : List (List Nat)), b ∉ o) (hL0 : B.Loc w w [] [Sm w.heap.size F w [], St w []]) (r : List api_Range) (h : trellisref32_Steps x1 x6 r) : Calls Try.prog 15 #[.slice A2 n3 c4, .agg #[.int .i64 x6.from_, .int .i64 x6.to]] w (trellisref32_Steps_R w F  r) := by
  unfold trellisref32_Steps at h
  refine calls_of_Loc (vs := [.slice A2 n3 c4, .agg #[.int .i64 x6.from_, .int .i64 x6.to]]) 28 Try.func15 rfl Try.ntmps15 rfl hL0 ?_
  show G (trellisref32_Steps_C w F r) _ _ _ _
  refine g_seq (c := trellisref32_Steps_c0) rfl ?_
  refine g_region (c := trellisref32_Steps_c1) rfl rfl ?_
  refine wl_s 0 rfl (s_box [.int .i64 x6.from_, .int .i64 x6.to] rfl rfl rfl fun gb7 => ?_) gn
  refine wl_v 1 rfl (v_assign rfl) gn rfl ?_
  refine w_end 2 rfl ?_
  refine g_seq (c := trellisref32_Steps_c2) rfl ?_
  refine g_region (c := trellisref32_Steps_c3) rfl rfl ?_
  refine wl_v 0 rfl (v_ldB [.int .i64 x6.from_, .int .i64 x6.to] 0 ld_24 rfl rfl rfl rfl) gn rfl ?_
  obtain ⟨r12, hv13, h⟩ := h
  refine wl_s 1 rfl (s_call [.agg #[.int .i64 x6.from_, .int .i64 x6.to]] rfl Try.func39 rfl rfl rfl fun w9 hL10 => ?_) gn
  have hp11 : List.Perm ([.box gb7 24 [.int .i64 x6.from_, .int .i64 x6.to]] : List Ent) (([] : List Ent) ++ ([.box gb7 24 [.int .i64 x6.from_, .int .i64 x6.to]] : List Ent)) := perm_of_idx [] [0] rfl rfl (by kernel_rfl)
  refine Calls.mono (trellisref32_taken_calls w9 (Fl ([] : List Snap)) x6 (hL10.hFl (Sl := ([] : List Snap)) hp11 (sels [] rfl)) (hL10.into hp11 (Fl ([] : List Snap))) r12 hv13) ?_
  rintro _ w14 ⟨rfl, hM15⟩
  have hL16 := hL10.call hp11 hM15
  refine ⟨_, _, _, rfl, hL16, ?_⟩
  refine wl_s 2 rfl (s_litO (xs := ([r12] : List api_Range)) [.int .i64 r12.from_, .int .i64 r12.to] bs_29_1 rfl (by kernel_rfl) rfl rfl rfl rfl fun gb18 h19 => ?_) gn
  refine wl_v 3 rfl (v_assign rfl) gn rfl ?_
  refine w_end 4 rfl ?_
  refine g_block (c := trellisref32_Steps_c4) rfl ?_
  refine g_loop (c := trellisref32_Steps_c5) rfl ?_
  have key1 : ∀ s, Rounds (fun (s : (List api_Range)) o => trellisref32_Steps_b1 x1 s o) s r → (fun (s : (List api_Range)) => ∀ (A45 : Option Addr) (n46 : Nat) (c47 : Nat) (h48 : Ow w.heap.size A45 n46 c47 s), G (trellisref32_Steps_C w F r) [.code trellisref32_Steps_c6, .inLoop trellisref32_Steps_c6, .inBlock 0] [(0, .slice A2 n3 c4), (5, .slice A45 n46 c47)] [.own (.slice A45 n46 c47) 24 2 n46 (s.flatMap enc_api_Range)] [Sm w.heap.size F w [], St w []]) s := by
    intro s hs
    refine Rounds.ind (mot := (fun (s : (List api_Range)) => ∀ (A45 : Option Addr) (n46 : Nat) (c47 : Nat) (h48 : Ow w.heap.size A45 n46 c47 s), G (trellisref32_Steps_C w F r) [.code trellisref32_Steps_c6, .inLoop trellisref32_Steps_c6, .inBlock 0] [(0, .slice A2 n3 c4), (5, .slice A45 n46 c47)] [.own (.slice A45 n46 c47) 24 2 n46 (s.flatMap enc_api_Range)] [Sm w.heap.size F w [], St w []])) ?_ hs
    clear hs s
    intro x44 o1 h hO1
    show ∀ (A45 : Option Addr) (n46 : Nat) (c47 : Nat) (h48 : Ow w.heap.size A45 n46 c47 x44), G (trellisref32_Steps_C w F r) [.code trellisref32_Steps_c6, .inLoop trellisref32_Steps_c6, .inBlock 0] [(0, .slice A2 n3 c4), (5, .slice A45 n46 c47)] [.own (.slice A45 n46 c47) 24 2 n46 (x44.flatMap enc_api_Range)] [Sm w.heap.size F w [], St w []]
    intro A45 n46 c47 h48
    have h : trellisref32_Steps_b1 x1 x44 o1 := h
    unfold trellisref32_Steps_b1 at h
    refine g_block (c := trellisref32_Steps_c6) rfl ?_
    refine g_seq (c := trellisref32_Steps_c7) rfl ?_
    refine g_region (c := trellisref32_Steps_c8) rfl rfl ?_
    refine wl_v 0 rfl (v_move rfl) gn rfl ?_
    refine wl_v 1 rfl (v_move rfl) gn rfl ?_
    refine wl_v 2 rfl (v_lenQ un_29 rfl h48.hq) gn rfl ?_
    refine wl_v 3 rfl (v_bin rfl rfl rfl) gn rfl ?_
    obtain ⟨hb72, h⟩ := h
    refine wl_v 4 rfl (v_idxO slE_29 rfl rfl h48 hb72) gn rfl ?_
    refine wl_v 5 rfl (v_ldO [.int .i64 ((ix x44 (w64 ((x44.length : Int) - 1))).from_), .int .i64 ((ix x44 (w64 ((x44.length : Int) - 1))).to)] 0 ld_24 rfl rfl (fm_one hl_api_Range hb72) rfl) gn rfl ?_
    refine wl_s 6 rfl (s_alloc [.int .i64 0, .int .i64 0] zr_24 rfl fun gb73 => ?_) gn
    refine wl_s 7 rfl (s_stB (vs := [.int .i64 ((ix x44 (w64 ((x44.length : Int) - 1))).from_), .int .i64 ((ix x44 (w64 ((x44.length : Int) - 1))).to)]) (cs' := [.int .i64 ((ix x44 (w64 ((x44.length : Int) - 1))).from_), .int .i64 ((ix x44 (w64 ((x44.length : Int) - 1))).to)]) (M' := [.box gb73 24 [.int .i64 ((ix x44 (w64 ((x44.length : Int) - 1))).from_), .int .i64 ((ix x44 (w64 ((x44.length : Int) - 1))).to)], .own (.slice A45 n46 c47) 24 2 n46 (x44.flatMap enc_api_Range)]) 0 sz_24 rfl rfl rfl rfl rfl rfl rfl rfl rfl ?_) gn
    refine w_end 8 rfl ?_
    refine g_seq (c := trellisref32_Steps_c9) rfl ?_
    refine g_region (c := trellisref32_Steps_c10) rfl rfl ?_
    refine wl_v 0 rfl (v_move rfl) gn rfl ?_
    refine wl_v 1 rfl (v_ldB [.int .i64 ((ix x44 (w64 ((x44.length : Int) - 1))).from_), .int .i64 ((ix x44 (w64 ((x44.length : Int) - 1))).to)] 0 ld_24 rfl rfl rfl rfl) gn rfl ?_
    obtain ⟨r78, hv79, h⟩ := h
    refine wl_s 2 rfl (s_call [.slice A2 n3 c4, .agg #[.int .i64 ((ix x44 (w64 ((x44.length : Int) - 1))).from_), .int .i64 ((ix x44 (w64 ((x44.length : Int) - 1))).to)]] rfl Try.func17 rfl rfl rfl fun w75 hL76 => ?_) gn
    have hp77 : List.Perm ([.box gb73 24 [.int .i64 ((ix x44 (w64 ((x44.length : Int) - 1))).from_), .int .i64 ((ix x44 (w64 ((x44.length : Int) - 1))).to)], .own (.slice A45 n46 c47) 24 2 n46 (x44.flatMap enc_api_Range)] : List Ent) (([] : List Ent) ++ ([.box gb73 24 [.int .i64 ((ix x44 (w64 ((x44.length : Int) - 1))).from_), .int .i64 ((ix x44 (w64 ((x44.length : Int) - 1))).to)], .own (.slice A45 n46 c47) 24 2 n46 (x44.flatMap enc_api_Range)] : List Ent)) := perm_of_idx [] [0, 1] rfl rfl (by kernel_rfl)
    refine Calls.mono (trellisref32_Grow_calls w75 (Fl ([] : List Snap)) x1 (ix x44 (w64 ((x44.length : Int) - 1))) A2 n3 c4 (Rw.mono h5 (hL76.toSt hp77 (me 1 rfl))) (hL76.hFl (Sl := ([] : List Snap)) hp77 (sels [] rfl)) (hL76.into hp77 (Fl ([] : List Snap))) r78 hv79) ?_
    rintro _ w80 ⟨rfl, hM81⟩
    have hL82 := hL76.call hp77 hM81
    refine ⟨_, _, _, rfl, hL82, ?_⟩
    refine wl_s 3 rfl (s_alloc [.int .i64 0, .int .i64 0] zr_24 rfl fun gb83 => ?_) gn
    refine wl_s 4 rfl (s_stB (vs := [.int .i64 r78.from_, .int .i64 r78.to]) (cs' := [.int .i64 r78.from_, .int .i64 r78.to]) (M' := [.box gb83 24 [.int .i64 r78.from_, .int .i64 r78.to], .box gb73 24 [.int .i64 ((ix x44 (w64 ((x44.length : Int) - 1))).from_), .int .i64 ((ix x44 (w64 ((x44.length : Int) - 1))).to)], .own (.slice A45 n46 c47) 24 2 n46 (x44.flatMap enc_api_Range)]) 0 sz_24 rfl rfl rfl rfl rfl rfl rfl rfl rfl ?_) gn
    refine w_end 5 rfl ?_
    refine g_seq (c := trellisref32_Steps_c11) rfl ?_
    refine g_seq (c := trellisref32_Steps_c12) rfl ?_
    refine g_region (c := trellisref32_Steps_c14) rfl rfl ?_
    refine wl_v 0 rfl (v_ldB [.int .i64 r78.from_, .int .i64 r78.to] 0 ld_24 rfl rfl rfl rfl) gn rfl ?_
    refine wl_v 1 rfl (v_ldB [.int .i64 ((ix x44 (w64 ((x44.length : Int) - 1))).from_), .int .i64 ((ix x44 (w64 ((x44.length : Int) - 1))).to)] 1 ld_24 rfl rfl rfl rfl) gn rfl ?_
    refine wl_v 2 rfl (v_eqSt eq_24 rfl rfl (eqd_api_Range r78 (ix x44 (w64 ((x44.length : Int) - 1))))) gn rfl ?_
    refine w_end 3 rfl ?_
    by_cases hp85 : r78 = ix x44 (w64 ((x44.length : Int) - 1))
    · have h := if_pos' hp85 h
      refine g_true (c := trellisref32_Steps_c15) rfl _ rfl ((decide_eq_true hp85)) ?_
      refine g_seq (c := trellisref32_Steps_c16) rfl ?_
      refine g_region (c := trellisref32_Steps_c18) rfl rfl ?_
      refine wl_v 0 rfl (v_move rfl) gn rfl ?_
      refine wl_v 1 rfl (v_assign rfl) gn rfl ?_
      refine w_end 2 rfl ?_
      have h := Out.inr hO1 h
      refine g_retR (c := trellisref32_Steps_c19) [.slice A45 n46 c47] rfl Try.func15 rfl (.tmp rfl (.nil)) fun wr hLr => ?_
      have hMr : B.Loc w wr [.own (.slice A45 n46 c47) 24 2 n46 (x44.flatMap enc_api_Range)] [St w []] := hLr.pick (rest := [.box gb83 24 [.int .i64 r78.from_, .int .i64 r78.to], .box gb73 24 [.int .i64 ((ix x44 (w64 ((x44.length : Int) - 1))).from_), .int .i64 ((ix x44 (w64 ((x44.length : Int) - 1))).to)]]) (perm_of_idx [2] [0, 1] rfl rfl (by kernel_rfl)) (sels [1] rfl)
      have hMi : ∀ e ∈ ([.own (.slice A45 n46 c47) 24 2 n46 (x44.flatMap enc_api_Range)] : List Ent), e ∈ ([.box gb83 24 [.int .i64 r78.from_, .int .i64 r78.to], .box gb73 24 [.int .i64 ((ix x44 (w64 ((x44.length : Int) - 1))).from_), .int .i64 ((ix x44 (w64 ((x44.length : Int) - 1))).to)], .own (.slice A45 n46 c47) 24 2 n46 (x44.flatMap enc_api_Range)] : List Ent) := sels [2] rfl
      show trellisref32_Steps_R w F  r (.returned (packV [.slice A45 n46 c47])) wr
      rw [h]
      exact ⟨A45, n46, c47, rfl, hMr, h48⟩
    · have h := if_neg' hp85 h
      refine g_false (c := trellisref32_Steps_c15) rfl _ rfl ((decide_eq_false hp85)) ?_
      refine g_skip (c := trellisref32_Steps_c17) rfl ?_
      refine g_region (c := trellisref32_Steps_c13) rfl rfl ?_
      refine wl_v 0 rfl (v_move rfl) gn rfl ?_
      refine wl_v 1 rfl (v_ldB [.int .i64 r78.from_, .int .i64 r78.to] 0 ld_24 rfl rfl rfl rfl) gn rfl ?_
      refine wl_s 2 rfl (s_litO (xs := ([r78] : List api_Range)) [.int .i64 r78.from_, .int .i64 r78.to] bs_29_1 rfl (by kernel_rfl) rfl rfl rfl rfl fun gb87 h88 => ?_) gn
      obtain ⟨x92, hv93, h⟩ := h
      obtain ⟨hb94, h⟩ := h
      refine wl_s 3 rfl (s_app (zs := x92) (cells' := x92.flatMap enc_api_Range) 3 ap_29 rfl rfl rfl h48 (Nat.le_refl _) (Src.ownF (hl := hl_api_Range) (h1 := h1_api_Range) 0 rfl h88) (by rw [hv93, List.flatMap_append] <;> rfl) (app_len hv93 h88.hq) hb94 rfl rfl fun A89 c90 h91 => ?_) gn
      refine wl_v 4 rfl (v_assign rfl) gn rfl ?_
      refine w_end 5 rfl ?_
      refine g_inBlock ?_
      refine g_inLoop ?_
      have ih := Out.inl hO1 h
      exact g_go [0, 1] (ih A89 (n46 + 1) c90 h91) ⟨rfl, rfl, trivial⟩ (.cons _ (.cons _ (.cons _ (.cons_cons _ (.slnil))))) rfl
  exact g_go [0, 1] (key1 _ h (some ⟨gb18, 0, none⟩) 1 1 h19) ⟨rfl, rfl, trivial⟩ (.cons_cons _ (.cons _ (.slnil))) rfl
noncomputable abbrev trellisref32_Cover_c0 : Code := bodyOf Try.f16
noncomputable abbrev trellisref32_Cover_c1 : Code := Code.fst trellisref32_Cover_c0
noncomputable abbrev trellisref32_Cover_c2 : Code := Code.snd trellisref32_Cover_c0
noncomputable abbrev trellisref32_Cover_c3 : Code := Code.fst trellisref32_Cover_c2
noncomputable abbrev trellisref32_Cover_c4 : Code := Code.snd trellisref32_Cover_c2
noncomputable abbrev trellisref32_Cover_c5 : Code := Code.fst trellisref32_Cover_c4
noncomputable abbrev trellisref32_Cover_c6 : Code := Code.snd trellisref32_Cover_c4
noncomputable abbrev trellisref32_Cover_c7 : Code := Code.fst trellisref32_Cover_c5
noncomputable abbrev trellisref32_Cover_c8 : Code := Code.snd trellisref32_Cover_c5
noncomputable abbrev trellisref32_Cover_c9 : Code := Code.fst trellisref32_Cover_c8
noncomputable abbrev trellisref32_Cover_c10 : Code := Code.snd trellisref32_Cover_c8
noncomputable abbrev trellisref32_Cover_c11 : Code := Code.fst trellisref32_Cover_c9
noncomputable abbrev trellisref32_Cover_c12 : Code := Code.snd trellisref32_Cover_c9
noncomputable abbrev trellisref32_Cover_c13 : Code := Code.fst trellisref32_Cover_c6
noncomputable abbrev trellisref32_Cover_c14 : Code := Code.snd trellisref32_Cover_c6
abbrev trellisref32_Cover_R (w : World) (F : Nat → Prop) (r : Int) : Ending → World → Prop := fun e w' => e = .returned (.int .i64 r) ∧ B.Loc w w' [] [St w []]
noncomputable abbrev trellisref32_Cover_C (w : World) (F : Nat → Prop) (r : Int) : Cx := ⟨Try.prog, 16, Try.f16, 19, trellisref32_Cover_R w F  r, w⟩
theorem trellisref32_Cover_calls (w : World) (F : Nat → Prop) (x1 : List api_Node) (x6 : api_Range) (A2 : Option Addr) (n3 : Nat) (c4 : Nat) (h5 : Rw k_api_Node w (St w []).av A2 n3 c4 x1) (hF : ∀ b, F b → b < w.heap.size ∧ ∀ o ∈ ([] : List (List Nat)), b ∉ o) (hL0 : B.Loc w w [] [Sm w.heap.size F w [], St w []]) (r : Int) (h : trellisref32_Cover x1 x6 r) : Calls Try.prog 16 #[.slice A2 n3 c4, .agg #[.int .i64 x6.from_, .int .i64 x6.to]] w (trellisref32_Cover_R w F  r) := by
  unfold trellisref32_Cover at h
  refine calls_of_Loc (vs := [.slice A2 n3 c4, .agg #[.int .i64 x6.from_, .int .i64 x6.to]]) 19 Try.func16 rfl Try.ntmps16 rfl hL0 ?_
  show G (trellisref32_Cover_C w F r) _ _ _ _
  refine g_seq (c := trellisref32_Cover_c0) rfl ?_
  refine g_region (c := trellisref32_Cover_c1) rfl rfl ?_
  refine wl_s 0 rfl (s_box [.int .i64 x6.from_, .int .i64 x6.to] rfl rfl rfl fun gb7 => ?_) gn
  refine wl_v 1 rfl (v_assign rfl) gn rfl ?_
  refine w_end 2 rfl ?_
  refine g_seq (c := trellisref32_Cover_c2) rfl ?_
  refine g_region (c := trellisref32_Cover_c3) rfl rfl ?_
  refine wl_v 0 rfl (v_move rfl) gn rfl ?_
  refine wl_v 1 rfl (v_ldB [.int .i64 x6.from_, .int .i64 x6.to] 0 ld_24 rfl rfl rfl rfl) gn rfl ?_
  obtain ⟨r12, hv13, h⟩ := h
  refine wl_s 2 rfl (s_call [.agg #[.int .i64 x6.from_, .int .i64 x6.to]] rfl Try.func39 rfl rfl rfl fun w9 hL10 => ?_) gn
  have hp11 : List.Perm ([.box gb7 24 [.int .i64 x6.from_, .int .i64 x6.to]] : List Ent) (([] : List Ent) ++ ([.box gb7 24 [.int .i64 x6.from_, .int .i64 x6.to]] : List Ent)) := perm_of_idx [] [0] rfl rfl (by kernel_rfl)
  refine Calls.mono (trellisref32_taken_calls w9 (Fl ([] : List Snap)) x6 (hL10.hFl (Sl := ([] : List Snap)) hp11 (sels [] rfl)) (hL10.into hp11 (Fl ([] : List Snap))) r12 hv13) ?_
  rintro _ w14 ⟨rfl, hM15⟩
  have hL16 := hL10.call hp11 hM15
  refine ⟨_, _, _, rfl, hL16, ?_⟩
  obtain ⟨r20, hv21, h⟩ := h
  refine wl_s 3 rfl (s_call [.slice A2 n3 c4, .agg #[.int .i64 r12.from_, .int .i64 r12.to]] rfl Try.func40 rfl rfl rfl fun w17 hL18 => ?_) gn
  have hp19 : List.Perm ([.box gb7 24 [.int .i64 x6.from_, .int .i64 x6.to]] : List Ent) (([] : List Ent) ++ ([.box gb7 24 [.int .i64 x6.from_, .int .i64 x6.to]] : List Ent)) := perm_of_idx [] [0] rfl rfl (by kernel_rfl)
  refine Calls.mono (trellisref32_Way_calls w17 (Fl ([] : List Snap)) x1 r12 A2 n3 c4 (Rw.mono h5 (hL18.toSt hp19 (me 1 rfl))) (hL18.hFl (Sl := ([] : List Snap)) hp19 (sels [] rfl)) (hL18.into hp19 (Fl ([] : List Snap))) r20 hv21) ?_
  rintro _ w27 ⟨A22, n23, c24, rfl, hM28, h25⟩
  have hL29 := hL18.call hp19 hM28
  refine ⟨_, _, _, rfl, hL29, ?_⟩
  refine wl_v 4 rfl (v_assign rfl) gn rfl ?_
  refine w_end 5 rfl ?_
  refine g_seq (c := trellisref32_Cover_c4) rfl ?_
  refine g_seq (c := trellisref32_Cover_c5) rfl ?_
  refine g_region (c := trellisref32_Cover_c7) rfl rfl ?_
  refine wl_v 0 rfl (v_move rfl) gn rfl ?_
  refine wl_v 1 rfl (v_lenQ un_45 rfl (Ow.weak hL18.env.size h25).hq) gn rfl ?_
  refine wl_v 2 rfl (v_bin rfl rfl rfl) gn rfl ?_
  refine w_end 3 rfl ?_
  by_cases hp30 : (r20.length : Int) = 0
  · have h := if_pos' hp30 h
    refine g_true (c := trellisref32_Cover_c8) rfl _ rfl ((eqi hp30)) ?_
    refine g_seq (c := trellisref32_Cover_c9) rfl ?_
    refine g_region (c := trellisref32_Cover_c11) rfl rfl ?_
    refine wl_v 0 rfl (v_assign rfl) gn rfl ?_
    refine w_end 1 rfl ?_
    refine g_retR (c := trellisref32_Cover_c12) [.int .i64 (-1)] rfl Try.func16 rfl (.tmp rfl (.nil)) fun wr hLr => ?_
    have hMr : B.Loc w wr [] [St w []] := hLr.pick (rest := [.own (.slice A22 n23 c24) 3 1 n23 (r20.flatMap (eI .i64)), .box gb7 24 [.int .i64 x6.from_, .int .i64 x6.to]]) (perm_of_idx [] [0, 1] rfl rfl (by kernel_rfl)) (sels [1] rfl)
    have hMi : ∀ e ∈ ([] : List Ent), e ∈ ([.own (.slice A22 n23 c24) 3 1 n23 (r20.flatMap (eI .i64)), .box gb7 24 [.int .i64 x6.from_, .int .i64 x6.to]] : List Ent) := sels [] rfl
    show trellisref32_Cover_R w F  r (.returned (packV [.int .i64 (-1)])) wr
    rw [h]
    exact ⟨rfl, hMr⟩
  · have h := if_neg' hp30 h
    refine g_false (c := trellisref32_Cover_c8) rfl _ rfl ((nei hp30)) ?_
    refine g_skip (c := trellisref32_Cover_c10) rfl ?_
    refine g_seq (c := trellisref32_Cover_c6) rfl ?_
    refine g_region (c := trellisref32_Cover_c13) rfl rfl ?_
    refine wl_v 0 rfl (v_move rfl) gn rfl ?_
    refine wl_v 1 rfl (v_move rfl) gn rfl ?_
    refine wl_v 2 rfl (v_lenQ un_45 rfl (Ow.weak hL18.env.size h25).hq) gn rfl ?_
    refine wl_v 3 rfl (v_bin rfl rfl rfl) gn rfl ?_
    obtain ⟨hb31, h⟩ := h
    refine wl_v 4 rfl (v_idxO slE_45 rfl rfl (Ow.weak hL18.env.size h25) hb31) gn rfl ?_
    refine wl_v 5 rfl (v_ldO1 (.int .i64 (ix r20 (w64 ((r20.length : Int) - 1)))) 0 ld_3 rfl rfl (fm_get0 (hlI .i64) hb31 rfl)) gn rfl ?_
    refine wl_v 6 rfl (v_assign rfl) gn rfl ?_
    refine w_end 7 rfl ?_
    refine g_retR (c := trellisref32_Cover_c14) [.int .i64 (ix r20 (w64 ((r20.length : Int) - 1)))] rfl Try.func16 rfl (.tmp rfl (.nil)) fun wr hLr => ?_
    have hMr : B.Loc w wr [] [St w []] := hLr.pick (rest := [.own (.slice A22 n23 c24) 3 1 n23 (r20.flatMap (eI .i64)), .box gb7 24 [.int .i64 x6.from_, .int .i64 x6.to]]) (perm_of_idx [] [0, 1] rfl rfl (by kernel_rfl)) (sels [1] rfl)
    have hMi : ∀ e ∈ ([] : List Ent), e ∈ ([.own (.slice A22 n23 c24) 3 1 n23 (r20.flatMap (eI .i64)), .box gb7 24 [.int .i64 x6.from_, .int .i64 x6.to]] : List Ent) := sels [] rfl
    show trellisref32_Cover_R w F  r (.returned (packV [.int .i64 (ix r20 (w64 ((r20.length : Int) - 1)))])) wr
    rw [h]
    exact ⟨rfl, hMr⟩
noncomputable abbrev trellislaw32_sameRanges_c0 : Code := bodyOf Try.f18
noncomputable abbrev trellislaw32_sameRanges_c1 : Code := Code.fst trellislaw32_sameRanges_c0
noncomputable abbrev trellislaw32_sameRanges_c2 : Code := Code.snd trellislaw32_sameRanges_c0
noncomputable abbrev trellislaw32_sameRanges_c3 : Code := Code.fst trellislaw32_sameRanges_c2
noncomputable abbrev trellislaw32_sameRanges_c4 : Code := Code.snd trellislaw32_sameRanges_c2
noncomputable abbrev trellislaw32_sameRanges_c5 : Code := Code.fst trellislaw32_sameRanges_c3
noncomputable abbrev trellislaw32_sameRanges_c6 : Code := Code.snd trellislaw32_sameRanges_c3
noncomputable abbrev trellislaw32_sameRanges_c7 : Code := Code.fst trellislaw32_sameRanges_c6
noncomputable abbrev trellislaw32_sameRanges_c8 : Code := Code.snd trellislaw32_sameRanges_c6
noncomputable abbrev trellislaw32_sameRanges_c9 : Code := Code.fst trellislaw32_sameRanges_c4
noncomputable abbrev trellislaw32_sameRanges_c10 : Code := Code.snd trellislaw32_sameRanges_c4
noncomputable abbrev trellislaw32_sameRanges_c11 : Code := Code.fst trellislaw32_sameRanges_c9
noncomputable abbrev trellislaw32_sameRanges_c12 : Code := Code.snd trellislaw32_sameRanges_c9
noncomputable abbrev trellislaw32_sameRanges_c13 : Code := Code.fst trellislaw32_sameRanges_c12
noncomputable abbrev trellislaw32_sameRanges_c14 : Code := Code.fst trellislaw32_sameRanges_c13
noncomputable abbrev trellislaw32_sameRanges_c15 : Code := Code.fst trellislaw32_sameRanges_c14
noncomputable abbrev trellislaw32_sameRanges_c16 : Code := Code.snd trellislaw32_sameRanges_c14
noncomputable abbrev trellislaw32_sameRanges_c17 : Code := Code.fst trellislaw32_sameRanges_c15
noncomputable abbrev trellislaw32_sameRanges_c18 : Code := Code.snd trellislaw32_sameRanges_c15
noncomputable abbrev trellislaw32_sameRanges_c19 : Code := Code.fst trellislaw32_sameRanges_c18
noncomputable abbrev trellislaw32_sameRanges_c20 : Code := Code.snd trellislaw32_sameRanges_c18
noncomputable abbrev trellislaw32_sameRanges_c21 : Code := Code.fst trellislaw32_sameRanges_c16
noncomputable abbrev trellislaw32_sameRanges_c22 : Code := Code.snd trellislaw32_sameRanges_c16
noncomputable abbrev trellislaw32_sameRanges_c23 : Code := Code.fst trellislaw32_sameRanges_c21
noncomputable abbrev trellislaw32_sameRanges_c24 : Code := Code.fst trellislaw32_sameRanges_c23
noncomputable abbrev trellislaw32_sameRanges_c25 : Code := Code.snd trellislaw32_sameRanges_c23
noncomputable abbrev trellislaw32_sameRanges_c26 : Code := Code.fst trellislaw32_sameRanges_c25
noncomputable abbrev trellislaw32_sameRanges_c27 : Code := Code.snd trellislaw32_sameRanges_c25
noncomputable abbrev trellislaw32_sameRanges_c28 : Code := Code.fst trellislaw32_sameRanges_c26
noncomputable abbrev trellislaw32_sameRanges_c29 : Code := Code.snd trellislaw32_sameRanges_c26
noncomputable abbrev trellislaw32_sameRanges_c30 : Code := Code.fst trellislaw32_sameRanges_c10
noncomputable abbrev trellislaw32_sameRanges_c31 : Code := Code.snd trellislaw32_sameRanges_c10
noncomputable abbrev trellislaw32_sameRanges_c32 : Code := Code.fst trellislaw32_sameRanges_c7
noncomputable abbrev trellislaw32_sameRanges_c33 : Code := Code.snd trellislaw32_sameRanges_c7
abbrev trellislaw32_sameRanges_R (w : World) (F : Nat → Prop) (r : Bool) : Ending → World → Prop := fun e w' => e = .returned (.bool r) ∧ B.Loc w w' [] [St w []]
noncomputable abbrev trellislaw32_sameRanges_C (w : World) (F : Nat → Prop) (r : Bool) : Cx := ⟨Try.prog, 18, Try.f18, 26, trellislaw32_sameRanges_R w F  r, w⟩
theorem trellislaw32_sameRanges_calls (w : World) (F : Nat → Prop) (x1 : List api_Range) (x6 : List api_Range) (A2 : Option Addr) (n3 : Nat) (c4 : Nat) (A7 : Option Addr) (n8 : Nat) (c9 : Nat) (h5 : Rw k_api_Range w (St w []).av A2 n3 c4 x1) (h10 : Rw k_api_Range w (St w []).av A7 n8 c9 x6) (hF : ∀ b, F b → b < w.heap.size ∧ ∀ o ∈ ([] : List (List Nat)), b ∉ o) (hL0 : B.Loc w w [] [Sm w.heap.size F w [], St w []]) (r : Bool) (h : trellislaw32_sameRanges x1 x6 r) : Calls Try.prog 18 #[.slice A2 n3 c4, .slice A7 n8 c9] w (trellislaw32_sameRanges_R w F  r) := by
  unfold trellislaw32_sameRanges at h
  refine calls_of_Loc (vs := [.slice A2 n3 c4, .slice A7 n8 c9]) 26 Try.func18 rfl Try.ntmps18 rfl hL0 ?_
  show G (trellislaw32_sameRanges_C w F r) _ _ _ _
  refine g_seq (c := trellislaw32_sameRanges_c0) rfl ?_
  refine g_region (c := trellislaw32_sameRanges_c1) rfl rfl ?_
  refine wl_v 0 rfl (v_assign rfl) gn rfl ?_
  refine w_end 1 rfl ?_
  refine g_seq (c := trellislaw32_sameRanges_c2) rfl ?_
  refine g_seq (c := trellislaw32_sameRanges_c3) rfl ?_
  refine g_region (c := trellislaw32_sameRanges_c5) rfl rfl ?_
  refine wl_v 0 rfl (v_move rfl) gn rfl ?_
  refine wl_v 1 rfl (v_lenQ un_29 rfl h5.hq) gn rfl ?_
  refine wl_v 2 rfl (v_move rfl) gn rfl ?_
  refine wl_v 3 rfl (v_lenQ un_29 rfl h10.hq) gn rfl ?_
  refine wl_v 4 rfl (v_bin rfl rfl rfl) gn rfl ?_
  refine w_end 5 rfl ?_
  by_cases hp11 : (x1.length : Int) = (x6.length : Int)
  · have h := if_pos' hp11 h
    refine g_false (c := trellislaw32_sameRanges_c6) rfl _ rfl ((eqib hp11)) ?_
    refine g_skip (c := trellislaw32_sameRanges_c8) rfl ?_
    refine g_seq (c := trellislaw32_sameRanges_c4) rfl ?_
    refine g_seq (c := trellislaw32_sameRanges_c9) rfl ?_
    refine g_region (c := trellislaw32_sameRanges_c11) rfl rfl ?_
    refine wl_v 0 rfl (v_assign rfl) gn rfl ?_
    refine w_end 1 rfl ?_
    refine g_block (c := trellislaw32_sameRanges_c12) rfl ?_
    refine g_loop (c := trellislaw32_sameRanges_c13) rfl ?_
    have key1 : ∀ s, Rounds (fun (s : Int) o => trellislaw32_sameRanges_b1 x1 x6 s o) s r → (fun (s : Int) => ∀ (_ : Unit), G (trellislaw32_sameRanges_C w F r) [.code trellislaw32_sameRanges_c14, .inLoop trellislaw32_sameRanges_c14, .inBlock 0, .code trellislaw32_sameRanges_c10] [(0, .slice A2 n3 c4), (1, .slice A7 n8 c9), (5, .int .i64 s)] [] [Sm w.heap.size F w [], St w []]) s := by
      intro s hs
      refine Rounds.ind (mot := (fun (s : Int) => ∀ (_ : Unit), G (trellislaw32_sameRanges_C w F r) [.code trellislaw32_sameRanges_c14, .inLoop trellislaw32_sameRanges_c14, .inBlock 0, .code trellislaw32_sameRanges_c10] [(0, .slice A2 n3 c4), (1, .slice A7 n8 c9), (5, .int .i64 s)] [] [Sm w.heap.size F w [], St w []])) ?_ hs
      clear hs s
      intro x23 o1 h hO1
      show ∀ (_ : Unit), G (trellislaw32_sameRanges_C w F r) [.code trellislaw32_sameRanges_c14, .inLoop trellislaw32_sameRanges_c14, .inBlock 0, .code trellislaw32_sameRanges_c10] [(0, .slice A2 n3 c4), (1, .slice A7 n8 c9), (5, .int .i64 x23)] [] [Sm w.heap.size F w [], St w []]
      intro _
      have h : trellislaw32_sameRanges_b1 x1 x6 x23 o1 := h
      unfold trellislaw32_sameRanges_b1 at h
      refine g_seq (c := trellislaw32_sameRanges_c14) rfl ?_
      refine g_seq (c := trellislaw32_sameRanges_c15) rfl ?_
      refine g_region (c := trellislaw32_sameRanges_c17) rfl rfl ?_
      refine wl_v 0 rfl (v_move rfl) gn rfl ?_
      refine wl_v 1 rfl (v_move rfl) gn rfl ?_
      refine wl_v 2 rfl (v_lenQ un_29 rfl h5.hq) gn rfl ?_
      refine wl_v 3 rfl (v_bin rfl rfl rfl) gn rfl ?_
      refine w_end 4 rfl ?_
      by_cases hp34 : x23 < (x1.length : Int)
      · have h := if_pos' hp34 h
        refine g_true (c := trellislaw32_sameRanges_c18) rfl _ rfl ((decide_eq_true hp34)) ?_
        refine g_skip (c := trellislaw32_sameRanges_c19) rfl ?_
        refine g_seq (c := trellislaw32_sameRanges_c16) rfl ?_
        refine g_block (c := trellislaw32_sameRanges_c21) rfl ?_
        refine g_seq (c := trellislaw32_sameRanges_c23) rfl ?_
        obtain ⟨hb35, h⟩ := h
        obtain ⟨hb37, h⟩ := h
        have hns : Region.noSelect (Code.ops trellislaw32_sameRanges_c24) = true := by kernel_rfl
        refine g_drawF (c := trellislaw32_sameRanges_c24) [] [Sm w.heap.size F w [], St w []] [] 9 rfl rfl mix rfl (.slnil) (sels [0, 1] rfl) ?_
        refine wf_v 0 rfl (v_move rfl) gn rfl hns (by kernel_rfl) (by kernel_rfl) rfl rfl ?_
        refine wf_v 1 rfl (v_move rfl) gn rfl hns (by kernel_rfl) (by kernel_rfl) rfl rfl ?_
        have hr41 := Rw.readF (s := St w []) (hl := hl_api_Range) (h1 := h1_api_Range) h5 hb35
        refine wf_v 2 rfl (v_idxR (s := St w []) slE_29 rfl rfl h5 hb35) gn rfl hns (by kernel_rfl) (by kernel_rfl) rfl rfl ?_
        refine wf_v 3 rfl (v_ldA (St w []) ld_24 rfl hr41 rfl (me 1 rfl)) gn rfl hns (by kernel_rfl) (by kernel_rfl) rfl rfl ?_
        refine wf_v 4 rfl (v_move rfl) gn rfl hns (by kernel_rfl) (by kernel_rfl) rfl rfl ?_
        refine wf_v 5 rfl (v_move rfl) gn rfl hns (by kernel_rfl) (by kernel_rfl) rfl rfl ?_
        have hr42 := Rw.readF (s := St w []) (hl := hl_api_Range) (h1 := h1_api_Range) h10 hb37
        refine wf_v 6 rfl (v_idxR (s := St w []) slE_29 rfl rfl h10 hb37) gn rfl hns (by kernel_rfl) (by kernel_rfl) rfl rfl ?_
        refine wf_v 7 rfl (v_ldA (St w []) ld_24 rfl hr42 rfl (me 1 rfl)) gn rfl hns (by kernel_rfl) (by kernel_rfl) rfl rfl ?_
        refine wf_v 8 rfl (v_neSt eq_24 rfl rfl (eqd_api_Range (ix x1 x23) (ix x6 x23))) gn rfl hns (by kernel_rfl) (by kernel_rfl) rfl rfl ?_
        refine wf_end (by kernel_rfl) ?_
        by_cases hp43 : ix x1 x23 = ix x6 x23
        · have h := if_pos' hp43 h
          refine g_false (c := trellislaw32_sameRanges_c25) rfl _ rfl ((nf (decide_eq_true hp43))) ?_
          refine g_skip (c := trellislaw32_sameRanges_c27) rfl ?_
          refine g_inBlock ?_
          refine g_region (c := trellislaw32_sameRanges_c22) rfl rfl ?_
          refine wl_v 0 rfl (v_move rfl) gn rfl ?_
          refine wl_v 1 rfl (v_bin rfl rfl rfl) gn rfl ?_
          refine wl_v 2 rfl (v_assign rfl) gn rfl ?_
          refine w_end 3 rfl ?_
          refine g_inLoop ?_
          have ih := Out.inl hO1 h
          exact g_go [0, 1] (ih ()) ⟨rfl, rfl, rfl, trivial⟩ (.slnil) rfl
        · have h := if_neg' hp43 h
          refine g_true (c := trellislaw32_sameRanges_c25) rfl _ rfl ((nt (decide_eq_false hp43))) ?_
          refine g_seq (c := trellislaw32_sameRanges_c26) rfl ?_
          refine g_region (c := trellislaw32_sameRanges_c28) rfl rfl ?_
          refine wl_v 0 rfl (v_assign rfl) gn rfl ?_
          refine w_end 1 rfl ?_
          have h := Out.inr hO1 h
          refine g_retR (c := trellislaw32_sameRanges_c29) [.bool false] rfl Try.func18 rfl (.tmp rfl (.nil)) fun wr hLr => ?_
          have hMr : B.Loc w wr [] [St w []] := hLr.pick (rest := []) (perm_of_idx [] [] rfl rfl (by kernel_rfl)) (sels [1] rfl)
          have hMi : ∀ e ∈ ([] : List Ent), e ∈ ([] : List Ent) := sels [] rfl
          show trellislaw32_sameRanges_R w F  r (.returned (packV [.bool false])) wr
          rw [h]
          exact ⟨rfl, hMr⟩
      · have h := if_neg' hp34 h
        refine g_false (c := trellislaw32_sameRanges_c18) rfl _ rfl ((decide_eq_false hp34)) ?_
        refine g_exit (c := trellislaw32_sameRanges_c20) [.code trellislaw32_sameRanges_c10] rfl rfl ?_
        refine g_seq (c := trellislaw32_sameRanges_c10) rfl ?_
        refine g_region (c := trellislaw32_sameRanges_c30) rfl rfl ?_
        refine wl_v 0 rfl (v_assign rfl) gn rfl ?_
        refine w_end 1 rfl ?_
        have h := Out.inr hO1 h
        refine g_retR (c := trellislaw32_sameRanges_c31) [.bool true] rfl Try.func18 rfl (.tmp rfl (.nil)) fun wr hLr => ?_
        have hMr : B.Loc w wr [] [St w []] := hLr.pick (rest := []) (perm_of_idx [] [] rfl rfl (by kernel_rfl)) (sels [1] rfl)
        have hMi : ∀ e ∈ ([] : List Ent), e ∈ ([] : List Ent) := sels [] rfl
        show trellislaw32_sameRanges_R w F  r (.returned (packV [.bool true])) wr
        rw [h]
        exact ⟨rfl, hMr⟩
    exact g_go [0, 1] (key1 _ h ()) ⟨rfl, rfl, rfl, trivial⟩ (.slnil) rfl
  · have h := if_neg' hp11 h
    refine g_true (c := trellislaw32_sameRanges_c6) rfl _ rfl ((neib hp11)) ?_
    refine g_seq (c := trellislaw32_sameRanges_c7) rfl ?_
    refine g_region (c := trellislaw32_sameRanges_c32) rfl rfl ?_
    refine wl_v 0 rfl (v_assign rfl) gn rfl ?_
    refine w_end 1 rfl ?_
    refine g_retR (c := trellislaw32_sameRanges_c33) [.bool false] rfl Try.func18 rfl (.tmp rfl (.nil)) fun wr hLr => ?_
    have hMr : B.Loc w wr [] [St w []] := hLr.pick (rest := []) (perm_of_idx [] [] rfl rfl (by kernel_rfl)) (sels [1] rfl)
    have hMi : ∀ e ∈ ([] : List Ent), e ∈ ([] : List Ent) := sels [] rfl
    show trellislaw32_sameRanges_R w F  r (.returned (packV [.bool false])) wr
    rw [h]
    exact ⟨rfl, hMr⟩
noncomputable abbrev trellislaw32_same_c0 : Code := bodyOf Try.f24
noncomputable abbrev trellislaw32_same_c1 : Code := Code.fst trellislaw32_same_c0
noncomputable abbrev trellislaw32_same_c2 : Code := Code.snd trellislaw32_same_c0
noncomputable abbrev trellislaw32_same_c3 : Code := Code.fst trellislaw32_same_c2
noncomputable abbrev trellislaw32_same_c4 : Code := Code.snd trellislaw32_same_c2
noncomputable abbrev trellislaw32_same_c5 : Code := Code.fst trellislaw32_same_c3
noncomputable abbrev trellislaw32_same_c6 : Code := Code.snd trellislaw32_same_c3
noncomputable abbrev trellislaw32_same_c7 : Code := Code.fst trellislaw32_same_c6
noncomputable abbrev trellislaw32_same_c8 : Code := Code.snd trellislaw32_same_c6
noncomputable abbrev trellislaw32_same_c9 : Code := Code.fst trellislaw32_same_c4
noncomputable abbrev trellislaw32_same_c10 : Code := Code.snd trellislaw32_same_c4
noncomputable abbrev trellislaw32_same_c11 : Code := Code.fst trellislaw32_same_c9
noncomputable abbrev trellislaw32_same_c12 : Code := Code.snd trellislaw32_same_c9
noncomputable abbrev trellislaw32_same_c13 : Code := Code.fst trellislaw32_same_c12
noncomputable abbrev trellislaw32_same_c14 : Code := Code.fst trellislaw32_same_c13
noncomputable abbrev trellislaw32_same_c15 : Code := Code.fst trellislaw32_same_c14
noncomputable abbrev trellislaw32_same_c16 : Code := Code.snd trellislaw32_same_c14
noncomputable abbrev trellislaw32_same_c17 : Code := Code.fst trellislaw32_same_c15
noncomputable abbrev trellislaw32_same_c18 : Code := Code.snd trellislaw32_same_c15
noncomputable abbrev trellislaw32_same_c19 : Code := Code.fst trellislaw32_same_c18
noncomputable abbrev trellislaw32_same_c20 : Code := Code.snd trellislaw32_same_c18
noncomputable abbrev trellislaw32_same_c21 : Code := Code.fst trellislaw32_same_c16
noncomputable abbrev trellislaw32_same_c22 : Code := Code.snd trellislaw32_same_c16
noncomputable abbrev trellislaw32_same_c23 : Code := Code.fst trellislaw32_same_c21
noncomputable abbrev trellislaw32_same_c24 : Code := Code.fst trellislaw32_same_c23
noncomputable abbrev trellislaw32_same_c25 : Code := Code.snd trellislaw32_same_c23
noncomputable abbrev trellislaw32_same_c26 : Code := Code.fst trellislaw32_same_c25
noncomputable abbrev trellislaw32_same_c27 : Code := Code.snd trellislaw32_same_c25
noncomputable abbrev trellislaw32_same_c28 : Code := Code.fst trellislaw32_same_c26
noncomputable abbrev trellislaw32_same_c29 : Code := Code.snd trellislaw32_same_c26
noncomputable abbrev trellislaw32_same_c30 : Code := Code.fst trellislaw32_same_c10
noncomputable abbrev trellislaw32_same_c31 : Code := Code.snd trellislaw32_same_c10
noncomputable abbrev trellislaw32_same_c32 : Code := Code.fst trellislaw32_same_c7
noncomputable abbrev trellislaw32_same_c33 : Code := Code.snd trellislaw32_same_c7
abbrev trellislaw32_same_R (w : World) (F : Nat → Prop) (r : Bool) : Ending → World → Prop := fun e w' => e = .returned (.bool r) ∧ B.Loc w w' [] [St w []]
noncomputable abbrev trellislaw32_same_C (w : World) (F : Nat → Prop) (r : Bool) : Cx := ⟨Try.prog, 24, Try.f24, 26, trellislaw32_same_R w F  r, w⟩
theorem trellislaw32_same_calls (w : World) (F : Nat → Prop) (x1 : List api_Node) (x6 : List api_Node) (A2 : Option Addr) (n3 : Nat) (c4 : Nat) (A7 : Option Addr) (n8 : Nat) (c9 : Nat) (h5 : Rw k_api_Node w (St w []).av A2 n3 c4 x1) (h10 : Rw k_api_Node w (St w []).av A7 n8 c9 x6) (hF : ∀ b, F b → b < w.heap.size ∧ ∀ o ∈ ([] : List (List Nat)), b ∉ o) (hL0 : B.Loc w w [] [Sm w.heap.size F w [], St w []]) (r : Bool) (h : trellislaw32_same x1 x6 r) : Calls Try.prog 24 #[.slice A2 n3 c4, .slice A7 n8 c9] w (trellislaw32_same_R w F  r) := by
  unfold trellislaw32_same at h
  refine calls_of_Loc (vs := [.slice A2 n3 c4, .slice A7 n8 c9]) 26 Try.func24 rfl Try.ntmps24 rfl hL0 ?_
  show G (trellislaw32_same_C w F r) _ _ _ _
  refine g_seq (c := trellislaw32_same_c0) rfl ?_
  refine g_region (c := trellislaw32_same_c1) rfl rfl ?_
  refine wl_v 0 rfl (v_assign rfl) gn rfl ?_
  refine w_end 1 rfl ?_
  refine g_seq (c := trellislaw32_same_c2) rfl ?_
  refine g_seq (c := trellislaw32_same_c3) rfl ?_
  refine g_region (c := trellislaw32_same_c5) rfl rfl ?_
  refine wl_v 0 rfl (v_move rfl) gn rfl ?_
  refine wl_v 1 rfl (v_lenQ un_22 rfl h5.hq) gn rfl ?_
  refine wl_v 2 rfl (v_move rfl) gn rfl ?_
  refine wl_v 3 rfl (v_lenQ un_22 rfl h10.hq) gn rfl ?_
  refine wl_v 4 rfl (v_bin rfl rfl rfl) gn rfl ?_
  refine w_end 5 rfl ?_
  by_cases hp11 : (x1.length : Int) = (x6.length : Int)
  · have h := if_pos' hp11 h
    refine g_false (c := trellislaw32_same_c6) rfl _ rfl ((eqib hp11)) ?_
    refine g_skip (c := trellislaw32_same_c8) rfl ?_
    refine g_seq (c := trellislaw32_same_c4) rfl ?_
    refine g_seq (c := trellislaw32_same_c9) rfl ?_
    refine g_region (c := trellislaw32_same_c11) rfl rfl ?_
    refine wl_v 0 rfl (v_assign rfl) gn rfl ?_
    refine w_end 1 rfl ?_
    refine g_block (c := trellislaw32_same_c12) rfl ?_
    refine g_loop (c := trellislaw32_same_c13) rfl ?_
    have key1 : ∀ s, Rounds (fun (s : Int) o => trellislaw32_same_b1 x1 x6 s o) s r → (fun (s : Int) => ∀ (_ : Unit), G (trellislaw32_same_C w F r) [.code trellislaw32_same_c14, .inLoop trellislaw32_same_c14, .inBlock 0, .code trellislaw32_same_c10] [(0, .slice A2 n3 c4), (1, .slice A7 n8 c9), (5, .int .i64 s)] [] [Sm w.heap.size F w [], St w []]) s := by
      intro s hs
      refine Rounds.ind (mot := (fun (s : Int) => ∀ (_ : Unit), G (trellislaw32_same_C w F r) [.code trellislaw32_same_c14, .inLoop trellislaw32_same_c14, .inBlock 0, .code trellislaw32_same_c10] [(0, .slice A2 n3 c4), (1, .slice A7 n8 c9), (5, .int .i64 s)] [] [Sm w.heap.size F w [], St w []])) ?_ hs
      clear hs s
      intro x23 o1 h hO1
      show ∀ (_ : Unit), G (trellislaw32_same_C w F r) [.code trellislaw32_same_c14, .inLoop trellislaw32_same_c14, .inBlock 0, .code trellislaw32_same_c10] [(0, .slice A2 n3 c4), (1, .slice A7 n8 c9), (5, .int .i64 x23)] [] [Sm w.heap.size F w [], St w []]
      intro _
      have h : trellislaw32_same_b1 x1 x6 x23 o1 := h
      unfold trellislaw32_same_b1 at h
      refine g_seq (c := trellislaw32_same_c14) rfl ?_
      refine g_seq (c := trellislaw32_same_c15) rfl ?_
      refine g_region (c := trellislaw32_same_c17) rfl rfl ?_
      refine wl_v 0 rfl (v_move rfl) gn rfl ?_
      refine wl_v 1 rfl (v_move rfl) gn rfl ?_
      refine wl_v 2 rfl (v_lenQ un_22 rfl h5.hq) gn rfl ?_
      refine wl_v 3 rfl (v_bin rfl rfl rfl) gn rfl ?_
      refine w_end 4 rfl ?_
      by_cases hp34 : x23 < (x1.length : Int)
      · have h := if_pos' hp34 h
        refine g_true (c := trellislaw32_same_c18) rfl _ rfl ((decide_eq_true hp34)) ?_
        refine g_skip (c := trellislaw32_same_c19) rfl ?_
        refine g_seq (c := trellislaw32_same_c16) rfl ?_
        refine g_block (c := trellislaw32_same_c21) rfl ?_
        refine g_seq (c := trellislaw32_same_c23) rfl ?_
        obtain ⟨hb35, h⟩ := h
        obtain ⟨hb37, h⟩ := h
        have hns : Region.noSelect (Code.ops trellislaw32_same_c24) = true := by kernel_rfl
        refine g_drawF (c := trellislaw32_same_c24) [] [Sm w.heap.size F w [], St w []] [] 9 rfl rfl mix rfl (.slnil) (sels [0, 1] rfl) ?_
        refine wf_v 0 rfl (v_move rfl) gn rfl hns (by kernel_rfl) (by kernel_rfl) rfl rfl ?_
        refine wf_v 1 rfl (v_move rfl) gn rfl hns (by kernel_rfl) (by kernel_rfl) rfl rfl ?_
        have hr41 := Rw.readF (s := St w []) (hl := hl_api_Node) (h1 := h1_api_Node) h5 hb35
        refine wf_v 2 rfl (v_idxR (s := St w []) slE_22 rfl rfl h5 hb35) gn rfl hns (by kernel_rfl) (by kernel_rfl) rfl rfl ?_
        refine wf_v 3 rfl (v_ldA (St w []) ld_39 rfl hr41 rfl (me 1 rfl)) gn rfl hns (by kernel_rfl) (by kernel_rfl) rfl rfl ?_
        refine wf_v 4 rfl (v_move rfl) gn rfl hns (by kernel_rfl) (by kernel_rfl) rfl rfl ?_
        refine wf_v 5 rfl (v_move rfl) gn rfl hns (by kernel_rfl) (by kernel_rfl) rfl rfl ?_
        have hr42 := Rw.readF (s := St w []) (hl := hl_api_Node) (h1 := h1_api_Node) h10 hb37
        refine wf_v 6 rfl (v_idxR (s := St w []) slE_22 rfl rfl h10 hb37) gn rfl hns (by kernel_rfl) (by kernel_rfl) rfl rfl ?_
        refine wf_v 7 rfl (v_ldA (St w []) ld_39 rfl hr42 rfl (me 1 rfl)) gn rfl hns (by kernel_rfl) (by kernel_rfl) rfl rfl ?_
        refine wf_v 8 rfl (v_neSt eq_39 rfl rfl (eqd_api_Node (ix x1 x23) (ix x6 x23))) gn rfl hns (by kernel_rfl) (by kernel_rfl) rfl rfl ?_
        refine wf_end (by kernel_rfl) ?_
        by_cases hp43 : ix x1 x23 = ix x6 x23
        · have h := if_pos' hp43 h
          refine g_false (c := trellislaw32_same_c25) rfl _ rfl ((nf (decide_eq_true hp43))) ?_
          refine g_skip (c := trellislaw32_same_c27) rfl ?_
          refine g_inBlock ?_
          refine g_region (c := trellislaw32_same_c22) rfl rfl ?_
          refine wl_v 0 rfl (v_move rfl) gn rfl ?_
          refine wl_v 1 rfl (v_bin rfl rfl rfl) gn rfl ?_
          refine wl_v 2 rfl (v_assign rfl) gn rfl ?_
          refine w_end 3 rfl ?_
          refine g_inLoop ?_
          have ih := Out.inl hO1 h
          exact g_go [0, 1] (ih ()) ⟨rfl, rfl, rfl, trivial⟩ (.slnil) rfl
        · have h := if_neg' hp43 h
          refine g_true (c := trellislaw32_same_c25) rfl _ rfl ((nt (decide_eq_false hp43))) ?_
          refine g_seq (c := trellislaw32_same_c26) rfl ?_
          refine g_region (c := trellislaw32_same_c28) rfl rfl ?_
          refine wl_v 0 rfl (v_assign rfl) gn rfl ?_
          refine w_end 1 rfl ?_
          have h := Out.inr hO1 h
          refine g_retR (c := trellislaw32_same_c29) [.bool false] rfl Try.func24 rfl (.tmp rfl (.nil)) fun wr hLr => ?_
          have hMr : B.Loc w wr [] [St w []] := hLr.pick (rest := []) (perm_of_idx [] [] rfl rfl (by kernel_rfl)) (sels [1] rfl)
          have hMi : ∀ e ∈ ([] : List Ent), e ∈ ([] : List Ent) := sels [] rfl
          show trellislaw32_same_R w F  r (.returned (packV [.bool false])) wr
          rw [h]
          exact ⟨rfl, hMr⟩
      · have h := if_neg' hp34 h
        refine g_false (c := trellislaw32_same_c18) rfl _ rfl ((decide_eq_false hp34)) ?_
        refine g_exit (c := trellislaw32_same_c20) [.code trellislaw32_same_c10] rfl rfl ?_
        refine g_seq (c := trellislaw32_same_c10) rfl ?_
        refine g_region (c := trellislaw32_same_c30) rfl rfl ?_
        refine wl_v 0 rfl (v_assign rfl) gn rfl ?_
        refine w_end 1 rfl ?_
        have h := Out.inr hO1 h
        refine g_retR (c := trellislaw32_same_c31) [.bool true] rfl Try.func24 rfl (.tmp rfl (.nil)) fun wr hLr => ?_
        have hMr : B.Loc w wr [] [St w []] := hLr.pick (rest := []) (perm_of_idx [] [] rfl rfl (by kernel_rfl)) (sels [1] rfl)
        have hMi : ∀ e ∈ ([] : List Ent), e ∈ ([] : List Ent) := sels [] rfl
        show trellislaw32_same_R w F  r (.returned (packV [.bool true])) wr
        rw [h]
        exact ⟨rfl, hMr⟩
    exact g_go [0, 1] (key1 _ h ()) ⟨rfl, rfl, rfl, trivial⟩ (.slnil) rfl
  · have h := if_neg' hp11 h
    refine g_true (c := trellislaw32_same_c6) rfl _ rfl ((neib hp11)) ?_
    refine g_seq (c := trellislaw32_same_c7) rfl ?_
    refine g_region (c := trellislaw32_same_c32) rfl rfl ?_
    refine wl_v 0 rfl (v_assign rfl) gn rfl ?_
    refine w_end 1 rfl ?_
    refine g_retR (c := trellislaw32_same_c33) [.bool false] rfl Try.func24 rfl (.tmp rfl (.nil)) fun wr hLr => ?_
    have hMr : B.Loc w wr [] [St w []] := hLr.pick (rest := []) (perm_of_idx [] [] rfl rfl (by kernel_rfl)) (sels [1] rfl)
    have hMi : ∀ e ∈ ([] : List Ent), e ∈ ([] : List Ent) := sels [] rfl
    show trellislaw32_same_R w F  r (.returned (packV [.bool false])) wr
    rw [h]
    exact ⟨rfl, hMr⟩
noncomputable abbrev trellislaw32_still_c0 : Code := bodyOf Try.f19
noncomputable abbrev trellislaw32_still_c1 : Code := Code.fst trellislaw32_still_c0
noncomputable abbrev trellislaw32_still_c2 : Code := Code.snd trellislaw32_still_c0
noncomputable abbrev trellislaw32_still_c3 : Code := Code.fst trellislaw32_still_c2
noncomputable abbrev trellislaw32_still_c4 : Code := Code.snd trellislaw32_still_c2
noncomputable abbrev trellislaw32_still_c5 : Code := Code.fst trellislaw32_still_c4
noncomputable abbrev trellislaw32_still_c6 : Code := Code.snd trellislaw32_still_c4
noncomputable abbrev trellislaw32_still_c7 : Code := Code.fst trellislaw32_still_c5
noncomputable abbrev trellislaw32_still_c8 : Code := Code.snd trellislaw32_still_c5
noncomputable abbrev trellislaw32_still_c9 : Code := Code.fst trellislaw32_still_c8
noncomputable abbrev trellislaw32_still_c10 : Code := Code.fst trellislaw32_still_c9
noncomputable abbrev trellislaw32_still_c11 : Code := Code.fst trellislaw32_still_c10
noncomputable abbrev trellislaw32_still_c12 : Code := Code.snd trellislaw32_still_c10
noncomputable abbrev trellislaw32_still_c13 : Code := Code.fst trellislaw32_still_c11
noncomputable abbrev trellislaw32_still_c14 : Code := Code.snd trellislaw32_still_c11
noncomputable abbrev trellislaw32_still_c15 : Code := Code.fst trellislaw32_still_c14
noncomputable abbrev trellislaw32_still_c16 : Code := Code.snd trellislaw32_still_c14
noncomputable abbrev trellislaw32_still_c17 : Code := Code.fst trellislaw32_still_c12
noncomputable abbrev trellislaw32_still_c18 : Code := Code.snd trellislaw32_still_c12
noncomputable abbrev trellislaw32_still_c19 : Code := Code.fst trellislaw32_still_c17
noncomputable abbrev trellislaw32_still_c20 : Code := Code.fst trellislaw32_still_c19
noncomputable abbrev trellislaw32_still_c21 : Code := Code.snd trellislaw32_still_c19
noncomputable abbrev trellislaw32_still_c22 : Code := Code.fst trellislaw32_still_c21
noncomputable abbrev trellislaw32_still_c23 : Code := Code.snd trellislaw32_still_c21
noncomputable abbrev trellislaw32_still_c24 : Code := Code.fst trellislaw32_still_c22
noncomputable abbrev trellislaw32_still_c25 : Code := Code.snd trellislaw32_still_c22
noncomputable abbrev trellislaw32_still_c26 : Code := Code.fst trellislaw32_still_c6
noncomputable abbrev trellislaw32_still_c27 : Code := Code.snd trellislaw32_still_c6
abbrev trellislaw32_still_R (w : World) (F : Nat → Prop) (r : Bool) : Ending → World → Prop := fun e w' => e = .returned (.bool r) ∧ B.Loc w w' [] [St w []]
noncomputable abbrev trellislaw32_still_C (w : World) (F : Nat → Prop) (r : Bool) : Cx := ⟨Try.prog, 19, Try.f19, 30, trellislaw32_still_R w F  r, w⟩
theorem trellislaw32_still_calls (w : World) (F : Nat → Prop) (x1 : List api_Node) (k6 : Nat) (x9 : List api_Node) (A2 : Option Addr) (n3 : Nat) (c4 : Nat) (A10 : Option Addr) (n11 : Nat) (c12 : Nat) (h5 : Rw k_api_Node w (St w []).av A2 n3 c4 x1) (hk7 : k6 ≤ n3) (h13 : Rw k_api_Node w (St w []).av A10 n11 c12 x9) (hF : ∀ b, F b → b < w.heap.size ∧ ∀ o ∈ ([] : List (List Nat)), b ∉ o) (hL0 : B.Loc w w [] [Sm w.heap.size F w [], St w []]) (r : Bool) (h : trellislaw32_still x1 k6 x9 r) : Calls Try.prog 19 #[.slice A2 k6 c4, .slice A10 n11 c12] w (trellislaw32_still_R w F  r) := by
  unfold trellislaw32_still at h
  have h8 := Rw.pre h5 hk7
  refine calls_of_Loc (vs := [.slice A2 k6 c4, .slice A10 n11 c12]) 30 Try.func19 rfl Try.ntmps19 rfl hL0 ?_
  show G (trellislaw32_still_C w F r) _ _ _ _
  refine g_seq (c := trellislaw32_still_c0) rfl ?_
  refine g_region (c := trellislaw32_still_c1) rfl rfl ?_
  refine wl_v 0 rfl (v_assign rfl) gn rfl ?_
  refine w_end 1 rfl ?_
  refine g_seq (c := trellislaw32_still_c2) rfl ?_
  refine g_region (c := trellislaw32_still_c3) rfl rfl ?_
  refine wl_v 0 rfl (v_move rfl) gn rfl ?_
  refine wl_v 1 rfl (v_move rfl) gn rfl ?_
  refine wl_v 2 rfl (v_lenQ un_22 rfl h13.hq) gn rfl ?_
  refine wl_v 3 rfl (v_bin rfl rfl rfl) gn rfl ?_
  obtain ⟨hb14, h⟩ := h
  have hle15 : (w64 ((x9.length : Int) + 20) : Int).toNat ≤ n3 := by have q := hb14; have q1 := h5.hq; omega
  have h16 := Rw.pre h5 hle15
  refine wl_v 4 rfl (v_cutHi (i := w64 ((x9.length : Int) + 20)) slE_22 rfl rfl (by have q := hb14; have q1 := h5.hq; have q2 := h5.hn; omega) h8.hn rfl) gn rfl ?_
  refine wl_v 5 rfl (v_assign rfl) gn rfl ?_
  refine w_end 6 rfl ?_
  refine g_seq (c := trellislaw32_still_c4) rfl ?_
  refine g_seq (c := trellislaw32_still_c5) rfl ?_
  refine g_region (c := trellislaw32_still_c7) rfl rfl ?_
  refine wl_v 0 rfl (v_assign rfl) gn rfl ?_
  refine w_end 1 rfl ?_
  refine g_block (c := trellislaw32_still_c8) rfl ?_
  refine g_loop (c := trellislaw32_still_c9) rfl ?_
  have key1 : ∀ s, Rounds (fun (s : Int) o => trellislaw32_still_b1 x9 x1 k6 s o) s r → (fun (s : Int) => ∀ (_ : Unit), G (trellislaw32_still_C w F r) [.code trellislaw32_still_c10, .inLoop trellislaw32_still_c10, .inBlock 0, .code trellislaw32_still_c6] [(0, .slice A2 k6 c4), (1, .slice A10 n11 c12), (5, .slice A2 ((w64 ((x9.length : Int) + 20) : Int).toNat) c4), (6, .int .i64 s)] [] [Sm w.heap.size F w [], St w []]) s := by
    intro s hs
    refine Rounds.ind (mot := (fun (s : Int) => ∀ (_ : Unit), G (trellislaw32_still_C w F r) [.code trellislaw32_still_c10, .inLoop trellislaw32_still_c10, .inBlock 0, .code trellislaw32_still_c6] [(0, .slice A2 k6 c4), (1, .slice A10 n11 c12), (5, .slice A2 ((w64 ((x9.length : Int) + 20) : Int).toNat) c4), (6, .int .i64 s)] [] [Sm w.heap.size F w [], St w []])) ?_ hs
    clear hs s
    intro x21 o1 h hO1
    show ∀ (_ : Unit), G (trellislaw32_still_C w F r) [.code trellislaw32_still_c10, .inLoop trellislaw32_still_c10, .inBlock 0, .code trellislaw32_still_c6] [(0, .slice A2 k6 c4), (1, .slice A10 n11 c12), (5, .slice A2 ((w64 ((x9.length : Int) + 20) : Int).toNat) c4), (6, .int .i64 x21)] [] [Sm w.heap.size F w [], St w []]
    intro _
    have h : trellislaw32_still_b1 x9 x1 k6 x21 o1 := h
    unfold trellislaw32_still_b1 at h
    refine g_seq (c := trellislaw32_still_c10) rfl ?_
    refine g_seq (c := trellislaw32_still_c11) rfl ?_
    refine g_region (c := trellislaw32_still_c13) rfl rfl ?_
    refine wl_v 0 rfl (v_move rfl) gn rfl ?_
    refine wl_v 1 rfl (v_bin rfl rfl rfl) gn rfl ?_
    refine w_end 2 rfl ?_
    by_cases hp34 : x21 < 20
    · have h := if_pos' hp34 h
      refine g_true (c := trellislaw32_still_c14) rfl _ rfl ((decide_eq_true hp34)) ?_
      refine g_skip (c := trellislaw32_still_c15) rfl ?_
      refine g_seq (c := trellislaw32_still_c12) rfl ?_
      refine g_block (c := trellislaw32_still_c17) rfl ?_
      refine g_seq (c := trellislaw32_still_c19) rfl ?_
      refine g_region (c := trellislaw32_still_c20) rfl rfl ?_
      refine wl_v 0 rfl (v_move rfl) gn rfl ?_
      refine wl_v 1 rfl (v_move rfl) gn rfl ?_
      refine wl_v 2 rfl (v_lenQ un_22 rfl h13.hq) gn rfl ?_
      refine wl_v 3 rfl (v_move rfl) gn rfl ?_
      refine wl_v 4 rfl (v_bin rfl rfl rfl) gn rfl ?_
      obtain ⟨hb35, h⟩ := h
      have hr36 := Rw.readF (s := St w []) (hl := hl_api_Node) (h1 := h1_api_Node) h16 hb35
      refine wl_v 5 rfl (v_idxR (s := St w []) slE_22 rfl rfl h16 hb35) gn rfl ?_
      refine wl_v 6 rfl (v_ldA (St w []) ld_39 rfl hr36 rfl (me 1 rfl)) gn rfl ?_
      refine wl_v 7 rfl (v_move rfl) gn rfl ?_
      refine wl_v 8 rfl (v_bin rfl rfl rfl) gn rfl ?_
      refine wl_v 9 rfl (v_build #[.string (⟨#[109, 97, 114, 107]⟩ : ByteArray), .bool false, .string (⟨#[]⟩ : ByteArray), .int .i64 (w64 (900 + x21)), .int .i64 0, .int .i64 0, .int .i64 0] bd_39 rfl (by kernel_rfl)) gn rfl ?_
      refine wl_v 10 rfl (v_neSt eq_39 rfl rfl (eqd_api_Node (ix (x1.take ((w64 ((x9.length : Int) + 20) : Int).toNat)) (w64 ((x9.length : Int) + x21))) (⟨(⟨#[109, 97, 114, 107]⟩ : ByteArray), false, (⟨#[]⟩ : ByteArray), w64 (900 + x21), 0, 0, 0⟩ : api_Node))) gn rfl ?_
      refine w_end 11 rfl ?_
      by_cases hp37 : ix (x1.take ((w64 ((x9.length : Int) + 20) : Int).toNat)) (w64 ((x9.length : Int) + x21)) = (⟨(⟨#[109, 97, 114, 107]⟩ : ByteArray), false, (⟨#[]⟩ : ByteArray), w64 (900 + x21), 0, 0, 0⟩ : api_Node)
      · have h := if_pos' hp37 h
        refine g_false (c := trellislaw32_still_c21) rfl _ rfl ((nf (decide_eq_true hp37))) ?_
        refine g_skip (c := trellislaw32_still_c23) rfl ?_
        refine g_inBlock ?_
        refine g_region (c := trellislaw32_still_c18) rfl rfl ?_
        refine wl_v 0 rfl (v_move rfl) gn rfl ?_
        refine wl_v 1 rfl (v_bin rfl rfl rfl) gn rfl ?_
        refine wl_v 2 rfl (v_assign rfl) gn rfl ?_
        refine w_end 3 rfl ?_
        refine g_inLoop ?_
        have ih := Out.inl hO1 h
        exact g_go [0, 1] (ih ()) ⟨rfl, rfl, rfl, rfl, trivial⟩ (.slnil) rfl
      · have h := if_neg' hp37 h
        refine g_true (c := trellislaw32_still_c21) rfl _ rfl ((nt (decide_eq_false hp37))) ?_
        refine g_seq (c := trellislaw32_still_c22) rfl ?_
        refine g_region (c := trellislaw32_still_c24) rfl rfl ?_
        refine wl_v 0 rfl (v_assign rfl) gn rfl ?_
        refine w_end 1 rfl ?_
        have h := Out.inr hO1 h
        refine g_retR (c := trellislaw32_still_c25) [.bool false] rfl Try.func19 rfl (.tmp rfl (.nil)) fun wr hLr => ?_
        have hMr : B.Loc w wr [] [St w []] := hLr.pick (rest := []) (perm_of_idx [] [] rfl rfl (by kernel_rfl)) (sels [1] rfl)
        have hMi : ∀ e ∈ ([] : List Ent), e ∈ ([] : List Ent) := sels [] rfl
        show trellislaw32_still_R w F  r (.returned (packV [.bool false])) wr
        rw [h]
        exact ⟨rfl, hMr⟩
    · have h := if_neg' hp34 h
      refine g_false (c := trellislaw32_still_c14) rfl _ rfl ((decide_eq_false hp34)) ?_
      refine g_exit (c := trellislaw32_still_c16) [.code trellislaw32_still_c6] rfl rfl ?_
      refine g_seq (c := trellislaw32_still_c6) rfl ?_
      refine g_region (c := trellislaw32_still_c26) rfl rfl ?_
      refine wl_v 0 rfl (v_move rfl) gn rfl ?_
      refine wl_v 1 rfl (v_move rfl) gn rfl ?_
      obtain ⟨r41, hv42, h⟩ := h
      refine wl_s 2 rfl (s_call [.slice A2 k6 c4, .slice A10 n11 c12] rfl Try.func24 rfl rfl rfl fun w38 hL39 => ?_) gn
      have hp40 : List.Perm ([] : List Ent) (([] : List Ent) ++ ([] : List Ent)) := perm_of_idx [] [] rfl rfl (by kernel_rfl)
      refine Calls.mono (trellislaw32_same_calls w38 (Fl ([] : List Snap)) (x1.take k6) x9 A2 k6 c4 A10 n11 c12 (Rw.mono h8 (hL39.toSt hp40 (me 1 rfl))) (Rw.mono h13 (hL39.toSt hp40 (me 1 rfl))) (hL39.hFl (Sl := ([] : List Snap)) hp40 (sels [] rfl)) (hL39.into hp40 (Fl ([] : List Snap))) r41 hv42) ?_
      rintro _ w43 ⟨rfl, hM44⟩
      have hL45 := hL39.call hp40 hM44
      refine ⟨_, _, _, rfl, hL45, ?_⟩
      refine wl_v 3 rfl (v_assign rfl) gn rfl ?_
      refine w_end 4 rfl ?_
      have h := Out.inr hO1 h
      refine g_retR (c := trellislaw32_still_c27) [.bool r41] rfl Try.func19 rfl (.tmp rfl (.nil)) fun wr hLr => ?_
      have hMr : B.Loc w wr [] [St w []] := hLr.pick (rest := []) (perm_of_idx [] [] rfl rfl (by kernel_rfl)) (sels [1] rfl)
      have hMi : ∀ e ∈ ([] : List Ent), e ∈ ([] : List Ent) := sels [] rfl
      show trellislaw32_still_R w F  r (.returned (packV [.bool r41])) wr
      rw [h]
      exact ⟨rfl, hMr⟩
  exact g_go [0, 1] (key1 _ h ()) ⟨rfl, rfl, rfl, rfl, trivial⟩ (.slnil) rfl
noncomputable abbrev trellislaw32_over_c0 : Code := bodyOf Try.f20
noncomputable abbrev trellislaw32_over_c1 : Code := Code.fst trellislaw32_over_c0
noncomputable abbrev trellislaw32_over_c2 : Code := Code.snd trellislaw32_over_c0
noncomputable abbrev trellislaw32_over_c3 : Code := Code.fst trellislaw32_over_c2
noncomputable abbrev trellislaw32_over_c4 : Code := Code.fst trellislaw32_over_c3
noncomputable abbrev trellislaw32_over_c5 : Code := Code.fst trellislaw32_over_c4
noncomputable abbrev trellislaw32_over_c6 : Code := Code.snd trellislaw32_over_c4
noncomputable abbrev trellislaw32_over_c7 : Code := Code.fst trellislaw32_over_c5
noncomputable abbrev trellislaw32_over_c8 : Code := Code.snd trellislaw32_over_c5
noncomputable abbrev trellislaw32_over_c9 : Code := Code.fst trellislaw32_over_c8
noncomputable abbrev trellislaw32_over_c10 : Code := Code.snd trellislaw32_over_c8
noncomputable abbrev trellislaw32_over_c11 : Code := Code.fst trellislaw32_over_c6
noncomputable abbrev trellislaw32_over_c12 : Code := Code.snd trellislaw32_over_c6
noncomputable abbrev trellislaw32_over_c13 : Code := Code.fst trellislaw32_over_c11
noncomputable abbrev trellislaw32_over_c14 : Code := Code.fst trellislaw32_over_c13
noncomputable abbrev trellislaw32_over_c15 : Code := Code.snd trellislaw32_over_c13
noncomputable abbrev trellislaw32_over_c16 : Code := Code.fst trellislaw32_over_c15
noncomputable abbrev trellislaw32_over_c17 : Code := Code.snd trellislaw32_over_c15
abbrev trellislaw32_over_R (w : World) (F : Nat → Prop) (A2 : Option Addr) (n3 : Nat) (c4 : Nat) (z6 : Nat) (r : List api_Node) : Ending → World → Prop := fun e w' => e = .returned (.tuple #[]) ∧ B.Loc w w' [.own (.slice A2 n3 c4) 39 7 n3 (r.flatMap enc_api_Node)] [St w [(Value.slice A2 n3 c4).ownBlock.toList]] ∧ Ow z6 A2 n3 c4 r
noncomputable abbrev trellislaw32_over_C (w : World) (F : Nat → Prop) (A2 : Option Addr) (n3 : Nat) (c4 : Nat) (z6 : Nat) (r : List api_Node) : Cx := ⟨Try.prog, 20, Try.f20, 42, trellislaw32_over_R w F A2 n3 c4 z6 r, w⟩
theorem trellislaw32_over_calls (w : World) (F : Nat → Prop) (x1 : List api_Node) (k8 : Nat) (z6 : Nat) (A2 : Option Addr) (n3 : Nat) (c4 : Nat) (hz7 : z6 ≤ w.heap.size) (h5 : Ow z6 A2 n3 c4 x1) (hk9 : k8 ≤ n3) (hF : ∀ b, F b → b < w.heap.size ∧ ∀ o ∈ ([(Value.slice A2 n3 c4).ownBlock.toList] : List (List Nat)), b ∉ o) (hL0 : B.Loc w w [.own (.slice A2 n3 c4) 39 7 n3 (x1.flatMap enc_api_Node)] [Sm w.heap.size F w [(Value.slice A2 n3 c4).ownBlock.toList], St w [(Value.slice A2 n3 c4).ownBlock.toList]]) (r : List api_Node) (h : trellislaw32_over x1 k8 r) : Calls Try.prog 20 #[.slice A2 k8 c4] w (trellislaw32_over_R w F A2 n3 c4 z6 r) := by
  unfold trellislaw32_over at h
  refine calls_of_Loc (vs := [.slice A2 k8 c4]) 42 Try.func20 rfl Try.ntmps20 rfl hL0 ?_
  show G (trellislaw32_over_C w F A2 n3 c4 z6 r) _ _ _ _
  refine g_seq (c := trellislaw32_over_c0) rfl ?_
  refine g_region (c := trellislaw32_over_c1) rfl rfl ?_
  refine wl_v 0 rfl (v_assign rfl) gn rfl ?_
  refine w_end 1 rfl ?_
  refine g_block (c := trellislaw32_over_c2) rfl ?_
  refine g_loop (c := trellislaw32_over_c3) rfl ?_
  have key1 : ∀ s, Rounds (fun (s : (List api_Node) × Int) o => trellislaw32_over_b1 k8 s.1 s.2 o) s r → (fun (s : (List api_Node) × Int) => ∀ (h35 : Ow z6 A2 n3 c4 s.1) (hl11 : k8 ≤ n3), G (trellislaw32_over_C w F A2 n3 c4 z6 r) [.code trellislaw32_over_c4, .inLoop trellislaw32_over_c4, .inBlock 0] [(0, .slice A2 k8 c4), (2, .int .i64 s.2)] [.own (.slice A2 n3 c4) 39 7 n3 (s.1.flatMap enc_api_Node)] [Sm w.heap.size F w [(Value.slice A2 n3 c4).ownBlock.toList], St w [(Value.slice A2 n3 c4).ownBlock.toList]]) s := by
    intro s hs
    refine Rounds.ind (mot := (fun (s : (List api_Node) × Int) => ∀ (h35 : Ow z6 A2 n3 c4 s.1) (hl11 : k8 ≤ n3), G (trellislaw32_over_C w F A2 n3 c4 z6 r) [.code trellislaw32_over_c4, .inLoop trellislaw32_over_c4, .inBlock 0] [(0, .slice A2 k8 c4), (2, .int .i64 s.2)] [.own (.slice A2 n3 c4) 39 7 n3 (s.1.flatMap enc_api_Node)] [Sm w.heap.size F w [(Value.slice A2 n3 c4).ownBlock.toList], St w [(Value.slice A2 n3 c4).ownBlock.toList]])) ?_ hs
    clear hs s
    intro s o1 h hO1
    obtain ⟨x34, x36⟩ := s
    show ∀ (h35 : Ow z6 A2 n3 c4 x34) (hl11 : k8 ≤ n3), G (trellislaw32_over_C w F A2 n3 c4 z6 r) [.code trellislaw32_over_c4, .inLoop trellislaw32_over_c4, .inBlock 0] [(0, .slice A2 k8 c4), (2, .int .i64 x36)] [.own (.slice A2 n3 c4) 39 7 n3 (x34.flatMap enc_api_Node)] [Sm w.heap.size F w [(Value.slice A2 n3 c4).ownBlock.toList], St w [(Value.slice A2 n3 c4).ownBlock.toList]]
    intro h35 hl11
    have h : trellislaw32_over_b1 k8 x34 x36 o1 := h
    unfold trellislaw32_over_b1 at h
    refine g_seq (c := trellislaw32_over_c4) rfl ?_
    refine g_seq (c := trellislaw32_over_c5) rfl ?_
    refine g_region (c := trellislaw32_over_c7) rfl rfl ?_
    refine wl_v 0 rfl (v_move rfl) gn rfl ?_
    refine wl_v 1 rfl (v_move rfl) gn rfl ?_
    refine wl_v 2 rfl (v_lenQ un_22 rfl (Ow.cut h35 hl11).hq) gn rfl ?_
    refine wl_v 3 rfl (v_bin rfl rfl rfl) gn rfl ?_
    refine w_end 4 rfl ?_
    by_cases hp59 : x36 < ((x34.take k8).length : Int)
    · have h := if_pos' hp59 h
      refine g_true (c := trellislaw32_over_c8) rfl _ rfl ((decide_eq_true hp59)) ?_
      refine g_skip (c := trellislaw32_over_c9) rfl ?_
      refine g_seq (c := trellislaw32_over_c6) rfl ?_
      refine g_block (c := trellislaw32_over_c11) rfl ?_
      refine g_seq (c := trellislaw32_over_c13) rfl ?_
      refine g_region (c := trellislaw32_over_c14) rfl rfl ?_
      refine wl_v 0 rfl (v_move rfl) gn rfl ?_
      refine wl_v 1 rfl (v_move rfl) gn rfl ?_
      refine wl_v 2 rfl (v_move rfl) gn rfl ?_
      refine wl_v 3 rfl (v_move rfl) gn rfl ?_
      refine wl_v 4 rfl (v_lenQ un_22 rfl (Ow.cut h35 hl11).hq) gn rfl ?_
      refine wl_v 5 rfl (v_bin rfl rfl rfl) gn rfl ?_
      obtain ⟨hb60, h⟩ := h
      have hb61 : 0 ≤ w64 (((x34.take k8).length : Int) - 1) ∧ w64 (((x34.take k8).length : Int) - 1) < (x34.length : Int) := by have q := hb60; have q2 := List.length_take_le' k8 x34; omega
      refine wl_v 6 rfl (v_idxO slE_22 rfl rfl (Ow.cut h35 hl11) hb60) gn rfl ?_
      refine wl_v 7 rfl (v_fldA fo_39_0 rfl) gn rfl ?_
      refine wl_v 8 rfl (v_ldO1 (.string ((ix x34 (w64 (((x34.take k8).length : Int) - 1))).name)) 0 ld_9 rfl rfl (fm_get hl_api_Node hb61 rfl)) gn rfl ?_
      obtain ⟨hb62, h⟩ := h
      have hb63 : 0 ≤ x36 ∧ x36 < (x34.length : Int) := by have q := hb62; have q2 := List.length_take_le' k8 x34; omega
      refine wl_v 9 rfl (v_idxO slE_22 rfl rfl (Ow.cut h35 hl11) hb62) gn rfl ?_
      refine wl_v 10 rfl (v_fldA fo_39_0 rfl) gn rfl ?_
      obtain ⟨x64, hv65, h⟩ := h
      refine wl_s 11 rfl (s_stF (enc := enc_api_Node) (o := 0) (z := ({ (ix x34 x36) with name := (ix x34 (w64 (((x34.take k8).length : Int) - 1))).name })) (vs := [.string ((ix x34 (w64 (((x34.take k8).length : Int) - 1))).name)]) (i := x36) 0 hl_api_Node sz_9 rfl rfl rfl rfl rfl h35 hb63 rfl rfl rfl hv65 fun h66 => ?_) gn
      refine w_end 12 rfl ?_
      refine g_seq (c := trellislaw32_over_c15) rfl ?_
      refine g_region (c := trellislaw32_over_c16) rfl rfl ?_
      refine wl_v 0 rfl (v_move rfl) gn rfl ?_
      refine wl_v 1 rfl (v_move rfl) gn rfl ?_
      refine wl_v 2 rfl (v_move rfl) gn rfl ?_
      refine wl_v 3 rfl (v_move rfl) gn rfl ?_
      refine wl_v 4 rfl (v_lenQ un_22 rfl (Ow.cut h66 hl11).hq) gn rfl ?_
      refine wl_v 5 rfl (v_bin rfl rfl rfl) gn rfl ?_
      obtain ⟨hb67, h⟩ := h
      have hb68 : 0 ≤ w64 (((x64.take k8).length : Int) - 1) ∧ w64 (((x64.take k8).length : Int) - 1) < (x64.length : Int) := by have q := hb67; have q2 := List.length_take_le' k8 x64; omega
      refine wl_v 6 rfl (v_idxO slE_22 rfl rfl (Ow.cut h66 hl11) hb67) gn rfl ?_
      refine wl_v 7 rfl (v_fldA fo_39_3 rfl) gn rfl ?_
      refine wl_v 8 rfl (v_ldO1 (.int .i64 ((ix x64 (w64 (((x64.take k8).length : Int) - 1))).from_)) 0 ld_3 rfl rfl (fm_get hl_api_Node hb68 rfl)) gn rfl ?_
      obtain ⟨hb69, h⟩ := h
      have hb70 : 0 ≤ x36 ∧ x36 < (x64.length : Int) := by have q := hb69; have q2 := List.length_take_le' k8 x64; omega
      refine wl_v 9 rfl (v_idxO slE_22 rfl rfl (Ow.cut h66 hl11) hb69) gn rfl ?_
      refine wl_v 10 rfl (v_fldA fo_39_3 rfl) gn rfl ?_
      obtain ⟨x71, hv72, h⟩ := h
      refine wl_s 11 rfl (s_stF (enc := enc_api_Node) (o := 3) (z := ({ (ix x64 x36) with from_ := (ix x64 (w64 (((x64.take k8).length : Int) - 1))).from_ })) (vs := [.int .i64 ((ix x64 (w64 (((x64.take k8).length : Int) - 1))).from_)]) (i := x36) 0 hl_api_Node sz_3 rfl rfl rfl rfl rfl h66 hb70 rfl rfl rfl hv72 fun h73 => ?_) gn
      refine w_end 12 rfl ?_
      refine g_region (c := trellislaw32_over_c17) rfl rfl ?_
      refine wl_v 0 rfl (v_move rfl) gn rfl ?_
      refine wl_v 1 rfl (v_move rfl) gn rfl ?_
      refine wl_v 2 rfl (v_move rfl) gn rfl ?_
      refine wl_v 3 rfl (v_move rfl) gn rfl ?_
      refine wl_v 4 rfl (v_lenQ un_22 rfl (Ow.cut h73 hl11).hq) gn rfl ?_
      refine wl_v 5 rfl (v_bin rfl rfl rfl) gn rfl ?_
      obtain ⟨hb74, h⟩ := h
      have hb75 : 0 ≤ w64 (((x71.take k8).length : Int) - 1) ∧ w64 (((x71.take k8).length : Int) - 1) < (x71.length : Int) := by have q := hb74; have q2 := List.length_take_le' k8 x71; omega
      refine wl_v 6 rfl (v_idxO slE_22 rfl rfl (Ow.cut h73 hl11) hb74) gn rfl ?_
      refine wl_v 7 rfl (v_fldA fo_39_4 rfl) gn rfl ?_
      refine wl_v 8 rfl (v_ldO1 (.int .i64 ((ix x71 (w64 (((x71.take k8).length : Int) - 1))).to)) 0 ld_3 rfl rfl (fm_get hl_api_Node hb75 rfl)) gn rfl ?_
      obtain ⟨hb76, h⟩ := h
      have hb77 : 0 ≤ x36 ∧ x36 < (x71.length : Int) := by have q := hb76; have q2 := List.length_take_le' k8 x71; omega
      refine wl_v 9 rfl (v_idxO slE_22 rfl rfl (Ow.cut h73 hl11) hb76) gn rfl ?_
      refine wl_v 10 rfl (v_fldA fo_39_4 rfl) gn rfl ?_
      obtain ⟨x78, hv79, h⟩ := h
      refine wl_s 11 rfl (s_stF (enc := enc_api_Node) (o := 4) (z := ({ (ix x71 x36) with to := (ix x71 (w64 (((x71.take k8).length : Int) - 1))).to })) (vs := [.int .i64 ((ix x71 (w64 (((x71.take k8).length : Int) - 1))).to)]) (i := x36) 0 hl_api_Node sz_3 rfl rfl rfl rfl rfl h73 hb77 rfl rfl rfl hv79 fun h80 => ?_) gn
      refine w_end 12 rfl ?_
      refine g_inBlock ?_
      refine g_region (c := trellislaw32_over_c12) rfl rfl ?_
      refine wl_v 0 rfl (v_move rfl) gn rfl ?_
      refine wl_v 1 rfl (v_bin rfl rfl rfl) gn rfl ?_
      refine wl_v 2 rfl (v_assign rfl) gn rfl ?_
      refine w_end 3 rfl ?_
      refine g_inLoop ?_
      have ih := Out.inl hO1 h
      exact g_go [0, 1] (ih h80 hl11) ⟨rfl, rfl, trivial⟩ (.cons_cons _ (.slnil)) rfl
    · have h := if_neg' hp59 h
      refine g_false (c := trellislaw32_over_c8) rfl _ rfl ((decide_eq_false hp59)) ?_
      refine g_exit (c := trellislaw32_over_c10) [] rfl rfl ?_
      have h := Out.inr hO1 h
      refine g_endR [] Try.func20 rfl (.nil) fun wr hLr => ?_
      have hMr : B.Loc w wr [.own (.slice A2 n3 c4) 39 7 n3 (x34.flatMap enc_api_Node)] [St w [(Value.slice A2 n3 c4).ownBlock.toList]] := hLr.pick (rest := []) (perm_of_idx [0] [] rfl rfl (by kernel_rfl)) (sels [1] rfl)
      have hMi : ∀ e ∈ ([.own (.slice A2 n3 c4) 39 7 n3 (x34.flatMap enc_api_Node)] : List Ent), e ∈ ([.own (.slice A2 n3 c4) 39 7 n3 (x34.flatMap enc_api_Node)] : List Ent) := sels [0] rfl
      show trellislaw32_over_R w F A2 n3 c4 z6 r (.returned (packV [])) wr
      rw [h]
      exact ⟨rfl, hMr, h35⟩
  exact g_go [0, 1] (key1 _ h h5 hk9) ⟨rfl, rfl, trivial⟩ (.cons_cons _ (.slnil)) rfl
noncomputable abbrev trellislaw32_bare_c0 : Code := bodyOf Try.f22
noncomputable abbrev trellislaw32_bare_c1 : Code := Code.fst trellislaw32_bare_c0
noncomputable abbrev trellislaw32_bare_c2 : Code := Code.snd trellislaw32_bare_c0
noncomputable abbrev trellislaw32_bare_c3 : Code := Code.fst trellislaw32_bare_c2
noncomputable abbrev trellislaw32_bare_c4 : Code := Code.fst trellislaw32_bare_c3
noncomputable abbrev trellislaw32_bare_c5 : Code := Code.fst trellislaw32_bare_c4
noncomputable abbrev trellislaw32_bare_c6 : Code := Code.snd trellislaw32_bare_c4
noncomputable abbrev trellislaw32_bare_c7 : Code := Code.fst trellislaw32_bare_c5
noncomputable abbrev trellislaw32_bare_c8 : Code := Code.snd trellislaw32_bare_c5
noncomputable abbrev trellislaw32_bare_c9 : Code := Code.fst trellislaw32_bare_c8
noncomputable abbrev trellislaw32_bare_c10 : Code := Code.snd trellislaw32_bare_c8
noncomputable abbrev trellislaw32_bare_c11 : Code := Code.fst trellislaw32_bare_c6
noncomputable abbrev trellislaw32_bare_c12 : Code := Code.snd trellislaw32_bare_c6
noncomputable abbrev trellislaw32_bare_c13 : Code := Code.fst trellislaw32_bare_c11
abbrev trellislaw32_bare_R (w : World) (F : Nat → Prop) (A2 : Option Addr) (n3 : Nat) (c4 : Nat) (z6 : Nat) (r : List api_Node) : Ending → World → Prop := fun e w' => e = .returned (.tuple #[]) ∧ B.Loc w w' [.own (.slice A2 n3 c4) 39 7 n3 (r.flatMap enc_api_Node)] [St w [(Value.slice A2 n3 c4).ownBlock.toList]] ∧ Ow z6 A2 n3 c4 r
noncomputable abbrev trellislaw32_bare_C (w : World) (F : Nat → Prop) (A2 : Option Addr) (n3 : Nat) (c4 : Nat) (z6 : Nat) (r : List api_Node) : Cx := ⟨Try.prog, 22, Try.f22, 13, trellislaw32_bare_R w F A2 n3 c4 z6 r, w⟩
theorem trellislaw32_bare_calls (w : World) (F : Nat → Prop) (x1 : List api_Node) (k8 : Nat) (z6 : Nat) (A2 : Option Addr) (n3 : Nat) (c4 : Nat) (hz7 : z6 ≤ w.heap.size) (h5 : Ow z6 A2 n3 c4 x1) (hk9 : k8 ≤ n3) (hF : ∀ b, F b → b < w.heap.size ∧ ∀ o ∈ ([(Value.slice A2 n3 c4).ownBlock.toList] : List (List Nat)), b ∉ o) (hL0 : B.Loc w w [.own (.slice A2 n3 c4) 39 7 n3 (x1.flatMap enc_api_Node)] [Sm w.heap.size F w [(Value.slice A2 n3 c4).ownBlock.toList], St w [(Value.slice A2 n3 c4).ownBlock.toList]]) (r : List api_Node) (h : trellislaw32_bare x1 k8 r) : Calls Try.prog 22 #[.slice A2 k8 c4] w (trellislaw32_bare_R w F A2 n3 c4 z6 r) := by
  unfold trellislaw32_bare at h
  refine calls_of_Loc (vs := [.slice A2 k8 c4]) 13 Try.func22 rfl Try.ntmps22 rfl hL0 ?_
  show G (trellislaw32_bare_C w F A2 n3 c4 z6 r) _ _ _ _
  refine g_seq (c := trellislaw32_bare_c0) rfl ?_
  refine g_region (c := trellislaw32_bare_c1) rfl rfl ?_
  refine wl_v 0 rfl (v_assign rfl) gn rfl ?_
  refine w_end 1 rfl ?_
  refine g_block (c := trellislaw32_bare_c2) rfl ?_
  refine g_loop (c := trellislaw32_bare_c3) rfl ?_
  have key1 : ∀ s, Rounds (fun (s : (List api_Node) × Int) o => trellislaw32_bare_b1 k8 s.1 s.2 o) s r → (fun (s : (List api_Node) × Int) => ∀ (h19 : Ow z6 A2 n3 c4 s.1) (hl11 : k8 ≤ n3), G (trellislaw32_bare_C w F A2 n3 c4 z6 r) [.code trellislaw32_bare_c4, .inLoop trellislaw32_bare_c4, .inBlock 0] [(0, .slice A2 k8 c4), (2, .int .i64 s.2)] [.own (.slice A2 n3 c4) 39 7 n3 (s.1.flatMap enc_api_Node)] [Sm w.heap.size F w [(Value.slice A2 n3 c4).ownBlock.toList], St w [(Value.slice A2 n3 c4).ownBlock.toList]]) s := by
    intro s hs
    refine Rounds.ind (mot := (fun (s : (List api_Node) × Int) => ∀ (h19 : Ow z6 A2 n3 c4 s.1) (hl11 : k8 ≤ n3), G (trellislaw32_bare_C w F A2 n3 c4 z6 r) [.code trellislaw32_bare_c4, .inLoop trellislaw32_bare_c4, .inBlock 0] [(0, .slice A2 k8 c4), (2, .int .i64 s.2)] [.own (.slice A2 n3 c4) 39 7 n3 (s.1.flatMap enc_api_Node)] [Sm w.heap.size F w [(Value.slice A2 n3 c4).ownBlock.toList], St w [(Value.slice A2 n3 c4).ownBlock.toList]])) ?_ hs
    clear hs s
    intro s o1 h hO1
    obtain ⟨x18, x20⟩ := s
    show ∀ (h19 : Ow z6 A2 n3 c4 x18) (hl11 : k8 ≤ n3), G (trellislaw32_bare_C w F A2 n3 c4 z6 r) [.code trellislaw32_bare_c4, .inLoop trellislaw32_bare_c4, .inBlock 0] [(0, .slice A2 k8 c4), (2, .int .i64 x20)] [.own (.slice A2 n3 c4) 39 7 n3 (x18.flatMap enc_api_Node)] [Sm w.heap.size F w [(Value.slice A2 n3 c4).ownBlock.toList], St w [(Value.slice A2 n3 c4).ownBlock.toList]]
    intro h19 hl11
    have h : trellislaw32_bare_b1 k8 x18 x20 o1 := h
    unfold trellislaw32_bare_b1 at h
    refine g_seq (c := trellislaw32_bare_c4) rfl ?_
    refine g_seq (c := trellislaw32_bare_c5) rfl ?_
    refine g_region (c := trellislaw32_bare_c7) rfl rfl ?_
    refine wl_v 0 rfl (v_move rfl) gn rfl ?_
    refine wl_v 1 rfl (v_move rfl) gn rfl ?_
    refine wl_v 2 rfl (v_lenQ un_22 rfl (Ow.cut h19 hl11).hq) gn rfl ?_
    refine wl_v 3 rfl (v_bin rfl rfl rfl) gn rfl ?_
    refine w_end 4 rfl ?_
    by_cases hp27 : x20 < ((x18.take k8).length : Int)
    · have h := if_pos' hp27 h
      refine g_true (c := trellislaw32_bare_c8) rfl _ rfl ((decide_eq_true hp27)) ?_
      refine g_skip (c := trellislaw32_bare_c9) rfl ?_
      refine g_seq (c := trellislaw32_bare_c6) rfl ?_
      refine g_block (c := trellislaw32_bare_c11) rfl ?_
      refine g_region (c := trellislaw32_bare_c13) rfl rfl ?_
      refine wl_v 0 rfl (v_move rfl) gn rfl ?_
      refine wl_v 1 rfl (v_move rfl) gn rfl ?_
      obtain ⟨hb28, h⟩ := h
      have hb29 : 0 ≤ x20 ∧ x20 < (x18.length : Int) := by have q := hb28; have q2 := List.length_take_le' k8 x18; omega
      refine wl_v 2 rfl (v_idxO slE_22 rfl rfl (Ow.cut h19 hl11) hb28) gn rfl ?_
      refine wl_v 3 rfl (v_fldA fo_39_5 rfl) gn rfl ?_
      obtain ⟨x30, hv31, h⟩ := h
      refine wl_s 4 rfl (s_stF (enc := enc_api_Node) (o := 5) (z := ({ (ix x18 x20) with kids := 0 })) (vs := [.int .i64 0]) (i := x20) 0 hl_api_Node sz_3 rfl rfl rfl rfl rfl h19 hb29 rfl rfl rfl hv31 fun h32 => ?_) gn
      refine w_end 5 rfl ?_
      refine g_inBlock ?_
      refine g_region (c := trellislaw32_bare_c12) rfl rfl ?_
      refine wl_v 0 rfl (v_move rfl) gn rfl ?_
      refine wl_v 1 rfl (v_bin rfl rfl rfl) gn rfl ?_
      refine wl_v 2 rfl (v_assign rfl) gn rfl ?_
      refine w_end 3 rfl ?_
      refine g_inLoop ?_
      have ih := Out.inl hO1 h
      exact g_go [0, 1] (ih h32 hl11) ⟨rfl, rfl, trivial⟩ (.cons_cons _ (.slnil)) rfl
    · have h := if_neg' hp27 h
      refine g_false (c := trellislaw32_bare_c8) rfl _ rfl ((decide_eq_false hp27)) ?_
      refine g_exit (c := trellislaw32_bare_c10) [] rfl rfl ?_
      have h := Out.inr hO1 h
      refine g_endR [] Try.func22 rfl (.nil) fun wr hLr => ?_
      have hMr : B.Loc w wr [.own (.slice A2 n3 c4) 39 7 n3 (x18.flatMap enc_api_Node)] [St w [(Value.slice A2 n3 c4).ownBlock.toList]] := hLr.pick (rest := []) (perm_of_idx [0] [] rfl rfl (by kernel_rfl)) (sels [1] rfl)
      have hMi : ∀ e ∈ ([.own (.slice A2 n3 c4) 39 7 n3 (x18.flatMap enc_api_Node)] : List Ent), e ∈ ([.own (.slice A2 n3 c4) 39 7 n3 (x18.flatMap enc_api_Node)] : List Ent) := sels [0] rfl
      show trellislaw32_bare_R w F A2 n3 c4 z6 r (.returned (packV [])) wr
      rw [h]
      exact ⟨rfl, hMr, h19⟩
  exact g_go [0, 1] (key1 _ h h5 hk9) ⟨rfl, rfl, trivial⟩ (.cons_cons _ (.slnil)) rfl
noncomputable abbrev trellisref32_beside_c0 : Code := bodyOf Try.f54
noncomputable abbrev trellisref32_beside_c1 : Code := Code.fst trellisref32_beside_c0
noncomputable abbrev trellisref32_beside_c2 : Code := Code.snd trellisref32_beside_c0
noncomputable abbrev trellisref32_beside_c3 : Code := Code.fst trellisref32_beside_c2
noncomputable abbrev trellisref32_beside_c4 : Code := Code.snd trellisref32_beside_c2
noncomputable abbrev trellisref32_beside_c5 : Code := Code.fst trellisref32_beside_c3
noncomputable abbrev trellisref32_beside_c6 : Code := Code.snd trellisref32_beside_c3
noncomputable abbrev trellisref32_beside_c7 : Code := Code.fst trellisref32_beside_c6
noncomputable abbrev trellisref32_beside_c8 : Code := Code.snd trellisref32_beside_c6
noncomputable abbrev trellisref32_beside_c9 : Code := Code.fst trellisref32_beside_c7
noncomputable abbrev trellisref32_beside_c10 : Code := Code.snd trellisref32_beside_c7
noncomputable abbrev trellisref32_beside_c11 : Code := Code.fst trellisref32_beside_c4
noncomputable abbrev trellisref32_beside_c12 : Code := Code.snd trellisref32_beside_c4
abbrev trellisref32_beside_R (w : World) (F : Nat → Prop) (r : List Int) : Ending → World → Prop := fun e w' => ∃ A0 : Option Addr, ∃ n0 : Nat, ∃ c0 : Nat, e = .returned (.slice A0 n0 c0) ∧ B.Loc w w' [.own (.slice A0 n0 c0) 3 1 n0 (r.flatMap (eI .i64))] [St w []] ∧ Ow w.heap.size A0 n0 c0 r
noncomputable abbrev trellisref32_beside_C (w : World) (F : Nat → Prop) (r : List Int) : Cx := ⟨Try.prog, 54, Try.f54, 23, trellisref32_beside_R w F  r, w⟩
theorem trellisref32_beside_calls (w : World) (F : Nat → Prop) (x1 : List api_Node) (x6 : Int) (A2 : Option Addr) (n3 : Nat) (c4 : Nat) (h5 : Rw k_api_Node w (St w []).av A2 n3 c4 x1) (hF : ∀ b, F b → b < w.heap.size ∧ ∀ o ∈ ([] : List (List Nat)), b ∉ o) (hL0 : B.Loc w w [] [Sm w.heap.size F w [], St w []]) (r : List Int) (h : trellisref32_beside x1 x6 r) : Calls Try.prog 54 #[.slice A2 n3 c4, .int .i64 x6] w (trellisref32_beside_R w F  r) := by
  unfold trellisref32_beside at h
  refine calls_of_Loc (vs := [.slice A2 n3 c4, .int .i64 x6]) 23 Try.func54 rfl Try.ntmps54 rfl hL0 ?_
  show G (trellisref32_beside_C w F r) _ _ _ _
  refine g_seq (c := trellisref32_beside_c0) rfl ?_
  refine g_region (c := trellisref32_beside_c1) rfl rfl ?_
  refine wl_v 0 rfl (v_assign rfl) gn rfl ?_
  refine w_end 1 rfl ?_
  refine g_seq (c := trellisref32_beside_c2) rfl ?_
  refine g_seq (c := trellisref32_beside_c3) rfl ?_
  have j1 : ∀ (x18 : Bool) (h : trellisref32_beside_j1 x1 x6 x18 r) , G (trellisref32_beside_C w F r) [.code trellisref32_beside_c6, .code trellisref32_beside_c4] [(0, .slice A2 n3 c4), (1, .int .i64 x6), (17, .bool x18)] [] [Sm w.heap.size F w [], St w []] := by
    intro x18 h
    unfold trellisref32_beside_j1 at h
    by_cases hp19 : x18 = true
    · have h := if_pos' hp19 h
      refine g_true (c := trellisref32_beside_c6) rfl _ rfl (hp19) ?_
      refine g_seq (c := trellisref32_beside_c7) rfl ?_
      refine g_region (c := trellisref32_beside_c9) rfl rfl ?_
      refine wl_v 0 rfl (v_assign rfl) gn rfl ?_
      refine w_end 1 rfl ?_
      refine g_nil 3 1 ?_
      refine g_retR (c := trellisref32_beside_c10) [.slice none 0 0] rfl Try.func54 rfl (.tmp rfl (.nil)) fun wr hLr => ?_
      have hMr : B.Loc w wr [.own (.slice none 0 0) 3 1 0 (([] : List Int).flatMap (eI .i64))] [St w []] := hLr.pick (rest := []) (perm_of_idx [0] [] rfl rfl (by kernel_rfl)) (sels [1] rfl)
      have hMi : ∀ e ∈ ([.own (.slice none 0 0) 3 1 0 (([] : List Int).flatMap (eI .i64))] : List Ent), e ∈ ([.own (.slice none 0 0) 3 1 0 (([] : List Int).flatMap (eI .i64))] : List Ent) := sels [0] rfl
      show trellisref32_beside_R w F  r (.returned (packV [.slice none 0 0])) wr
      rw [h]
      exact ⟨none, 0, 0, rfl, hMr, (Ow.nil (z := w.heap.size))⟩
    · have h := if_neg' hp19 h
      refine g_false (c := trellisref32_beside_c6) rfl _ rfl ((bf hp19)) ?_
      refine g_skip (c := trellisref32_beside_c8) rfl ?_
      refine g_seq (c := trellisref32_beside_c4) rfl ?_
      refine g_region (c := trellisref32_beside_c11) rfl rfl ?_
      refine wl_v 0 rfl (v_move rfl) gn rfl ?_
      refine wl_v 1 rfl (v_move rfl) gn rfl ?_
      refine wl_v 2 rfl (v_move rfl) gn rfl ?_
      obtain ⟨r23, hv24, h⟩ := h
      refine wl_s 3 rfl (s_call [.slice A2 n3 c4, .int .i64 x6] rfl Try.func61 rfl rfl rfl fun w20 hL21 => ?_) gn
      have hp22 : List.Perm ([] : List Ent) (([] : List Ent) ++ ([] : List Ent)) := perm_of_idx [] [] rfl rfl (by kernel_rfl)
      refine Calls.mono (trellisref15_Parent_calls w20 (Fl ([] : List Snap)) x1 x6 A2 n3 c4 (Rw.mono h5 (hL21.toSt hp22 (me 1 rfl))) (hL21.hFl (Sl := ([] : List Snap)) hp22 (sels [] rfl)) (hL21.into hp22 (Fl ([] : List Snap))) r23 hv24) ?_
      rintro _ w25 ⟨rfl, hM26⟩
      have hL27 := hL21.call hp22 hM26
      refine ⟨_, _, _, rfl, hL27, ?_⟩
      obtain ⟨r31, hv32, h⟩ := h
      refine wl_s 4 rfl (s_call [.slice A2 n3 c4, .int .i64 r23] rfl Try.func53 rfl rfl rfl fun w28 hL29 => ?_) gn
      have hp30 : List.Perm ([] : List Ent) (([] : List Ent) ++ ([] : List Ent)) := perm_of_idx [] [] rfl rfl (by kernel_rfl)
      refine Calls.mono (trellisref32_Row_calls w28 (Fl ([] : List Snap)) x1 r23 A2 n3 c4 (Rw.mono h5 (hL29.toSt hp30 (me 1 rfl))) (hL29.hFl (Sl := ([] : List Snap)) hp30 (sels [] rfl)) (hL29.into hp30 (Fl ([] : List Snap))) r31 hv32) ?_
      rintro _ w38 ⟨A33, n34, c35, rfl, hM39, h36⟩
      have hL40 := hL29.call hp30 hM39
      refine ⟨_, _, _, rfl, hL40, ?_⟩
      refine wl_v 5 rfl (v_assign rfl) gn rfl ?_
      refine w_end 6 rfl ?_
      refine g_retR (c := trellisref32_beside_c12) [.slice A33 n34 c35] rfl Try.func54 rfl (.tmp rfl (.nil)) fun wr hLr => ?_
      have hMr : B.Loc w wr [.own (.slice A33 n34 c35) 3 1 n34 (r31.flatMap (eI .i64))] [St w []] := hLr.pick (rest := []) (perm_of_idx [0] [] rfl rfl (by kernel_rfl)) (sels [1] rfl)
      have hMi : ∀ e ∈ ([.own (.slice A33 n34 c35) 3 1 n34 (r31.flatMap (eI .i64))] : List Ent), e ∈ ([.own (.slice A33 n34 c35) 3 1 n34 (r31.flatMap (eI .i64))] : List Ent) := sels [0] rfl
      show trellisref32_beside_R w F  r (.returned (packV [.slice A33 n34 c35])) wr
      rw [h]
      exact ⟨A33, n34, c35, rfl, hMr, (Ow.weak hL29.env.size h36)⟩
  refine g_region (c := trellisref32_beside_c5) rfl rfl ?_
  refine wl_v 0 rfl (v_move rfl) gn rfl ?_
  refine wl_v 1 rfl (v_bin rfl rfl rfl) gn rfl ?_
  refine wl_v 2 rfl (v_move rfl) gn rfl ?_
  by_cases hp41 : x6 < 0
  · have h := if_pos' hp41 h
    refine w_bool 7 rfl ((decide_eq_true hp41)) ?_
    refine wl_pass 3 rfl (ps 7 rfl rfl rfl) ?_
    refine wl_pass 4 rfl (ps 7 rfl rfl rfl) ?_
    refine wl_pass 5 rfl (ps 7 rfl rfl rfl) ?_
    refine wl_pass 6 rfl (ps 7 rfl rfl rfl) ?_
    refine wl_v 7 rfl (v_pick (b := true) rfl rfl) gn rfl ?_
    refine wl_v 8 rfl (v_move rfl) gn rfl ?_
    refine wl_pass 9 rfl (ps 13 rfl rfl rfl) ?_
    refine wl_pass 10 rfl (ps 13 rfl rfl rfl) ?_
    refine wl_pass 11 rfl (ps 13 rfl rfl rfl) ?_
    refine wl_v 12 rfl (v_pick (b := true) rfl rfl) gn rfl ?_
    refine w_end 13 rfl ?_
    exact g_go [0, 1] (j1 true h) ⟨rfl, rfl, rfl, trivial⟩ (.slnil) rfl
  · have h := if_neg' hp41 h
    refine w_bool 7 rfl ((decide_eq_false hp41)) ?_
    refine wl_v 3 rfl (v_move rfl) (gy 7 rfl rfl) rfl ?_
    refine wl_v 4 rfl (v_move rfl) (gy 7 rfl rfl) rfl ?_
    refine wl_v 5 rfl (v_lenQ un_22 rfl h5.hq) (gy 7 rfl rfl) rfl ?_
    refine wl_v 6 rfl (v_bin rfl rfl rfl) (gy 7 rfl rfl) rfl ?_
    refine wl_v 7 rfl (v_pick (b := false) rfl rfl) gn rfl ?_
    refine wl_v 8 rfl (v_move rfl) gn rfl ?_
    by_cases hp42 : x6 ≥ (x1.length : Int)
    · have h := if_pos' hp42 h
      refine w_bool 13 rfl ((decide_eq_true hp42)) ?_
      refine wl_pass 9 rfl (ps 13 rfl rfl rfl) ?_
      refine wl_pass 10 rfl (ps 13 rfl rfl rfl) ?_
      refine wl_pass 11 rfl (ps 13 rfl rfl rfl) ?_
      refine wl_v 12 rfl (v_pick (b := true) rfl rfl) gn rfl ?_
      refine w_end 13 rfl ?_
      exact g_go [0, 1] (j1 true h) ⟨rfl, rfl, rfl, trivial⟩ (.slnil) rfl
    · have h := if_neg' hp42 h
      refine w_bool 13 rfl ((decide_eq_false hp42)) ?_
      refine wl_v 9 rfl (v_move rfl) (gy 13 rfl rfl) rfl ?_
      obtain ⟨r46, hv47, h⟩ := h
      refine wl_s 10 rfl (s_call [.slice A2 n3 c4] rfl Try.func60 rfl rfl rfl fun w43 hL44 => ?_) (gy 13 rfl rfl)
      have hp45 : List.Perm ([] : List Ent) (([] : List Ent) ++ ([] : List Ent)) := perm_of_idx [] [] rfl rfl (by kernel_rfl)
      refine Calls.mono (trellisref15_Roots_calls w43 (Fl ([] : List Snap)) x1 A2 n3 c4 (Rw.mono h5 (hL44.toSt hp45 (me 1 rfl))) (hL44.hFl (Sl := ([] : List Snap)) hp45 (sels [] rfl)) (hL44.into hp45 (Fl ([] : List Snap))) r46 hv47) ?_
      rintro _ w48 ⟨rfl, hM49⟩
      have hL50 := hL44.call hp45 hM49
      refine ⟨_, _, _, rfl, hL50, ?_⟩
      refine wl_v 11 rfl (v_bin rfl rfl rfl) (gy 13 rfl rfl) rfl ?_
      refine wl_v 12 rfl (v_pick (b := false) rfl rfl) gn rfl ?_
      refine w_end 13 rfl ?_
      exact g_go [0, 1] (j1 (decide (r46 < 0)) h) ⟨rfl, rfl, rfl, trivial⟩ (.slnil) rfl
noncomputable abbrev trellisref32_place_c0 : Code := bodyOf Try.f55
noncomputable abbrev trellisref32_place_c1 : Code := Code.fst trellisref32_place_c0
noncomputable abbrev trellisref32_place_c2 : Code := Code.snd trellisref32_place_c0
noncomputable abbrev trellisref32_place_c3 : Code := Code.fst trellisref32_place_c2
noncomputable abbrev trellisref32_place_c4 : Code := Code.snd trellisref32_place_c2
noncomputable abbrev trellisref32_place_c5 : Code := Code.fst trellisref32_place_c3
noncomputable abbrev trellisref32_place_c6 : Code := Code.snd trellisref32_place_c3
noncomputable abbrev trellisref32_place_c7 : Code := Code.fst trellisref32_place_c6
noncomputable abbrev trellisref32_place_c8 : Code := Code.fst trellisref32_place_c7
noncomputable abbrev trellisref32_place_c9 : Code := Code.fst trellisref32_place_c8
noncomputable abbrev trellisref32_place_c10 : Code := Code.snd trellisref32_place_c8
noncomputable abbrev trellisref32_place_c11 : Code := Code.fst trellisref32_place_c9
noncomputable abbrev trellisref32_place_c12 : Code := Code.snd trellisref32_place_c9
noncomputable abbrev trellisref32_place_c13 : Code := Code.fst trellisref32_place_c12
noncomputable abbrev trellisref32_place_c14 : Code := Code.snd trellisref32_place_c12
noncomputable abbrev trellisref32_place_c15 : Code := Code.fst trellisref32_place_c10
noncomputable abbrev trellisref32_place_c16 : Code := Code.snd trellisref32_place_c10
noncomputable abbrev trellisref32_place_c17 : Code := Code.fst trellisref32_place_c15
noncomputable abbrev trellisref32_place_c18 : Code := Code.fst trellisref32_place_c17
noncomputable abbrev trellisref32_place_c19 : Code := Code.snd trellisref32_place_c17
noncomputable abbrev trellisref32_place_c20 : Code := Code.fst trellisref32_place_c19
noncomputable abbrev trellisref32_place_c21 : Code := Code.snd trellisref32_place_c19
noncomputable abbrev trellisref32_place_c22 : Code := Code.fst trellisref32_place_c20
noncomputable abbrev trellisref32_place_c23 : Code := Code.snd trellisref32_place_c20
noncomputable abbrev trellisref32_place_c24 : Code := Code.fst trellisref32_place_c4
noncomputable abbrev trellisref32_place_c25 : Code := Code.snd trellisref32_place_c4
abbrev trellisref32_place_R (w : World) (F : Nat → Prop) (r : Int) : Ending → World → Prop := fun e w' => e = .returned (.int .i64 r) ∧ B.Loc w w' [] [St w []]
noncomputable abbrev trellisref32_place_C (w : World) (F : Nat → Prop) (r : Int) : Cx := ⟨Try.prog, 55, Try.f55, 19, trellisref32_place_R w F  r, w⟩
theorem trellisref32_place_calls (w : World) (F : Nat → Prop) (x1 : List Int) (x6 : Int) (A2 : Option Addr) (n3 : Nat) (c4 : Nat) (h5 : Rw (kInt .i64) w (St w []).av A2 n3 c4 x1) (hF : ∀ b, F b → b < w.heap.size ∧ ∀ o ∈ ([] : List (List Nat)), b ∉ o) (hL0 : B.Loc w w [] [Sm w.heap.size F w [], St w []]) (r : Int) (h : trellisref32_place x1 x6 r) : Calls Try.prog 55 #[.slice A2 n3 c4, .int .i64 x6] w (trellisref32_place_R w F  r) := by
  unfold trellisref32_place at h
  refine calls_of_Loc (vs := [.slice A2 n3 c4, .int .i64 x6]) 19 Try.func55 rfl Try.ntmps55 rfl hL0 ?_
  show G (trellisref32_place_C w F r) _ _ _ _
  refine g_seq (c := trellisref32_place_c0) rfl ?_
  refine g_region (c := trellisref32_place_c1) rfl rfl ?_
  refine wl_v 0 rfl (v_assign rfl) gn rfl ?_
  refine w_end 1 rfl ?_
  refine g_seq (c := trellisref32_place_c2) rfl ?_
  refine g_seq (c := trellisref32_place_c3) rfl ?_
  refine g_region (c := trellisref32_place_c5) rfl rfl ?_
  refine wl_v 0 rfl (v_assign rfl) gn rfl ?_
  refine w_end 1 rfl ?_
  refine g_block (c := trellisref32_place_c6) rfl ?_
  refine g_loop (c := trellisref32_place_c7) rfl ?_
  have key1 : ∀ s, Rounds (fun (s : Int) o => trellisref32_place_b1 x1 x6 s o) s r → (fun (s : Int) => ∀ (_ : Unit), G (trellisref32_place_C w F r) [.code trellisref32_place_c8, .inLoop trellisref32_place_c8, .inBlock 0, .code trellisref32_place_c4] [(0, .slice A2 n3 c4), (1, .int .i64 x6), (5, .int .i64 s)] [] [Sm w.heap.size F w [], St w []]) s := by
    intro s hs
    refine Rounds.ind (mot := (fun (s : Int) => ∀ (_ : Unit), G (trellisref32_place_C w F r) [.code trellisref32_place_c8, .inLoop trellisref32_place_c8, .inBlock 0, .code trellisref32_place_c4] [(0, .slice A2 n3 c4), (1, .int .i64 x6), (5, .int .i64 s)] [] [Sm w.heap.size F w [], St w []])) ?_ hs
    clear hs s
    intro x12 o1 h hO1
    show ∀ (_ : Unit), G (trellisref32_place_C w F r) [.code trellisref32_place_c8, .inLoop trellisref32_place_c8, .inBlock 0, .code trellisref32_place_c4] [(0, .slice A2 n3 c4), (1, .int .i64 x6), (5, .int .i64 x12)] [] [Sm w.heap.size F w [], St w []]
    intro _
    have h : trellisref32_place_b1 x1 x6 x12 o1 := h
    unfold trellisref32_place_b1 at h
    refine g_seq (c := trellisref32_place_c8) rfl ?_
    refine g_seq (c := trellisref32_place_c9) rfl ?_
    refine g_region (c := trellisref32_place_c11) rfl rfl ?_
    refine wl_v 0 rfl (v_move rfl) gn rfl ?_
    refine wl_v 1 rfl (v_move rfl) gn rfl ?_
    refine wl_v 2 rfl (v_lenQ un_45 rfl h5.hq) gn rfl ?_
    refine wl_v 3 rfl (v_bin rfl rfl rfl) gn rfl ?_
    refine w_end 4 rfl ?_
    by_cases hp17 : x12 < (x1.length : Int)
    · have h := if_pos' hp17 h
      refine g_true (c := trellisref32_place_c12) rfl _ rfl ((decide_eq_true hp17)) ?_
      refine g_skip (c := trellisref32_place_c13) rfl ?_
      refine g_seq (c := trellisref32_place_c10) rfl ?_
      refine g_block (c := trellisref32_place_c15) rfl ?_
      refine g_seq (c := trellisref32_place_c17) rfl ?_
      refine g_region (c := trellisref32_place_c18) rfl rfl ?_
      refine wl_v 0 rfl (v_move rfl) gn rfl ?_
      refine wl_v 1 rfl (v_move rfl) gn rfl ?_
      obtain ⟨hb18, h⟩ := h
      have hr19 := Rw.readF (s := St w []) (hl := (hlI .i64)) (h1 := (hone_int .i64)) h5 hb18
      refine wl_v 2 rfl (v_idxR (s := St w []) slE_45 rfl rfl h5 hb18) gn rfl ?_
      refine wl_v 3 rfl (v_ldA1 (kk := (x12 : Int).toNat * 1) (j := 0) (St w []) ld_3 rfl hr19 rfl (me 1 rfl)) gn rfl ?_
      refine wl_v 4 rfl (v_move rfl) gn rfl ?_
      refine wl_v 5 rfl (v_bin rfl rfl rfl) gn rfl ?_
      refine w_end 6 rfl ?_
      by_cases hp20 : ix x1 x12 = x6
      · have h := if_pos' hp20 h
        refine g_true (c := trellisref32_place_c19) rfl _ rfl ((eqi hp20)) ?_
        refine g_seq (c := trellisref32_place_c20) rfl ?_
        refine g_region (c := trellisref32_place_c22) rfl rfl ?_
        refine wl_v 0 rfl (v_move rfl) gn rfl ?_
        refine wl_v 1 rfl (v_assign rfl) gn rfl ?_
        refine w_end 2 rfl ?_
        have h := Out.inr hO1 h
        refine g_retR (c := trellisref32_place_c23) [.int .i64 x12] rfl Try.func55 rfl (.tmp rfl (.nil)) fun wr hLr => ?_
        have hMr : B.Loc w wr [] [St w []] := hLr.pick (rest := []) (perm_of_idx [] [] rfl rfl (by kernel_rfl)) (sels [1] rfl)
        have hMi : ∀ e ∈ ([] : List Ent), e ∈ ([] : List Ent) := sels [] rfl
        show trellisref32_place_R w F  r (.returned (packV [.int .i64 x12])) wr
        rw [h]
        exact ⟨rfl, hMr⟩
      · have h := if_neg' hp20 h
        refine g_false (c := trellisref32_place_c19) rfl _ rfl ((nei hp20)) ?_
        refine g_skip (c := trellisref32_place_c21) rfl ?_
        refine g_inBlock ?_
        refine g_region (c := trellisref32_place_c16) rfl rfl ?_
        refine wl_v 0 rfl (v_move rfl) gn rfl ?_
        refine wl_v 1 rfl (v_bin rfl rfl rfl) gn rfl ?_
        refine wl_v 2 rfl (v_assign rfl) gn rfl ?_
        refine w_end 3 rfl ?_
        refine g_inLoop ?_
        have ih := Out.inl hO1 h
        exact g_go [0, 1] (ih ()) ⟨rfl, rfl, rfl, trivial⟩ (.slnil) rfl
    · have h := if_neg' hp17 h
      refine g_false (c := trellisref32_place_c12) rfl _ rfl ((decide_eq_false hp17)) ?_
      refine g_exit (c := trellisref32_place_c14) [.code trellisref32_place_c4] rfl rfl ?_
      refine g_seq (c := trellisref32_place_c4) rfl ?_
      refine g_region (c := trellisref32_place_c24) rfl rfl ?_
      refine wl_v 0 rfl (v_assign rfl) gn rfl ?_
      refine w_end 1 rfl ?_
      have h := Out.inr hO1 h
      refine g_retR (c := trellisref32_place_c25) [.int .i64 (-1)] rfl Try.func55 rfl (.tmp rfl (.nil)) fun wr hLr => ?_
      have hMr : B.Loc w wr [] [St w []] := hLr.pick (rest := []) (perm_of_idx [] [] rfl rfl (by kernel_rfl)) (sels [1] rfl)
      have hMi : ∀ e ∈ ([] : List Ent), e ∈ ([] : List Ent) := sels [] rfl
      show trellisref32_place_R w F  r (.returned (packV [.int .i64 (-1)])) wr
      rw [h]
      exact ⟨rfl, hMr⟩
  exact g_go [0, 1] (key1 _ h ()) ⟨rfl, rfl, rfl, trivial⟩ (.slnil) rfl
noncomputable abbrev trellisref32_Beside_c0 : Code := bodyOf Try.f41
noncomputable abbrev trellisref32_Beside_c1 : Code := Code.fst trellisref32_Beside_c0
noncomputable abbrev trellisref32_Beside_c2 : Code := Code.snd trellisref32_Beside_c0
noncomputable abbrev trellisref32_Beside_c3 : Code := Code.fst trellisref32_Beside_c2
noncomputable abbrev trellisref32_Beside_c4 : Code := Code.snd trellisref32_Beside_c2
noncomputable abbrev trellisref32_Beside_c5 : Code := Code.fst trellisref32_Beside_c4
noncomputable abbrev trellisref32_Beside_c6 : Code := Code.snd trellisref32_Beside_c4
noncomputable abbrev trellisref32_Beside_c7 : Code := Code.fst trellisref32_Beside_c6
noncomputable abbrev trellisref32_Beside_c8 : Code := Code.snd trellisref32_Beside_c6
noncomputable abbrev trellisref32_Beside_c9 : Code := Code.fst trellisref32_Beside_c7
noncomputable abbrev trellisref32_Beside_c10 : Code := Code.snd trellisref32_Beside_c7
noncomputable abbrev trellisref32_Beside_c11 : Code := Code.fst trellisref32_Beside_c10
noncomputable abbrev trellisref32_Beside_c12 : Code := Code.snd trellisref32_Beside_c10
noncomputable abbrev trellisref32_Beside_c13 : Code := Code.fst trellisref32_Beside_c11
noncomputable abbrev trellisref32_Beside_c14 : Code := Code.snd trellisref32_Beside_c11
noncomputable abbrev trellisref32_Beside_c15 : Code := Code.fst trellisref32_Beside_c8
noncomputable abbrev trellisref32_Beside_c16 : Code := Code.snd trellisref32_Beside_c8
abbrev trellisref32_Beside_R (w : World) (F : Nat → Prop) (r : Int) : Ending → World → Prop := fun e w' => e = .returned (.int .i64 r) ∧ B.Loc w w' [] [St w []]
noncomputable abbrev trellisref32_Beside_C (w : World) (F : Nat → Prop) (r : Int) : Cx := ⟨Try.prog, 41, Try.f41, 50, trellisref32_Beside_R w F  r, w⟩
theorem trellisref32_Beside_calls (w : World) (F : Nat → Prop) (x1 : List api_Node) (x6 : Int) (x7 : Int) (A2 : Option Addr) (n3 : Nat) (c4 : Nat) (h5 : Rw k_api_Node w (St w []).av A2 n3 c4 x1) (hF : ∀ b, F b → b < w.heap.size ∧ ∀ o ∈ ([] : List (List Nat)), b ∉ o) (hL0 : B.Loc w w [] [Sm w.heap.size F w [], St w []]) (r : Int) (h : trellisref32_Beside x1 x6 x7 r) : Calls Try.prog 41 #[.slice A2 n3 c4, .int .i64 x6, .int .i64 x7] w (trellisref32_Beside_R w F  r) := by
  unfold trellisref32_Beside at h
  refine calls_of_Loc (vs := [.slice A2 n3 c4, .int .i64 x6, .int .i64 x7]) 50 Try.func41 rfl Try.ntmps41 rfl hL0 ?_
  show G (trellisref32_Beside_C w F r) _ _ _ _
  refine g_seq (c := trellisref32_Beside_c0) rfl ?_
  refine g_region (c := trellisref32_Beside_c1) rfl rfl ?_
  refine wl_v 0 rfl (v_assign rfl) gn rfl ?_
  refine w_end 1 rfl ?_
  refine g_seq (c := trellisref32_Beside_c2) rfl ?_
  refine g_region (c := trellisref32_Beside_c3) rfl rfl ?_
  refine wl_v 0 rfl (v_move rfl) gn rfl ?_
  refine wl_v 1 rfl (v_move rfl) gn rfl ?_
  obtain ⟨r11, hv12, h⟩ := h
  refine wl_s 2 rfl (s_call [.slice A2 n3 c4, .int .i64 x6] rfl Try.func54 rfl rfl rfl fun w8 hL9 => ?_) gn
  have hp10 : List.Perm ([] : List Ent) (([] : List Ent) ++ ([] : List Ent)) := perm_of_idx [] [] rfl rfl (by kernel_rfl)
  refine Calls.mono (trellisref32_beside_calls w8 (Fl ([] : List Snap)) x1 x6 A2 n3 c4 (Rw.mono h5 (hL9.toSt hp10 (me 1 rfl))) (hL9.hFl (Sl := ([] : List Snap)) hp10 (sels [] rfl)) (hL9.into hp10 (Fl ([] : List Snap))) r11 hv12) ?_
  rintro _ w18 ⟨A13, n14, c15, rfl, hM19, h16⟩
  have hL20 := hL9.call hp10 hM19
  refine ⟨_, _, _, rfl, hL20, ?_⟩
  refine wl_v 3 rfl (v_assign rfl) gn rfl ?_
  refine w_end 4 rfl ?_
  refine g_seq (c := trellisref32_Beside_c4) rfl ?_
  refine g_region (c := trellisref32_Beside_c5) rfl rfl ?_
  refine wl_v 0 rfl (v_move rfl) gn rfl ?_
  refine wl_v 1 rfl (v_move rfl) gn rfl ?_
  obtain ⟨r24, hv25, h⟩ := h
  refine wl_s 2 rfl (s_call [.slice A13 n14 c15, .int .i64 x6] rfl Try.func55 rfl rfl rfl fun w21 hL22 => ?_) gn
  have hp23 : List.Perm ([.own (.slice A13 n14 c15) 3 1 n14 (r11.flatMap (eI .i64))] : List Ent) (([] : List Ent) ++ ([.own (.slice A13 n14 c15) 3 1 n14 (r11.flatMap (eI .i64))] : List Ent)) := perm_of_idx [] [0] rfl rfl (by kernel_rfl)
  refine Calls.mono (trellisref32_place_calls w21 (Fl ([] : List Snap)) r11 x6 A13 n14 c15 (hL22.argO (dk := (kInt .i64)) hp23 [] rfl 0 rfl rfl (Ow.weak hL9.env.size h16) (me 0 rfl) (Cells.flat _)) (hL22.hFl (Sl := ([] : List Snap)) hp23 (sels [] rfl)) (hL22.into hp23 (Fl ([] : List Snap))) r24 hv25) ?_
  rintro _ w26 ⟨rfl, hM27⟩
  have hL28 := hL22.call hp23 hM27
  refine ⟨_, _, _, rfl, hL28, ?_⟩
  refine wl_v 3 rfl (v_assign rfl) gn rfl ?_
  refine w_end 4 rfl ?_
  refine g_seq (c := trellisref32_Beside_c6) rfl ?_
  refine g_seq (c := trellisref32_Beside_c7) rfl ?_
  have j1 : ∀ (x34 : Bool) (h : trellisref32_Beside_j1 r24 x7 r11 x34 r) , G (trellisref32_Beside_C w F r) [.code trellisref32_Beside_c10, .code trellisref32_Beside_c8] [(2, .int .i64 x7), (7, .slice A13 n14 c15), (8, .int .i64 r24), (43, .bool x34)] [.own (.slice A13 n14 c15) 3 1 n14 (r11.flatMap (eI .i64))] [Sm w.heap.size F w [], St w []] := by
    intro x34 h
    unfold trellisref32_Beside_j1 at h
    by_cases hp35 : x34 = true
    · have h := if_pos' hp35 h
      refine g_true (c := trellisref32_Beside_c10) rfl _ rfl (hp35) ?_
      refine g_seq (c := trellisref32_Beside_c11) rfl ?_
      refine g_region (c := trellisref32_Beside_c13) rfl rfl ?_
      refine wl_v 0 rfl (v_assign rfl) gn rfl ?_
      refine w_end 1 rfl ?_
      refine g_retR (c := trellisref32_Beside_c14) [.int .i64 (-1)] rfl Try.func41 rfl (.tmp rfl (.nil)) fun wr hLr => ?_
      have hMr : B.Loc w wr [] [St w []] := hLr.pick (rest := [.own (.slice A13 n14 c15) 3 1 n14 (r11.flatMap (eI .i64))]) (perm_of_idx [] [0] rfl rfl (by kernel_rfl)) (sels [1] rfl)
      have hMi : ∀ e ∈ ([] : List Ent), e ∈ ([.own (.slice A13 n14 c15) 3 1 n14 (r11.flatMap (eI .i64))] : List Ent) := sels [] rfl
      show trellisref32_Beside_R w F  r (.returned (packV [.int .i64 (-1)])) wr
      rw [h]
      exact ⟨rfl, hMr⟩
    · have h := if_neg' hp35 h
      refine g_false (c := trellisref32_Beside_c10) rfl _ rfl ((bf hp35)) ?_
      refine g_skip (c := trellisref32_Beside_c12) rfl ?_
      refine g_seq (c := trellisref32_Beside_c8) rfl ?_
      refine g_region (c := trellisref32_Beside_c15) rfl rfl ?_
      refine wl_v 0 rfl (v_move rfl) gn rfl ?_
      refine wl_v 1 rfl (v_move rfl) gn rfl ?_
      refine wl_v 2 rfl (v_move rfl) gn rfl ?_
      refine wl_v 3 rfl (v_bin rfl rfl rfl) gn rfl ?_
      obtain ⟨hb36, h⟩ := h
      refine wl_v 4 rfl (v_idxO slE_45 rfl rfl (Ow.weak hL9.env.size h16) hb36) gn rfl ?_
      refine wl_v 5 rfl (v_ldO1 (.int .i64 (ix r11 (w64 (r24 + x7)))) 0 ld_3 rfl rfl (fm_get0 (hlI .i64) hb36 rfl)) gn rfl ?_
      refine wl_v 6 rfl (v_assign rfl) gn rfl ?_
      refine w_end 7 rfl ?_
      refine g_retR (c := trellisref32_Beside_c16) [.int .i64 (ix r11 (w64 (r24 + x7)))] rfl Try.func41 rfl (.tmp rfl (.nil)) fun wr hLr => ?_
      have hMr : B.Loc w wr [] [St w []] := hLr.pick (rest := [.own (.slice A13 n14 c15) 3 1 n14 (r11.flatMap (eI .i64))]) (perm_of_idx [] [0] rfl rfl (by kernel_rfl)) (sels [1] rfl)
      have hMi : ∀ e ∈ ([] : List Ent), e ∈ ([.own (.slice A13 n14 c15) 3 1 n14 (r11.flatMap (eI .i64))] : List Ent) := sels [] rfl
      show trellisref32_Beside_R w F  r (.returned (packV [.int .i64 (ix r11 (w64 (r24 + x7)))])) wr
      rw [h]
      exact ⟨rfl, hMr⟩
  refine g_region (c := trellisref32_Beside_c9) rfl rfl ?_
  refine wl_v 0 rfl (v_move rfl) gn rfl ?_
  refine wl_v 1 rfl (v_bin rfl rfl rfl) gn rfl ?_
  refine wl_v 2 rfl (v_move rfl) gn rfl ?_
  by_cases hp37 : r24 < 0
  · have h := if_pos' hp37 h
    refine w_bool 17 rfl ((decide_eq_true hp37)) ?_
    refine wl_pass 3 rfl (ps 17 rfl rfl rfl) ?_
    refine wl_pass 4 rfl (ps 17 rfl rfl rfl) ?_
    refine wl_pass 5 rfl (ps 17 rfl rfl rfl) ?_
    refine wl_pass 6 rfl (ps 17 rfl rfl rfl) ?_
    refine wl_v 7 rfl (v_pick (b := true) rfl rfl) gn rfl ?_
    refine wl_v 8 rfl (v_move rfl) gn rfl ?_
    refine wl_pass 9 rfl (ps 23 rfl rfl rfl) ?_
    refine wl_pass 10 rfl (ps 23 rfl rfl rfl) ?_
    refine wl_pass 11 rfl (ps 23 rfl rfl rfl) ?_
    refine wl_pass 12 rfl (ps 23 rfl rfl rfl) ?_
    refine wl_pass 13 rfl (ps 23 rfl rfl rfl) ?_
    refine wl_v 14 rfl (v_pick (b := true) rfl rfl) gn rfl ?_
    refine wl_v 15 rfl (v_move rfl) gn rfl ?_
    refine wl_pass 16 rfl (ps 30 rfl rfl rfl) ?_
    refine wl_pass 17 rfl (ps 30 rfl rfl rfl) ?_
    refine wl_pass 18 rfl (ps 30 rfl rfl rfl) ?_
    refine wl_pass 19 rfl (ps 30 rfl rfl rfl) ?_
    refine wl_v 20 rfl (v_pick (b := true) rfl rfl) gn rfl ?_
    refine wl_v 21 rfl (v_move rfl) gn rfl ?_
    refine wl_pass 22 rfl (ps 36 rfl rfl rfl) ?_
    refine wl_pass 23 rfl (ps 36 rfl rfl rfl) ?_
    refine wl_pass 24 rfl (ps 36 rfl rfl rfl) ?_
    refine wl_pass 25 rfl (ps 36 rfl rfl rfl) ?_
    refine wl_pass 26 rfl (ps 36 rfl rfl rfl) ?_
    refine wl_pass 27 rfl (ps 36 rfl rfl rfl) ?_
    refine wl_v 28 rfl (v_pick (b := true) rfl rfl) gn rfl ?_
    refine w_end 29 rfl ?_
    exact g_go [0, 1] (j1 true h) ⟨rfl, rfl, rfl, rfl, trivial⟩ (.cons_cons _ (.slnil)) rfl
  · have h := if_neg' hp37 h
    refine w_bool 17 rfl ((decide_eq_false hp37)) ?_
    refine wl_v 3 rfl (v_move rfl) (gy 17 rfl rfl) rfl ?_
    refine wl_v 4 rfl (v_move rfl) (gy 17 rfl rfl) rfl ?_
    refine wl_v 5 rfl (v_lenQ un_45 rfl (Ow.weak hL9.env.size h16).hq) (gy 17 rfl rfl) rfl ?_
    refine wl_v 6 rfl (v_bin rfl rfl rfl) (gy 17 rfl rfl) rfl ?_
    refine wl_v 7 rfl (v_pick (b := false) rfl rfl) gn rfl ?_
    refine wl_v 8 rfl (v_move rfl) gn rfl ?_
    by_cases hp38 : x7 > (r11.length : Int)
    · have h := if_pos' hp38 h
      refine w_bool 23 rfl ((decide_eq_true hp38)) ?_
      refine wl_pass 9 rfl (ps 23 rfl rfl rfl) ?_
      refine wl_pass 10 rfl (ps 23 rfl rfl rfl) ?_
      refine wl_pass 11 rfl (ps 23 rfl rfl rfl) ?_
      refine wl_pass 12 rfl (ps 23 rfl rfl rfl) ?_
      refine wl_pass 13 rfl (ps 23 rfl rfl rfl) ?_
      refine wl_v 14 rfl (v_pick (b := true) rfl rfl) gn rfl ?_
      refine wl_v 15 rfl (v_move rfl) gn rfl ?_
      refine wl_pass 16 rfl (ps 30 rfl rfl rfl) ?_
      refine wl_pass 17 rfl (ps 30 rfl rfl rfl) ?_
      refine wl_pass 18 rfl (ps 30 rfl rfl rfl) ?_
      refine wl_pass 19 rfl (ps 30 rfl rfl rfl) ?_
      refine wl_v 20 rfl (v_pick (b := true) rfl rfl) gn rfl ?_
      refine wl_v 21 rfl (v_move rfl) gn rfl ?_
      refine wl_pass 22 rfl (ps 36 rfl rfl rfl) ?_
      refine wl_pass 23 rfl (ps 36 rfl rfl rfl) ?_
      refine wl_pass 24 rfl (ps 36 rfl rfl rfl) ?_
      refine wl_pass 25 rfl (ps 36 rfl rfl rfl) ?_
      refine wl_pass 26 rfl (ps 36 rfl rfl rfl) ?_
      refine wl_pass 27 rfl (ps 36 rfl rfl rfl) ?_
      refine wl_v 28 rfl (v_pick (b := true) rfl rfl) gn rfl ?_
      refine w_end 29 rfl ?_
      exact g_go [0, 1] (j1 true h) ⟨rfl, rfl, rfl, rfl, trivial⟩ (.cons_cons _ (.slnil)) rfl
    · have h := if_neg' hp38 h
      refine w_bool 23 rfl ((decide_eq_false hp38)) ?_
      refine wl_v 9 rfl (v_move rfl) (gy 23 rfl rfl) rfl ?_
      refine wl_v 10 rfl (v_move rfl) (gy 23 rfl rfl) rfl ?_
      refine wl_v 11 rfl (v_lenQ un_45 rfl (Ow.weak hL9.env.size h16).hq) (gy 23 rfl rfl) rfl ?_
      refine wl_v 12 rfl (v_neg rfl) (gy 23 rfl rfl) rfl ?_
      refine wl_v 13 rfl (v_bin rfl rfl rfl) (gy 23 rfl rfl) rfl ?_
      refine wl_v 14 rfl (v_pick (b := false) rfl rfl) gn rfl ?_
      refine wl_v 15 rfl (v_move rfl) gn rfl ?_
      by_cases hp39 : x7 < w64 (0 - (r11.length : Int))
      · have h := if_pos' hp39 h
        refine w_bool 30 rfl ((decide_eq_true hp39)) ?_
        refine wl_pass 16 rfl (ps 30 rfl rfl rfl) ?_
        refine wl_pass 17 rfl (ps 30 rfl rfl rfl) ?_
        refine wl_pass 18 rfl (ps 30 rfl rfl rfl) ?_
        refine wl_pass 19 rfl (ps 30 rfl rfl rfl) ?_
        refine wl_v 20 rfl (v_pick (b := true) rfl rfl) gn rfl ?_
        refine wl_v 21 rfl (v_move rfl) gn rfl ?_
        refine wl_pass 22 rfl (ps 36 rfl rfl rfl) ?_
        refine wl_pass 23 rfl (ps 36 rfl rfl rfl) ?_
        refine wl_pass 24 rfl (ps 36 rfl rfl rfl) ?_
        refine wl_pass 25 rfl (ps 36 rfl rfl rfl) ?_
        refine wl_pass 26 rfl (ps 36 rfl rfl rfl) ?_
        refine wl_pass 27 rfl (ps 36 rfl rfl rfl) ?_
        refine wl_v 28 rfl (v_pick (b := true) rfl rfl) gn rfl ?_
        refine w_end 29 rfl ?_
        exact g_go [0, 1] (j1 true h) ⟨rfl, rfl, rfl, rfl, trivial⟩ (.cons_cons _ (.slnil)) rfl
      · have h := if_neg' hp39 h
        refine w_bool 30 rfl ((decide_eq_false hp39)) ?_
        refine wl_v 16 rfl (v_move rfl) (gy 30 rfl rfl) rfl ?_
        refine wl_v 17 rfl (v_move rfl) (gy 30 rfl rfl) rfl ?_
        refine wl_v 18 rfl (v_bin rfl rfl rfl) (gy 30 rfl rfl) rfl ?_
        refine wl_v 19 rfl (v_bin rfl rfl rfl) (gy 30 rfl rfl) rfl ?_
        refine wl_v 20 rfl (v_pick (b := false) rfl rfl) gn rfl ?_
        refine wl_v 21 rfl (v_move rfl) gn rfl ?_
        by_cases hp40 : w64 (r24 + x7) < 0
        · have h := if_pos' hp40 h
          refine w_bool 36 rfl ((decide_eq_true hp40)) ?_
          refine wl_pass 22 rfl (ps 36 rfl rfl rfl) ?_
          refine wl_pass 23 rfl (ps 36 rfl rfl rfl) ?_
          refine wl_pass 24 rfl (ps 36 rfl rfl rfl) ?_
          refine wl_pass 25 rfl (ps 36 rfl rfl rfl) ?_
          refine wl_pass 26 rfl (ps 36 rfl rfl rfl) ?_
          refine wl_pass 27 rfl (ps 36 rfl rfl rfl) ?_
          refine wl_v 28 rfl (v_pick (b := true) rfl rfl) gn rfl ?_
          refine w_end 29 rfl ?_
          exact g_go [0, 1] (j1 true h) ⟨rfl, rfl, rfl, rfl, trivial⟩ (.cons_cons _ (.slnil)) rfl
        · have h := if_neg' hp40 h
          refine w_bool 36 rfl ((decide_eq_false hp40)) ?_
          refine wl_v 22 rfl (v_move rfl) (gy 36 rfl rfl) rfl ?_
          refine wl_v 23 rfl (v_move rfl) (gy 36 rfl rfl) rfl ?_
          refine wl_v 24 rfl (v_bin rfl rfl rfl) (gy 36 rfl rfl) rfl ?_
          refine wl_v 25 rfl (v_move rfl) (gy 36 rfl rfl) rfl ?_
          refine wl_v 26 rfl (v_lenQ un_45 rfl (Ow.weak hL9.env.size h16).hq) (gy 36 rfl rfl) rfl ?_
          refine wl_v 27 rfl (v_bin rfl rfl rfl) (gy 36 rfl rfl) rfl ?_
          refine wl_v 28 rfl (v_pick (b := false) rfl rfl) gn rfl ?_
          refine w_end 29 rfl ?_
          exact g_go [0, 1] (j1 (decide (w64 (r24 + x7) ≥ (r11.length : Int))) h) ⟨rfl, rfl, rfl, rfl, trivial⟩ (.cons_cons _ (.slnil)) rfl
noncomputable abbrev trellisref32_kind_c0 : Code := bodyOf Try.f56
noncomputable abbrev trellisref32_kind_c1 : Code := Code.fst trellisref32_kind_c0
noncomputable abbrev trellisref32_kind_c2 : Code := Code.snd trellisref32_kind_c0
noncomputable abbrev trellisref32_kind_c3 : Code := Code.fst trellisref32_kind_c2
noncomputable abbrev trellisref32_kind_c4 : Code := Code.snd trellisref32_kind_c2
noncomputable abbrev trellisref32_kind_c5 : Code := Code.fst trellisref32_kind_c4
noncomputable abbrev trellisref32_kind_c6 : Code := Code.snd trellisref32_kind_c4
noncomputable abbrev trellisref32_kind_c7 : Code := Code.fst trellisref32_kind_c5
noncomputable abbrev trellisref32_kind_c8 : Code := Code.snd trellisref32_kind_c5
noncomputable abbrev trellisref32_kind_c9 : Code := Code.fst trellisref32_kind_c8
noncomputable abbrev trellisref32_kind_c10 : Code := Code.fst trellisref32_kind_c9
noncomputable abbrev trellisref32_kind_c11 : Code := Code.fst trellisref32_kind_c10
noncomputable abbrev trellisref32_kind_c12 : Code := Code.snd trellisref32_kind_c10
noncomputable abbrev trellisref32_kind_c13 : Code := Code.fst trellisref32_kind_c11
noncomputable abbrev trellisref32_kind_c14 : Code := Code.snd trellisref32_kind_c11
noncomputable abbrev trellisref32_kind_c15 : Code := Code.fst trellisref32_kind_c14
noncomputable abbrev trellisref32_kind_c16 : Code := Code.snd trellisref32_kind_c14
noncomputable abbrev trellisref32_kind_c17 : Code := Code.fst trellisref32_kind_c12
noncomputable abbrev trellisref32_kind_c18 : Code := Code.snd trellisref32_kind_c12
noncomputable abbrev trellisref32_kind_c19 : Code := Code.fst trellisref32_kind_c17
noncomputable abbrev trellisref32_kind_c20 : Code := Code.fst trellisref32_kind_c19
noncomputable abbrev trellisref32_kind_c21 : Code := Code.snd trellisref32_kind_c19
noncomputable abbrev trellisref32_kind_c22 : Code := Code.fst trellisref32_kind_c21
noncomputable abbrev trellisref32_kind_c23 : Code := Code.snd trellisref32_kind_c21
noncomputable abbrev trellisref32_kind_c24 : Code := Code.fst trellisref32_kind_c22
noncomputable abbrev trellisref32_kind_c25 : Code := Code.snd trellisref32_kind_c22
noncomputable abbrev trellisref32_kind_c26 : Code := Code.fst trellisref32_kind_c6
noncomputable abbrev trellisref32_kind_c27 : Code := Code.snd trellisref32_kind_c6
abbrev trellisref32_kind_R (w : World) (F : Nat → Prop) (r : Int) : Ending → World → Prop := fun e w' => e = .returned (.int .i64 r) ∧ B.Loc w w' [] [St w []]
noncomputable abbrev trellisref32_kind_C (w : World) (F : Nat → Prop) (r : Int) : Cx := ⟨Try.prog, 56, Try.f56, 27, trellisref32_kind_R w F  r, w⟩
theorem trellisref32_kind_calls (w : World) (F : Nat → Prop) (x1 : api_Node) (hF : ∀ b, F b → b < w.heap.size ∧ ∀ o ∈ ([] : List (List Nat)), b ∉ o) (hL0 : B.Loc w w [] [Sm w.heap.size F w [], St w []]) (r : Int) (h : trellisref32_kind x1 r) : Calls Try.prog 56 #[.agg #[.string x1.name, .bool x1.named, .string x1.field, .int .i64 x1.from_, .int .i64 x1.to, .int .i64 x1.kids, .int .i64 x1.leaf]] w (trellisref32_kind_R w F  r) := by
  unfold trellisref32_kind at h
  refine calls_of_Loc (vs := [.agg #[.string x1.name, .bool x1.named, .string x1.field, .int .i64 x1.from_, .int .i64 x1.to, .int .i64 x1.kids, .int .i64 x1.leaf]]) 27 Try.func56 rfl Try.ntmps56 rfl hL0 ?_
  show G (trellisref32_kind_C w F r) _ _ _ _
  refine g_seq (c := trellisref32_kind_c0) rfl ?_
  refine g_region (c := trellisref32_kind_c1) rfl rfl ?_
  refine wl_s 0 rfl (s_box [.string x1.name, .bool x1.named, .string x1.field, .int .i64 x1.from_, .int .i64 x1.to, .int .i64 x1.kids, .int .i64 x1.leaf] rfl rfl rfl fun gb2 => ?_) gn
  refine wl_v 1 rfl (v_assign rfl) gn rfl ?_
  refine w_end 2 rfl ?_
  refine g_seq (c := trellisref32_kind_c2) rfl ?_
  refine g_region (c := trellisref32_kind_c3) rfl rfl ?_
  refine wl_v 0 rfl (v_buildA ((encA 7 fun j => [.string ((arrL ([(⟨#[125]⟩ : ByteArray), (⟨#[93]⟩ : ByteArray), (⟨#[41]⟩ : ByteArray), (⟨#[]⟩ : ByteArray), (⟨#[40]⟩ : ByteArray), (⟨#[91]⟩ : ByteArray), (⟨#[123]⟩ : ByteArray)] : List ByteArray)) j)])).toArray bA_65 rfl (by kernel_rfl)) gn rfl ?_
  refine wl_s 1 rfl (s_alloc (encA 7 fun j => [.string ((fun _ => (⟨#[]⟩ : ByteArray)) j)]) zr_65 rfl fun gb4 => ?_) gn
  obtain ⟨x6, hv7, h⟩ := h
  refine wl_s 2 rfl (s_stP (cs' := (encA 7 fun j => [.string (x6 j)])) (m := (encA 7 fun j => [.string ((fun _ => (⟨#[]⟩ : ByteArray)) j)])) (m' := (encA 7 fun j => [.string ((arrL ([(⟨#[125]⟩ : ByteArray), (⟨#[93]⟩ : ByteArray), (⟨#[41]⟩ : ByteArray), (⟨#[]⟩ : ByteArray), (⟨#[40]⟩ : ByteArray), (⟨#[91]⟩ : ByteArray), (⟨#[123]⟩ : ByteArray)] : List ByteArray)) j)])) 0 sz_65 rfl rfl rfl (by rw [hv7]; exact (Pt.refl _ (encA 7 fun j => [.string ((arrL ([(⟨#[125]⟩ : ByteArray), (⟨#[93]⟩ : ByteArray), (⟨#[41]⟩ : ByteArray), (⟨#[]⟩ : ByteArray), (⟨#[40]⟩ : ByteArray), (⟨#[91]⟩ : ByteArray), (⟨#[123]⟩ : ByteArray)] : List ByteArray)) j)]))) rfl (encA_len (sz := 1) (f := fun j => [.string ((fun _ => (⟨#[]⟩ : ByteArray)) j)]) (fun j => rfl) 7) (encA_len (sz := 1) (f := fun j => [.string ((arrL ([(⟨#[125]⟩ : ByteArray), (⟨#[93]⟩ : ByteArray), (⟨#[41]⟩ : ByteArray), (⟨#[]⟩ : ByteArray), (⟨#[40]⟩ : ByteArray), (⟨#[91]⟩ : ByteArray), (⟨#[123]⟩ : ByteArray)] : List ByteArray)) j)]) (fun j => rfl) 7) (encA_one (f := fun j => [.string ((arrL ([(⟨#[125]⟩ : ByteArray), (⟨#[93]⟩ : ByteArray), (⟨#[41]⟩ : ByteArray), (⟨#[]⟩ : ByteArray), (⟨#[40]⟩ : ByteArray), (⟨#[91]⟩ : ByteArray), (⟨#[123]⟩ : ByteArray)] : List ByteArray)) j)]) (fun j => rfl) 7) ?_) gn
  refine w_end 3 rfl ?_
  refine g_seq (c := trellisref32_kind_c4) rfl ?_
  refine g_seq (c := trellisref32_kind_c5) rfl ?_
  refine g_region (c := trellisref32_kind_c7) rfl rfl ?_
  refine wl_v 0 rfl (v_assign rfl) gn rfl ?_
  refine w_end 1 rfl ?_
  refine g_block (c := trellisref32_kind_c8) rfl ?_
  refine g_loop (c := trellisref32_kind_c9) rfl ?_
  have key1 : ∀ s, Rounds (fun (s : Int) o => trellisref32_kind_b1 x1 x6 s o) s r → (fun (s : Int) => ∀ (_ : Unit), G (trellisref32_kind_C w F r) [.code trellisref32_kind_c10, .inLoop trellisref32_kind_c10, .inBlock 0, .code trellisref32_kind_c6] [(1, .pointer (some ⟨gb2, 0, none⟩)), (3, .pointer (some ⟨gb4, 0, none⟩)), (4, .int .i64 s)] [.box gb4 65 (encA 7 fun j => [.string (x6 j)]), .box gb2 39 [.string x1.name, .bool x1.named, .string x1.field, .int .i64 x1.from_, .int .i64 x1.to, .int .i64 x1.kids, .int .i64 x1.leaf]] [Sm w.heap.size F w [], St w []]) s := by
    intro s hs
    refine Rounds.ind (mot := (fun (s : Int) => ∀ (_ : Unit), G (trellisref32_kind_C w F r) [.code trellisref32_kind_c10, .inLoop trellisref32_kind_c10, .inBlock 0, .code trellisref32_kind_c6] [(1, .pointer (some ⟨gb2, 0, none⟩)), (3, .pointer (some ⟨gb4, 0, none⟩)), (4, .int .i64 s)] [.box gb4 65 (encA 7 fun j => [.string (x6 j)]), .box gb2 39 [.string x1.name, .bool x1.named, .string x1.field, .int .i64 x1.from_, .int .i64 x1.to, .int .i64 x1.kids, .int .i64 x1.leaf]] [Sm w.heap.size F w [], St w []])) ?_ hs
    clear hs s
    intro x12 o1 h hO1
    show ∀ (_ : Unit), G (trellisref32_kind_C w F r) [.code trellisref32_kind_c10, .inLoop trellisref32_kind_c10, .inBlock 0, .code trellisref32_kind_c6] [(1, .pointer (some ⟨gb2, 0, none⟩)), (3, .pointer (some ⟨gb4, 0, none⟩)), (4, .int .i64 x12)] [.box gb4 65 (encA 7 fun j => [.string (x6 j)]), .box gb2 39 [.string x1.name, .bool x1.named, .string x1.field, .int .i64 x1.from_, .int .i64 x1.to, .int .i64 x1.kids, .int .i64 x1.leaf]] [Sm w.heap.size F w [], St w []]
    intro _
    have h : trellisref32_kind_b1 x1 x6 x12 o1 := h
    unfold trellisref32_kind_b1 at h
    refine g_seq (c := trellisref32_kind_c10) rfl ?_
    refine g_seq (c := trellisref32_kind_c11) rfl ?_
    refine g_region (c := trellisref32_kind_c13) rfl rfl ?_
    refine wl_v 0 rfl (v_move rfl) gn rfl ?_
    refine wl_v 1 rfl (v_bin rfl rfl rfl) gn rfl ?_
    refine w_end 2 rfl ?_
    by_cases hp18 : x12 < 7
    · have h := if_pos' hp18 h
      refine g_true (c := trellisref32_kind_c14) rfl _ rfl ((decide_eq_true hp18)) ?_
      refine g_skip (c := trellisref32_kind_c15) rfl ?_
      refine g_seq (c := trellisref32_kind_c12) rfl ?_
      refine g_block (c := trellisref32_kind_c17) rfl ?_
      refine g_seq (c := trellisref32_kind_c19) rfl ?_
      by_cases hp19 : x1.named = true
      · have h := if_pos' hp19 h
        have hns : Region.noSelect (Code.ops trellisref32_kind_c20) = true := by kernel_rfl
        refine g_drawF (c := trellisref32_kind_c20) [.box gb4 65 (encA 7 fun j => [.string (x6 j)]), .box gb2 39 [.string x1.name, .bool x1.named, .string x1.field, .int .i64 x1.from_, .int .i64 x1.to, .int .i64 x1.kids, .int .i64 x1.leaf]] [Sm w.heap.size F w [], St w []] [] 15 rfl rfl mix rfl (.cons_cons _ (.cons_cons _ (.slnil))) (sels [0, 1] rfl) ?_
        refine wf_v 0 rfl (v_fldB fo_39_1 rfl) gn rfl hns (by kernel_rfl) (by kernel_rfl) rfl rfl ?_
        refine wf_v 1 rfl (v_ldB1 1 ld_4 rfl rfl rfl) gn rfl hns (by kernel_rfl) (by kernel_rfl) rfl rfl ?_
        refine wf_v 2 rfl (v_not rfl) gn rfl hns (by kernel_rfl) (by kernel_rfl) rfl rfl ?_
        refine wf_v 3 rfl (v_move rfl) gn rfl hns (by kernel_rfl) (by kernel_rfl) rfl rfl ?_
        refine wf_bool 13 rfl ((nf hp19)) ?_
        refine wf_pass 4 rfl (ps 13 rfl rfl rfl) hns (by kernel_rfl) (by kernel_rfl) rfl rfl ?_
        refine wf_pass 5 rfl (ps 13 rfl rfl rfl) hns (by kernel_rfl) (by kernel_rfl) rfl rfl ?_
        refine wf_pass 6 rfl (ps 13 rfl rfl rfl) hns (by kernel_rfl) (by kernel_rfl) rfl rfl ?_
        refine wf_pass 7 rfl (ps 13 rfl rfl rfl) hns (by kernel_rfl) (by kernel_rfl) rfl rfl ?_
        refine wf_pass 8 rfl (ps 13 rfl rfl rfl) hns (by kernel_rfl) (by kernel_rfl) rfl rfl ?_
        refine wf_pass 9 rfl (ps 13 rfl rfl rfl) hns (by kernel_rfl) (by kernel_rfl) rfl rfl ?_
        refine wf_v 10 rfl (v_pick (b := false) rfl rfl) gn rfl hns (by kernel_rfl) (by kernel_rfl) rfl rfl ?_
        refine wf_v 11 rfl (v_move rfl) gn rfl hns (by kernel_rfl) (by kernel_rfl) rfl rfl ?_
        refine wf_pass 12 rfl (ps 21 rfl rfl rfl) hns (by kernel_rfl) (by kernel_rfl) rfl rfl ?_
        refine wf_pass 13 rfl (ps 21 rfl rfl rfl) hns (by kernel_rfl) (by kernel_rfl) rfl rfl ?_
        refine wf_v 14 rfl (v_pick (b := false) rfl rfl) gn rfl hns (by kernel_rfl) (by kernel_rfl) rfl rfl ?_
        refine wf_end (by kernel_rfl) ?_
        refine g_false (c := trellisref32_kind_c21) rfl _ rfl (rfl) ?_
        refine g_skip (c := trellisref32_kind_c23) rfl ?_
        refine g_inBlock ?_
        refine g_region (c := trellisref32_kind_c18) rfl rfl ?_
        refine wl_v 0 rfl (v_move rfl) gn rfl ?_
        refine wl_v 1 rfl (v_bin rfl rfl rfl) gn rfl ?_
        refine wl_v 2 rfl (v_assign rfl) gn rfl ?_
        refine w_end 3 rfl ?_
        refine g_inLoop ?_
        have ih := Out.inl hO1 h
        exact g_go [0, 1] (ih ()) ⟨rfl, rfl, rfl, trivial⟩ (.cons_cons _ (.cons_cons _ (.slnil))) rfl
      · have h := if_neg' hp19 h
        obtain ⟨hb20, h⟩ := h
        by_cases hp21 : x1.name = x6 x12
        · have h := if_pos' hp21 h
          have hns : Region.noSelect (Code.ops trellisref32_kind_c20) = true := by kernel_rfl
          refine g_drawF (c := trellisref32_kind_c20) [.box gb4 65 (encA 7 fun j => [.string (x6 j)]), .box gb2 39 [.string x1.name, .bool x1.named, .string x1.field, .int .i64 x1.from_, .int .i64 x1.to, .int .i64 x1.kids, .int .i64 x1.leaf]] [Sm w.heap.size F w [], St w []] [] 15 rfl rfl mix rfl (.cons_cons _ (.cons_cons _ (.slnil))) (sels [0, 1] rfl) ?_
          refine wf_v 0 rfl (v_fldB fo_39_1 rfl) gn rfl hns (by kernel_rfl) (by kernel_rfl) rfl rfl ?_
          refine wf_v 1 rfl (v_ldB1 1 ld_4 rfl rfl rfl) gn rfl hns (by kernel_rfl) (by kernel_rfl) rfl rfl ?_
          refine wf_v 2 rfl (v_not rfl) gn rfl hns (by kernel_rfl) (by kernel_rfl) rfl rfl ?_
          refine wf_v 3 rfl (v_move rfl) gn rfl hns (by kernel_rfl) (by kernel_rfl) rfl rfl ?_
          refine wf_bool 13 rfl ((nt (bf hp19))) ?_
          refine wf_v 4 rfl (v_fldB fo_39_0 rfl) (gy 13 rfl rfl) rfl hns (by kernel_rfl) (by kernel_rfl) rfl rfl ?_
          refine wf_v 5 rfl (v_ldB1 1 ld_9 rfl rfl rfl) (gy 13 rfl rfl) rfl hns (by kernel_rfl) (by kernel_rfl) rfl rfl ?_
          refine wf_v 6 rfl (v_move rfl) (gy 13 rfl rfl) rfl hns (by kernel_rfl) (by kernel_rfl) rfl rfl ?_
          refine wf_v 7 rfl (v_idxB ar_65 rfl rfl hb20) (gy 13 rfl rfl) rfl hns (by kernel_rfl) (by kernel_rfl) rfl rfl ?_
          refine wf_v 8 rfl (v_ldP1 0 ld_9 rfl rfl (hp := (Pt.z (Pt.arr (f := x6) (enc := fun y => [.string y]) (fun _ => rfl) hb20 (x6 x12)))) rfl) (gy 13 rfl rfl) rfl hns (by kernel_rfl) (by kernel_rfl) rfl rfl ?_
          refine wf_v 9 rfl (v_eqS rfl rfl) (gy 13 rfl rfl) rfl hns (by kernel_rfl) (by kernel_rfl) rfl rfl ?_
          refine wf_v 10 rfl (v_pick (b := true) rfl rfl) gn rfl hns (by kernel_rfl) (by kernel_rfl) rfl rfl ?_
          refine wf_v 11 rfl (v_move rfl) gn rfl hns (by kernel_rfl) (by kernel_rfl) rfl rfl ?_
          refine wf_bool 21 rfl ((seq_t hp21)) ?_
          refine wf_v 12 rfl (v_move rfl) (gy 21 rfl rfl) rfl hns (by kernel_rfl) (by kernel_rfl) rfl rfl ?_
          refine wf_v 13 rfl (v_bin rfl rfl rfl) (gy 21 rfl rfl) rfl hns (by kernel_rfl) (by kernel_rfl) rfl rfl ?_
          refine wf_v 14 rfl (v_pick (b := true) rfl rfl) gn rfl hns (by kernel_rfl) (by kernel_rfl) rfl rfl ?_
          refine wf_end (by kernel_rfl) ?_
          by_cases hp22 : x12 = 3
          · have h := if_pos' hp22 h
            refine g_false (c := trellisref32_kind_c21) rfl _ rfl ((eqib hp22)) ?_
            refine g_skip (c := trellisref32_kind_c23) rfl ?_
            refine g_inBlock ?_
            refine g_region (c := trellisref32_kind_c18) rfl rfl ?_
            refine wl_v 0 rfl (v_move rfl) gn rfl ?_
            refine wl_v 1 rfl (v_bin rfl rfl rfl) gn rfl ?_
            refine wl_v 2 rfl (v_assign rfl) gn rfl ?_
            refine w_end 3 rfl ?_
            refine g_inLoop ?_
            have ih := Out.inl hO1 h
            exact g_go [0, 1] (ih ()) ⟨rfl, rfl, rfl, trivial⟩ (.cons_cons _ (.cons_cons _ (.slnil))) rfl
          · have h := if_neg' hp22 h
            refine g_true (c := trellisref32_kind_c21) rfl _ rfl ((neib hp22)) ?_
            refine g_seq (c := trellisref32_kind_c22) rfl ?_
            refine g_region (c := trellisref32_kind_c24) rfl rfl ?_
            refine wl_v 0 rfl (v_move rfl) gn rfl ?_
            refine wl_v 1 rfl (v_bin rfl rfl rfl) gn rfl ?_
            refine wl_v 2 rfl (v_assign rfl) gn rfl ?_
            refine w_end 3 rfl ?_
            have h := Out.inr hO1 h
            refine g_retR (c := trellisref32_kind_c25) [.int .i64 (w64 (x12 - 3))] rfl Try.func56 rfl (.tmp rfl (.nil)) fun wr hLr => ?_
            have hMr : B.Loc w wr [] [St w []] := hLr.pick (rest := [.box gb4 65 (encA 7 fun j => [.string (x6 j)]), .box gb2 39 [.string x1.name, .bool x1.named, .string x1.field, .int .i64 x1.from_, .int .i64 x1.to, .int .i64 x1.kids, .int .i64 x1.leaf]]) (perm_of_idx [] [0, 1] rfl rfl (by kernel_rfl)) (sels [1] rfl)
            have hMi : ∀ e ∈ ([] : List Ent), e ∈ ([.box gb4 65 (encA 7 fun j => [.string (x6 j)]), .box gb2 39 [.string x1.name, .bool x1.named, .string x1.field, .int .i64 x1.from_, .int .i64 x1.to, .int .i64 x1.kids, .int .i64 x1.leaf]] : List Ent) := sels [] rfl
            show trellisref32_kind_R w F  r (.returned (packV [.int .i64 (w64 (x12 - 3))])) wr
            rw [h]
            exact ⟨rfl, hMr⟩
        · have h := if_neg' hp21 h
          have hns : Region.noSelect (Code.ops trellisref32_kind_c20) = true := by kernel_rfl
          refine g_drawF (c := trellisref32_kind_c20) [.box gb4 65 (encA 7 fun j => [.string (x6 j)]), .box gb2 39 [.string x1.name, .bool x1.named, .string x1.field, .int .i64 x1.from_, .int .i64 x1.to, .int .i64 x1.kids, .int .i64 x1.leaf]] [Sm w.heap.size F w [], St w []] [] 15 rfl rfl mix rfl (.cons_cons _ (.cons_cons _ (.slnil))) (sels [0, 1] rfl) ?_
          refine wf_v 0 rfl (v_fldB fo_39_1 rfl) gn rfl hns (by kernel_rfl) (by kernel_rfl) rfl rfl ?_
          refine wf_v 1 rfl (v_ldB1 1 ld_4 rfl rfl rfl) gn rfl hns (by kernel_rfl) (by kernel_rfl) rfl rfl ?_
          refine wf_v 2 rfl (v_not rfl) gn rfl hns (by kernel_rfl) (by kernel_rfl) rfl rfl ?_
          refine wf_v 3 rfl (v_move rfl) gn rfl hns (by kernel_rfl) (by kernel_rfl) rfl rfl ?_
          refine wf_bool 13 rfl ((nt (bf hp19))) ?_
          refine wf_v 4 rfl (v_fldB fo_39_0 rfl) (gy 13 rfl rfl) rfl hns (by kernel_rfl) (by kernel_rfl) rfl rfl ?_
          refine wf_v 5 rfl (v_ldB1 1 ld_9 rfl rfl rfl) (gy 13 rfl rfl) rfl hns (by kernel_rfl) (by kernel_rfl) rfl rfl ?_
          refine wf_v 6 rfl (v_move rfl) (gy 13 rfl rfl) rfl hns (by kernel_rfl) (by kernel_rfl) rfl rfl ?_
          refine wf_v 7 rfl (v_idxB ar_65 rfl rfl hb20) (gy 13 rfl rfl) rfl hns (by kernel_rfl) (by kernel_rfl) rfl rfl ?_
          refine wf_v 8 rfl (v_ldP1 0 ld_9 rfl rfl (hp := (Pt.z (Pt.arr (f := x6) (enc := fun y => [.string y]) (fun _ => rfl) hb20 (x6 x12)))) rfl) (gy 13 rfl rfl) rfl hns (by kernel_rfl) (by kernel_rfl) rfl rfl ?_
          refine wf_v 9 rfl (v_eqS rfl rfl) (gy 13 rfl rfl) rfl hns (by kernel_rfl) (by kernel_rfl) rfl rfl ?_
          refine wf_v 10 rfl (v_pick (b := true) rfl rfl) gn rfl hns (by kernel_rfl) (by kernel_rfl) rfl rfl ?_
          refine wf_v 11 rfl (v_move rfl) gn rfl hns (by kernel_rfl) (by kernel_rfl) rfl rfl ?_
          refine wf_bool 21 rfl ((seq_f hp21)) ?_
          refine wf_pass 12 rfl (ps 21 rfl rfl rfl) hns (by kernel_rfl) (by kernel_rfl) rfl rfl ?_
          refine wf_pass 13 rfl (ps 21 rfl rfl rfl) hns (by kernel_rfl) (by kernel_rfl) rfl rfl ?_
          refine wf_v 14 rfl (v_pick (b := false) rfl rfl) gn rfl hns (by kernel_rfl) (by kernel_rfl) rfl rfl ?_
          refine wf_end (by kernel_rfl) ?_
          refine g_false (c := trellisref32_kind_c21) rfl _ rfl (rfl) ?_
          refine g_skip (c := trellisref32_kind_c23) rfl ?_
          refine g_inBlock ?_
          refine g_region (c := trellisref32_kind_c18) rfl rfl ?_
          refine wl_v 0 rfl (v_move rfl) gn rfl ?_
          refine wl_v 1 rfl (v_bin rfl rfl rfl) gn rfl ?_
          refine wl_v 2 rfl (v_assign rfl) gn rfl ?_
          refine w_end 3 rfl ?_
          refine g_inLoop ?_
          have ih := Out.inl hO1 h
          exact g_go [0, 1] (ih ()) ⟨rfl, rfl, rfl, trivial⟩ (.cons_cons _ (.cons_cons _ (.slnil))) rfl
    · have h := if_neg' hp18 h
      refine g_false (c := trellisref32_kind_c14) rfl _ rfl ((decide_eq_false hp18)) ?_
      refine g_exit (c := trellisref32_kind_c16) [.code trellisref32_kind_c6] rfl rfl ?_
      refine g_seq (c := trellisref32_kind_c6) rfl ?_
      refine g_region (c := trellisref32_kind_c26) rfl rfl ?_
      refine wl_v 0 rfl (v_assign rfl) gn rfl ?_
      refine w_end 1 rfl ?_
      have h := Out.inr hO1 h
      refine g_retR (c := trellisref32_kind_c27) [.int .i64 0] rfl Try.func56 rfl (.tmp rfl (.nil)) fun wr hLr => ?_
      have hMr : B.Loc w wr [] [St w []] := hLr.pick (rest := [.box gb4 65 (encA 7 fun j => [.string (x6 j)]), .box gb2 39 [.string x1.name, .bool x1.named, .string x1.field, .int .i64 x1.from_, .int .i64 x1.to, .int .i64 x1.kids, .int .i64 x1.leaf]]) (perm_of_idx [] [0, 1] rfl rfl (by kernel_rfl)) (sels [1] rfl)
      have hMi : ∀ e ∈ ([] : List Ent), e ∈ ([.box gb4 65 (encA 7 fun j => [.string (x6 j)]), .box gb2 39 [.string x1.name, .bool x1.named, .string x1.field, .int .i64 x1.from_, .int .i64 x1.to, .int .i64 x1.kids, .int .i64 x1.leaf]] : List Ent) := sels [] rfl
      show trellisref32_kind_R w F  r (.returned (packV [.int .i64 0])) wr
      rw [h]
      exact ⟨rfl, hMr⟩
  exact g_go [0, 1] (key1 _ h ()) ⟨rfl, rfl, rfl, trivial⟩ (.cons_cons _ (.cons_cons _ (.slnil))) rfl
noncomputable abbrev trellisref32_Pair_c0 : Code := bodyOf Try.f42
noncomputable abbrev trellisref32_Pair_c1 : Code := Code.fst trellisref32_Pair_c0
noncomputable abbrev trellisref32_Pair_c2 : Code := Code.snd trellisref32_Pair_c0
noncomputable abbrev trellisref32_Pair_c3 : Code := Code.fst trellisref32_Pair_c2
noncomputable abbrev trellisref32_Pair_c4 : Code := Code.snd trellisref32_Pair_c2
noncomputable abbrev trellisref32_Pair_c5 : Code := Code.fst trellisref32_Pair_c4
noncomputable abbrev trellisref32_Pair_c6 : Code := Code.snd trellisref32_Pair_c4
noncomputable abbrev trellisref32_Pair_c7 : Code := Code.fst trellisref32_Pair_c6
noncomputable abbrev trellisref32_Pair_c8 : Code := Code.snd trellisref32_Pair_c6
noncomputable abbrev trellisref32_Pair_c9 : Code := Code.fst trellisref32_Pair_c7
noncomputable abbrev trellisref32_Pair_c10 : Code := Code.snd trellisref32_Pair_c7
noncomputable abbrev trellisref32_Pair_c11 : Code := Code.fst trellisref32_Pair_c10
noncomputable abbrev trellisref32_Pair_c12 : Code := Code.fst trellisref32_Pair_c11
noncomputable abbrev trellisref32_Pair_c13 : Code := Code.fst trellisref32_Pair_c12
noncomputable abbrev trellisref32_Pair_c14 : Code := Code.snd trellisref32_Pair_c12
noncomputable abbrev trellisref32_Pair_c15 : Code := Code.fst trellisref32_Pair_c13
noncomputable abbrev trellisref32_Pair_c16 : Code := Code.snd trellisref32_Pair_c13
noncomputable abbrev trellisref32_Pair_c17 : Code := Code.fst trellisref32_Pair_c16
noncomputable abbrev trellisref32_Pair_c18 : Code := Code.snd trellisref32_Pair_c16
noncomputable abbrev trellisref32_Pair_c19 : Code := Code.fst trellisref32_Pair_c14
noncomputable abbrev trellisref32_Pair_c20 : Code := Code.snd trellisref32_Pair_c14
noncomputable abbrev trellisref32_Pair_c21 : Code := Code.fst trellisref32_Pair_c19
noncomputable abbrev trellisref32_Pair_c22 : Code := Code.fst trellisref32_Pair_c21
noncomputable abbrev trellisref32_Pair_c23 : Code := Code.snd trellisref32_Pair_c21
noncomputable abbrev trellisref32_Pair_c24 : Code := Code.fst trellisref32_Pair_c23
noncomputable abbrev trellisref32_Pair_c25 : Code := Code.snd trellisref32_Pair_c23
noncomputable abbrev trellisref32_Pair_c26 : Code := Code.fst trellisref32_Pair_c24
noncomputable abbrev trellisref32_Pair_c27 : Code := Code.snd trellisref32_Pair_c24
noncomputable abbrev trellisref32_Pair_c28 : Code := Code.fst trellisref32_Pair_c27
noncomputable abbrev trellisref32_Pair_c29 : Code := Code.snd trellisref32_Pair_c27
noncomputable abbrev trellisref32_Pair_c30 : Code := Code.fst trellisref32_Pair_c25
noncomputable abbrev trellisref32_Pair_c31 : Code := Code.snd trellisref32_Pair_c25
noncomputable abbrev trellisref32_Pair_c32 : Code := Code.fst trellisref32_Pair_c31
noncomputable abbrev trellisref32_Pair_c33 : Code := Code.snd trellisref32_Pair_c31
noncomputable abbrev trellisref32_Pair_c34 : Code := Code.fst trellisref32_Pair_c32
noncomputable abbrev trellisref32_Pair_c35 : Code := Code.snd trellisref32_Pair_c32
noncomputable abbrev trellisref32_Pair_c36 : Code := Code.fst trellisref32_Pair_c35
noncomputable abbrev trellisref32_Pair_c37 : Code := Code.snd trellisref32_Pair_c35
noncomputable abbrev trellisref32_Pair_c38 : Code := Code.fst trellisref32_Pair_c37
noncomputable abbrev trellisref32_Pair_c39 : Code := Code.snd trellisref32_Pair_c37
noncomputable abbrev trellisref32_Pair_c40 : Code := Code.fst trellisref32_Pair_c38
noncomputable abbrev trellisref32_Pair_c41 : Code := Code.snd trellisref32_Pair_c38
noncomputable abbrev trellisref32_Pair_c42 : Code := Code.fst trellisref32_Pair_c41
noncomputable abbrev trellisref32_Pair_c43 : Code := Code.snd trellisref32_Pair_c41
noncomputable abbrev trellisref32_Pair_c44 : Code := Code.fst trellisref32_Pair_c42
noncomputable abbrev trellisref32_Pair_c45 : Code := Code.snd trellisref32_Pair_c42
noncomputable abbrev trellisref32_Pair_c46 : Code := Code.fst trellisref32_Pair_c39
noncomputable abbrev trellisref32_Pair_c47 : Code := Code.snd trellisref32_Pair_c39
noncomputable abbrev trellisref32_Pair_c48 : Code := Code.fst trellisref32_Pair_c47
noncomputable abbrev trellisref32_Pair_c49 : Code := Code.snd trellisref32_Pair_c47
noncomputable abbrev trellisref32_Pair_c50 : Code := Code.fst trellisref32_Pair_c48
noncomputable abbrev trellisref32_Pair_c51 : Code := Code.snd trellisref32_Pair_c48
noncomputable abbrev trellisref32_Pair_c52 : Code := Code.fst trellisref32_Pair_c8
noncomputable abbrev trellisref32_Pair_c53 : Code := Code.snd trellisref32_Pair_c8
abbrev trellisref32_Pair_R (w : World) (F : Nat → Prop) (r : Int) : Ending → World → Prop := fun e w' => e = .returned (.int .i64 r) ∧ B.Loc w w' [] [St w []]
noncomputable abbrev trellisref32_Pair_C (w : World) (F : Nat → Prop) (r : Int) : Cx := ⟨Try.prog, 42, Try.f42, 83, trellisref32_Pair_R w F  r, w⟩
theorem trellisref32_Pair_calls (w : World) (F : Nat → Prop) (x1 : List api_Node) (x6 : Int) (A2 : Option Addr) (n3 : Nat) (c4 : Nat) (h5 : Rw k_api_Node w (St w []).av A2 n3 c4 x1) (hF : ∀ b, F b → b < w.heap.size ∧ ∀ o ∈ ([] : List (List Nat)), b ∉ o) (hL0 : B.Loc w w [] [Sm w.heap.size F w [], St w []]) (r : Int) (h : trellisref32_Pair x1 x6 r) : Calls Try.prog 42 #[.slice A2 n3 c4, .int .i64 x6] w (trellisref32_Pair_R w F  r) := by
  unfold trellisref32_Pair at h
  refine calls_of_Loc (vs := [.slice A2 n3 c4, .int .i64 x6]) 83 Try.func42 rfl Try.ntmps42 rfl hL0 ?_
  show G (trellisref32_Pair_C w F r) _ _ _ _
  refine g_seq (c := trellisref32_Pair_c0) rfl ?_
  refine g_region (c := trellisref32_Pair_c1) rfl rfl ?_
  refine wl_v 0 rfl (v_assign rfl) gn rfl ?_
  refine w_end 1 rfl ?_
  refine g_seq (c := trellisref32_Pair_c2) rfl ?_
  refine g_region (c := trellisref32_Pair_c3) rfl rfl ?_
  refine wl_v 0 rfl (v_move rfl) gn rfl ?_
  refine wl_v 1 rfl (v_move rfl) gn rfl ?_
  obtain ⟨r10, hv11, h⟩ := h
  refine wl_s 2 rfl (s_call [.slice A2 n3 c4, .int .i64 x6] rfl Try.func54 rfl rfl rfl fun w7 hL8 => ?_) gn
  have hp9 : List.Perm ([] : List Ent) (([] : List Ent) ++ ([] : List Ent)) := perm_of_idx [] [] rfl rfl (by kernel_rfl)
  refine Calls.mono (trellisref32_beside_calls w7 (Fl ([] : List Snap)) x1 x6 A2 n3 c4 (Rw.mono h5 (hL8.toSt hp9 (me 1 rfl))) (hL8.hFl (Sl := ([] : List Snap)) hp9 (sels [] rfl)) (hL8.into hp9 (Fl ([] : List Snap))) r10 hv11) ?_
  rintro _ w17 ⟨A12, n13, c14, rfl, hM18, h15⟩
  have hL19 := hL8.call hp9 hM18
  refine ⟨_, _, _, rfl, hL19, ?_⟩
  refine wl_v 3 rfl (v_assign rfl) gn rfl ?_
  refine w_end 4 rfl ?_
  refine g_seq (c := trellisref32_Pair_c4) rfl ?_
  refine g_region (c := trellisref32_Pair_c5) rfl rfl ?_
  refine wl_v 0 rfl (v_assign rfl) gn rfl ?_
  refine w_end 1 rfl ?_
  refine g_seq (c := trellisref32_Pair_c6) rfl ?_
  refine g_seq (c := trellisref32_Pair_c7) rfl ?_
  refine g_region (c := trellisref32_Pair_c9) rfl rfl ?_
  refine wl_v 0 rfl (v_assign rfl) gn rfl ?_
  refine w_end 1 rfl ?_
  refine g_block (c := trellisref32_Pair_c10) rfl ?_
  refine g_loop (c := trellisref32_Pair_c11) rfl ?_
  have key1 : ∀ s, Rounds (fun (s : (List Int) × Int) o => trellisref32_Pair_b1 r10 x1 x6 s.1 s.2 o) s r → (fun (s : (List Int) × Int) => ∀ (A98 : Option Addr) (n99 : Nat) (c100 : Nat) (h101 : Ow w.heap.size A98 n99 c100 s.1), G (trellisref32_Pair_C w F r) [.code trellisref32_Pair_c12, .inLoop trellisref32_Pair_c12, .inBlock 0, .code trellisref32_Pair_c8] [(0, .slice A2 n3 c4), (1, .int .i64 x6), (5, .slice A12 n13 c14), (6, .slice A98 n99 c100), (7, .int .i64 s.2)] [.own (.slice A98 n99 c100) 3 1 n99 (s.1.flatMap (eI .i64)), .own (.slice A12 n13 c14) 3 1 n13 (r10.flatMap (eI .i64))] [Sm w.heap.size F w [], St w []]) s := by
    intro s hs
    refine Rounds.ind (mot := (fun (s : (List Int) × Int) => ∀ (A98 : Option Addr) (n99 : Nat) (c100 : Nat) (h101 : Ow w.heap.size A98 n99 c100 s.1), G (trellisref32_Pair_C w F r) [.code trellisref32_Pair_c12, .inLoop trellisref32_Pair_c12, .inBlock 0, .code trellisref32_Pair_c8] [(0, .slice A2 n3 c4), (1, .int .i64 x6), (5, .slice A12 n13 c14), (6, .slice A98 n99 c100), (7, .int .i64 s.2)] [.own (.slice A98 n99 c100) 3 1 n99 (s.1.flatMap (eI .i64)), .own (.slice A12 n13 c14) 3 1 n13 (r10.flatMap (eI .i64))] [Sm w.heap.size F w [], St w []])) ?_ hs
    clear hs s
    intro s o1 h hO1
    obtain ⟨x97, x102⟩ := s
    show ∀ (A98 : Option Addr) (n99 : Nat) (c100 : Nat) (h101 : Ow w.heap.size A98 n99 c100 x97), G (trellisref32_Pair_C w F r) [.code trellisref32_Pair_c12, .inLoop trellisref32_Pair_c12, .inBlock 0, .code trellisref32_Pair_c8] [(0, .slice A2 n3 c4), (1, .int .i64 x6), (5, .slice A12 n13 c14), (6, .slice A98 n99 c100), (7, .int .i64 x102)] [.own (.slice A98 n99 c100) 3 1 n99 (x97.flatMap (eI .i64)), .own (.slice A12 n13 c14) 3 1 n13 (r10.flatMap (eI .i64))] [Sm w.heap.size F w [], St w []]
    intro A98 n99 c100 h101
    have h : trellisref32_Pair_b1 r10 x1 x6 x97 x102 o1 := h
    unfold trellisref32_Pair_b1 at h
    refine g_seq (c := trellisref32_Pair_c12) rfl ?_
    refine g_seq (c := trellisref32_Pair_c13) rfl ?_
    refine g_region (c := trellisref32_Pair_c15) rfl rfl ?_
    refine wl_v 0 rfl (v_move rfl) gn rfl ?_
    refine wl_v 1 rfl (v_move rfl) gn rfl ?_
    refine wl_v 2 rfl (v_lenQ un_45 rfl (Ow.weak hL8.env.size h15).hq) gn rfl ?_
    refine wl_v 3 rfl (v_bin rfl rfl rfl) gn rfl ?_
    refine w_end 4 rfl ?_
    by_cases hp177 : x102 < (r10.length : Int)
    · have h := if_pos' hp177 h
      refine g_true (c := trellisref32_Pair_c16) rfl _ rfl ((decide_eq_true hp177)) ?_
      refine g_skip (c := trellisref32_Pair_c17) rfl ?_
      refine g_seq (c := trellisref32_Pair_c14) rfl ?_
      refine g_block (c := trellisref32_Pair_c19) rfl ?_
      refine g_seq (c := trellisref32_Pair_c21) rfl ?_
      refine g_region (c := trellisref32_Pair_c22) rfl rfl ?_
      refine wl_v 0 rfl (v_move rfl) gn rfl ?_
      refine wl_v 1 rfl (v_move rfl) gn rfl ?_
      refine wl_v 2 rfl (v_move rfl) gn rfl ?_
      obtain ⟨hb178, h⟩ := h
      refine wl_v 3 rfl (v_idxO slE_45 rfl rfl (Ow.weak hL8.env.size h15) hb178) gn rfl ?_
      refine wl_v 4 rfl (v_ldO1 (.int .i64 (ix r10 x102)) 1 ld_3 rfl rfl (fm_get0 (hlI .i64) hb178 rfl)) gn rfl ?_
      obtain ⟨hb179, h⟩ := h
      have hr180 := Rw.readF (s := St w []) (hl := hl_api_Node) (h1 := h1_api_Node) h5 hb179
      refine wl_v 5 rfl (v_idxR (s := St w []) slE_22 rfl rfl h5 hb179) gn rfl ?_
      refine wl_v 6 rfl (v_ldA (St w []) ld_39 rfl hr180 rfl (me 1 rfl)) gn rfl ?_
      obtain ⟨r184, hv185, h⟩ := h
      refine wl_s 7 rfl (s_call [.agg #[.string ((ix x1 (ix r10 x102)).name), .bool ((ix x1 (ix r10 x102)).named), .string ((ix x1 (ix r10 x102)).field), .int .i64 ((ix x1 (ix r10 x102)).from_), .int .i64 ((ix x1 (ix r10 x102)).to), .int .i64 ((ix x1 (ix r10 x102)).kids), .int .i64 ((ix x1 (ix r10 x102)).leaf)]] rfl Try.func56 rfl rfl rfl fun w181 hL182 => ?_) gn
      have hp183 : List.Perm ([.own (.slice A98 n99 c100) 3 1 n99 (x97.flatMap (eI .i64)), .own (.slice A12 n13 c14) 3 1 n13 (r10.flatMap (eI .i64))] : List Ent) (([] : List Ent) ++ ([.own (.slice A98 n99 c100) 3 1 n99 (x97.flatMap (eI .i64)), .own (.slice A12 n13 c14) 3 1 n13 (r10.flatMap (eI .i64))] : List Ent)) := perm_of_idx [] [0, 1] rfl rfl (by kernel_rfl)
      refine Calls.mono (trellisref32_kind_calls w181 (Fl ([] : List Snap)) (ix x1 (ix r10 x102)) (hL182.hFl (Sl := ([] : List Snap)) hp183 (sels [] rfl)) (hL182.into hp183 (Fl ([] : List Snap))) r184 hv185) ?_
      rintro _ w186 ⟨rfl, hM187⟩
      have hL188 := hL182.call hp183 hM187
      refine ⟨_, _, _, rfl, hL188, ?_⟩
      refine wl_v 8 rfl (v_assign rfl) gn rfl ?_
      refine w_end 9 rfl ?_
      refine g_seq (c := trellisref32_Pair_c23) rfl ?_
      refine g_seq (c := trellisref32_Pair_c24) rfl ?_
      refine g_region (c := trellisref32_Pair_c26) rfl rfl ?_
      refine wl_v 0 rfl (v_move rfl) gn rfl ?_
      refine wl_v 1 rfl (v_bin rfl rfl rfl) gn rfl ?_
      refine w_end 2 rfl ?_
      have j2 : ∀ (x200 : List Int) (h : trellisref32_Pair_j2 r184 x1 x6 r10 x102 x200 o1) (A201 : Option Addr) (n202 : Nat) (c203 : Nat) (h204 : Ow w.heap.size A201 n202 c203 x200), G (trellisref32_Pair_C w F r) [.code trellisref32_Pair_c25, .inBlock 1, .code trellisref32_Pair_c20, .inLoop trellisref32_Pair_c12, .inBlock 0, .code trellisref32_Pair_c8] [(0, .slice A2 n3 c4), (1, .int .i64 x6), (5, .slice A12 n13 c14), (6, .slice A201 n202 c203), (7, .int .i64 x102), (8, .int .i64 r184)] [.own (.slice A201 n202 c203) 3 1 n202 (x200.flatMap (eI .i64)), .own (.slice A12 n13 c14) 3 1 n13 (r10.flatMap (eI .i64))] [Sm w.heap.size F w [], St w []] := by
        intro x200 h A201 n202 c203 h204
        unfold trellisref32_Pair_j2 at h
        refine g_seq (c := trellisref32_Pair_c25) rfl ?_
        have j3 : ∀ (x219 : Bool) (h : trellisref32_Pair_j3 x200 x6 r10 x102 x219 o1) , G (trellisref32_Pair_C w F r) [.code trellisref32_Pair_c31, .inBlock 1, .code trellisref32_Pair_c20, .inLoop trellisref32_Pair_c12, .inBlock 0, .code trellisref32_Pair_c8] [(0, .slice A2 n3 c4), (1, .int .i64 x6), (5, .slice A12 n13 c14), (6, .slice A201 n202 c203), (7, .int .i64 x102), (57, .bool x219)] [.own (.slice A201 n202 c203) 3 1 n202 (x200.flatMap (eI .i64)), .own (.slice A12 n13 c14) 3 1 n13 (r10.flatMap (eI .i64))] [Sm w.heap.size F w [], St w []] := by
          intro x219 h
          unfold trellisref32_Pair_j3 at h
          by_cases hp220 : x219 = true
          · have h := if_pos' hp220 h
            refine g_true (c := trellisref32_Pair_c31) rfl _ rfl (hp220) ?_
            refine g_seq (c := trellisref32_Pair_c32) rfl ?_
            refine g_region (c := trellisref32_Pair_c34) rfl rfl ?_
            refine wl_v 0 rfl (v_move rfl) gn rfl ?_
            refine wl_v 1 rfl (v_move rfl) gn rfl ?_
            refine wl_v 2 rfl (v_lenQ un_45 rfl h204.hq) gn rfl ?_
            refine wl_v 3 rfl (v_bin rfl rfl rfl) gn rfl ?_
            obtain ⟨hb221, h⟩ := h
            refine wl_v 4 rfl (v_idxO slE_45 rfl rfl h204 hb221) gn rfl ?_
            refine wl_v 5 rfl (v_ldO1 (.int .i64 (ix x200 (w64 ((x200.length : Int) - 1)))) 0 ld_3 rfl rfl (fm_get0 (hlI .i64) hb221 rfl)) gn rfl ?_
            refine wl_v 6 rfl (v_assign rfl) gn rfl ?_
            refine w_end 7 rfl ?_
            refine g_seq (c := trellisref32_Pair_c35) rfl ?_
            refine g_region (c := trellisref32_Pair_c36) rfl rfl ?_
            refine wl_v 0 rfl (v_move rfl) gn rfl ?_
            refine wl_v 1 rfl (v_move rfl) gn rfl ?_
            refine wl_v 2 rfl (v_lenQ un_45 rfl h204.hq) gn rfl ?_
            refine wl_v 3 rfl (v_bin rfl rfl rfl) gn rfl ?_
            obtain ⟨hb222, h⟩ := h
            obtain ⟨x224, hv225, h⟩ := h
            have hle223 : (w64 ((x200.length : Int) - 1) : Int).toNat ≤ n202 := by have q := hb222; have q1 := h204.hq; omega
            have h226 : Ow w.heap.size A201 (w64 ((x200.length : Int) - 1) : Int).toNat c203 x224 := Ow.w (Ow.cut h204 hle223) (by rw [hv225])
            refine wl_v 4 rfl (v_cutHi (i := w64 ((x200.length : Int) - 1)) slE_45 rfl rfl (by have q := hb222; have q1 := h204.hq; have q2 := h204.hn; omega) h204.hn rfl) gn rfl ?_
            refine wl_v 5 rfl (v_assign rfl) gn rfl ?_
            refine w_end 6 rfl ?_
            refine g_seq (c := trellisref32_Pair_c37) rfl ?_
            refine g_seq (c := trellisref32_Pair_c38) rfl ?_
            refine g_region (c := trellisref32_Pair_c40) rfl rfl ?_
            refine wl_v 0 rfl (v_move rfl) gn rfl ?_
            refine wl_v 1 rfl (v_move rfl) gn rfl ?_
            refine wl_v 2 rfl (v_bin rfl rfl rfl) gn rfl ?_
            refine w_end 3 rfl ?_
            by_cases hp227 : ix x200 (w64 ((x200.length : Int) - 1)) = x6
            · have h := if_pos' hp227 h
              refine g_true (c := trellisref32_Pair_c41) rfl _ rfl ((eqi hp227)) ?_
              refine g_seq (c := trellisref32_Pair_c42) rfl ?_
              refine g_region (c := trellisref32_Pair_c44) rfl rfl ?_
              refine wl_v 0 rfl (v_move rfl) gn rfl ?_
              refine wl_v 1 rfl (v_move rfl) gn rfl ?_
              refine wl_v 2 rfl (v_idxO slE_45 rfl rfl (Ow.weak hL8.env.size h15) hb178) gn rfl ?_
              refine wl_v 3 rfl (v_ldO1 (.int .i64 (ix r10 x102)) 1 ld_3 rfl rfl (fm_get0 (hlI .i64) hb178 rfl)) gn rfl ?_
              refine wl_v 4 rfl (v_assign rfl) gn rfl ?_
              refine w_end 5 rfl ?_
              have h := Out.inr hO1 h
              refine g_retR (c := trellisref32_Pair_c45) [.int .i64 (ix r10 x102)] rfl Try.func42 rfl (.tmp rfl (.nil)) fun wr hLr => ?_
              have hMr : B.Loc w wr [] [St w []] := hLr.pick (rest := [.own (.slice A201 n202 c203) 3 1 n202 (x200.flatMap (eI .i64)), .own (.slice A12 n13 c14) 3 1 n13 (r10.flatMap (eI .i64))]) (perm_of_idx [] [0, 1] rfl rfl (by kernel_rfl)) (sels [1] rfl)
              have hMi : ∀ e ∈ ([] : List Ent), e ∈ ([.own (.slice A201 n202 c203) 3 1 n202 (x200.flatMap (eI .i64)), .own (.slice A12 n13 c14) 3 1 n13 (r10.flatMap (eI .i64))] : List Ent) := sels [] rfl
              show trellisref32_Pair_R w F  r (.returned (packV [.int .i64 (ix r10 x102)])) wr
              rw [h]
              exact ⟨rfl, hMr⟩
            · have h := if_neg' hp227 h
              refine g_false (c := trellisref32_Pair_c41) rfl _ rfl ((nei hp227)) ?_
              refine g_skip (c := trellisref32_Pair_c43) rfl ?_
              refine g_seq (c := trellisref32_Pair_c39) rfl ?_
              refine g_region (c := trellisref32_Pair_c46) rfl rfl ?_
              refine wl_v 0 rfl (v_move rfl) gn rfl ?_
              refine wl_v 1 rfl (v_move rfl) gn rfl ?_
              refine wl_v 2 rfl (v_idxO slE_45 rfl rfl (Ow.weak hL8.env.size h15) hb178) gn rfl ?_
              refine wl_v 3 rfl (v_ldO1 (.int .i64 (ix r10 x102)) 1 ld_3 rfl rfl (fm_get0 (hlI .i64) hb178 rfl)) gn rfl ?_
              refine wl_v 4 rfl (v_move rfl) gn rfl ?_
              refine wl_v 5 rfl (v_bin rfl rfl rfl) gn rfl ?_
              refine w_end 6 rfl ?_
              by_cases hp228 : ix r10 x102 = x6
              · have h := if_pos' hp228 h
                refine g_true (c := trellisref32_Pair_c47) rfl _ rfl ((eqi hp228)) ?_
                refine g_seq (c := trellisref32_Pair_c48) rfl ?_
                refine g_region (c := trellisref32_Pair_c50) rfl rfl ?_
                refine wl_v 0 rfl (v_move rfl) gn rfl ?_
                refine wl_v 1 rfl (v_assign rfl) gn rfl ?_
                refine w_end 2 rfl ?_
                have h := Out.inr hO1 h
                refine g_retR (c := trellisref32_Pair_c51) [.int .i64 (ix x200 (w64 ((x200.length : Int) - 1)))] rfl Try.func42 rfl (.tmp rfl (.nil)) fun wr hLr => ?_
                have hMr : B.Loc w wr [] [St w []] := hLr.pick (rest := [.own (.slice A201 n202 c203) 3 1 n202 (x200.flatMap (eI .i64)), .own (.slice A12 n13 c14) 3 1 n13 (r10.flatMap (eI .i64))]) (perm_of_idx [] [0, 1] rfl rfl (by kernel_rfl)) (sels [1] rfl)
                have hMi : ∀ e ∈ ([] : List Ent), e ∈ ([.own (.slice A201 n202 c203) 3 1 n202 (x200.flatMap (eI .i64)), .own (.slice A12 n13 c14) 3 1 n13 (r10.flatMap (eI .i64))] : List Ent) := sels [] rfl
                show trellisref32_Pair_R w F  r (.returned (packV [.int .i64 (ix x200 (w64 ((x200.length : Int) - 1)))])) wr
                rw [h]
                exact ⟨rfl, hMr⟩
              · have h := if_neg' hp228 h
                refine g_false (c := trellisref32_Pair_c47) rfl _ rfl ((nei hp228)) ?_
                refine g_skip (c := trellisref32_Pair_c49) rfl ?_
                refine g_inBlock ?_
                refine g_region (c := trellisref32_Pair_c20) rfl rfl ?_
                refine wl_v 0 rfl (v_move rfl) gn rfl ?_
                refine wl_v 1 rfl (v_bin rfl rfl rfl) gn rfl ?_
                refine wl_v 2 rfl (v_assign rfl) gn rfl ?_
                refine w_end 3 rfl ?_
                refine g_inLoop ?_
                have h229 : Ow w.heap.size A201 ((w64 ((x200.length : Int) - 1) : Int).toNat) c203 x224 := (Ow.w (Ow.cut h204 hle223) (by rw [hv225]))
                refine g_short (j := 0) (m := ((w64 ((x200.length : Int) - 1) : Int).toNat)) (cells' := x224.flatMap (eI .i64)) rfl hle223 (by rw [fm_take (hlI .i64), hv225]) ?_
                have ih := Out.inl hO1 h
                exact g_go [0, 1] (ih A201 ((w64 ((x200.length : Int) - 1) : Int).toNat) c203 h229) ⟨rfl, rfl, rfl, rfl, rfl, trivial⟩ (.cons_cons _ (.cons_cons _ (.slnil))) rfl
          · have h := if_neg' hp220 h
            refine g_false (c := trellisref32_Pair_c31) rfl _ rfl ((bf hp220)) ?_
            refine g_skip (c := trellisref32_Pair_c33) rfl ?_
            refine g_inBlock ?_
            refine g_region (c := trellisref32_Pair_c20) rfl rfl ?_
            refine wl_v 0 rfl (v_move rfl) gn rfl ?_
            refine wl_v 1 rfl (v_bin rfl rfl rfl) gn rfl ?_
            refine wl_v 2 rfl (v_assign rfl) gn rfl ?_
            refine w_end 3 rfl ?_
            refine g_inLoop ?_
            have ih := Out.inl hO1 h
            exact g_go [0, 1] (ih A201 n202 c203 h204) ⟨rfl, rfl, rfl, rfl, rfl, trivial⟩ (.cons_cons _ (.cons_cons _ (.slnil))) rfl
        refine g_region (c := trellisref32_Pair_c30) rfl rfl ?_
        refine wl_v 0 rfl (v_move rfl) gn rfl ?_
        refine wl_v 1 rfl (v_bin rfl rfl rfl) gn rfl ?_
        refine wl_v 2 rfl (v_move rfl) gn rfl ?_
        by_cases hp230 : r184 < 0
        · have h := if_pos' hp230 h
          refine w_bool 38 rfl ((decide_eq_true hp230)) ?_
          refine wl_v 3 rfl (v_move rfl) (gy 38 rfl rfl) rfl ?_
          refine wl_v 4 rfl (v_lenQ un_45 rfl h204.hq) (gy 38 rfl rfl) rfl ?_
          refine wl_v 5 rfl (v_bin rfl rfl rfl) (gy 38 rfl rfl) rfl ?_
          refine wl_v 6 rfl (v_pick (b := true) rfl rfl) gn rfl ?_
          refine wl_v 7 rfl (v_move rfl) gn rfl ?_
          by_cases hp231 : (x200.length : Int) > 0
          · have h := if_pos' hp231 h
            refine w_bool 43 rfl ((decide_eq_true hp231)) ?_
            refine wl_v 8 rfl (v_move rfl) (gy 43 rfl rfl) rfl ?_
            refine wl_v 9 rfl (v_move rfl) (gy 43 rfl rfl) rfl ?_
            refine wl_v 10 rfl (v_move rfl) (gy 43 rfl rfl) rfl ?_
            refine wl_v 11 rfl (v_lenQ un_45 rfl h204.hq) (gy 43 rfl rfl) rfl ?_
            refine wl_v 12 rfl (v_bin rfl rfl rfl) (gy 43 rfl rfl) rfl ?_
            obtain ⟨hb232, h⟩ := h
            refine wl_v 13 rfl (v_idxO slE_45 rfl rfl h204 hb232) (gy 43 rfl rfl) rfl ?_
            refine wl_v 14 rfl (v_ldO1 (.int .i64 (ix x200 (w64 ((x200.length : Int) - 1)))) 0 ld_3 rfl rfl (fm_get0 (hlI .i64) hb232 rfl)) (gy 43 rfl rfl) rfl ?_
            obtain ⟨hb233, h⟩ := h
            have hr234 := Rw.readF (s := St w []) (hl := hl_api_Node) (h1 := h1_api_Node) h5 hb233
            refine wl_v 15 rfl (v_idxR (s := St w []) slE_22 rfl rfl h5 hb233) (gy 43 rfl rfl) rfl ?_
            refine wl_v 16 rfl (v_ldA (St w []) ld_39 rfl hr234 rfl (me 1 rfl)) (gy 43 rfl rfl) rfl ?_
            obtain ⟨r238, hv239, h⟩ := h
            refine wl_s 17 rfl (s_call [.agg #[.string ((ix x1 (ix x200 (w64 ((x200.length : Int) - 1)))).name), .bool ((ix x1 (ix x200 (w64 ((x200.length : Int) - 1)))).named), .string ((ix x1 (ix x200 (w64 ((x200.length : Int) - 1)))).field), .int .i64 ((ix x1 (ix x200 (w64 ((x200.length : Int) - 1)))).from_), .int .i64 ((ix x1 (ix x200 (w64 ((x200.length : Int) - 1)))).to), .int .i64 ((ix x1 (ix x200 (w64 ((x200.length : Int) - 1)))).kids), .int .i64 ((ix x1 (ix x200 (w64 ((x200.length : Int) - 1)))).leaf)]] rfl Try.func56 rfl rfl rfl fun w235 hL236 => ?_) (gy 43 rfl rfl)
            have hp237 : List.Perm ([.own (.slice A201 n202 c203) 3 1 n202 (x200.flatMap (eI .i64)), .own (.slice A12 n13 c14) 3 1 n13 (r10.flatMap (eI .i64))] : List Ent) (([] : List Ent) ++ ([.own (.slice A201 n202 c203) 3 1 n202 (x200.flatMap (eI .i64)), .own (.slice A12 n13 c14) 3 1 n13 (r10.flatMap (eI .i64))] : List Ent)) := perm_of_idx [] [0, 1] rfl rfl (by kernel_rfl)
            refine Calls.mono (trellisref32_kind_calls w235 (Fl ([] : List Snap)) (ix x1 (ix x200 (w64 ((x200.length : Int) - 1)))) (hL236.hFl (Sl := ([] : List Snap)) hp237 (sels [] rfl)) (hL236.into hp237 (Fl ([] : List Snap))) r238 hv239) ?_
            rintro _ w240 ⟨rfl, hM241⟩
            have hL242 := hL236.call hp237 hM241
            refine ⟨_, _, _, rfl, hL242, ?_⟩
            refine wl_v 18 rfl (v_move rfl) (gy 43 rfl rfl) rfl ?_
            refine wl_v 19 rfl (v_neg rfl) (gy 43 rfl rfl) rfl ?_
            refine wl_v 20 rfl (v_bin rfl rfl rfl) (gy 43 rfl rfl) rfl ?_
            refine wl_v 21 rfl (v_pick (b := true) rfl rfl) gn rfl ?_
            refine w_end 22 rfl ?_
            exact g_go [0, 1] (j3 (r238 == (w64 (0 - r184))) h) ⟨rfl, rfl, rfl, rfl, rfl, rfl, trivial⟩ (.cons_cons _ (.cons_cons _ (.slnil))) rfl
          · have h := if_neg' hp231 h
            refine w_bool 43 rfl ((decide_eq_false hp231)) ?_
            refine wl_pass 8 rfl (ps 43 rfl rfl rfl) ?_
            refine wl_pass 9 rfl (ps 43 rfl rfl rfl) ?_
            refine wl_pass 10 rfl (ps 43 rfl rfl rfl) ?_
            refine wl_pass 11 rfl (ps 43 rfl rfl rfl) ?_
            refine wl_pass 12 rfl (ps 43 rfl rfl rfl) ?_
            refine wl_pass 13 rfl (ps 43 rfl rfl rfl) ?_
            refine wl_pass 14 rfl (ps 43 rfl rfl rfl) ?_
            refine wl_pass 15 rfl (ps 43 rfl rfl rfl) ?_
            refine wl_pass 16 rfl (ps 43 rfl rfl rfl) ?_
            refine wl_pass 17 rfl (ps 43 rfl rfl rfl) ?_
            refine wl_pass 18 rfl (ps 43 rfl rfl rfl) ?_
            refine wl_pass 19 rfl (ps 43 rfl rfl rfl) ?_
            refine wl_pass 20 rfl (ps 43 rfl rfl rfl) ?_
            refine wl_v 21 rfl (v_pick (b := false) rfl rfl) gn rfl ?_
            refine w_end 22 rfl ?_
            exact g_go [0, 1] (j3 false h) ⟨rfl, rfl, rfl, rfl, rfl, rfl, trivial⟩ (.cons_cons _ (.cons_cons _ (.slnil))) rfl
        · have h := if_neg' hp230 h
          refine w_bool 38 rfl ((decide_eq_false hp230)) ?_
          refine wl_pass 3 rfl (ps 38 rfl rfl rfl) ?_
          refine wl_pass 4 rfl (ps 38 rfl rfl rfl) ?_
          refine wl_pass 5 rfl (ps 38 rfl rfl rfl) ?_
          refine wl_v 6 rfl (v_pick (b := false) rfl rfl) gn rfl ?_
          refine wl_v 7 rfl (v_move rfl) gn rfl ?_
          refine wl_pass 8 rfl (ps 43 rfl rfl rfl) ?_
          refine wl_pass 9 rfl (ps 43 rfl rfl rfl) ?_
          refine wl_pass 10 rfl (ps 43 rfl rfl rfl) ?_
          refine wl_pass 11 rfl (ps 43 rfl rfl rfl) ?_
          refine wl_pass 12 rfl (ps 43 rfl rfl rfl) ?_
          refine wl_pass 13 rfl (ps 43 rfl rfl rfl) ?_
          refine wl_pass 14 rfl (ps 43 rfl rfl rfl) ?_
          refine wl_pass 15 rfl (ps 43 rfl rfl rfl) ?_
          refine wl_pass 16 rfl (ps 43 rfl rfl rfl) ?_
          refine wl_pass 17 rfl (ps 43 rfl rfl rfl) ?_
          refine wl_pass 18 rfl (ps 43 rfl rfl rfl) ?_
          refine wl_pass 19 rfl (ps 43 rfl rfl rfl) ?_
          refine wl_pass 20 rfl (ps 43 rfl rfl rfl) ?_
          refine wl_v 21 rfl (v_pick (b := false) rfl rfl) gn rfl ?_
          refine w_end 22 rfl ?_
          exact g_go [0, 1] (j3 false h) ⟨rfl, rfl, rfl, rfl, rfl, rfl, trivial⟩ (.cons_cons _ (.cons_cons _ (.slnil))) rfl
      by_cases hp189 : r184 > 0
      · have h := if_pos' hp189 h
        refine g_true (c := trellisref32_Pair_c27) rfl _ rfl ((decide_eq_true hp189)) ?_
        refine g_region (c := trellisref32_Pair_c28) rfl rfl ?_
        refine wl_v 0 rfl (v_move rfl) gn rfl ?_
        refine wl_v 1 rfl (v_move rfl) gn rfl ?_
        refine wl_v 2 rfl (v_move rfl) gn rfl ?_
        refine wl_v 3 rfl (v_idxO slE_45 rfl rfl (Ow.weak hL8.env.size h15) hb178) gn rfl ?_
        refine wl_v 4 rfl (v_ldO1 (.int .i64 (ix r10 x102)) 1 ld_3 rfl rfl (fm_get0 (hlI .i64) hb178 rfl)) gn rfl ?_
        refine wl_s 5 rfl (s_litO (xs := ([ix r10 x102] : List Int)) [.int .i64 (ix r10 x102)] bs_45_1 rfl (by kernel_rfl) rfl rfl rfl rfl fun gb244 h245 => ?_) gn
        obtain ⟨x249, hv250, h⟩ := h
        obtain ⟨hb251, h⟩ := h
        refine wl_s 6 rfl (s_app (zs := x249) (cells' := x249.flatMap (eI .i64)) 1 ap_45 rfl rfl rfl h101 (Nat.le_refl _) (Src.ownF (hl := (hlI .i64)) (h1 := (hone_int .i64)) 0 rfl h245) (by rw [hv250, List.flatMap_append] <;> rfl) (app_len hv250 h245.hq) hb251 rfl rfl fun A246 c247 h248 => ?_) gn
        refine wl_v 7 rfl (v_assign rfl) gn rfl ?_
        refine w_end 8 rfl ?_
        exact g_go [0, 1] (j2 x249 h A246 (n99 + 1) c247 h248) ⟨rfl, rfl, rfl, rfl, rfl, rfl, trivial⟩ (.cons _ (.cons_cons _ (.cons_cons _ (.slnil)))) rfl
      · have h := if_neg' hp189 h
        refine g_false (c := trellisref32_Pair_c27) rfl _ rfl ((decide_eq_false hp189)) ?_
        refine g_skip (c := trellisref32_Pair_c29) rfl ?_
        exact g_go [0, 1] (j2 x97 h A98 n99 c100 h101) ⟨rfl, rfl, rfl, rfl, rfl, rfl, trivial⟩ (.cons_cons _ (.cons_cons _ (.slnil))) rfl
    · have h := if_neg' hp177 h
      refine g_false (c := trellisref32_Pair_c16) rfl _ rfl ((decide_eq_false hp177)) ?_
      refine g_exit (c := trellisref32_Pair_c18) [.code trellisref32_Pair_c8] rfl rfl ?_
      refine g_seq (c := trellisref32_Pair_c8) rfl ?_
      refine g_region (c := trellisref32_Pair_c52) rfl rfl ?_
      refine wl_v 0 rfl (v_assign rfl) gn rfl ?_
      refine w_end 1 rfl ?_
      have h := Out.inr hO1 h
      refine g_retR (c := trellisref32_Pair_c53) [.int .i64 (-1)] rfl Try.func42 rfl (.tmp rfl (.nil)) fun wr hLr => ?_
      have hMr : B.Loc w wr [] [St w []] := hLr.pick (rest := [.own (.slice A98 n99 c100) 3 1 n99 (x97.flatMap (eI .i64)), .own (.slice A12 n13 c14) 3 1 n13 (r10.flatMap (eI .i64))]) (perm_of_idx [] [0, 1] rfl rfl (by kernel_rfl)) (sels [1] rfl)
      have hMi : ∀ e ∈ ([] : List Ent), e ∈ ([.own (.slice A98 n99 c100) 3 1 n99 (x97.flatMap (eI .i64)), .own (.slice A12 n13 c14) 3 1 n13 (r10.flatMap (eI .i64))] : List Ent) := sels [] rfl
      show trellisref32_Pair_R w F  r (.returned (packV [.int .i64 (-1)])) wr
      rw [h]
      exact ⟨rfl, hMr⟩
  refine g_nil 3 1 ?_
  exact g_go [0, 1] (key1 _ h none 0 0 (Ow.nil (z := w.heap.size))) ⟨rfl, rfl, rfl, rfl, rfl, trivial⟩ (.cons_cons _ (.cons_cons _ (.slnil))) rfl
noncomputable abbrev tree_forest_has_c0 : Code := bodyOf Try.f45
noncomputable abbrev tree_forest_has_c1 : Code := Code.fst tree_forest_has_c0
noncomputable abbrev tree_forest_has_c2 : Code := Code.snd tree_forest_has_c0
noncomputable abbrev tree_forest_has_c3 : Code := Code.fst tree_forest_has_c2
noncomputable abbrev tree_forest_has_c4 : Code := Code.snd tree_forest_has_c2
abbrev tree_forest_has_R (w : World) (F : Nat → Prop) (r : Bool) : Ending → World → Prop := fun e w' => e = .returned (.bool r) ∧ B.Loc w w' [] [St w []]
noncomputable abbrev tree_forest_has_C (w : World) (F : Nat → Prop) (r : Bool) : Cx := ⟨Try.prog, 45, Try.f45, 18, tree_forest_has_R w F  r, w⟩
theorem tree_forest_has_calls (w : World) (F : Nat → Prop) (x1 : tree_forest) (x14 : Int) (A2 : Option Addr) (n3 : Nat) (c4 : Nat) (A6 : Option Addr) (n7 : Nat) (c8 : Nat) (A10 : Option Addr) (n11 : Nat) (c12 : Nat) (h5 : Rw k_api_Node w (St w []).av A2 n3 c4 x1.nodes) (h9 : Rw (kInt .i64) w (St w []).av A6 n7 c8 x1.parent) (h13 : Rw (kInt .i64) w (St w []).av A10 n11 c12 x1.end_) (hF : ∀ b, F b → b < w.heap.size ∧ ∀ o ∈ ([] : List (List Nat)), b ∉ o) (hL0 : B.Loc w w [] [Sm w.heap.size F w [], St w []]) (r : Bool) (h : tree_forest_has x1 x14 r) : Calls Try.prog 45 #[.agg #[.slice A2 n3 c4, .slice A6 n7 c8, .slice A10 n11 c12, .bool x1.ok], .int .i64 x14] w (tree_forest_has_R w F  r) := by
  unfold tree_forest_has at h
  refine calls_of_Loc (vs := [.agg #[.slice A2 n3 c4, .slice A6 n7 c8, .slice A10 n11 c12, .bool x1.ok], .int .i64 x14]) 18 Try.func45 rfl Try.ntmps45 rfl hL0 ?_
  show G (tree_forest_has_C w F r) _ _ _ _
  refine g_seq (c := tree_forest_has_c0) rfl ?_
  refine g_region (c := tree_forest_has_c1) rfl rfl ?_
  refine wl_s 0 rfl (s_box [.slice A2 n3 c4, .slice A6 n7 c8, .slice A10 n11 c12, .bool x1.ok] rfl rfl rfl fun gb15 => ?_) gn
  refine wl_v 1 rfl (v_assign rfl) gn rfl ?_
  refine w_end 2 rfl ?_
  refine g_seq (c := tree_forest_has_c2) rfl ?_
  refine g_region (c := tree_forest_has_c3) rfl rfl ?_
  refine wl_v 0 rfl (v_fldB fo_54_3 rfl) gn rfl ?_
  refine wl_v 1 rfl (v_ldB1 0 ld_4 rfl rfl rfl) gn rfl ?_
  refine wl_v 2 rfl (v_move rfl) gn rfl ?_
  by_cases hp17 : x1.ok = true
  · have h := if_pos' hp17 h
    refine w_bool 7 rfl (hp17) ?_
    refine wl_v 3 rfl (v_move rfl) (gy 7 rfl rfl) rfl ?_
    refine wl_v 4 rfl (v_bin rfl rfl rfl) (gy 7 rfl rfl) rfl ?_
    refine wl_v 5 rfl (v_pick (b := true) rfl rfl) gn rfl ?_
    refine wl_v 6 rfl (v_move rfl) gn rfl ?_
    by_cases hp18 : x14 ≥ 0
    · have h := if_pos' hp18 h
      refine w_bool 11 rfl ((decide_eq_true hp18)) ?_
      refine wl_v 7 rfl (v_move rfl) (gy 11 rfl rfl) rfl ?_
      refine wl_v 8 rfl (v_fldB fo_54_0 rfl) (gy 11 rfl rfl) rfl ?_
      refine wl_v 9 rfl (v_ldB1 0 ld_22 rfl rfl rfl) (gy 11 rfl rfl) rfl ?_
      refine wl_v 10 rfl (v_lenQ un_22 rfl h5.hq) (gy 11 rfl rfl) rfl ?_
      refine wl_v 11 rfl (v_bin rfl rfl rfl) (gy 11 rfl rfl) rfl ?_
      refine wl_v 12 rfl (v_pick (b := true) rfl rfl) gn rfl ?_
      refine wl_v 13 rfl (v_assign rfl) gn rfl ?_
      refine w_end 14 rfl ?_
      refine g_retR (c := tree_forest_has_c4) [.bool (decide (x14 < (x1.nodes.length : Int)))] rfl Try.func45 rfl (.tmp rfl (.nil)) fun wr hLr => ?_
      have hMr : B.Loc w wr [] [St w []] := hLr.pick (rest := [.box gb15 54 [.slice A2 n3 c4, .slice A6 n7 c8, .slice A10 n11 c12, .bool x1.ok]]) (perm_of_idx [] [0] rfl rfl (by kernel_rfl)) (sels [1] rfl)
      have hMi : ∀ e ∈ ([] : List Ent), e ∈ ([.box gb15 54 [.slice A2 n3 c4, .slice A6 n7 c8, .slice A10 n11 c12, .bool x1.ok]] : List Ent) := sels [] rfl
      show tree_forest_has_R w F  r (.returned (packV [.bool (decide (x14 < (x1.nodes.length : Int)))])) wr
      rw [h]
      exact ⟨rfl, hMr⟩
    · have h := if_neg' hp18 h
      refine w_bool 11 rfl ((decide_eq_false hp18)) ?_
      refine wl_pass 7 rfl (ps 11 rfl rfl rfl) ?_
      refine wl_pass 8 rfl (ps 11 rfl rfl rfl) ?_
      refine wl_pass 9 rfl (ps 11 rfl rfl rfl) ?_
      refine wl_pass 10 rfl (ps 11 rfl rfl rfl) ?_
      refine wl_pass 11 rfl (ps 11 rfl rfl rfl) ?_
      refine wl_v 12 rfl (v_pick (b := false) rfl rfl) gn rfl ?_
      refine wl_v 13 rfl (v_assign rfl) gn rfl ?_
      refine w_end 14 rfl ?_
      refine g_retR (c := tree_forest_has_c4) [.bool false] rfl Try.func45 rfl (.tmp rfl (.nil)) fun wr hLr => ?_
      have hMr : B.Loc w wr [] [St w []] := hLr.pick (rest := [.box gb15 54 [.slice A2 n3 c4, .slice A6 n7 c8, .slice A10 n11 c12, .bool x1.ok]]) (perm_of_idx [] [0] rfl rfl (by kernel_rfl)) (sels [1] rfl)
      have hMi : ∀ e ∈ ([] : List Ent), e ∈ ([.box gb15 54 [.slice A2 n3 c4, .slice A6 n7 c8, .slice A10 n11 c12, .bool x1.ok]] : List Ent) := sels [] rfl
      show tree_forest_has_R w F  r (.returned (packV [.bool false])) wr
      rw [h]
      exact ⟨rfl, hMr⟩
  · have h := if_neg' hp17 h
    refine w_bool 7 rfl ((bf hp17)) ?_
    refine wl_pass 3 rfl (ps 7 rfl rfl rfl) ?_
    refine wl_pass 4 rfl (ps 7 rfl rfl rfl) ?_
    refine wl_v 5 rfl (v_pick (b := false) rfl rfl) gn rfl ?_
    refine wl_v 6 rfl (v_move rfl) gn rfl ?_
    refine wl_pass 7 rfl (ps 11 rfl rfl rfl) ?_
    refine wl_pass 8 rfl (ps 11 rfl rfl rfl) ?_
    refine wl_pass 9 rfl (ps 11 rfl rfl rfl) ?_
    refine wl_pass 10 rfl (ps 11 rfl rfl rfl) ?_
    refine wl_pass 11 rfl (ps 11 rfl rfl rfl) ?_
    refine wl_v 12 rfl (v_pick (b := false) rfl rfl) gn rfl ?_
    refine wl_v 13 rfl (v_assign rfl) gn rfl ?_
    refine w_end 14 rfl ?_
    refine g_retR (c := tree_forest_has_c4) [.bool false] rfl Try.func45 rfl (.tmp rfl (.nil)) fun wr hLr => ?_
    have hMr : B.Loc w wr [] [St w []] := hLr.pick (rest := [.box gb15 54 [.slice A2 n3 c4, .slice A6 n7 c8, .slice A10 n11 c12, .bool x1.ok]]) (perm_of_idx [] [0] rfl rfl (by kernel_rfl)) (sels [1] rfl)
    have hMi : ∀ e ∈ ([] : List Ent), e ∈ ([.box gb15 54 [.slice A2 n3 c4, .slice A6 n7 c8, .slice A10 n11 c12, .bool x1.ok]] : List Ent) := sels [] rfl
    show tree_forest_has_R w F  r (.returned (packV [.bool false])) wr
    rw [h]
    exact ⟨rfl, hMr⟩
noncomputable abbrev tree_Parent_c0 : Code := bodyOf Try.f28
noncomputable abbrev tree_Parent_c1 : Code := Code.fst tree_Parent_c0
noncomputable abbrev tree_Parent_c2 : Code := Code.snd tree_Parent_c0
noncomputable abbrev tree_Parent_c3 : Code := Code.fst tree_Parent_c2
noncomputable abbrev tree_Parent_c4 : Code := Code.snd tree_Parent_c2
noncomputable abbrev tree_Parent_c5 : Code := Code.fst tree_Parent_c4
noncomputable abbrev tree_Parent_c6 : Code := Code.snd tree_Parent_c4
noncomputable abbrev tree_Parent_c7 : Code := Code.fst tree_Parent_c5
noncomputable abbrev tree_Parent_c8 : Code := Code.snd tree_Parent_c5
noncomputable abbrev tree_Parent_c9 : Code := Code.fst tree_Parent_c8
noncomputable abbrev tree_Parent_c10 : Code := Code.snd tree_Parent_c8
noncomputable abbrev tree_Parent_c11 : Code := Code.fst tree_Parent_c6
noncomputable abbrev tree_Parent_c12 : Code := Code.snd tree_Parent_c6
noncomputable abbrev tree_Parent_c13 : Code := Code.fst tree_Parent_c9
noncomputable abbrev tree_Parent_c14 : Code := Code.snd tree_Parent_c9
abbrev tree_Parent_R (w : World) (F : Nat → Prop) (r : Int) : Ending → World → Prop := fun e w' => e = .returned (.int .i64 r) ∧ B.Loc w w' [] [St w []]
noncomputable abbrev tree_Parent_C (w : World) (F : Nat → Prop) (r : Int) : Cx := ⟨Try.prog, 28, Try.f28, 17, tree_Parent_R w F  r, w⟩
theorem tree_Parent_calls (w : World) (F : Nat → Prop) (x1 : List api_Node) (x6 : Int) (A2 : Option Addr) (n3 : Nat) (c4 : Nat) (h5 : Rw k_api_Node w (St w []).av A2 n3 c4 x1) (hF : ∀ b, F b → b < w.heap.size ∧ ∀ o ∈ ([] : List (List Nat)), b ∉ o) (hL0 : B.Loc w w [] [Sm w.heap.size F w [], St w []]) (r : Int) (h : tree_Parent x1 x6 r) : Calls Try.prog 28 #[.slice A2 n3 c4, .int .i64 x6] w (tree_Parent_R w F  r) := by
  unfold tree_Parent at h
  refine calls_of_Loc (vs := [.slice A2 n3 c4, .int .i64 x6]) 17 Try.func28 rfl Try.ntmps28 rfl hL0 ?_
  show G (tree_Parent_C w F r) _ _ _ _
  refine g_seq (c := tree_Parent_c0) rfl ?_
  refine g_region (c := tree_Parent_c1) rfl rfl ?_
  refine wl_v 0 rfl (v_assign rfl) gn rfl ?_
  refine w_end 1 rfl ?_
  refine g_seq (c := tree_Parent_c2) rfl ?_
  refine g_region (c := tree_Parent_c3) rfl rfl ?_
  refine wl_v 0 rfl (v_move rfl) gn rfl ?_
  obtain ⟨r10, hv11, h⟩ := h
  refine wl_s 1 rfl (s_call [.slice A2 n3 c4] rfl Try.func43 rfl rfl rfl fun w7 hL8 => ?_) gn
  have hp9 : List.Perm ([] : List Ent) (([] : List Ent) ++ ([] : List Ent)) := perm_of_idx [] [] rfl rfl (by kernel_rfl)
  refine Calls.mono (tree_plant_calls w7 (Fl ([St w []] : List Snap)) x1 A2 n3 c4 (Rw.mono h5 (hL8.toFl (me 1 rfl) (me 0 rfl))) (hL8.hFl (Sl := ([St w []] : List Snap)) hp9 (sels [1] rfl)) (hL8.into hp9 (Fl ([St w []] : List Snap))) r10 hv11) ?_
  rintro _ w26 ⟨A16, n17, c18, A21, n22, c23, A12, n13, c14, rfl, hM27, h19, h24, h15⟩
  obtain ⟨sv30, hL28, hv29⟩ := hL8.callN (Sl := ([St w []] : List Snap)) hp9 hM27 (sels [1] rfl)
  have h15 : At k_api_Node (sv30) A12 n13 c14 r10.nodes := Rw.mono h15 hv29
  refine ⟨_, _, _, rfl, hL28, ?_⟩
  refine wl_s 2 rfl (s_alloc [.slice none 0 0, .slice none 0 0, .slice none 0 0, .bool false] zr_54 rfl fun gb31 => ?_) gn
  refine wl_s 3 rfl (s_stB (vs := [.slice A12 n13 c14, .slice A16 n17 c18, .slice A21 n22 c23, .bool r10.ok]) (cs' := [.slice A12 n13 c14, .slice A16 n17 c18, .slice A21 n22 c23, .bool r10.ok]) (M' := [.box gb31 54 [.slice A12 n13 c14, .slice A16 n17 c18, .slice A21 n22 c23, .bool r10.ok], .own (.slice A16 n17 c18) 3 1 n17 (r10.parent.flatMap (eI .i64)), .own (.slice A21 n22 c23) 3 1 n22 (r10.end_.flatMap (eI .i64))]) 0 sz_54 rfl rfl rfl rfl rfl rfl rfl rfl rfl ?_) gn
  refine w_end 4 rfl ?_
  refine g_seq (c := tree_Parent_c4) rfl ?_
  refine g_seq (c := tree_Parent_c5) rfl ?_
  refine g_region (c := tree_Parent_c7) rfl rfl ?_
  refine wl_v 0 rfl (v_ldB [.slice A12 n13 c14, .slice A16 n17 c18, .slice A21 n22 c23, .bool r10.ok] 0 ld_54 rfl rfl rfl rfl) gn rfl ?_
  refine wl_v 1 rfl (v_move rfl) gn rfl ?_
  obtain ⟨r36, hv37, h⟩ := h
  refine wl_s 2 rfl (s_call [.agg #[.slice A12 n13 c14, .slice A16 n17 c18, .slice A21 n22 c23, .bool r10.ok], .int .i64 x6] rfl Try.func45 rfl rfl rfl fun w33 hL34 => ?_) gn
  have hp35 : List.Perm ([.box gb31 54 [.slice A12 n13 c14, .slice A16 n17 c18, .slice A21 n22 c23, .bool r10.ok], .own (.slice A16 n17 c18) 3 1 n17 (r10.parent.flatMap (eI .i64)), .own (.slice A21 n22 c23) 3 1 n22 (r10.end_.flatMap (eI .i64))] : List Ent) (([] : List Ent) ++ ([.box gb31 54 [.slice A12 n13 c14, .slice A16 n17 c18, .slice A21 n22 c23, .bool r10.ok], .own (.slice A16 n17 c18) 3 1 n17 (r10.parent.flatMap (eI .i64)), .own (.slice A21 n22 c23) 3 1 n22 (r10.end_.flatMap (eI .i64))] : List Ent)) := perm_of_idx [] [0, 1, 2] rfl rfl (by kernel_rfl)
  refine Calls.mono (tree_forest_has_calls w33 (Fl ([] : List Snap)) r10 x6 A12 n13 c14 A16 n17 c18 A21 n22 c23 (Rw.mono h15 (hL34.toSt hp35 (me 0 rfl))) (hL34.argO (dk := (kInt .i64)) hp35 [] rfl 1 rfl rfl (Ow.weak hL8.env.size h19) (me 1 rfl) (Cells.flat _)) (hL34.argO (dk := (kInt .i64)) hp35 [] rfl 2 rfl rfl (Ow.weak hL8.env.size h24) (me 1 rfl) (Cells.flat _)) (hL34.hFl (Sl := ([] : List Snap)) hp35 (sels [] rfl)) (hL34.into hp35 (Fl ([] : List Snap))) r36 hv37) ?_
  rintro _ w38 ⟨rfl, hM39⟩
  have hL40 := hL34.call hp35 hM39
  refine ⟨_, _, _, rfl, hL40, ?_⟩
  refine wl_v 3 rfl (v_not rfl) gn rfl ?_
  refine w_end 4 rfl ?_
  by_cases hp41 : r36 = true
  · have h := if_pos' hp41 h
    refine g_false (c := tree_Parent_c8) rfl _ rfl ((nf hp41)) ?_
    refine g_skip (c := tree_Parent_c10) rfl ?_
    refine g_seq (c := tree_Parent_c6) rfl ?_
    refine g_region (c := tree_Parent_c11) rfl rfl ?_
    refine wl_v 0 rfl (v_fldB fo_54_1 rfl) gn rfl ?_
    refine wl_v 1 rfl (v_ldB1 0 ld_45 rfl rfl rfl) gn rfl ?_
    refine wl_v 2 rfl (v_move rfl) gn rfl ?_
    obtain ⟨hb42, h⟩ := h
    refine wl_v 3 rfl (v_idxO slE_45 rfl rfl (Ow.weak hL8.env.size h19) hb42) gn rfl ?_
    refine wl_v 4 rfl (v_ldO1 (.int .i64 (ix r10.parent x6)) 1 ld_3 rfl rfl (fm_get0 (hlI .i64) hb42 rfl)) gn rfl ?_
    refine wl_v 5 rfl (v_assign rfl) gn rfl ?_
    refine w_end 6 rfl ?_
    refine g_retR (c := tree_Parent_c12) [.int .i64 (ix r10.parent x6)] rfl Try.func28 rfl (.tmp rfl (.nil)) fun wr hLr => ?_
    have hMr : B.Loc w wr [] [St w []] := hLr.pick (rest := [.box gb31 54 [.slice A12 n13 c14, .slice A16 n17 c18, .slice A21 n22 c23, .bool r10.ok], .own (.slice A16 n17 c18) 3 1 n17 (r10.parent.flatMap (eI .i64)), .own (.slice A21 n22 c23) 3 1 n22 (r10.end_.flatMap (eI .i64))]) (perm_of_idx [] [0, 1, 2] rfl rfl (by kernel_rfl)) (sels [2] rfl)
    have hMi : ∀ e ∈ ([] : List Ent), e ∈ ([.box gb31 54 [.slice A12 n13 c14, .slice A16 n17 c18, .slice A21 n22 c23, .bool r10.ok], .own (.slice A16 n17 c18) 3 1 n17 (r10.parent.flatMap (eI .i64)), .own (.slice A21 n22 c23) 3 1 n22 (r10.end_.flatMap (eI .i64))] : List Ent) := sels [] rfl
    show tree_Parent_R w F  r (.returned (packV [.int .i64 (ix r10.parent x6)])) wr
    rw [h]
    exact ⟨rfl, hMr⟩
  · have h := if_neg' hp41 h
    refine g_true (c := tree_Parent_c8) rfl _ rfl ((nt (bf hp41))) ?_
    refine g_seq (c := tree_Parent_c9) rfl ?_
    refine g_region (c := tree_Parent_c13) rfl rfl ?_
    refine wl_v 0 rfl (v_assign rfl) gn rfl ?_
    refine w_end 1 rfl ?_
    refine g_retR (c := tree_Parent_c14) [.int .i64 (-1)] rfl Try.func28 rfl (.tmp rfl (.nil)) fun wr hLr => ?_
    have hMr : B.Loc w wr [] [St w []] := hLr.pick (rest := [.box gb31 54 [.slice A12 n13 c14, .slice A16 n17 c18, .slice A21 n22 c23, .bool r10.ok], .own (.slice A16 n17 c18) 3 1 n17 (r10.parent.flatMap (eI .i64)), .own (.slice A21 n22 c23) 3 1 n22 (r10.end_.flatMap (eI .i64))]) (perm_of_idx [] [0, 1, 2] rfl rfl (by kernel_rfl)) (sels [2] rfl)
    have hMi : ∀ e ∈ ([] : List Ent), e ∈ ([.box gb31 54 [.slice A12 n13 c14, .slice A16 n17 c18, .slice A21 n22 c23, .bool r10.ok], .own (.slice A16 n17 c18) 3 1 n17 (r10.parent.flatMap (eI .i64)), .own (.slice A21 n22 c23) 3 1 n22 (r10.end_.flatMap (eI .i64))] : List Ent) := sels [] rfl
    show tree_Parent_R w F  r (.returned (packV [.int .i64 (-1)])) wr
    rw [h]
    exact ⟨rfl, hMr⟩
end Go.Proofs.Ytoifgnogoddmlaa.K
