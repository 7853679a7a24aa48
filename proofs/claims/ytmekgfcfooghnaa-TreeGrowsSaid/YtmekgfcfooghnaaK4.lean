/- What the machine's calls do, function by function, printed by my own tool. Condition of each: its relation holds of the answer, and what is handed in lies in memory as told. -/
import Derived.Test.YtmekgfcfooghnaaK3
set_option linter.unusedVariables false
set_option maxRecDepth 100000
set_option maxHeartbeats 4000000
namespace Go.Proofs.Ytmekgfcfooghnaa.K
open Go.Proofs.Ytmekgfcfooghnaa.B Go.Proofs.Ytmekgfcfooghnaa.R Go.RowKit
noncomputable abbrev q38c0 : Code := bodyOf Try.f38
noncomputable abbrev q38c1 : Code := Code.fst q38c0
noncomputable abbrev q38c2 : Code := Code.snd q38c0
noncomputable abbrev q38c3 : Code := Code.fst q38c2
noncomputable abbrev q38c4 : Code := Code.snd q38c2
noncomputable abbrev q38c5 : Code := Code.fst q38c4
noncomputable abbrev q38c6 : Code := Code.snd q38c4
noncomputable abbrev q38c7 : Code := Code.fst q38c5
noncomputable abbrev q38c8 : Code := Code.snd q38c5
noncomputable abbrev q38c9 : Code := Code.fst q38c8
noncomputable abbrev q38c10 : Code := Code.fst q38c9
noncomputable abbrev q38c11 : Code := Code.fst q38c10
noncomputable abbrev q38c12 : Code := Code.snd q38c10
noncomputable abbrev q38c13 : Code := Code.fst q38c11
noncomputable abbrev q38c14 : Code := Code.snd q38c11
noncomputable abbrev q38c15 : Code := Code.fst q38c14
noncomputable abbrev q38c16 : Code := Code.snd q38c14
noncomputable abbrev q38c17 : Code := Code.fst q38c12
noncomputable abbrev q38c18 : Code := Code.snd q38c12
noncomputable abbrev q38c19 : Code := Code.fst q38c17
noncomputable abbrev q38c20 : Code := Code.fst q38c19
noncomputable abbrev q38c21 : Code := Code.snd q38c19
noncomputable abbrev q38c22 : Code := Code.fst q38c20
noncomputable abbrev q38c23 : Code := Code.snd q38c20
noncomputable abbrev q38c24 : Code := Code.fst q38c23
noncomputable abbrev q38c25 : Code := Code.snd q38c23
noncomputable abbrev q38c26 : Code := Code.fst q38c24
noncomputable abbrev q38c27 : Code := Code.snd q38c24
noncomputable abbrev q38c28 : Code := Code.fst q38c21
noncomputable abbrev q38c29 : Code := Code.snd q38c21
noncomputable abbrev q38c30 : Code := Code.fst q38c28
noncomputable abbrev q38c31 : Code := Code.snd q38c28
noncomputable abbrev q38c32 : Code := Code.fst q38c31
noncomputable abbrev q38c33 : Code := Code.snd q38c31
noncomputable abbrev q38c34 : Code := Code.fst q38c32
noncomputable abbrev q38c35 : Code := Code.snd q38c32
noncomputable abbrev q38c36 : Code := Code.fst q38c34
noncomputable abbrev q38c37 : Code := Code.snd q38c34
noncomputable abbrev q38c38 : Code := Code.fst q38c37
noncomputable abbrev q38c39 : Code := Code.snd q38c37
noncomputable abbrev q38c40 : Code := Code.fst q38c29
noncomputable abbrev q38c41 : Code := Code.snd q38c29
noncomputable abbrev q38c42 : Code := Code.fst q38c41
noncomputable abbrev q38c43 : Code := Code.snd q38c41
noncomputable abbrev q38c44 : Code := Code.fst q38c42
noncomputable abbrev q38c45 : Code := Code.snd q38c42
noncomputable abbrev q38c46 : Code := Code.fst q38c45
noncomputable abbrev q38c47 : Code := Code.snd q38c45
noncomputable abbrev q38c48 : Code := Code.fst q38c43
noncomputable abbrev q38c49 : Code := Code.snd q38c43
noncomputable abbrev q38c50 : Code := Code.fst q38c49
noncomputable abbrev q38c51 : Code := Code.fst q38c50
noncomputable abbrev q38c52 : Code := Code.fst q38c51
noncomputable abbrev q38c53 : Code := Code.snd q38c51
noncomputable abbrev q38c54 : Code := Code.fst q38c52
noncomputable abbrev q38c55 : Code := Code.snd q38c52
noncomputable abbrev q38c56 : Code := Code.fst q38c55
noncomputable abbrev q38c57 : Code := Code.snd q38c55
noncomputable abbrev q38c58 : Code := Code.fst q38c53
noncomputable abbrev q38c59 : Code := Code.snd q38c53
noncomputable abbrev q38c60 : Code := Code.fst q38c58
noncomputable abbrev q38c61 : Code := Code.fst q38c60
noncomputable abbrev q38c62 : Code := Code.snd q38c60
noncomputable abbrev q38c63 : Code := Code.fst q38c62
noncomputable abbrev q38c64 : Code := Code.snd q38c62
noncomputable abbrev q38c65 : Code := Code.fst q38c64
noncomputable abbrev q38c66 : Code := Code.snd q38c64
noncomputable abbrev q38c67 : Code := Code.fst q38c65
noncomputable abbrev q38c68 : Code := Code.snd q38c65
noncomputable abbrev q38c69 : Code := Code.fst q38c46
noncomputable abbrev q38c70 : Code := Code.snd q38c46
noncomputable abbrev q38c71 : Code := Code.fst q38c6
noncomputable abbrev q38c72 : Code := Code.snd q38c6
noncomputable abbrev q38c73 : Code := Code.fst q38c38
noncomputable abbrev q38c74 : Code := Code.snd q38c38
abbrev trellislaw15_nested_R (w : World) (F : Nat → Prop) (r : Bool) : Ending → World → Prop := fun e w' => e = .returned (.bool r) ∧ B.Loc w w' [] [St w []]
noncomputable abbrev trellislaw15_nested_C (w : World) (F : Nat → Prop) (r : Bool) : Cx := ⟨Try.prog, 38, Try.f38, 126, trellislaw15_nested_R w F  r, w⟩
theorem trellislaw15_nested_calls (w : World) (F : Nat → Prop) (x1 : List api_Node) (A2 : Option Addr) (n3 : Nat) (c4 : Nat) (h5 : Rw k_api_Node w (St w []).av A2 n3 c4 x1) (hF : ∀ b, F b → b < w.heap.size ∧ ∀ o ∈ ([] : List (List Nat)), b ∉ o) (hL0 : B.Loc w w [] [Sm w.heap.size F w [], St w []]) (r : Bool) (h : trellislaw15_nested x1 r) : Calls Try.prog 38 #[.slice A2 n3 c4] w (trellislaw15_nested_R w F  r) := by
 unfold trellislaw15_nested at h
 refine calls_of_Loc (vs := [.slice A2 n3 c4]) 126 Try.func38 rfl Try.ntmps38 rfl hL0 ?_
 show G (trellislaw15_nested_C w F r) _ _ _ _
 refine g_seq (c := q38c0) rfl ?_
 refine g_region (c := q38c1) rfl rfl ?_
 refine wl_v 0 rfl (v_assign rfl) gn rfl ?_
 refine w_end 1 rfl ?_
 refine g_seq (c := q38c2) rfl ?_
 refine g_region (c := q38c3) rfl rfl ?_
 refine wl_v 0 rfl (v_assign rfl) gn rfl ?_
 refine w_end 1 rfl ?_
 refine g_seq (c := q38c4) rfl ?_
 refine g_seq (c := q38c5) rfl ?_
 refine g_region (c := q38c7) rfl rfl ?_
 refine wl_v 0 rfl (v_assign rfl) gn rfl ?_
 refine w_end 1 rfl ?_
 refine g_block (c := q38c8) rfl ?_
 refine g_loop (c := q38c9) rfl ?_
 have key1 : ∀ s, Rounds (fun (s : Int × Int) o => trellislaw15_nested_b1 x1 s.1 s.2 o) s r → (fun (s : Int × Int) => ∀ (_ : Unit), G (trellislaw15_nested_C w F r) [.code q38c10, .inLoop q38c10, .inBlock 0, .code q38c6] [(0, .slice A2 n3 c4), (3, .int .i64 s.1), (4, .int .i64 s.2)] [] [Sm w.heap.size F w [], St w []]) s := by
  intro s hs
  refine Rounds.ind (mot := (fun (s : Int × Int) => ∀ (_ : Unit), G (trellislaw15_nested_C w F r) [.code q38c10, .inLoop q38c10, .inBlock 0, .code q38c6] [(0, .slice A2 n3 c4), (3, .int .i64 s.1), (4, .int .i64 s.2)] [] [Sm w.heap.size F w [], St w []])) ?_ hs
  clear hs s
  intro s o1 h hO1
  obtain ⟨x1272, x1273⟩ := s
  show ∀ (_ : Unit), G (trellislaw15_nested_C w F r) [.code q38c10, .inLoop q38c10, .inBlock 0, .code q38c6] [(0, .slice A2 n3 c4), (3, .int .i64 x1272), (4, .int .i64 x1273)] [] [Sm w.heap.size F w [], St w []]
  intro _
  have h : trellislaw15_nested_b1 x1 x1272 x1273 o1 := h
  unfold trellislaw15_nested_b1 at h
  refine g_seq (c := q38c10) rfl ?_
  refine g_seq (c := q38c11) rfl ?_
  refine g_region (c := q38c13) rfl rfl ?_
  refine wl_v 0 rfl (v_move rfl) gn rfl ?_
  refine wl_v 1 rfl (v_move rfl) gn rfl ?_
  refine wl_v 2 rfl (v_lenQ un_22 rfl h5.hq) gn rfl ?_
  refine wl_v 3 rfl (v_bin rfl rfl rfl) gn rfl ?_
  refine w_end 4 rfl ?_
  by_cases hp2557 : x1273 < (x1.length : Int)
  ·have h := if_pos' hp2557 h
   refine g_true (c := q38c14) rfl _ rfl ((decide_eq_true hp2557)) ?_
   refine g_skip (c := q38c15) rfl ?_
   refine g_seq (c := q38c12) rfl ?_
   refine g_block (c := q38c17) rfl ?_
   refine g_seq (c := q38c19) rfl ?_
   refine g_seq (c := q38c20) rfl ?_
   obtain ⟨hb2558, h⟩ := h
   have hns : Region.noSelect (Code.ops q38c22) = true := by kernel_rfl
   refine g_drawF (c := q38c22) [] [Sm w.heap.size F w [], St w []] [] 11 rfl rfl mix rfl (.slnil) (sels [0, 1] rfl) ?_
   refine wfv 0 rfl (v_move rfl) gn hns rfl ?_
   refine wfv 1 rfl (v_move rfl) gn hns rfl ?_
   have hr2563 := Rw.readF (s := St w []) (hl := hl_api_Node) (h1 := h1_api_Node) h5 hb2558
   refine wfv 2 rfl (v_idxR (s := St w []) slE_22 rfl rfl h5 hb2558) gn hns rfl ?_
   refine wfv 3 rfl (v_fldA fo_39_3 rfl) gn hns rfl ?_
   refine wfv 4 rfl (v_ldA1 (kk := (x1273 : Int).toNat * 7) (j := 3) (St w []) ld_3 rfl hr2563 rfl (me 1 rfl)) gn hns rfl ?_
   refine wfv 5 rfl (v_move rfl) gn hns rfl ?_
   refine wfv 6 rfl (v_move rfl) gn hns rfl ?_
   have hr2564 := Rw.readF (s := St w []) (hl := hl_api_Node) (h1 := h1_api_Node) h5 hb2558
   refine wfv 7 rfl (v_idxR (s := St w []) slE_22 rfl rfl h5 hb2558) gn hns rfl ?_
   refine wfv 8 rfl (v_fldA fo_39_4 rfl) gn hns rfl ?_
   refine wfv 9 rfl (v_ldA1 (kk := (x1273 : Int).toNat * 7) (j := 4) (St w []) ld_3 rfl hr2564 rfl (me 1 rfl)) gn hns rfl ?_
   refine wfv 10 rfl (v_bin rfl rfl rfl) gn hns rfl ?_
   refine wf_end (by kernel_rfl) ?_
   by_cases hp2565 : (ix x1 x1273).from_ > (ix x1 x1273).to
   ·have h := if_pos' hp2565 h
    refine g_true (c := q38c23) rfl _ rfl ((decide_eq_true hp2565)) ?_
    refine g_seq (c := q38c24) rfl ?_
    refine g_region (c := q38c26) rfl rfl ?_
    refine wl_v 0 rfl (v_assign rfl) gn rfl ?_
    refine w_end 1 rfl ?_
    have h := Out.inr hO1 h
    refine g_retR (c := q38c27) [.bool false] rfl Try.func38 rfl (.tmp rfl (.nil)) fun wr hLr => ?_
    have hMr : B.Loc w wr [] [St w []] := hLr.pick0 (sels [1] rfl)
    show trellislaw15_nested_R w F  r (.returned (packV [.bool false])) wr
    rw [h]
    exact ⟨rfl, hMr⟩
   ·have h := if_neg' hp2565 h
    refine g_false (c := q38c23) rfl _ rfl ((decide_eq_false hp2565)) ?_
    refine g_skip (c := q38c25) rfl ?_
    refine g_seq (c := q38c21) rfl ?_
    refine g_seq (c := q38c28) rfl ?_
    refine g_region (c := q38c30) rfl rfl ?_
    refine wl_v 0 rfl (v_move rfl) gn rfl ?_
    refine wl_v 1 rfl (v_move rfl) gn rfl ?_
    obtain ⟨r2569, hv2570, h⟩ := h
    refine wl_s 2 rfl (s_call [.slice A2 n3 c4, .int .i64 x1273] rfl Try.func41 rfl rfl rfl fun w2566 hL2567 => ?_) gn
    have hp2568 : List.Perm ([] : List Ent) (([] : List Ent) ++ ([] : List Ent)) := perm_of_idx [] [] rfl rfl (by kernel_rfl)
    refine Calls.mono (tree_Parent_calls w2566 (Fl ([] : List Snap)) x1 x1273 A2 n3 c4 (Rw.mono h5 (hL2567.toSt hp2568 (me 1 rfl))) (hL2567.hFl (Sl := ([] : List Snap)) hp2568 (sels [] rfl)) (hL2567.into hp2568 (Fl ([] : List Snap))) r2569 hv2570) ?_
    rintro _ w2571 ⟨rfl, hM2572⟩
    have hL2573 := hL2567.call hp2568 hM2572
    refine ⟨_, _, _, rfl, hL2573, ?_⟩
    refine wl_v 3 rfl (v_bin rfl rfl rfl) gn rfl ?_
    refine w_end 4 rfl ?_
    have j2 : ∀ (x2585 : Int) (h : trellislaw15_nested_j2 x1 x1273 x2585 o1) , G (trellislaw15_nested_C w F r) [.code q38c29, .inBlock 1, .code q38c18, .inLoop q38c10, .inBlock 0, .code q38c6] [(0, .slice A2 n3 c4), (3, .int .i64 x2585), (4, .int .i64 x1273)] [] [Sm w.heap.size F w [], St w []] := by
     intro x2585 h
     unfold trellislaw15_nested_j2 at h
     refine g_seq (c := q38c29) rfl ?_
     refine g_region (c := q38c40) rfl rfl ?_
     refine wl_v 0 rfl (v_move rfl) gn rfl ?_
     refine wl_v 1 rfl (v_move rfl) gn rfl ?_
     obtain ⟨r2589, hv2590, h⟩ := h
     refine wl_s 2 rfl (s_call [.slice A2 n3 c4, .int .i64 x1273] rfl Try.func42 rfl rfl rfl fun w2586 hL2587 => ?_) gn
     have hp2588 : List.Perm ([] : List Ent) (([] : List Ent) ++ ([] : List Ent)) := perm_of_idx [] [] rfl rfl (by kernel_rfl)
     refine Calls.mono (tree_Kids_calls w2586 (Fl ([] : List Snap)) x1 x1273 A2 n3 c4 (Rw.mono h5 (hL2587.toSt hp2588 (me 1 rfl))) (hL2587.hFl (Sl := ([] : List Snap)) hp2588 (sels [] rfl)) (hL2587.into hp2588 (Fl ([] : List Snap))) r2589 hv2590) ?_
     rintro _ w2596 ⟨A2591, n2592, c2593, rfl, hM2597, h2594⟩
     have hL2598 := hL2587.call hp2588 hM2597
     refine ⟨_, _, _, rfl, hL2598, ?_⟩
     refine wl_v 3 rfl (v_assign rfl) gn rfl ?_
     refine w_end 4 rfl ?_
     refine g_seq (c := q38c41) rfl ?_
     refine g_seq (c := q38c42) rfl ?_
     refine g_region (c := q38c44) rfl rfl ?_
     refine wl_v 0 rfl (v_move rfl) gn rfl ?_
     refine wl_v 1 rfl (v_lenQ un_23 rfl (Ow.weak hL2587.env.size h2594).hq) gn rfl ?_
     refine wl_v 2 rfl (v_move rfl) gn rfl ?_
     refine wl_v 3 rfl (v_move rfl) gn rfl ?_
     have hr2599 := Rw.readF (s := St w []) (hl := hl_api_Node) (h1 := h1_api_Node) h5 hb2558
     refine wl_v 4 rfl (v_idxR (s := St w []) slE_22 rfl rfl h5 hb2558) gn rfl ?_
     refine wl_v 5 rfl (v_fldA fo_39_5 rfl) gn rfl ?_
     refine wl_v 6 rfl (v_ldA1 (kk := (x1273 : Int).toNat * 7) (j := 5) (St w []) ld_3 rfl hr2599 rfl (me 1 rfl)) gn rfl ?_
     refine wl_v 7 rfl (v_bin rfl rfl rfl) gn rfl ?_
     refine w_end 8 rfl ?_
     by_cases hp2600 : (r2589.length : Int) = (ix x1 x1273).kids
     ·have h := if_pos' hp2600 h
      refine g_false (c := q38c45) rfl _ rfl ((eqib hp2600)) ?_
      refine g_skip (c := q38c47) rfl ?_
      refine g_seq (c := q38c43) rfl ?_
      refine g_region (c := q38c48) rfl rfl ?_
      refine wl_v 0 rfl (v_assign rfl) gn rfl ?_
      refine w_end 1 rfl ?_
      refine g_block (c := q38c49) rfl ?_
      refine g_loop (c := q38c50) rfl ?_
      have key3 : ∀ s, Rounds (fun (s : Int) o => trellislaw15_nested_b3 r2589 x1 x1273 x2585 s o) s o1 → (fun (s : Int) => ∀ (_ : Unit), G (trellislaw15_nested_C w F r) [.code q38c51, .inLoop q38c51, .inBlock 2, .inBlock 1, .code q38c18, .inLoop q38c10, .inBlock 0, .code q38c6] [(0, .slice A2 n3 c4), (3, .int .i64 x2585), (4, .int .i64 x1273), (5, .slice A2591 n2592 c2593), (6, .int .i64 s)] [.own (.slice A2591 n2592 c2593) 3 1 n2592 (r2589.flatMap (eI .i64))] [Sm w.heap.size F w [], St w []]) s := by
       intro s hs
       refine Rounds.ind (mot := (fun (s : Int) => ∀ (_ : Unit), G (trellislaw15_nested_C w F r) [.code q38c51, .inLoop q38c51, .inBlock 2, .inBlock 1, .code q38c18, .inLoop q38c10, .inBlock 0, .code q38c6] [(0, .slice A2 n3 c4), (3, .int .i64 x2585), (4, .int .i64 x1273), (5, .slice A2591 n2592 c2593), (6, .int .i64 s)] [.own (.slice A2591 n2592 c2593) 3 1 n2592 (r2589.flatMap (eI .i64))] [Sm w.heap.size F w [], St w []])) ?_ hs
       clear hs s
       intro x2814 o2 h hO2
       show ∀ (_ : Unit), G (trellislaw15_nested_C w F r) [.code q38c51, .inLoop q38c51, .inBlock 2, .inBlock 1, .code q38c18, .inLoop q38c10, .inBlock 0, .code q38c6] [(0, .slice A2 n3 c4), (3, .int .i64 x2585), (4, .int .i64 x1273), (5, .slice A2591 n2592 c2593), (6, .int .i64 x2814)] [.own (.slice A2591 n2592 c2593) 3 1 n2592 (r2589.flatMap (eI .i64))] [Sm w.heap.size F w [], St w []]
       intro _
       have h : trellislaw15_nested_b3 r2589 x1 x1273 x2585 x2814 o2 := h
       unfold trellislaw15_nested_b3 at h
       refine g_seq (c := q38c51) rfl ?_
       refine g_seq (c := q38c52) rfl ?_
       refine g_region (c := q38c54) rfl rfl ?_
       refine wl_v 0 rfl (v_move rfl) gn rfl ?_
       refine wl_v 1 rfl (v_move rfl) gn rfl ?_
       refine wl_v 2 rfl (v_lenQ un_23 rfl (Ow.weak hL2587.env.size h2594).hq) gn rfl ?_
       refine wl_v 3 rfl (v_bin rfl rfl rfl) gn rfl ?_
       refine w_end 4 rfl ?_
       by_cases hp3323 : x2814 < (r2589.length : Int)
       ·have h := if_pos' hp3323 h
        refine g_true (c := q38c55) rfl _ rfl ((decide_eq_true hp3323)) ?_
        refine g_skip (c := q38c56) rfl ?_
        refine g_seq (c := q38c53) rfl ?_
        refine g_block (c := q38c58) rfl ?_
        refine g_seq (c := q38c60) rfl ?_
        refine g_region (c := q38c61) rfl rfl ?_
        refine wl_v 0 rfl (v_move rfl) gn rfl ?_
        refine wl_v 1 rfl (v_move rfl) gn rfl ?_
        refine wl_v 2 rfl (v_move rfl) gn rfl ?_
        obtain ⟨hb3324, h⟩ := h
        refine wl_v 3 rfl (v_idxO slE_23 rfl rfl (Ow.weak hL2587.env.size h2594) hb3324) gn rfl ?_
        refine wl_v 4 rfl (v_ldO1 (.int .i64 (ix r2589 x2814)) 0 ld_3 rfl rfl (fm_get0 (hlI .i64) hb3324 rfl)) gn rfl ?_
        obtain ⟨hb3325, h⟩ := h
        have hr3326 := Rw.readF (s := St w []) (hl := hl_api_Node) (h1 := h1_api_Node) h5 hb3325
        refine wl_v 5 rfl (v_idxR (s := St w []) slE_22 rfl rfl h5 hb3325) gn rfl ?_
        refine wl_v 6 rfl (v_ldA (St w []) ld_39 rfl hr3326 rfl (me 1 rfl)) gn rfl ?_
        refine wl_s 7 rfl (s_alloc [.string (⟨#[]⟩ : ByteArray), .bool false, .string (⟨#[]⟩ : ByteArray), .int .i64 0, .int .i64 0, .int .i64 0, .int .i64 0] zr_39 rfl fun gb3327 => ?_) gn
        refine wl_s 8 rfl (s_stB (vs := [.string ((ix x1 (ix r2589 x2814)).name), .bool ((ix x1 (ix r2589 x2814)).named), .string ((ix x1 (ix r2589 x2814)).field), .int .i64 ((ix x1 (ix r2589 x2814)).from_), .int .i64 ((ix x1 (ix r2589 x2814)).to), .int .i64 ((ix x1 (ix r2589 x2814)).kids), .int .i64 ((ix x1 (ix r2589 x2814)).leaf)]) (cs' := [.string ((ix x1 (ix r2589 x2814)).name), .bool ((ix x1 (ix r2589 x2814)).named), .string ((ix x1 (ix r2589 x2814)).field), .int .i64 ((ix x1 (ix r2589 x2814)).from_), .int .i64 ((ix x1 (ix r2589 x2814)).to), .int .i64 ((ix x1 (ix r2589 x2814)).kids), .int .i64 ((ix x1 (ix r2589 x2814)).leaf)]) (M' := [.box gb3327 39 [.string ((ix x1 (ix r2589 x2814)).name), .bool ((ix x1 (ix r2589 x2814)).named), .string ((ix x1 (ix r2589 x2814)).field), .int .i64 ((ix x1 (ix r2589 x2814)).from_), .int .i64 ((ix x1 (ix r2589 x2814)).to), .int .i64 ((ix x1 (ix r2589 x2814)).kids), .int .i64 ((ix x1 (ix r2589 x2814)).leaf)], .own (.slice A2591 n2592 c2593) 3 1 n2592 (r2589.flatMap (eI .i64))]) 0 sz_39 rfl rfl rfl rfl rfl rfl rfl rfl rfl ?_) gn
        refine w_end 9 rfl ?_
        refine g_seq (c := q38c62) rfl ?_
        obtain ⟨r3332, hv3333, h⟩ := h
        by_cases hp3337 : r3332 = x1273
        ·have h := if_pos' hp3337 h
         by_cases hp3338 : x2814 = 0
         ·have h := if_pos' hp3338 h
          by_cases hp3340 : (ix x1 (ix r2589 x2814)).from_ = (ix x1 x1273).from_
          ·have h := if_pos' hp3340 h
           by_cases hp3341 : x2814 = w64 ((r2589.length : Int) - 1)
           ·have h := if_pos' hp3341 h
            by_cases hp3343 : (ix x1 (ix r2589 x2814)).to = (ix x1 x1273).to
            ·have h := if_pos' hp3343 h
             by_cases hp3344 : x2814 > 0
             ·have h := if_pos' hp3344 h
              obtain ⟨hb3345, h⟩ := h
              obtain ⟨hb3346, h⟩ := h
              have hns : Region.noSelect (Code.ops q38c63) = true := by kernel_rfl
              refine g_drawF (c := q38c63) [.box gb3327 39 [.string ((ix x1 (ix r2589 x2814)).name), .bool ((ix x1 (ix r2589 x2814)).named), .string ((ix x1 (ix r2589 x2814)).field), .int .i64 ((ix x1 (ix r2589 x2814)).from_), .int .i64 ((ix x1 (ix r2589 x2814)).to), .int .i64 ((ix x1 (ix r2589 x2814)).kids), .int .i64 ((ix x1 (ix r2589 x2814)).leaf)], .own (.slice A2591 n2592 c2593) 3 1 n2592 (r2589.flatMap (eI .i64))] [Sm w.heap.size F w [], St w []] [] 57 rfl rfl mix rfl (.cons_cons _ (.cons_cons _ (.slnil))) (sels [0, 1] rfl) ?_
              refine wfv 0 rfl (v_move rfl) gn hns rfl ?_
              refine wfv 1 rfl (v_move rfl) gn hns rfl ?_
              refine wfv 2 rfl (v_move rfl) gn hns rfl ?_
              refine wfv 3 rfl (v_idxO slE_23 rfl rfl (Ow.weak hL2587.env.size h2594) hb3324) gn hns rfl ?_
              refine wfv 4 rfl (v_ldO1 (.int .i64 (ix r2589 x2814)) 1 ld_3 rfl rfl (fm_get0 (hlI .i64) hb3324 rfl)) gn hns rfl ?_
              refine wfv 6 rfl (v_move rfl) gn hns rfl ?_
              refine wf_all [5] (by kernel_rfl) rfl ⟨on_s 5 rfl gn rfl (s_call [.slice A2 n3 c4, .int .i64 (ix r2589 x2814)] rfl Try.func41 rfl rfl rfl fun w3381 hL3382 => ?_), trivial⟩
              have hp3383 : List.Perm ([.box gb3327 39 [.string ((ix x1 (ix r2589 x2814)).name), .bool ((ix x1 (ix r2589 x2814)).named), .string ((ix x1 (ix r2589 x2814)).field), .int .i64 ((ix x1 (ix r2589 x2814)).from_), .int .i64 ((ix x1 (ix r2589 x2814)).to), .int .i64 ((ix x1 (ix r2589 x2814)).kids), .int .i64 ((ix x1 (ix r2589 x2814)).leaf)], .own (.slice A2591 n2592 c2593) 3 1 n2592 (r2589.flatMap (eI .i64))] : List Ent) (([] : List Ent) ++ ([.box gb3327 39 [.string ((ix x1 (ix r2589 x2814)).name), .bool ((ix x1 (ix r2589 x2814)).named), .string ((ix x1 (ix r2589 x2814)).field), .int .i64 ((ix x1 (ix r2589 x2814)).from_), .int .i64 ((ix x1 (ix r2589 x2814)).to), .int .i64 ((ix x1 (ix r2589 x2814)).kids), .int .i64 ((ix x1 (ix r2589 x2814)).leaf)], .own (.slice A2591 n2592 c2593) 3 1 n2592 (r2589.flatMap (eI .i64))] : List Ent)) := perm_of_idx [] [0, 1] rfl rfl (by kernel_rfl)
              refine Calls.mono (tree_Parent_calls w3381 (Fl ([] : List Snap)) x1 (ix r2589 x2814) A2 n3 c4 (Rw.mono h5 (hL3382.toSt hp3383 (me 1 rfl))) (hL3382.hFl (Sl := ([] : List Snap)) hp3383 (sels [] rfl)) (hL3382.into hp3383 (Fl ([] : List Snap))) r3332 hv3333) ?_
              rintro _ w3384 ⟨rfl, hM3385⟩
              have hL3386 := hL3382.call hp3383 hM3385
              refine ⟨_, _, _, rfl, hL3386, ?_⟩
              refine ⟨sels [0, 1] rfl, sels [0, 1] rfl, ?_⟩
              refine wfv 7 rfl (v_bin rfl rfl rfl) gn hns rfl ?_
              refine wfv 8 rfl (v_move rfl) gn hns rfl ?_
              refine wf_bool 77 rfl ((eqib hp3337)) ?_
              refine wfv 9 rfl (v_move rfl) (gy 77 rfl rfl) hns rfl ?_
              refine wfv 10 rfl (v_bin rfl rfl rfl) (gy 77 rfl rfl) hns rfl ?_
              refine wfv 11 rfl (v_move rfl) (gy 77 rfl rfl) hns rfl ?_
              refine wf_bool 80 rfl ((eqi hp3338)) ?_
              refine wfv 12 rfl (v_fldB fo_39_3 rfl) (gy 80 rfl rfl) hns rfl ?_
              refine wfv 13 rfl (v_ldB1 0 ld_3 rfl rfl rfl) (gy 80 rfl rfl) hns rfl ?_
              refine wfv 14 rfl (v_move rfl) (gy 80 rfl rfl) hns rfl ?_
              refine wfv 15 rfl (v_move rfl) (gy 80 rfl rfl) hns rfl ?_
              have hr3387 := Rw.readF (s := St w []) (hl := hl_api_Node) (h1 := h1_api_Node) h5 hb2558
              refine wfv 16 rfl (v_idxR (s := St w []) slE_22 rfl rfl h5 hb2558) (gy 80 rfl rfl) hns rfl ?_
              refine wfv 17 rfl (v_fldA fo_39_3 rfl) (gy 80 rfl rfl) hns rfl ?_
              refine wfv 18 rfl (v_ldA1 (kk := (x1273 : Int).toNat * 7) (j := 3) (St w []) ld_3 rfl hr3387 rfl (me 1 rfl)) (gy 80 rfl rfl) hns rfl ?_
              refine wfv 19 rfl (v_bin rfl rfl rfl) (gy 80 rfl rfl) hns rfl ?_
              refine wfv 20 rfl (v_pick (b := true) rfl rfl) (gy 77 rfl rfl) hns rfl ?_
              refine wfv 21 rfl (v_pick (b := false) rfl rfl) gn hns rfl ?_
              refine wfv 22 rfl (v_move rfl) gn hns rfl ?_
              refine wf_bool 91 rfl ((eqib hp3340)) ?_
              refine wfv 23 rfl (v_move rfl) (gy 91 rfl rfl) hns rfl ?_
              refine wfv 24 rfl (v_move rfl) (gy 91 rfl rfl) hns rfl ?_
              refine wfv 25 rfl (v_lenQ un_23 rfl (Ow.weak hL2587.env.size h2594).hq) (gy 91 rfl rfl) hns rfl ?_
              refine wfv 26 rfl (v_bin rfl rfl rfl) (gy 91 rfl rfl) hns rfl ?_
              refine wfv 27 rfl (v_bin rfl rfl rfl) (gy 91 rfl rfl) hns rfl ?_
              refine wfv 28 rfl (v_move rfl) (gy 91 rfl rfl) hns rfl ?_
              refine wf_bool 97 rfl ((eqi hp3341)) ?_
              refine wfv 29 rfl (v_fldB fo_39_4 rfl) (gy 97 rfl rfl) hns rfl ?_
              refine wfv 30 rfl (v_ldB1 0 ld_3 rfl rfl rfl) (gy 97 rfl rfl) hns rfl ?_
              refine wfv 31 rfl (v_move rfl) (gy 97 rfl rfl) hns rfl ?_
              refine wfv 32 rfl (v_move rfl) (gy 97 rfl rfl) hns rfl ?_
              have hr3388 := Rw.readF (s := St w []) (hl := hl_api_Node) (h1 := h1_api_Node) h5 hb2558
              refine wfv 33 rfl (v_idxR (s := St w []) slE_22 rfl rfl h5 hb2558) (gy 97 rfl rfl) hns rfl ?_
              refine wfv 34 rfl (v_fldA fo_39_4 rfl) (gy 97 rfl rfl) hns rfl ?_
              refine wfv 35 rfl (v_ldA1 (kk := (x1273 : Int).toNat * 7) (j := 4) (St w []) ld_3 rfl hr3388 rfl (me 1 rfl)) (gy 97 rfl rfl) hns rfl ?_
              refine wfv 36 rfl (v_bin rfl rfl rfl) (gy 97 rfl rfl) hns rfl ?_
              refine wfv 37 rfl (v_pick (b := true) rfl rfl) (gy 91 rfl rfl) hns rfl ?_
              refine wfv 38 rfl (v_pick (b := false) rfl rfl) gn hns rfl ?_
              refine wfv 39 rfl (v_move rfl) gn hns rfl ?_
              refine wf_bool 108 rfl ((eqib hp3343)) ?_
              refine wfv 40 rfl (v_move rfl) (gy 108 rfl rfl) hns rfl ?_
              refine wfv 41 rfl (v_bin rfl rfl rfl) (gy 108 rfl rfl) hns rfl ?_
              refine wfv 42 rfl (v_move rfl) (gy 108 rfl rfl) hns rfl ?_
              refine wf_bool 111 rfl ((decide_eq_true hp3344)) ?_
              refine wfv 43 rfl (v_move rfl) (gy 111 rfl rfl) hns rfl ?_
              refine wfv 44 rfl (v_move rfl) (gy 111 rfl rfl) hns rfl ?_
              refine wfv 45 rfl (v_move rfl) (gy 111 rfl rfl) hns rfl ?_
              refine wfv 46 rfl (v_bin rfl rfl rfl) (gy 111 rfl rfl) hns rfl ?_
              refine wfv 47 rfl (v_idxO slE_23 rfl rfl (Ow.weak hL2587.env.size h2594) hb3345) (gy 111 rfl rfl) hns rfl ?_
              refine wfv 48 rfl (v_ldO1 (.int .i64 (ix r2589 (w64 (x2814 - 1)))) 1 ld_3 rfl rfl (fm_get0 (hlI .i64) hb3345 rfl)) (gy 111 rfl rfl) hns rfl ?_
              have hr3389 := Rw.readF (s := St w []) (hl := hl_api_Node) (h1 := h1_api_Node) h5 hb3346
              refine wfv 49 rfl (v_idxR (s := St w []) slE_22 rfl rfl h5 hb3346) (gy 111 rfl rfl) hns rfl ?_
              refine wfv 50 rfl (v_fldA fo_39_4 rfl) (gy 111 rfl rfl) hns rfl ?_
              refine wfv 51 rfl (v_ldA1 (kk := (ix r2589 (w64 (x2814 - 1)) : Int).toNat * 7) (j := 4) (St w []) ld_3 rfl hr3389 rfl (me 1 rfl)) (gy 111 rfl rfl) hns rfl ?_
              refine wfv 52 rfl (v_fldB fo_39_3 rfl) (gy 111 rfl rfl) hns rfl ?_
              refine wfv 53 rfl (v_ldB1 0 ld_3 rfl rfl rfl) (gy 111 rfl rfl) hns rfl ?_
              refine wfv 54 rfl (v_bin rfl rfl rfl) (gy 111 rfl rfl) hns rfl ?_
              refine wfv 55 rfl (v_pick (b := true) rfl rfl) (gy 108 rfl rfl) hns rfl ?_
              refine wfv 56 rfl (v_pick (b := false) rfl rfl) gn hns rfl ?_
              refine wf_end (by kernel_rfl) ?_
              by_cases hp3390 : (ix x1 (ix r2589 (w64 (x2814 - 1)))).to > (ix x1 (ix r2589 x2814)).from_
              ·have h := if_pos' hp3390 h
               refine g_true (c := q38c64) rfl _ rfl ((decide_eq_true hp3390)) ?_
               refine g_seq (c := q38c65) rfl ?_
               refine g_region (c := q38c67) rfl rfl ?_
               refine wl_v 0 rfl (v_assign rfl) gn rfl ?_
               refine w_end 1 rfl ?_
               have h := Out.inr hO2 h
               have h := Out.inr hO1 h
               refine g_retR (c := q38c68) [.bool false] rfl Try.func38 rfl (.tmp rfl (.nil)) fun wr hLr => ?_
               have hMr : B.Loc w wr [] [St w []] := hLr.pick0 (sels [1] rfl)
               show trellislaw15_nested_R w F  r (.returned (packV [.bool false])) wr
               rw [h]
               exact ⟨rfl, hMr⟩
              ·have h := if_neg' hp3390 h
               refine g_false (c := q38c64) rfl _ rfl ((decide_eq_false hp3390)) ?_
               refine g_skip (c := q38c66) rfl ?_
               refine g_inBlock ?_
               refine g_region (c := q38c59) rfl rfl ?_
               refine wl_v 0 rfl (v_move rfl) gn rfl ?_
               refine wl_v 1 rfl (v_bin rfl rfl rfl) gn rfl ?_
               refine wl_v 2 rfl (v_assign rfl) gn rfl ?_
               refine w_end 3 rfl ?_
               refine g_inLoop ?_
               have ih := Out.inl hO2 h
               exact g_go [0, 1] (ih ()) ⟨rfl, rfl, rfl, rfl, rfl, trivial⟩ (.cons _ (.cons_cons _ (.slnil))) rfl
             ·have h := if_neg' hp3344 h
              have hns : Region.noSelect (Code.ops q38c63) = true := by kernel_rfl
              refine g_drawF (c := q38c63) [.box gb3327 39 [.string ((ix x1 (ix r2589 x2814)).name), .bool ((ix x1 (ix r2589 x2814)).named), .string ((ix x1 (ix r2589 x2814)).field), .int .i64 ((ix x1 (ix r2589 x2814)).from_), .int .i64 ((ix x1 (ix r2589 x2814)).to), .int .i64 ((ix x1 (ix r2589 x2814)).kids), .int .i64 ((ix x1 (ix r2589 x2814)).leaf)], .own (.slice A2591 n2592 c2593) 3 1 n2592 (r2589.flatMap (eI .i64))] [Sm w.heap.size F w [], St w []] [] 57 rfl rfl mix rfl (.cons_cons _ (.cons_cons _ (.slnil))) (sels [0, 1] rfl) ?_
              refine wfv 0 rfl (v_move rfl) gn hns rfl ?_
              refine wfv 1 rfl (v_move rfl) gn hns rfl ?_
              refine wfv 2 rfl (v_move rfl) gn hns rfl ?_
              refine wfv 3 rfl (v_idxO slE_23 rfl rfl (Ow.weak hL2587.env.size h2594) hb3324) gn hns rfl ?_
              refine wfv 4 rfl (v_ldO1 (.int .i64 (ix r2589 x2814)) 1 ld_3 rfl rfl (fm_get0 (hlI .i64) hb3324 rfl)) gn hns rfl ?_
              refine wfv 6 rfl (v_move rfl) gn hns rfl ?_
              refine wf_all [5] (by kernel_rfl) rfl ⟨on_s 5 rfl gn rfl (s_call [.slice A2 n3 c4, .int .i64 (ix r2589 x2814)] rfl Try.func41 rfl rfl rfl fun w3423 hL3424 => ?_), trivial⟩
              have hp3425 : List.Perm ([.box gb3327 39 [.string ((ix x1 (ix r2589 x2814)).name), .bool ((ix x1 (ix r2589 x2814)).named), .string ((ix x1 (ix r2589 x2814)).field), .int .i64 ((ix x1 (ix r2589 x2814)).from_), .int .i64 ((ix x1 (ix r2589 x2814)).to), .int .i64 ((ix x1 (ix r2589 x2814)).kids), .int .i64 ((ix x1 (ix r2589 x2814)).leaf)], .own (.slice A2591 n2592 c2593) 3 1 n2592 (r2589.flatMap (eI .i64))] : List Ent) (([] : List Ent) ++ ([.box gb3327 39 [.string ((ix x1 (ix r2589 x2814)).name), .bool ((ix x1 (ix r2589 x2814)).named), .string ((ix x1 (ix r2589 x2814)).field), .int .i64 ((ix x1 (ix r2589 x2814)).from_), .int .i64 ((ix x1 (ix r2589 x2814)).to), .int .i64 ((ix x1 (ix r2589 x2814)).kids), .int .i64 ((ix x1 (ix r2589 x2814)).leaf)], .own (.slice A2591 n2592 c2593) 3 1 n2592 (r2589.flatMap (eI .i64))] : List Ent)) := perm_of_idx [] [0, 1] rfl rfl (by kernel_rfl)
              refine Calls.mono (tree_Parent_calls w3423 (Fl ([] : List Snap)) x1 (ix r2589 x2814) A2 n3 c4 (Rw.mono h5 (hL3424.toSt hp3425 (me 1 rfl))) (hL3424.hFl (Sl := ([] : List Snap)) hp3425 (sels [] rfl)) (hL3424.into hp3425 (Fl ([] : List Snap))) r3332 hv3333) ?_
              rintro _ w3426 ⟨rfl, hM3427⟩
              have hL3428 := hL3424.call hp3425 hM3427
              refine ⟨_, _, _, rfl, hL3428, ?_⟩
              refine ⟨sels [0, 1] rfl, sels [0, 1] rfl, ?_⟩
              refine wfv 7 rfl (v_bin rfl rfl rfl) gn hns rfl ?_
              refine wfv 8 rfl (v_move rfl) gn hns rfl ?_
              refine wf_bool 77 rfl ((eqib hp3337)) ?_
              refine wfv 9 rfl (v_move rfl) (gy 77 rfl rfl) hns rfl ?_
              refine wfv 10 rfl (v_bin rfl rfl rfl) (gy 77 rfl rfl) hns rfl ?_
              refine wfv 11 rfl (v_move rfl) (gy 77 rfl rfl) hns rfl ?_
              refine wf_bool 80 rfl ((eqi hp3338)) ?_
              refine wfv 12 rfl (v_fldB fo_39_3 rfl) (gy 80 rfl rfl) hns rfl ?_
              refine wfv 13 rfl (v_ldB1 0 ld_3 rfl rfl rfl) (gy 80 rfl rfl) hns rfl ?_
              refine wfv 14 rfl (v_move rfl) (gy 80 rfl rfl) hns rfl ?_
              refine wfv 15 rfl (v_move rfl) (gy 80 rfl rfl) hns rfl ?_
              have hr3429 := Rw.readF (s := St w []) (hl := hl_api_Node) (h1 := h1_api_Node) h5 hb2558
              refine wfv 16 rfl (v_idxR (s := St w []) slE_22 rfl rfl h5 hb2558) (gy 80 rfl rfl) hns rfl ?_
              refine wfv 17 rfl (v_fldA fo_39_3 rfl) (gy 80 rfl rfl) hns rfl ?_
              refine wfv 18 rfl (v_ldA1 (kk := (x1273 : Int).toNat * 7) (j := 3) (St w []) ld_3 rfl hr3429 rfl (me 1 rfl)) (gy 80 rfl rfl) hns rfl ?_
              refine wfv 19 rfl (v_bin rfl rfl rfl) (gy 80 rfl rfl) hns rfl ?_
              refine wfv 20 rfl (v_pick (b := true) rfl rfl) (gy 77 rfl rfl) hns rfl ?_
              refine wfv 21 rfl (v_pick (b := false) rfl rfl) gn hns rfl ?_
              refine wfv 22 rfl (v_move rfl) gn hns rfl ?_
              refine wf_bool 91 rfl ((eqib hp3340)) ?_
              refine wfv 23 rfl (v_move rfl) (gy 91 rfl rfl) hns rfl ?_
              refine wfv 24 rfl (v_move rfl) (gy 91 rfl rfl) hns rfl ?_
              refine wfv 25 rfl (v_lenQ un_23 rfl (Ow.weak hL2587.env.size h2594).hq) (gy 91 rfl rfl) hns rfl ?_
              refine wfv 26 rfl (v_bin rfl rfl rfl) (gy 91 rfl rfl) hns rfl ?_
              refine wfv 27 rfl (v_bin rfl rfl rfl) (gy 91 rfl rfl) hns rfl ?_
              refine wfv 28 rfl (v_move rfl) (gy 91 rfl rfl) hns rfl ?_
              refine wf_bool 97 rfl ((eqi hp3341)) ?_
              refine wfv 29 rfl (v_fldB fo_39_4 rfl) (gy 97 rfl rfl) hns rfl ?_
              refine wfv 30 rfl (v_ldB1 0 ld_3 rfl rfl rfl) (gy 97 rfl rfl) hns rfl ?_
              refine wfv 31 rfl (v_move rfl) (gy 97 rfl rfl) hns rfl ?_
              refine wfv 32 rfl (v_move rfl) (gy 97 rfl rfl) hns rfl ?_
              have hr3430 := Rw.readF (s := St w []) (hl := hl_api_Node) (h1 := h1_api_Node) h5 hb2558
              refine wfv 33 rfl (v_idxR (s := St w []) slE_22 rfl rfl h5 hb2558) (gy 97 rfl rfl) hns rfl ?_
              refine wfv 34 rfl (v_fldA fo_39_4 rfl) (gy 97 rfl rfl) hns rfl ?_
              refine wfv 35 rfl (v_ldA1 (kk := (x1273 : Int).toNat * 7) (j := 4) (St w []) ld_3 rfl hr3430 rfl (me 1 rfl)) (gy 97 rfl rfl) hns rfl ?_
              refine wfv 36 rfl (v_bin rfl rfl rfl) (gy 97 rfl rfl) hns rfl ?_
              refine wfv 37 rfl (v_pick (b := true) rfl rfl) (gy 91 rfl rfl) hns rfl ?_
              refine wfv 38 rfl (v_pick (b := false) rfl rfl) gn hns rfl ?_
              refine wfv 39 rfl (v_move rfl) gn hns rfl ?_
              refine wf_bool 108 rfl ((eqib hp3343)) ?_
              refine wfv 40 rfl (v_move rfl) (gy 108 rfl rfl) hns rfl ?_
              refine wfv 41 rfl (v_bin rfl rfl rfl) (gy 108 rfl rfl) hns rfl ?_
              refine wfv 42 rfl (v_move rfl) (gy 108 rfl rfl) hns rfl ?_
              refine wf_bool 111 rfl ((decide_eq_false hp3344)) ?_
              refine wfp 43 rfl (ps 111 rfl rfl rfl) hns rfl ?_
              refine wfp 44 rfl (ps 111 rfl rfl rfl) hns rfl ?_
              refine wfp 45 rfl (ps 111 rfl rfl rfl) hns rfl ?_
              refine wfp 46 rfl (ps 111 rfl rfl rfl) hns rfl ?_
              refine wfp 47 rfl (ps 111 rfl rfl rfl) hns rfl ?_
              refine wfp 48 rfl (ps 111 rfl rfl rfl) hns rfl ?_
              refine wfp 49 rfl (ps 111 rfl rfl rfl) hns rfl ?_
              refine wfp 50 rfl (ps 111 rfl rfl rfl) hns rfl ?_
              refine wfp 51 rfl (ps 111 rfl rfl rfl) hns rfl ?_
              refine wfp 52 rfl (ps 111 rfl rfl rfl) hns rfl ?_
              refine wfp 53 rfl (ps 111 rfl rfl rfl) hns rfl ?_
              refine wfp 54 rfl (ps 111 rfl rfl rfl) hns rfl ?_
              refine wfv 55 rfl (v_pick (b := false) rfl rfl) (gy 108 rfl rfl) hns rfl ?_
              refine wfv 56 rfl (v_pick (b := false) rfl rfl) gn hns rfl ?_
              refine wf_end (by kernel_rfl) ?_
              refine g_false (c := q38c64) rfl _ rfl (rfl) ?_
              refine g_skip (c := q38c66) rfl ?_
              refine g_inBlock ?_
              refine g_region (c := q38c59) rfl rfl ?_
              refine wl_v 0 rfl (v_move rfl) gn rfl ?_
              refine wl_v 1 rfl (v_bin rfl rfl rfl) gn rfl ?_
              refine wl_v 2 rfl (v_assign rfl) gn rfl ?_
              refine w_end 3 rfl ?_
              refine g_inLoop ?_
              have ih := Out.inl hO2 h
              exact g_go [0, 1] (ih ()) ⟨rfl, rfl, rfl, rfl, rfl, trivial⟩ (.cons _ (.cons_cons _ (.slnil))) rfl
            ·have h := if_neg' hp3343 h
             have hns : Region.noSelect (Code.ops q38c63) = true := by kernel_rfl
             refine g_drawF (c := q38c63) [.box gb3327 39 [.string ((ix x1 (ix r2589 x2814)).name), .bool ((ix x1 (ix r2589 x2814)).named), .string ((ix x1 (ix r2589 x2814)).field), .int .i64 ((ix x1 (ix r2589 x2814)).from_), .int .i64 ((ix x1 (ix r2589 x2814)).to), .int .i64 ((ix x1 (ix r2589 x2814)).kids), .int .i64 ((ix x1 (ix r2589 x2814)).leaf)], .own (.slice A2591 n2592 c2593) 3 1 n2592 (r2589.flatMap (eI .i64))] [Sm w.heap.size F w [], St w []] [] 57 rfl rfl mix rfl (.cons_cons _ (.cons_cons _ (.slnil))) (sels [0, 1] rfl) ?_
             refine wfv 0 rfl (v_move rfl) gn hns rfl ?_
             refine wfv 1 rfl (v_move rfl) gn hns rfl ?_
             refine wfv 2 rfl (v_move rfl) gn hns rfl ?_
             refine wfv 3 rfl (v_idxO slE_23 rfl rfl (Ow.weak hL2587.env.size h2594) hb3324) gn hns rfl ?_
             refine wfv 4 rfl (v_ldO1 (.int .i64 (ix r2589 x2814)) 1 ld_3 rfl rfl (fm_get0 (hlI .i64) hb3324 rfl)) gn hns rfl ?_
             refine wfv 6 rfl (v_move rfl) gn hns rfl ?_
             refine wf_all [5] (by kernel_rfl) rfl ⟨on_s 5 rfl gn rfl (s_call [.slice A2 n3 c4, .int .i64 (ix r2589 x2814)] rfl Try.func41 rfl rfl rfl fun w3463 hL3464 => ?_), trivial⟩
             have hp3465 : List.Perm ([.box gb3327 39 [.string ((ix x1 (ix r2589 x2814)).name), .bool ((ix x1 (ix r2589 x2814)).named), .string ((ix x1 (ix r2589 x2814)).field), .int .i64 ((ix x1 (ix r2589 x2814)).from_), .int .i64 ((ix x1 (ix r2589 x2814)).to), .int .i64 ((ix x1 (ix r2589 x2814)).kids), .int .i64 ((ix x1 (ix r2589 x2814)).leaf)], .own (.slice A2591 n2592 c2593) 3 1 n2592 (r2589.flatMap (eI .i64))] : List Ent) (([] : List Ent) ++ ([.box gb3327 39 [.string ((ix x1 (ix r2589 x2814)).name), .bool ((ix x1 (ix r2589 x2814)).named), .string ((ix x1 (ix r2589 x2814)).field), .int .i64 ((ix x1 (ix r2589 x2814)).from_), .int .i64 ((ix x1 (ix r2589 x2814)).to), .int .i64 ((ix x1 (ix r2589 x2814)).kids), .int .i64 ((ix x1 (ix r2589 x2814)).leaf)], .own (.slice A2591 n2592 c2593) 3 1 n2592 (r2589.flatMap (eI .i64))] : List Ent)) := perm_of_idx [] [0, 1] rfl rfl (by kernel_rfl)
             refine Calls.mono (tree_Parent_calls w3463 (Fl ([] : List Snap)) x1 (ix r2589 x2814) A2 n3 c4 (Rw.mono h5 (hL3464.toSt hp3465 (me 1 rfl))) (hL3464.hFl (Sl := ([] : List Snap)) hp3465 (sels [] rfl)) (hL3464.into hp3465 (Fl ([] : List Snap))) r3332 hv3333) ?_
             rintro _ w3466 ⟨rfl, hM3467⟩
             have hL3468 := hL3464.call hp3465 hM3467
             refine ⟨_, _, _, rfl, hL3468, ?_⟩
             refine ⟨sels [0, 1] rfl, sels [0, 1] rfl, ?_⟩
             refine wfv 7 rfl (v_bin rfl rfl rfl) gn hns rfl ?_
             refine wfv 8 rfl (v_move rfl) gn hns rfl ?_
             refine wf_bool 77 rfl ((eqib hp3337)) ?_
             refine wfv 9 rfl (v_move rfl) (gy 77 rfl rfl) hns rfl ?_
             refine wfv 10 rfl (v_bin rfl rfl rfl) (gy 77 rfl rfl) hns rfl ?_
             refine wfv 11 rfl (v_move rfl) (gy 77 rfl rfl) hns rfl ?_
             refine wf_bool 80 rfl ((eqi hp3338)) ?_
             refine wfv 12 rfl (v_fldB fo_39_3 rfl) (gy 80 rfl rfl) hns rfl ?_
             refine wfv 13 rfl (v_ldB1 0 ld_3 rfl rfl rfl) (gy 80 rfl rfl) hns rfl ?_
             refine wfv 14 rfl (v_move rfl) (gy 80 rfl rfl) hns rfl ?_
             refine wfv 15 rfl (v_move rfl) (gy 80 rfl rfl) hns rfl ?_
             have hr3469 := Rw.readF (s := St w []) (hl := hl_api_Node) (h1 := h1_api_Node) h5 hb2558
             refine wfv 16 rfl (v_idxR (s := St w []) slE_22 rfl rfl h5 hb2558) (gy 80 rfl rfl) hns rfl ?_
             refine wfv 17 rfl (v_fldA fo_39_3 rfl) (gy 80 rfl rfl) hns rfl ?_
             refine wfv 18 rfl (v_ldA1 (kk := (x1273 : Int).toNat * 7) (j := 3) (St w []) ld_3 rfl hr3469 rfl (me 1 rfl)) (gy 80 rfl rfl) hns rfl ?_
             refine wfv 19 rfl (v_bin rfl rfl rfl) (gy 80 rfl rfl) hns rfl ?_
             refine wfv 20 rfl (v_pick (b := true) rfl rfl) (gy 77 rfl rfl) hns rfl ?_
             refine wfv 21 rfl (v_pick (b := false) rfl rfl) gn hns rfl ?_
             refine wfv 22 rfl (v_move rfl) gn hns rfl ?_
             refine wf_bool 91 rfl ((eqib hp3340)) ?_
             refine wfv 23 rfl (v_move rfl) (gy 91 rfl rfl) hns rfl ?_
             refine wfv 24 rfl (v_move rfl) (gy 91 rfl rfl) hns rfl ?_
             refine wfv 25 rfl (v_lenQ un_23 rfl (Ow.weak hL2587.env.size h2594).hq) (gy 91 rfl rfl) hns rfl ?_
             refine wfv 26 rfl (v_bin rfl rfl rfl) (gy 91 rfl rfl) hns rfl ?_
             refine wfv 27 rfl (v_bin rfl rfl rfl) (gy 91 rfl rfl) hns rfl ?_
             refine wfv 28 rfl (v_move rfl) (gy 91 rfl rfl) hns rfl ?_
             refine wf_bool 97 rfl ((eqi hp3341)) ?_
             refine wfv 29 rfl (v_fldB fo_39_4 rfl) (gy 97 rfl rfl) hns rfl ?_
             refine wfv 30 rfl (v_ldB1 0 ld_3 rfl rfl rfl) (gy 97 rfl rfl) hns rfl ?_
             refine wfv 31 rfl (v_move rfl) (gy 97 rfl rfl) hns rfl ?_
             refine wfv 32 rfl (v_move rfl) (gy 97 rfl rfl) hns rfl ?_
             have hr3470 := Rw.readF (s := St w []) (hl := hl_api_Node) (h1 := h1_api_Node) h5 hb2558
             refine wfv 33 rfl (v_idxR (s := St w []) slE_22 rfl rfl h5 hb2558) (gy 97 rfl rfl) hns rfl ?_
             refine wfv 34 rfl (v_fldA fo_39_4 rfl) (gy 97 rfl rfl) hns rfl ?_
             refine wfv 35 rfl (v_ldA1 (kk := (x1273 : Int).toNat * 7) (j := 4) (St w []) ld_3 rfl hr3470 rfl (me 1 rfl)) (gy 97 rfl rfl) hns rfl ?_
             refine wfv 36 rfl (v_bin rfl rfl rfl) (gy 97 rfl rfl) hns rfl ?_
             refine wfv 37 rfl (v_pick (b := true) rfl rfl) (gy 91 rfl rfl) hns rfl ?_
             refine wfv 38 rfl (v_pick (b := false) rfl rfl) gn hns rfl ?_
             refine wfv 39 rfl (v_move rfl) gn hns rfl ?_
             refine wf_bool 108 rfl ((neib hp3343)) ?_
             refine wfp 40 rfl (ps 108 rfl rfl rfl) hns rfl ?_
             refine wfp 41 rfl (ps 108 rfl rfl rfl) hns rfl ?_
             refine wfp 42 rfl (ps 108 rfl rfl rfl) hns rfl ?_
             refine wfp 43 rfl (pu 111 rfl rfl) hns rfl ?_
             refine wfp 44 rfl (pu 111 rfl rfl) hns rfl ?_
             refine wfp 45 rfl (pu 111 rfl rfl) hns rfl ?_
             refine wfp 46 rfl (pu 111 rfl rfl) hns rfl ?_
             refine wfp 47 rfl (pu 111 rfl rfl) hns rfl ?_
             refine wfp 48 rfl (pu 111 rfl rfl) hns rfl ?_
             refine wfp 49 rfl (pu 111 rfl rfl) hns rfl ?_
             refine wfp 50 rfl (pu 111 rfl rfl) hns rfl ?_
             refine wfp 51 rfl (pu 111 rfl rfl) hns rfl ?_
             refine wfp 52 rfl (pu 111 rfl rfl) hns rfl ?_
             refine wfp 53 rfl (pu 111 rfl rfl) hns rfl ?_
             refine wfp 54 rfl (pu 111 rfl rfl) hns rfl ?_
             refine wfp 55 rfl (ps 108 rfl rfl rfl) hns rfl ?_
             refine wfv 56 rfl (v_pick (b := true) rfl rfl) gn hns rfl ?_
             refine wf_end (by kernel_rfl) ?_
             refine g_true (c := q38c64) rfl _ rfl (rfl) ?_
             refine g_seq (c := q38c65) rfl ?_
             refine g_region (c := q38c67) rfl rfl ?_
             refine wl_v 0 rfl (v_assign rfl) gn rfl ?_
             refine w_end 1 rfl ?_
             have h := Out.inr hO2 h
             have h := Out.inr hO1 h
             refine g_retR (c := q38c68) [.bool false] rfl Try.func38 rfl (.tmp rfl (.nil)) fun wr hLr => ?_
             have hMr : B.Loc w wr [] [St w []] := hLr.pick0 (sels [1] rfl)
             show trellislaw15_nested_R w F  r (.returned (packV [.bool false])) wr
             rw [h]
             exact ⟨rfl, hMr⟩
           ·have h := if_neg' hp3341 h
            by_cases hp3471 : x2814 > 0
            ·have h := if_pos' hp3471 h
             obtain ⟨hb3472, h⟩ := h
             obtain ⟨hb3473, h⟩ := h
             have hns : Region.noSelect (Code.ops q38c63) = true := by kernel_rfl
             refine g_drawF (c := q38c63) [.box gb3327 39 [.string ((ix x1 (ix r2589 x2814)).name), .bool ((ix x1 (ix r2589 x2814)).named), .string ((ix x1 (ix r2589 x2814)).field), .int .i64 ((ix x1 (ix r2589 x2814)).from_), .int .i64 ((ix x1 (ix r2589 x2814)).to), .int .i64 ((ix x1 (ix r2589 x2814)).kids), .int .i64 ((ix x1 (ix r2589 x2814)).leaf)], .own (.slice A2591 n2592 c2593) 3 1 n2592 (r2589.flatMap (eI .i64))] [Sm w.heap.size F w [], St w []] [] 57 rfl rfl mix rfl (.cons_cons _ (.cons_cons _ (.slnil))) (sels [0, 1] rfl) ?_
             refine wfv 0 rfl (v_move rfl) gn hns rfl ?_
             refine wfv 1 rfl (v_move rfl) gn hns rfl ?_
             refine wfv 2 rfl (v_move rfl) gn hns rfl ?_
             refine wfv 3 rfl (v_idxO slE_23 rfl rfl (Ow.weak hL2587.env.size h2594) hb3324) gn hns rfl ?_
             refine wfv 4 rfl (v_ldO1 (.int .i64 (ix r2589 x2814)) 1 ld_3 rfl rfl (fm_get0 (hlI .i64) hb3324 rfl)) gn hns rfl ?_
             refine wfv 6 rfl (v_move rfl) gn hns rfl ?_
             refine wf_all [5] (by kernel_rfl) rfl ⟨on_s 5 rfl gn rfl (s_call [.slice A2 n3 c4, .int .i64 (ix r2589 x2814)] rfl Try.func41 rfl rfl rfl fun w3507 hL3508 => ?_), trivial⟩
             have hp3509 : List.Perm ([.box gb3327 39 [.string ((ix x1 (ix r2589 x2814)).name), .bool ((ix x1 (ix r2589 x2814)).named), .string ((ix x1 (ix r2589 x2814)).field), .int .i64 ((ix x1 (ix r2589 x2814)).from_), .int .i64 ((ix x1 (ix r2589 x2814)).to), .int .i64 ((ix x1 (ix r2589 x2814)).kids), .int .i64 ((ix x1 (ix r2589 x2814)).leaf)], .own (.slice A2591 n2592 c2593) 3 1 n2592 (r2589.flatMap (eI .i64))] : List Ent) (([] : List Ent) ++ ([.box gb3327 39 [.string ((ix x1 (ix r2589 x2814)).name), .bool ((ix x1 (ix r2589 x2814)).named), .string ((ix x1 (ix r2589 x2814)).field), .int .i64 ((ix x1 (ix r2589 x2814)).from_), .int .i64 ((ix x1 (ix r2589 x2814)).to), .int .i64 ((ix x1 (ix r2589 x2814)).kids), .int .i64 ((ix x1 (ix r2589 x2814)).leaf)], .own (.slice A2591 n2592 c2593) 3 1 n2592 (r2589.flatMap (eI .i64))] : List Ent)) := perm_of_idx [] [0, 1] rfl rfl (by kernel_rfl)
             refine Calls.mono (tree_Parent_calls w3507 (Fl ([] : List Snap)) x1 (ix r2589 x2814) A2 n3 c4 (Rw.mono h5 (hL3508.toSt hp3509 (me 1 rfl))) (hL3508.hFl (Sl := ([] : List Snap)) hp3509 (sels [] rfl)) (hL3508.into hp3509 (Fl ([] : List Snap))) r3332 hv3333) ?_
             rintro _ w3510 ⟨rfl, hM3511⟩
             have hL3512 := hL3508.call hp3509 hM3511
             refine ⟨_, _, _, rfl, hL3512, ?_⟩
             refine ⟨sels [0, 1] rfl, sels [0, 1] rfl, ?_⟩
             refine wfv 7 rfl (v_bin rfl rfl rfl) gn hns rfl ?_
             refine wfv 8 rfl (v_move rfl) gn hns rfl ?_
             refine wf_bool 77 rfl ((eqib hp3337)) ?_
             refine wfv 9 rfl (v_move rfl) (gy 77 rfl rfl) hns rfl ?_
             refine wfv 10 rfl (v_bin rfl rfl rfl) (gy 77 rfl rfl) hns rfl ?_
             refine wfv 11 rfl (v_move rfl) (gy 77 rfl rfl) hns rfl ?_
             refine wf_bool 80 rfl ((eqi hp3338)) ?_
             refine wfv 12 rfl (v_fldB fo_39_3 rfl) (gy 80 rfl rfl) hns rfl ?_
             refine wfv 13 rfl (v_ldB1 0 ld_3 rfl rfl rfl) (gy 80 rfl rfl) hns rfl ?_
             refine wfv 14 rfl (v_move rfl) (gy 80 rfl rfl) hns rfl ?_
             refine wfv 15 rfl (v_move rfl) (gy 80 rfl rfl) hns rfl ?_
             have hr3513 := Rw.readF (s := St w []) (hl := hl_api_Node) (h1 := h1_api_Node) h5 hb2558
             refine wfv 16 rfl (v_idxR (s := St w []) slE_22 rfl rfl h5 hb2558) (gy 80 rfl rfl) hns rfl ?_
             refine wfv 17 rfl (v_fldA fo_39_3 rfl) (gy 80 rfl rfl) hns rfl ?_
             refine wfv 18 rfl (v_ldA1 (kk := (x1273 : Int).toNat * 7) (j := 3) (St w []) ld_3 rfl hr3513 rfl (me 1 rfl)) (gy 80 rfl rfl) hns rfl ?_
             refine wfv 19 rfl (v_bin rfl rfl rfl) (gy 80 rfl rfl) hns rfl ?_
             refine wfv 20 rfl (v_pick (b := true) rfl rfl) (gy 77 rfl rfl) hns rfl ?_
             refine wfv 21 rfl (v_pick (b := false) rfl rfl) gn hns rfl ?_
             refine wfv 22 rfl (v_move rfl) gn hns rfl ?_
             refine wf_bool 91 rfl ((eqib hp3340)) ?_
             refine wfv 23 rfl (v_move rfl) (gy 91 rfl rfl) hns rfl ?_
             refine wfv 24 rfl (v_move rfl) (gy 91 rfl rfl) hns rfl ?_
             refine wfv 25 rfl (v_lenQ un_23 rfl (Ow.weak hL2587.env.size h2594).hq) (gy 91 rfl rfl) hns rfl ?_
             refine wfv 26 rfl (v_bin rfl rfl rfl) (gy 91 rfl rfl) hns rfl ?_
             refine wfv 27 rfl (v_bin rfl rfl rfl) (gy 91 rfl rfl) hns rfl ?_
             refine wfv 28 rfl (v_move rfl) (gy 91 rfl rfl) hns rfl ?_
             refine wf_bool 97 rfl ((nei hp3341)) ?_
             refine wfp 29 rfl (ps 97 rfl rfl rfl) hns rfl ?_
             refine wfp 30 rfl (ps 97 rfl rfl rfl) hns rfl ?_
             refine wfp 31 rfl (ps 97 rfl rfl rfl) hns rfl ?_
             refine wfp 32 rfl (ps 97 rfl rfl rfl) hns rfl ?_
             refine wfp 33 rfl (ps 97 rfl rfl rfl) hns rfl ?_
             refine wfp 34 rfl (ps 97 rfl rfl rfl) hns rfl ?_
             refine wfp 35 rfl (ps 97 rfl rfl rfl) hns rfl ?_
             refine wfp 36 rfl (ps 97 rfl rfl rfl) hns rfl ?_
             refine wfv 37 rfl (v_pick (b := false) rfl rfl) (gy 91 rfl rfl) hns rfl ?_
             refine wfv 38 rfl (v_pick (b := false) rfl rfl) gn hns rfl ?_
             refine wfv 39 rfl (v_move rfl) gn hns rfl ?_
             refine wfv 40 rfl (v_move rfl) (gy 108 rfl rfl) hns rfl ?_
             refine wfv 41 rfl (v_bin rfl rfl rfl) (gy 108 rfl rfl) hns rfl ?_
             refine wfv 42 rfl (v_move rfl) (gy 108 rfl rfl) hns rfl ?_
             refine wf_bool 111 rfl ((decide_eq_true hp3471)) ?_
             refine wfv 43 rfl (v_move rfl) (gy 111 rfl rfl) hns rfl ?_
             refine wfv 44 rfl (v_move rfl) (gy 111 rfl rfl) hns rfl ?_
             refine wfv 45 rfl (v_move rfl) (gy 111 rfl rfl) hns rfl ?_
             refine wfv 46 rfl (v_bin rfl rfl rfl) (gy 111 rfl rfl) hns rfl ?_
             refine wfv 47 rfl (v_idxO slE_23 rfl rfl (Ow.weak hL2587.env.size h2594) hb3472) (gy 111 rfl rfl) hns rfl ?_
             refine wfv 48 rfl (v_ldO1 (.int .i64 (ix r2589 (w64 (x2814 - 1)))) 1 ld_3 rfl rfl (fm_get0 (hlI .i64) hb3472 rfl)) (gy 111 rfl rfl) hns rfl ?_
             have hr3514 := Rw.readF (s := St w []) (hl := hl_api_Node) (h1 := h1_api_Node) h5 hb3473
             refine wfv 49 rfl (v_idxR (s := St w []) slE_22 rfl rfl h5 hb3473) (gy 111 rfl rfl) hns rfl ?_
             refine wfv 50 rfl (v_fldA fo_39_4 rfl) (gy 111 rfl rfl) hns rfl ?_
             refine wfv 51 rfl (v_ldA1 (kk := (ix r2589 (w64 (x2814 - 1)) : Int).toNat * 7) (j := 4) (St w []) ld_3 rfl hr3514 rfl (me 1 rfl)) (gy 111 rfl rfl) hns rfl ?_
             refine wfv 52 rfl (v_fldB fo_39_3 rfl) (gy 111 rfl rfl) hns rfl ?_
             refine wfv 53 rfl (v_ldB1 0 ld_3 rfl rfl rfl) (gy 111 rfl rfl) hns rfl ?_
             refine wfv 54 rfl (v_bin rfl rfl rfl) (gy 111 rfl rfl) hns rfl ?_
             refine wfv 55 rfl (v_pick (b := true) rfl rfl) (gy 108 rfl rfl) hns rfl ?_
             refine wfv 56 rfl (v_pick (b := false) rfl rfl) gn hns rfl ?_
             refine wf_end (by kernel_rfl) ?_
             by_cases hp3515 : (ix x1 (ix r2589 (w64 (x2814 - 1)))).to > (ix x1 (ix r2589 x2814)).from_
             ·have h := if_pos' hp3515 h
              refine g_true (c := q38c64) rfl _ rfl ((decide_eq_true hp3515)) ?_
              refine g_seq (c := q38c65) rfl ?_
              refine g_region (c := q38c67) rfl rfl ?_
              refine wl_v 0 rfl (v_assign rfl) gn rfl ?_
              refine w_end 1 rfl ?_
              have h := Out.inr hO2 h
              have h := Out.inr hO1 h
              refine g_retR (c := q38c68) [.bool false] rfl Try.func38 rfl (.tmp rfl (.nil)) fun wr hLr => ?_
              have hMr : B.Loc w wr [] [St w []] := hLr.pick0 (sels [1] rfl)
              show trellislaw15_nested_R w F  r (.returned (packV [.bool false])) wr
              rw [h]
              exact ⟨rfl, hMr⟩
             ·have h := if_neg' hp3515 h
              refine g_false (c := q38c64) rfl _ rfl ((decide_eq_false hp3515)) ?_
              refine g_skip (c := q38c66) rfl ?_
              refine g_inBlock ?_
              refine g_region (c := q38c59) rfl rfl ?_
              refine wl_v 0 rfl (v_move rfl) gn rfl ?_
              refine wl_v 1 rfl (v_bin rfl rfl rfl) gn rfl ?_
              refine wl_v 2 rfl (v_assign rfl) gn rfl ?_
              refine w_end 3 rfl ?_
              refine g_inLoop ?_
              have ih := Out.inl hO2 h
              exact g_go [0, 1] (ih ()) ⟨rfl, rfl, rfl, rfl, rfl, trivial⟩ (.cons _ (.cons_cons _ (.slnil))) rfl
            ·have h := if_neg' hp3471 h
             have hns : Region.noSelect (Code.ops q38c63) = true := by kernel_rfl
             refine g_drawF (c := q38c63) [.box gb3327 39 [.string ((ix x1 (ix r2589 x2814)).name), .bool ((ix x1 (ix r2589 x2814)).named), .string ((ix x1 (ix r2589 x2814)).field), .int .i64 ((ix x1 (ix r2589 x2814)).from_), .int .i64 ((ix x1 (ix r2589 x2814)).to), .int .i64 ((ix x1 (ix r2589 x2814)).kids), .int .i64 ((ix x1 (ix r2589 x2814)).leaf)], .own (.slice A2591 n2592 c2593) 3 1 n2592 (r2589.flatMap (eI .i64))] [Sm w.heap.size F w [], St w []] [] 57 rfl rfl mix rfl (.cons_cons _ (.cons_cons _ (.slnil))) (sels [0, 1] rfl) ?_
             refine wfv 0 rfl (v_move rfl) gn hns rfl ?_
             refine wfv 1 rfl (v_move rfl) gn hns rfl ?_
             refine wfv 2 rfl (v_move rfl) gn hns rfl ?_
             refine wfv 3 rfl (v_idxO slE_23 rfl rfl (Ow.weak hL2587.env.size h2594) hb3324) gn hns rfl ?_
             refine wfv 4 rfl (v_ldO1 (.int .i64 (ix r2589 x2814)) 1 ld_3 rfl rfl (fm_get0 (hlI .i64) hb3324 rfl)) gn hns rfl ?_
             refine wfv 6 rfl (v_move rfl) gn hns rfl ?_
             refine wf_all [5] (by kernel_rfl) rfl ⟨on_s 5 rfl gn rfl (s_call [.slice A2 n3 c4, .int .i64 (ix r2589 x2814)] rfl Try.func41 rfl rfl rfl fun w3547 hL3548 => ?_), trivial⟩
             have hp3549 : List.Perm ([.box gb3327 39 [.string ((ix x1 (ix r2589 x2814)).name), .bool ((ix x1 (ix r2589 x2814)).named), .string ((ix x1 (ix r2589 x2814)).field), .int .i64 ((ix x1 (ix r2589 x2814)).from_), .int .i64 ((ix x1 (ix r2589 x2814)).to), .int .i64 ((ix x1 (ix r2589 x2814)).kids), .int .i64 ((ix x1 (ix r2589 x2814)).leaf)], .own (.slice A2591 n2592 c2593) 3 1 n2592 (r2589.flatMap (eI .i64))] : List Ent) (([] : List Ent) ++ ([.box gb3327 39 [.string ((ix x1 (ix r2589 x2814)).name), .bool ((ix x1 (ix r2589 x2814)).named), .string ((ix x1 (ix r2589 x2814)).field), .int .i64 ((ix x1 (ix r2589 x2814)).from_), .int .i64 ((ix x1 (ix r2589 x2814)).to), .int .i64 ((ix x1 (ix r2589 x2814)).kids), .int .i64 ((ix x1 (ix r2589 x2814)).leaf)], .own (.slice A2591 n2592 c2593) 3 1 n2592 (r2589.flatMap (eI .i64))] : List Ent)) := perm_of_idx [] [0, 1] rfl rfl (by kernel_rfl)
             refine Calls.mono (tree_Parent_calls w3547 (Fl ([] : List Snap)) x1 (ix r2589 x2814) A2 n3 c4 (Rw.mono h5 (hL3548.toSt hp3549 (me 1 rfl))) (hL3548.hFl (Sl := ([] : List Snap)) hp3549 (sels [] rfl)) (hL3548.into hp3549 (Fl ([] : List Snap))) r3332 hv3333) ?_
             rintro _ w3550 ⟨rfl, hM3551⟩
             have hL3552 := hL3548.call hp3549 hM3551
             refine ⟨_, _, _, rfl, hL3552, ?_⟩
             refine ⟨sels [0, 1] rfl, sels [0, 1] rfl, ?_⟩
             refine wfv 7 rfl (v_bin rfl rfl rfl) gn hns rfl ?_
             refine wfv 8 rfl (v_move rfl) gn hns rfl ?_
             refine wf_bool 77 rfl ((eqib hp3337)) ?_
             refine wfv 9 rfl (v_move rfl) (gy 77 rfl rfl) hns rfl ?_
             refine wfv 10 rfl (v_bin rfl rfl rfl) (gy 77 rfl rfl) hns rfl ?_
             refine wfv 11 rfl (v_move rfl) (gy 77 rfl rfl) hns rfl ?_
             refine wf_bool 80 rfl ((eqi hp3338)) ?_
             refine wfv 12 rfl (v_fldB fo_39_3 rfl) (gy 80 rfl rfl) hns rfl ?_
             refine wfv 13 rfl (v_ldB1 0 ld_3 rfl rfl rfl) (gy 80 rfl rfl) hns rfl ?_
             refine wfv 14 rfl (v_move rfl) (gy 80 rfl rfl) hns rfl ?_
             refine wfv 15 rfl (v_move rfl) (gy 80 rfl rfl) hns rfl ?_
             have hr3553 := Rw.readF (s := St w []) (hl := hl_api_Node) (h1 := h1_api_Node) h5 hb2558
             refine wfv 16 rfl (v_idxR (s := St w []) slE_22 rfl rfl h5 hb2558) (gy 80 rfl rfl) hns rfl ?_
             refine wfv 17 rfl (v_fldA fo_39_3 rfl) (gy 80 rfl rfl) hns rfl ?_
             refine wfv 18 rfl (v_ldA1 (kk := (x1273 : Int).toNat * 7) (j := 3) (St w []) ld_3 rfl hr3553 rfl (me 1 rfl)) (gy 80 rfl rfl) hns rfl ?_
             refine wfv 19 rfl (v_bin rfl rfl rfl) (gy 80 rfl rfl) hns rfl ?_
             refine wfv 20 rfl (v_pick (b := true) rfl rfl) (gy 77 rfl rfl) hns rfl ?_
             refine wfv 21 rfl (v_pick (b := false) rfl rfl) gn hns rfl ?_
             refine wfv 22 rfl (v_move rfl) gn hns rfl ?_
             refine wf_bool 91 rfl ((eqib hp3340)) ?_
             refine wfv 23 rfl (v_move rfl) (gy 91 rfl rfl) hns rfl ?_
             refine wfv 24 rfl (v_move rfl) (gy 91 rfl rfl) hns rfl ?_
             refine wfv 25 rfl (v_lenQ un_23 rfl (Ow.weak hL2587.env.size h2594).hq) (gy 91 rfl rfl) hns rfl ?_
             refine wfv 26 rfl (v_bin rfl rfl rfl) (gy 91 rfl rfl) hns rfl ?_
             refine wfv 27 rfl (v_bin rfl rfl rfl) (gy 91 rfl rfl) hns rfl ?_
             refine wfv 28 rfl (v_move rfl) (gy 91 rfl rfl) hns rfl ?_
             refine wf_bool 97 rfl ((nei hp3341)) ?_
             refine wfp 29 rfl (ps 97 rfl rfl rfl) hns rfl ?_
             refine wfp 30 rfl (ps 97 rfl rfl rfl) hns rfl ?_
             refine wfp 31 rfl (ps 97 rfl rfl rfl) hns rfl ?_
             refine wfp 32 rfl (ps 97 rfl rfl rfl) hns rfl ?_
             refine wfp 33 rfl (ps 97 rfl rfl rfl) hns rfl ?_
             refine wfp 34 rfl (ps 97 rfl rfl rfl) hns rfl ?_
             refine wfp 35 rfl (ps 97 rfl rfl rfl) hns rfl ?_
             refine wfp 36 rfl (ps 97 rfl rfl rfl) hns rfl ?_
             refine wfv 37 rfl (v_pick (b := false) rfl rfl) (gy 91 rfl rfl) hns rfl ?_
             refine wfv 38 rfl (v_pick (b := false) rfl rfl) gn hns rfl ?_
             refine wfv 39 rfl (v_move rfl) gn hns rfl ?_
             refine wfv 40 rfl (v_move rfl) (gy 108 rfl rfl) hns rfl ?_
             refine wfv 41 rfl (v_bin rfl rfl rfl) (gy 108 rfl rfl) hns rfl ?_
             refine wfv 42 rfl (v_move rfl) (gy 108 rfl rfl) hns rfl ?_
             refine wf_bool 111 rfl ((decide_eq_false hp3471)) ?_
             refine wfp 43 rfl (ps 111 rfl rfl rfl) hns rfl ?_
             refine wfp 44 rfl (ps 111 rfl rfl rfl) hns rfl ?_
             refine wfp 45 rfl (ps 111 rfl rfl rfl) hns rfl ?_
             refine wfp 46 rfl (ps 111 rfl rfl rfl) hns rfl ?_
             refine wfp 47 rfl (ps 111 rfl rfl rfl) hns rfl ?_
             refine wfp 48 rfl (ps 111 rfl rfl rfl) hns rfl ?_
             refine wfp 49 rfl (ps 111 rfl rfl rfl) hns rfl ?_
             refine wfp 50 rfl (ps 111 rfl rfl rfl) hns rfl ?_
             refine wfp 51 rfl (ps 111 rfl rfl rfl) hns rfl ?_
             refine wfp 52 rfl (ps 111 rfl rfl rfl) hns rfl ?_
             refine wfp 53 rfl (ps 111 rfl rfl rfl) hns rfl ?_
             refine wfp 54 rfl (ps 111 rfl rfl rfl) hns rfl ?_
             refine wfv 55 rfl (v_pick (b := false) rfl rfl) (gy 108 rfl rfl) hns rfl ?_
             refine wfv 56 rfl (v_pick (b := false) rfl rfl) gn hns rfl ?_
             refine wf_end (by kernel_rfl) ?_
             refine g_false (c := q38c64) rfl _ rfl (rfl) ?_
             refine g_skip (c := q38c66) rfl ?_
             refine g_inBlock ?_
             refine g_region (c := q38c59) rfl rfl ?_
             refine wl_v 0 rfl (v_move rfl) gn rfl ?_
             refine wl_v 1 rfl (v_bin rfl rfl rfl) gn rfl ?_
             refine wl_v 2 rfl (v_assign rfl) gn rfl ?_
             refine w_end 3 rfl ?_
             refine g_inLoop ?_
             have ih := Out.inl hO2 h
             exact g_go [0, 1] (ih ()) ⟨rfl, rfl, rfl, rfl, rfl, trivial⟩ (.cons _ (.cons_cons _ (.slnil))) rfl
          ·have h := if_neg' hp3340 h
           have hns : Region.noSelect (Code.ops q38c63) = true := by kernel_rfl
           refine g_drawF (c := q38c63) [.box gb3327 39 [.string ((ix x1 (ix r2589 x2814)).name), .bool ((ix x1 (ix r2589 x2814)).named), .string ((ix x1 (ix r2589 x2814)).field), .int .i64 ((ix x1 (ix r2589 x2814)).from_), .int .i64 ((ix x1 (ix r2589 x2814)).to), .int .i64 ((ix x1 (ix r2589 x2814)).kids), .int .i64 ((ix x1 (ix r2589 x2814)).leaf)], .own (.slice A2591 n2592 c2593) 3 1 n2592 (r2589.flatMap (eI .i64))] [Sm w.heap.size F w [], St w []] [] 57 rfl rfl mix rfl (.cons_cons _ (.cons_cons _ (.slnil))) (sels [0, 1] rfl) ?_
           refine wfv 0 rfl (v_move rfl) gn hns rfl ?_
           refine wfv 1 rfl (v_move rfl) gn hns rfl ?_
           refine wfv 2 rfl (v_move rfl) gn hns rfl ?_
           refine wfv 3 rfl (v_idxO slE_23 rfl rfl (Ow.weak hL2587.env.size h2594) hb3324) gn hns rfl ?_
           refine wfv 4 rfl (v_ldO1 (.int .i64 (ix r2589 x2814)) 1 ld_3 rfl rfl (fm_get0 (hlI .i64) hb3324 rfl)) gn hns rfl ?_
           refine wfv 6 rfl (v_move rfl) gn hns rfl ?_
           refine wf_all [5] (by kernel_rfl) rfl ⟨on_s 5 rfl gn rfl (s_call [.slice A2 n3 c4, .int .i64 (ix r2589 x2814)] rfl Try.func41 rfl rfl rfl fun w3585 hL3586 => ?_), trivial⟩
           have hp3587 : List.Perm ([.box gb3327 39 [.string ((ix x1 (ix r2589 x2814)).name), .bool ((ix x1 (ix r2589 x2814)).named), .string ((ix x1 (ix r2589 x2814)).field), .int .i64 ((ix x1 (ix r2589 x2814)).from_), .int .i64 ((ix x1 (ix r2589 x2814)).to), .int .i64 ((ix x1 (ix r2589 x2814)).kids), .int .i64 ((ix x1 (ix r2589 x2814)).leaf)], .own (.slice A2591 n2592 c2593) 3 1 n2592 (r2589.flatMap (eI .i64))] : List Ent) (([] : List Ent) ++ ([.box gb3327 39 [.string ((ix x1 (ix r2589 x2814)).name), .bool ((ix x1 (ix r2589 x2814)).named), .string ((ix x1 (ix r2589 x2814)).field), .int .i64 ((ix x1 (ix r2589 x2814)).from_), .int .i64 ((ix x1 (ix r2589 x2814)).to), .int .i64 ((ix x1 (ix r2589 x2814)).kids), .int .i64 ((ix x1 (ix r2589 x2814)).leaf)], .own (.slice A2591 n2592 c2593) 3 1 n2592 (r2589.flatMap (eI .i64))] : List Ent)) := perm_of_idx [] [0, 1] rfl rfl (by kernel_rfl)
           refine Calls.mono (tree_Parent_calls w3585 (Fl ([] : List Snap)) x1 (ix r2589 x2814) A2 n3 c4 (Rw.mono h5 (hL3586.toSt hp3587 (me 1 rfl))) (hL3586.hFl (Sl := ([] : List Snap)) hp3587 (sels [] rfl)) (hL3586.into hp3587 (Fl ([] : List Snap))) r3332 hv3333) ?_
           rintro _ w3588 ⟨rfl, hM3589⟩
           have hL3590 := hL3586.call hp3587 hM3589
           refine ⟨_, _, _, rfl, hL3590, ?_⟩
           refine ⟨sels [0, 1] rfl, sels [0, 1] rfl, ?_⟩
           refine wfv 7 rfl (v_bin rfl rfl rfl) gn hns rfl ?_
           refine wfv 8 rfl (v_move rfl) gn hns rfl ?_
           refine wf_bool 77 rfl ((eqib hp3337)) ?_
           refine wfv 9 rfl (v_move rfl) (gy 77 rfl rfl) hns rfl ?_
           refine wfv 10 rfl (v_bin rfl rfl rfl) (gy 77 rfl rfl) hns rfl ?_
           refine wfv 11 rfl (v_move rfl) (gy 77 rfl rfl) hns rfl ?_
           refine wf_bool 80 rfl ((eqi hp3338)) ?_
           refine wfv 12 rfl (v_fldB fo_39_3 rfl) (gy 80 rfl rfl) hns rfl ?_
           refine wfv 13 rfl (v_ldB1 0 ld_3 rfl rfl rfl) (gy 80 rfl rfl) hns rfl ?_
           refine wfv 14 rfl (v_move rfl) (gy 80 rfl rfl) hns rfl ?_
           refine wfv 15 rfl (v_move rfl) (gy 80 rfl rfl) hns rfl ?_
           have hr3591 := Rw.readF (s := St w []) (hl := hl_api_Node) (h1 := h1_api_Node) h5 hb2558
           refine wfv 16 rfl (v_idxR (s := St w []) slE_22 rfl rfl h5 hb2558) (gy 80 rfl rfl) hns rfl ?_
           refine wfv 17 rfl (v_fldA fo_39_3 rfl) (gy 80 rfl rfl) hns rfl ?_
           refine wfv 18 rfl (v_ldA1 (kk := (x1273 : Int).toNat * 7) (j := 3) (St w []) ld_3 rfl hr3591 rfl (me 1 rfl)) (gy 80 rfl rfl) hns rfl ?_
           refine wfv 19 rfl (v_bin rfl rfl rfl) (gy 80 rfl rfl) hns rfl ?_
           refine wfv 20 rfl (v_pick (b := true) rfl rfl) (gy 77 rfl rfl) hns rfl ?_
           refine wfv 21 rfl (v_pick (b := false) rfl rfl) gn hns rfl ?_
           refine wfv 22 rfl (v_move rfl) gn hns rfl ?_
           refine wf_bool 91 rfl ((neib hp3340)) ?_
           refine wfp 23 rfl (ps 91 rfl rfl rfl) hns rfl ?_
           refine wfp 24 rfl (ps 91 rfl rfl rfl) hns rfl ?_
           refine wfp 25 rfl (ps 91 rfl rfl rfl) hns rfl ?_
           refine wfp 26 rfl (ps 91 rfl rfl rfl) hns rfl ?_
           refine wfp 27 rfl (ps 91 rfl rfl rfl) hns rfl ?_
           refine wfp 28 rfl (ps 91 rfl rfl rfl) hns rfl ?_
           refine wfp 29 rfl (pu 97 rfl rfl) hns rfl ?_
           refine wfp 30 rfl (pu 97 rfl rfl) hns rfl ?_
           refine wfp 31 rfl (pu 97 rfl rfl) hns rfl ?_
           refine wfp 32 rfl (pu 97 rfl rfl) hns rfl ?_
           refine wfp 33 rfl (pu 97 rfl rfl) hns rfl ?_
           refine wfp 34 rfl (pu 97 rfl rfl) hns rfl ?_
           refine wfp 35 rfl (pu 97 rfl rfl) hns rfl ?_
           refine wfp 36 rfl (pu 97 rfl rfl) hns rfl ?_
           refine wfp 37 rfl (ps 91 rfl rfl rfl) hns rfl ?_
           refine wfv 38 rfl (v_pick (b := true) rfl rfl) gn hns rfl ?_
           refine wfv 39 rfl (v_move rfl) gn hns rfl ?_
           refine wfp 40 rfl (ps 108 rfl rfl rfl) hns rfl ?_
           refine wfp 41 rfl (ps 108 rfl rfl rfl) hns rfl ?_
           refine wfp 42 rfl (ps 108 rfl rfl rfl) hns rfl ?_
           refine wfp 43 rfl (pu 111 rfl rfl) hns rfl ?_
           refine wfp 44 rfl (pu 111 rfl rfl) hns rfl ?_
           refine wfp 45 rfl (pu 111 rfl rfl) hns rfl ?_
           refine wfp 46 rfl (pu 111 rfl rfl) hns rfl ?_
           refine wfp 47 rfl (pu 111 rfl rfl) hns rfl ?_
           refine wfp 48 rfl (pu 111 rfl rfl) hns rfl ?_
           refine wfp 49 rfl (pu 111 rfl rfl) hns rfl ?_
           refine wfp 50 rfl (pu 111 rfl rfl) hns rfl ?_
           refine wfp 51 rfl (pu 111 rfl rfl) hns rfl ?_
           refine wfp 52 rfl (pu 111 rfl rfl) hns rfl ?_
           refine wfp 53 rfl (pu 111 rfl rfl) hns rfl ?_
           refine wfp 54 rfl (pu 111 rfl rfl) hns rfl ?_
           refine wfp 55 rfl (ps 108 rfl rfl rfl) hns rfl ?_
           refine wfv 56 rfl (v_pick (b := true) rfl rfl) gn hns rfl ?_
           refine wf_end (by kernel_rfl) ?_
           refine g_true (c := q38c64) rfl _ rfl (rfl) ?_
           refine g_seq (c := q38c65) rfl ?_
           refine g_region (c := q38c67) rfl rfl ?_
           refine wl_v 0 rfl (v_assign rfl) gn rfl ?_
           refine w_end 1 rfl ?_
           have h := Out.inr hO2 h
           have h := Out.inr hO1 h
           refine g_retR (c := q38c68) [.bool false] rfl Try.func38 rfl (.tmp rfl (.nil)) fun wr hLr => ?_
           have hMr : B.Loc w wr [] [St w []] := hLr.pick0 (sels [1] rfl)
           show trellislaw15_nested_R w F  r (.returned (packV [.bool false])) wr
           rw [h]
           exact ⟨rfl, hMr⟩
         ·have h := if_neg' hp3338 h
          by_cases hp3592 : x2814 = w64 ((r2589.length : Int) - 1)
          ·have h := if_pos' hp3592 h
           by_cases hp3594 : (ix x1 (ix r2589 x2814)).to = (ix x1 x1273).to
           ·have h := if_pos' hp3594 h
            by_cases hp3595 : x2814 > 0
            ·have h := if_pos' hp3595 h
             obtain ⟨hb3596, h⟩ := h
             obtain ⟨hb3597, h⟩ := h
             have hns : Region.noSelect (Code.ops q38c63) = true := by kernel_rfl
             refine g_drawF (c := q38c63) [.box gb3327 39 [.string ((ix x1 (ix r2589 x2814)).name), .bool ((ix x1 (ix r2589 x2814)).named), .string ((ix x1 (ix r2589 x2814)).field), .int .i64 ((ix x1 (ix r2589 x2814)).from_), .int .i64 ((ix x1 (ix r2589 x2814)).to), .int .i64 ((ix x1 (ix r2589 x2814)).kids), .int .i64 ((ix x1 (ix r2589 x2814)).leaf)], .own (.slice A2591 n2592 c2593) 3 1 n2592 (r2589.flatMap (eI .i64))] [Sm w.heap.size F w [], St w []] [] 57 rfl rfl mix rfl (.cons_cons _ (.cons_cons _ (.slnil))) (sels [0, 1] rfl) ?_
             refine wfv 0 rfl (v_move rfl) gn hns rfl ?_
             refine wfv 1 rfl (v_move rfl) gn hns rfl ?_
             refine wfv 2 rfl (v_move rfl) gn hns rfl ?_
             refine wfv 3 rfl (v_idxO slE_23 rfl rfl (Ow.weak hL2587.env.size h2594) hb3324) gn hns rfl ?_
             refine wfv 4 rfl (v_ldO1 (.int .i64 (ix r2589 x2814)) 1 ld_3 rfl rfl (fm_get0 (hlI .i64) hb3324 rfl)) gn hns rfl ?_
             refine wfv 6 rfl (v_move rfl) gn hns rfl ?_
             refine wf_all [5] (by kernel_rfl) rfl ⟨on_s 5 rfl gn rfl (s_call [.slice A2 n3 c4, .int .i64 (ix r2589 x2814)] rfl Try.func41 rfl rfl rfl fun w3631 hL3632 => ?_), trivial⟩
             have hp3633 : List.Perm ([.box gb3327 39 [.string ((ix x1 (ix r2589 x2814)).name), .bool ((ix x1 (ix r2589 x2814)).named), .string ((ix x1 (ix r2589 x2814)).field), .int .i64 ((ix x1 (ix r2589 x2814)).from_), .int .i64 ((ix x1 (ix r2589 x2814)).to), .int .i64 ((ix x1 (ix r2589 x2814)).kids), .int .i64 ((ix x1 (ix r2589 x2814)).leaf)], .own (.slice A2591 n2592 c2593) 3 1 n2592 (r2589.flatMap (eI .i64))] : List Ent) (([] : List Ent) ++ ([.box gb3327 39 [.string ((ix x1 (ix r2589 x2814)).name), .bool ((ix x1 (ix r2589 x2814)).named), .string ((ix x1 (ix r2589 x2814)).field), .int .i64 ((ix x1 (ix r2589 x2814)).from_), .int .i64 ((ix x1 (ix r2589 x2814)).to), .int .i64 ((ix x1 (ix r2589 x2814)).kids), .int .i64 ((ix x1 (ix r2589 x2814)).leaf)], .own (.slice A2591 n2592 c2593) 3 1 n2592 (r2589.flatMap (eI .i64))] : List Ent)) := perm_of_idx [] [0, 1] rfl rfl (by kernel_rfl)
             refine Calls.mono (tree_Parent_calls w3631 (Fl ([] : List Snap)) x1 (ix r2589 x2814) A2 n3 c4 (Rw.mono h5 (hL3632.toSt hp3633 (me 1 rfl))) (hL3632.hFl (Sl := ([] : List Snap)) hp3633 (sels [] rfl)) (hL3632.into hp3633 (Fl ([] : List Snap))) r3332 hv3333) ?_
             rintro _ w3634 ⟨rfl, hM3635⟩
             have hL3636 := hL3632.call hp3633 hM3635
             refine ⟨_, _, _, rfl, hL3636, ?_⟩
             refine ⟨sels [0, 1] rfl, sels [0, 1] rfl, ?_⟩
             refine wfv 7 rfl (v_bin rfl rfl rfl) gn hns rfl ?_
             refine wfv 8 rfl (v_move rfl) gn hns rfl ?_
             refine wf_bool 77 rfl ((eqib hp3337)) ?_
             refine wfv 9 rfl (v_move rfl) (gy 77 rfl rfl) hns rfl ?_
             refine wfv 10 rfl (v_bin rfl rfl rfl) (gy 77 rfl rfl) hns rfl ?_
             refine wfv 11 rfl (v_move rfl) (gy 77 rfl rfl) hns rfl ?_
             refine wf_bool 80 rfl ((nei hp3338)) ?_
             refine wfp 12 rfl (ps 80 rfl rfl rfl) hns rfl ?_
             refine wfp 13 rfl (ps 80 rfl rfl rfl) hns rfl ?_
             refine wfp 14 rfl (ps 80 rfl rfl rfl) hns rfl ?_
             refine wfp 15 rfl (ps 80 rfl rfl rfl) hns rfl ?_
             refine wfp 16 rfl (ps 80 rfl rfl rfl) hns rfl ?_
             refine wfp 17 rfl (ps 80 rfl rfl rfl) hns rfl ?_
             refine wfp 18 rfl (ps 80 rfl rfl rfl) hns rfl ?_
             refine wfp 19 rfl (ps 80 rfl rfl rfl) hns rfl ?_
             refine wfv 20 rfl (v_pick (b := false) rfl rfl) (gy 77 rfl rfl) hns rfl ?_
             refine wfv 21 rfl (v_pick (b := false) rfl rfl) gn hns rfl ?_
             refine wfv 22 rfl (v_move rfl) gn hns rfl ?_
             refine wfv 23 rfl (v_move rfl) (gy 91 rfl rfl) hns rfl ?_
             refine wfv 24 rfl (v_move rfl) (gy 91 rfl rfl) hns rfl ?_
             refine wfv 25 rfl (v_lenQ un_23 rfl (Ow.weak hL2587.env.size h2594).hq) (gy 91 rfl rfl) hns rfl ?_
             refine wfv 26 rfl (v_bin rfl rfl rfl) (gy 91 rfl rfl) hns rfl ?_
             refine wfv 27 rfl (v_bin rfl rfl rfl) (gy 91 rfl rfl) hns rfl ?_
             refine wfv 28 rfl (v_move rfl) (gy 91 rfl rfl) hns rfl ?_
             refine wf_bool 97 rfl ((eqi hp3592)) ?_
             refine wfv 29 rfl (v_fldB fo_39_4 rfl) (gy 97 rfl rfl) hns rfl ?_
             refine wfv 30 rfl (v_ldB1 0 ld_3 rfl rfl rfl) (gy 97 rfl rfl) hns rfl ?_
             refine wfv 31 rfl (v_move rfl) (gy 97 rfl rfl) hns rfl ?_
             refine wfv 32 rfl (v_move rfl) (gy 97 rfl rfl) hns rfl ?_
             have hr3637 := Rw.readF (s := St w []) (hl := hl_api_Node) (h1 := h1_api_Node) h5 hb2558
             refine wfv 33 rfl (v_idxR (s := St w []) slE_22 rfl rfl h5 hb2558) (gy 97 rfl rfl) hns rfl ?_
             refine wfv 34 rfl (v_fldA fo_39_4 rfl) (gy 97 rfl rfl) hns rfl ?_
             refine wfv 35 rfl (v_ldA1 (kk := (x1273 : Int).toNat * 7) (j := 4) (St w []) ld_3 rfl hr3637 rfl (me 1 rfl)) (gy 97 rfl rfl) hns rfl ?_
             refine wfv 36 rfl (v_bin rfl rfl rfl) (gy 97 rfl rfl) hns rfl ?_
             refine wfv 37 rfl (v_pick (b := true) rfl rfl) (gy 91 rfl rfl) hns rfl ?_
             refine wfv 38 rfl (v_pick (b := false) rfl rfl) gn hns rfl ?_
             refine wfv 39 rfl (v_move rfl) gn hns rfl ?_
             refine wf_bool 108 rfl ((eqib hp3594)) ?_
             refine wfv 40 rfl (v_move rfl) (gy 108 rfl rfl) hns rfl ?_
             refine wfv 41 rfl (v_bin rfl rfl rfl) (gy 108 rfl rfl) hns rfl ?_
             refine wfv 42 rfl (v_move rfl) (gy 108 rfl rfl) hns rfl ?_
             refine wf_bool 111 rfl ((decide_eq_true hp3595)) ?_
             refine wfv 43 rfl (v_move rfl) (gy 111 rfl rfl) hns rfl ?_
             refine wfv 44 rfl (v_move rfl) (gy 111 rfl rfl) hns rfl ?_
             refine wfv 45 rfl (v_move rfl) (gy 111 rfl rfl) hns rfl ?_
             refine wfv 46 rfl (v_bin rfl rfl rfl) (gy 111 rfl rfl) hns rfl ?_
             refine wfv 47 rfl (v_idxO slE_23 rfl rfl (Ow.weak hL2587.env.size h2594) hb3596) (gy 111 rfl rfl) hns rfl ?_
             refine wfv 48 rfl (v_ldO1 (.int .i64 (ix r2589 (w64 (x2814 - 1)))) 1 ld_3 rfl rfl (fm_get0 (hlI .i64) hb3596 rfl)) (gy 111 rfl rfl) hns rfl ?_
             have hr3638 := Rw.readF (s := St w []) (hl := hl_api_Node) (h1 := h1_api_Node) h5 hb3597
             refine wfv 49 rfl (v_idxR (s := St w []) slE_22 rfl rfl h5 hb3597) (gy 111 rfl rfl) hns rfl ?_
             refine wfv 50 rfl (v_fldA fo_39_4 rfl) (gy 111 rfl rfl) hns rfl ?_
             refine wfv 51 rfl (v_ldA1 (kk := (ix r2589 (w64 (x2814 - 1)) : Int).toNat * 7) (j := 4) (St w []) ld_3 rfl hr3638 rfl (me 1 rfl)) (gy 111 rfl rfl) hns rfl ?_
             refine wfv 52 rfl (v_fldB fo_39_3 rfl) (gy 111 rfl rfl) hns rfl ?_
             refine wfv 53 rfl (v_ldB1 0 ld_3 rfl rfl rfl) (gy 111 rfl rfl) hns rfl ?_
             refine wfv 54 rfl (v_bin rfl rfl rfl) (gy 111 rfl rfl) hns rfl ?_
             refine wfv 55 rfl (v_pick (b := true) rfl rfl) (gy 108 rfl rfl) hns rfl ?_
             refine wfv 56 rfl (v_pick (b := false) rfl rfl) gn hns rfl ?_
             refine wf_end (by kernel_rfl) ?_
             by_cases hp3639 : (ix x1 (ix r2589 (w64 (x2814 - 1)))).to > (ix x1 (ix r2589 x2814)).from_
             ·have h := if_pos' hp3639 h
              refine g_true (c := q38c64) rfl _ rfl ((decide_eq_true hp3639)) ?_
              refine g_seq (c := q38c65) rfl ?_
              refine g_region (c := q38c67) rfl rfl ?_
              refine wl_v 0 rfl (v_assign rfl) gn rfl ?_
              refine w_end 1 rfl ?_
              have h := Out.inr hO2 h
              have h := Out.inr hO1 h
              refine g_retR (c := q38c68) [.bool false] rfl Try.func38 rfl (.tmp rfl (.nil)) fun wr hLr => ?_
              have hMr : B.Loc w wr [] [St w []] := hLr.pick0 (sels [1] rfl)
              show trellislaw15_nested_R w F  r (.returned (packV [.bool false])) wr
              rw [h]
              exact ⟨rfl, hMr⟩
             ·have h := if_neg' hp3639 h
              refine g_false (c := q38c64) rfl _ rfl ((decide_eq_false hp3639)) ?_
              refine g_skip (c := q38c66) rfl ?_
              refine g_inBlock ?_
              refine g_region (c := q38c59) rfl rfl ?_
              refine wl_v 0 rfl (v_move rfl) gn rfl ?_
              refine wl_v 1 rfl (v_bin rfl rfl rfl) gn rfl ?_
              refine wl_v 2 rfl (v_assign rfl) gn rfl ?_
              refine w_end 3 rfl ?_
              refine g_inLoop ?_
              have ih := Out.inl hO2 h
              exact g_go [0, 1] (ih ()) ⟨rfl, rfl, rfl, rfl, rfl, trivial⟩ (.cons _ (.cons_cons _ (.slnil))) rfl
            ·have h := if_neg' hp3595 h
             have hns : Region.noSelect (Code.ops q38c63) = true := by kernel_rfl
             refine g_drawF (c := q38c63) [.box gb3327 39 [.string ((ix x1 (ix r2589 x2814)).name), .bool ((ix x1 (ix r2589 x2814)).named), .string ((ix x1 (ix r2589 x2814)).field), .int .i64 ((ix x1 (ix r2589 x2814)).from_), .int .i64 ((ix x1 (ix r2589 x2814)).to), .int .i64 ((ix x1 (ix r2589 x2814)).kids), .int .i64 ((ix x1 (ix r2589 x2814)).leaf)], .own (.slice A2591 n2592 c2593) 3 1 n2592 (r2589.flatMap (eI .i64))] [Sm w.heap.size F w [], St w []] [] 57 rfl rfl mix rfl (.cons_cons _ (.cons_cons _ (.slnil))) (sels [0, 1] rfl) ?_
             refine wfv 0 rfl (v_move rfl) gn hns rfl ?_
             refine wfv 1 rfl (v_move rfl) gn hns rfl ?_
             refine wfv 2 rfl (v_move rfl) gn hns rfl ?_
             refine wfv 3 rfl (v_idxO slE_23 rfl rfl (Ow.weak hL2587.env.size h2594) hb3324) gn hns rfl ?_
             refine wfv 4 rfl (v_ldO1 (.int .i64 (ix r2589 x2814)) 1 ld_3 rfl rfl (fm_get0 (hlI .i64) hb3324 rfl)) gn hns rfl ?_
             refine wfv 6 rfl (v_move rfl) gn hns rfl ?_
             refine wf_all [5] (by kernel_rfl) rfl ⟨on_s 5 rfl gn rfl (s_call [.slice A2 n3 c4, .int .i64 (ix r2589 x2814)] rfl Try.func41 rfl rfl rfl fun w3671 hL3672 => ?_), trivial⟩
             have hp3673 : List.Perm ([.box gb3327 39 [.string ((ix x1 (ix r2589 x2814)).name), .bool ((ix x1 (ix r2589 x2814)).named), .string ((ix x1 (ix r2589 x2814)).field), .int .i64 ((ix x1 (ix r2589 x2814)).from_), .int .i64 ((ix x1 (ix r2589 x2814)).to), .int .i64 ((ix x1 (ix r2589 x2814)).kids), .int .i64 ((ix x1 (ix r2589 x2814)).leaf)], .own (.slice A2591 n2592 c2593) 3 1 n2592 (r2589.flatMap (eI .i64))] : List Ent) (([] : List Ent) ++ ([.box gb3327 39 [.string ((ix x1 (ix r2589 x2814)).name), .bool ((ix x1 (ix r2589 x2814)).named), .string ((ix x1 (ix r2589 x2814)).field), .int .i64 ((ix x1 (ix r2589 x2814)).from_), .int .i64 ((ix x1 (ix r2589 x2814)).to), .int .i64 ((ix x1 (ix r2589 x2814)).kids), .int .i64 ((ix x1 (ix r2589 x2814)).leaf)], .own (.slice A2591 n2592 c2593) 3 1 n2592 (r2589.flatMap (eI .i64))] : List Ent)) := perm_of_idx [] [0, 1] rfl rfl (by kernel_rfl)
             refine Calls.mono (tree_Parent_calls w3671 (Fl ([] : List Snap)) x1 (ix r2589 x2814) A2 n3 c4 (Rw.mono h5 (hL3672.toSt hp3673 (me 1 rfl))) (hL3672.hFl (Sl := ([] : List Snap)) hp3673 (sels [] rfl)) (hL3672.into hp3673 (Fl ([] : List Snap))) r3332 hv3333) ?_
             rintro _ w3674 ⟨rfl, hM3675⟩
             have hL3676 := hL3672.call hp3673 hM3675
             refine ⟨_, _, _, rfl, hL3676, ?_⟩
             refine ⟨sels [0, 1] rfl, sels [0, 1] rfl, ?_⟩
             refine wfv 7 rfl (v_bin rfl rfl rfl) gn hns rfl ?_
             refine wfv 8 rfl (v_move rfl) gn hns rfl ?_
             refine wf_bool 77 rfl ((eqib hp3337)) ?_
             refine wfv 9 rfl (v_move rfl) (gy 77 rfl rfl) hns rfl ?_
             refine wfv 10 rfl (v_bin rfl rfl rfl) (gy 77 rfl rfl) hns rfl ?_
             refine wfv 11 rfl (v_move rfl) (gy 77 rfl rfl) hns rfl ?_
             refine wf_bool 80 rfl ((nei hp3338)) ?_
             refine wfp 12 rfl (ps 80 rfl rfl rfl) hns rfl ?_
             refine wfp 13 rfl (ps 80 rfl rfl rfl) hns rfl ?_
             refine wfp 14 rfl (ps 80 rfl rfl rfl) hns rfl ?_
             refine wfp 15 rfl (ps 80 rfl rfl rfl) hns rfl ?_
             refine wfp 16 rfl (ps 80 rfl rfl rfl) hns rfl ?_
             refine wfp 17 rfl (ps 80 rfl rfl rfl) hns rfl ?_
             refine wfp 18 rfl (ps 80 rfl rfl rfl) hns rfl ?_
             refine wfp 19 rfl (ps 80 rfl rfl rfl) hns rfl ?_
             refine wfv 20 rfl (v_pick (b := false) rfl rfl) (gy 77 rfl rfl) hns rfl ?_
             refine wfv 21 rfl (v_pick (b := false) rfl rfl) gn hns rfl ?_
             refine wfv 22 rfl (v_move rfl) gn hns rfl ?_
             refine wfv 23 rfl (v_move rfl) (gy 91 rfl rfl) hns rfl ?_
             refine wfv 24 rfl (v_move rfl) (gy 91 rfl rfl) hns rfl ?_
             refine wfv 25 rfl (v_lenQ un_23 rfl (Ow.weak hL2587.env.size h2594).hq) (gy 91 rfl rfl) hns rfl ?_
             refine wfv 26 rfl (v_bin rfl rfl rfl) (gy 91 rfl rfl) hns rfl ?_
             refine wfv 27 rfl (v_bin rfl rfl rfl) (gy 91 rfl rfl) hns rfl ?_
             refine wfv 28 rfl (v_move rfl) (gy 91 rfl rfl) hns rfl ?_
             refine wf_bool 97 rfl ((eqi hp3592)) ?_
             refine wfv 29 rfl (v_fldB fo_39_4 rfl) (gy 97 rfl rfl) hns rfl ?_
             refine wfv 30 rfl (v_ldB1 0 ld_3 rfl rfl rfl) (gy 97 rfl rfl) hns rfl ?_
             refine wfv 31 rfl (v_move rfl) (gy 97 rfl rfl) hns rfl ?_
             refine wfv 32 rfl (v_move rfl) (gy 97 rfl rfl) hns rfl ?_
             have hr3677 := Rw.readF (s := St w []) (hl := hl_api_Node) (h1 := h1_api_Node) h5 hb2558
             refine wfv 33 rfl (v_idxR (s := St w []) slE_22 rfl rfl h5 hb2558) (gy 97 rfl rfl) hns rfl ?_
             refine wfv 34 rfl (v_fldA fo_39_4 rfl) (gy 97 rfl rfl) hns rfl ?_
             refine wfv 35 rfl (v_ldA1 (kk := (x1273 : Int).toNat * 7) (j := 4) (St w []) ld_3 rfl hr3677 rfl (me 1 rfl)) (gy 97 rfl rfl) hns rfl ?_
             refine wfv 36 rfl (v_bin rfl rfl rfl) (gy 97 rfl rfl) hns rfl ?_
             refine wfv 37 rfl (v_pick (b := true) rfl rfl) (gy 91 rfl rfl) hns rfl ?_
             refine wfv 38 rfl (v_pick (b := false) rfl rfl) gn hns rfl ?_
             refine wfv 39 rfl (v_move rfl) gn hns rfl ?_
             refine wf_bool 108 rfl ((eqib hp3594)) ?_
             refine wfv 40 rfl (v_move rfl) (gy 108 rfl rfl) hns rfl ?_
             refine wfv 41 rfl (v_bin rfl rfl rfl) (gy 108 rfl rfl) hns rfl ?_
             refine wfv 42 rfl (v_move rfl) (gy 108 rfl rfl) hns rfl ?_
             refine wf_bool 111 rfl ((decide_eq_false hp3595)) ?_
             refine wfp 43 rfl (ps 111 rfl rfl rfl) hns rfl ?_
             refine wfp 44 rfl (ps 111 rfl rfl rfl) hns rfl ?_
             refine wfp 45 rfl (ps 111 rfl rfl rfl) hns rfl ?_
             refine wfp 46 rfl (ps 111 rfl rfl rfl) hns rfl ?_
             refine wfp 47 rfl (ps 111 rfl rfl rfl) hns rfl ?_
             refine wfp 48 rfl (ps 111 rfl rfl rfl) hns rfl ?_
             refine wfp 49 rfl (ps 111 rfl rfl rfl) hns rfl ?_
             refine wfp 50 rfl (ps 111 rfl rfl rfl) hns rfl ?_
             refine wfp 51 rfl (ps 111 rfl rfl rfl) hns rfl ?_
             refine wfp 52 rfl (ps 111 rfl rfl rfl) hns rfl ?_
             refine wfp 53 rfl (ps 111 rfl rfl rfl) hns rfl ?_
             refine wfp 54 rfl (ps 111 rfl rfl rfl) hns rfl ?_
             refine wfv 55 rfl (v_pick (b := false) rfl rfl) (gy 108 rfl rfl) hns rfl ?_
             refine wfv 56 rfl (v_pick (b := false) rfl rfl) gn hns rfl ?_
             refine wf_end (by kernel_rfl) ?_
             refine g_false (c := q38c64) rfl _ rfl (rfl) ?_
             refine g_skip (c := q38c66) rfl ?_
             refine g_inBlock ?_
             refine g_region (c := q38c59) rfl rfl ?_
             refine wl_v 0 rfl (v_move rfl) gn rfl ?_
             refine wl_v 1 rfl (v_bin rfl rfl rfl) gn rfl ?_
             refine wl_v 2 rfl (v_assign rfl) gn rfl ?_
             refine w_end 3 rfl ?_
             refine g_inLoop ?_
             have ih := Out.inl hO2 h
             exact g_go [0, 1] (ih ()) ⟨rfl, rfl, rfl, rfl, rfl, trivial⟩ (.cons _ (.cons_cons _ (.slnil))) rfl
           ·have h := if_neg' hp3594 h
            have hns : Region.noSelect (Code.ops q38c63) = true := by kernel_rfl
            refine g_drawF (c := q38c63) [.box gb3327 39 [.string ((ix x1 (ix r2589 x2814)).name), .bool ((ix x1 (ix r2589 x2814)).named), .string ((ix x1 (ix r2589 x2814)).field), .int .i64 ((ix x1 (ix r2589 x2814)).from_), .int .i64 ((ix x1 (ix r2589 x2814)).to), .int .i64 ((ix x1 (ix r2589 x2814)).kids), .int .i64 ((ix x1 (ix r2589 x2814)).leaf)], .own (.slice A2591 n2592 c2593) 3 1 n2592 (r2589.flatMap (eI .i64))] [Sm w.heap.size F w [], St w []] [] 57 rfl rfl mix rfl (.cons_cons _ (.cons_cons _ (.slnil))) (sels [0, 1] rfl) ?_
            refine wfv 0 rfl (v_move rfl) gn hns rfl ?_
            refine wfv 1 rfl (v_move rfl) gn hns rfl ?_
            refine wfv 2 rfl (v_move rfl) gn hns rfl ?_
            refine wfv 3 rfl (v_idxO slE_23 rfl rfl (Ow.weak hL2587.env.size h2594) hb3324) gn hns rfl ?_
            refine wfv 4 rfl (v_ldO1 (.int .i64 (ix r2589 x2814)) 1 ld_3 rfl rfl (fm_get0 (hlI .i64) hb3324 rfl)) gn hns rfl ?_
            refine wfv 6 rfl (v_move rfl) gn hns rfl ?_
            refine wf_all [5] (by kernel_rfl) rfl ⟨on_s 5 rfl gn rfl (s_call [.slice A2 n3 c4, .int .i64 (ix r2589 x2814)] rfl Try.func41 rfl rfl rfl fun w3709 hL3710 => ?_), trivial⟩
            have hp3711 : List.Perm ([.box gb3327 39 [.string ((ix x1 (ix r2589 x2814)).name), .bool ((ix x1 (ix r2589 x2814)).named), .string ((ix x1 (ix r2589 x2814)).field), .int .i64 ((ix x1 (ix r2589 x2814)).from_), .int .i64 ((ix x1 (ix r2589 x2814)).to), .int .i64 ((ix x1 (ix r2589 x2814)).kids), .int .i64 ((ix x1 (ix r2589 x2814)).leaf)], .own (.slice A2591 n2592 c2593) 3 1 n2592 (r2589.flatMap (eI .i64))] : List Ent) (([] : List Ent) ++ ([.box gb3327 39 [.string ((ix x1 (ix r2589 x2814)).name), .bool ((ix x1 (ix r2589 x2814)).named), .string ((ix x1 (ix r2589 x2814)).field), .int .i64 ((ix x1 (ix r2589 x2814)).from_), .int .i64 ((ix x1 (ix r2589 x2814)).to), .int .i64 ((ix x1 (ix r2589 x2814)).kids), .int .i64 ((ix x1 (ix r2589 x2814)).leaf)], .own (.slice A2591 n2592 c2593) 3 1 n2592 (r2589.flatMap (eI .i64))] : List Ent)) := perm_of_idx [] [0, 1] rfl rfl (by kernel_rfl)
            refine Calls.mono (tree_Parent_calls w3709 (Fl ([] : List Snap)) x1 (ix r2589 x2814) A2 n3 c4 (Rw.mono h5 (hL3710.toSt hp3711 (me 1 rfl))) (hL3710.hFl (Sl := ([] : List Snap)) hp3711 (sels [] rfl)) (hL3710.into hp3711 (Fl ([] : List Snap))) r3332 hv3333) ?_
            rintro _ w3712 ⟨rfl, hM3713⟩
            have hL3714 := hL3710.call hp3711 hM3713
            refine ⟨_, _, _, rfl, hL3714, ?_⟩
            refine ⟨sels [0, 1] rfl, sels [0, 1] rfl, ?_⟩
            refine wfv 7 rfl (v_bin rfl rfl rfl) gn hns rfl ?_
            refine wfv 8 rfl (v_move rfl) gn hns rfl ?_
            refine wf_bool 77 rfl ((eqib hp3337)) ?_
            refine wfv 9 rfl (v_move rfl) (gy 77 rfl rfl) hns rfl ?_
            refine wfv 10 rfl (v_bin rfl rfl rfl) (gy 77 rfl rfl) hns rfl ?_
            refine wfv 11 rfl (v_move rfl) (gy 77 rfl rfl) hns rfl ?_
            refine wf_bool 80 rfl ((nei hp3338)) ?_
            refine wfp 12 rfl (ps 80 rfl rfl rfl) hns rfl ?_
            refine wfp 13 rfl (ps 80 rfl rfl rfl) hns rfl ?_
            refine wfp 14 rfl (ps 80 rfl rfl rfl) hns rfl ?_
            refine wfp 15 rfl (ps 80 rfl rfl rfl) hns rfl ?_
            refine wfp 16 rfl (ps 80 rfl rfl rfl) hns rfl ?_
            refine wfp 17 rfl (ps 80 rfl rfl rfl) hns rfl ?_
            refine wfp 18 rfl (ps 80 rfl rfl rfl) hns rfl ?_
            refine wfp 19 rfl (ps 80 rfl rfl rfl) hns rfl ?_
            refine wfv 20 rfl (v_pick (b := false) rfl rfl) (gy 77 rfl rfl) hns rfl ?_
            refine wfv 21 rfl (v_pick (b := false) rfl rfl) gn hns rfl ?_
            refine wfv 22 rfl (v_move rfl) gn hns rfl ?_
            refine wfv 23 rfl (v_move rfl) (gy 91 rfl rfl) hns rfl ?_
            refine wfv 24 rfl (v_move rfl) (gy 91 rfl rfl) hns rfl ?_
            refine wfv 25 rfl (v_lenQ un_23 rfl (Ow.weak hL2587.env.size h2594).hq) (gy 91 rfl rfl) hns rfl ?_
            refine wfv 26 rfl (v_bin rfl rfl rfl) (gy 91 rfl rfl) hns rfl ?_
            refine wfv 27 rfl (v_bin rfl rfl rfl) (gy 91 rfl rfl) hns rfl ?_
            refine wfv 28 rfl (v_move rfl) (gy 91 rfl rfl) hns rfl ?_
            refine wf_bool 97 rfl ((eqi hp3592)) ?_
            refine wfv 29 rfl (v_fldB fo_39_4 rfl) (gy 97 rfl rfl) hns rfl ?_
            refine wfv 30 rfl (v_ldB1 0 ld_3 rfl rfl rfl) (gy 97 rfl rfl) hns rfl ?_
            refine wfv 31 rfl (v_move rfl) (gy 97 rfl rfl) hns rfl ?_
            refine wfv 32 rfl (v_move rfl) (gy 97 rfl rfl) hns rfl ?_
            have hr3715 := Rw.readF (s := St w []) (hl := hl_api_Node) (h1 := h1_api_Node) h5 hb2558
            refine wfv 33 rfl (v_idxR (s := St w []) slE_22 rfl rfl h5 hb2558) (gy 97 rfl rfl) hns rfl ?_
            refine wfv 34 rfl (v_fldA fo_39_4 rfl) (gy 97 rfl rfl) hns rfl ?_
            refine wfv 35 rfl (v_ldA1 (kk := (x1273 : Int).toNat * 7) (j := 4) (St w []) ld_3 rfl hr3715 rfl (me 1 rfl)) (gy 97 rfl rfl) hns rfl ?_
            refine wfv 36 rfl (v_bin rfl rfl rfl) (gy 97 rfl rfl) hns rfl ?_
            refine wfv 37 rfl (v_pick (b := true) rfl rfl) (gy 91 rfl rfl) hns rfl ?_
            refine wfv 38 rfl (v_pick (b := false) rfl rfl) gn hns rfl ?_
            refine wfv 39 rfl (v_move rfl) gn hns rfl ?_
            refine wf_bool 108 rfl ((neib hp3594)) ?_
            refine wfp 40 rfl (ps 108 rfl rfl rfl) hns rfl ?_
            refine wfp 41 rfl (ps 108 rfl rfl rfl) hns rfl ?_
            refine wfp 42 rfl (ps 108 rfl rfl rfl) hns rfl ?_
            refine wfp 43 rfl (pu 111 rfl rfl) hns rfl ?_
            refine wfp 44 rfl (pu 111 rfl rfl) hns rfl ?_
            refine wfp 45 rfl (pu 111 rfl rfl) hns rfl ?_
            refine wfp 46 rfl (pu 111 rfl rfl) hns rfl ?_
            refine wfp 47 rfl (pu 111 rfl rfl) hns rfl ?_
            refine wfp 48 rfl (pu 111 rfl rfl) hns rfl ?_
            refine wfp 49 rfl (pu 111 rfl rfl) hns rfl ?_
            refine wfp 50 rfl (pu 111 rfl rfl) hns rfl ?_
            refine wfp 51 rfl (pu 111 rfl rfl) hns rfl ?_
            refine wfp 52 rfl (pu 111 rfl rfl) hns rfl ?_
            refine wfp 53 rfl (pu 111 rfl rfl) hns rfl ?_
            refine wfp 54 rfl (pu 111 rfl rfl) hns rfl ?_
            refine wfp 55 rfl (ps 108 rfl rfl rfl) hns rfl ?_
            refine wfv 56 rfl (v_pick (b := true) rfl rfl) gn hns rfl ?_
            refine wf_end (by kernel_rfl) ?_
            refine g_true (c := q38c64) rfl _ rfl (rfl) ?_
            refine g_seq (c := q38c65) rfl ?_
            refine g_region (c := q38c67) rfl rfl ?_
            refine wl_v 0 rfl (v_assign rfl) gn rfl ?_
            refine w_end 1 rfl ?_
            have h := Out.inr hO2 h
            have h := Out.inr hO1 h
            refine g_retR (c := q38c68) [.bool false] rfl Try.func38 rfl (.tmp rfl (.nil)) fun wr hLr => ?_
            have hMr : B.Loc w wr [] [St w []] := hLr.pick0 (sels [1] rfl)
            show trellislaw15_nested_R w F  r (.returned (packV [.bool false])) wr
            rw [h]
            exact ⟨rfl, hMr⟩
          ·have h := if_neg' hp3592 h
           by_cases hp3716 : x2814 > 0
           ·have h := if_pos' hp3716 h
            obtain ⟨hb3717, h⟩ := h
            obtain ⟨hb3718, h⟩ := h
            have hns : Region.noSelect (Code.ops q38c63) = true := by kernel_rfl
            refine g_drawF (c := q38c63) [.box gb3327 39 [.string ((ix x1 (ix r2589 x2814)).name), .bool ((ix x1 (ix r2589 x2814)).named), .string ((ix x1 (ix r2589 x2814)).field), .int .i64 ((ix x1 (ix r2589 x2814)).from_), .int .i64 ((ix x1 (ix r2589 x2814)).to), .int .i64 ((ix x1 (ix r2589 x2814)).kids), .int .i64 ((ix x1 (ix r2589 x2814)).leaf)], .own (.slice A2591 n2592 c2593) 3 1 n2592 (r2589.flatMap (eI .i64))] [Sm w.heap.size F w [], St w []] [] 57 rfl rfl mix rfl (.cons_cons _ (.cons_cons _ (.slnil))) (sels [0, 1] rfl) ?_
            refine wfv 0 rfl (v_move rfl) gn hns rfl ?_
            refine wfv 1 rfl (v_move rfl) gn hns rfl ?_
            refine wfv 2 rfl (v_move rfl) gn hns rfl ?_
            refine wfv 3 rfl (v_idxO slE_23 rfl rfl (Ow.weak hL2587.env.size h2594) hb3324) gn hns rfl ?_
            refine wfv 4 rfl (v_ldO1 (.int .i64 (ix r2589 x2814)) 1 ld_3 rfl rfl (fm_get0 (hlI .i64) hb3324 rfl)) gn hns rfl ?_
            refine wfv 6 rfl (v_move rfl) gn hns rfl ?_
            refine wf_all [5] (by kernel_rfl) rfl ⟨on_s 5 rfl gn rfl (s_call [.slice A2 n3 c4, .int .i64 (ix r2589 x2814)] rfl Try.func41 rfl rfl rfl fun w3751 hL3752 => ?_), trivial⟩
            have hp3753 : List.Perm ([.box gb3327 39 [.string ((ix x1 (ix r2589 x2814)).name), .bool ((ix x1 (ix r2589 x2814)).named), .string ((ix x1 (ix r2589 x2814)).field), .int .i64 ((ix x1 (ix r2589 x2814)).from_), .int .i64 ((ix x1 (ix r2589 x2814)).to), .int .i64 ((ix x1 (ix r2589 x2814)).kids), .int .i64 ((ix x1 (ix r2589 x2814)).leaf)], .own (.slice A2591 n2592 c2593) 3 1 n2592 (r2589.flatMap (eI .i64))] : List Ent) (([] : List Ent) ++ ([.box gb3327 39 [.string ((ix x1 (ix r2589 x2814)).name), .bool ((ix x1 (ix r2589 x2814)).named), .string ((ix x1 (ix r2589 x2814)).field), .int .i64 ((ix x1 (ix r2589 x2814)).from_), .int .i64 ((ix x1 (ix r2589 x2814)).to), .int .i64 ((ix x1 (ix r2589 x2814)).kids), .int .i64 ((ix x1 (ix r2589 x2814)).leaf)], .own (.slice A2591 n2592 c2593) 3 1 n2592 (r2589.flatMap (eI .i64))] : List Ent)) := perm_of_idx [] [0, 1] rfl rfl (by kernel_rfl)
            refine Calls.mono (tree_Parent_calls w3751 (Fl ([] : List Snap)) x1 (ix r2589 x2814) A2 n3 c4 (Rw.mono h5 (hL3752.toSt hp3753 (me 1 rfl))) (hL3752.hFl (Sl := ([] : List Snap)) hp3753 (sels [] rfl)) (hL3752.into hp3753 (Fl ([] : List Snap))) r3332 hv3333) ?_
            rintro _ w3754 ⟨rfl, hM3755⟩
            have hL3756 := hL3752.call hp3753 hM3755
            refine ⟨_, _, _, rfl, hL3756, ?_⟩
            refine ⟨sels [0, 1] rfl, sels [0, 1] rfl, ?_⟩
            refine wfv 7 rfl (v_bin rfl rfl rfl) gn hns rfl ?_
            refine wfv 8 rfl (v_move rfl) gn hns rfl ?_
            refine wf_bool 77 rfl ((eqib hp3337)) ?_
            refine wfv 9 rfl (v_move rfl) (gy 77 rfl rfl) hns rfl ?_
            refine wfv 10 rfl (v_bin rfl rfl rfl) (gy 77 rfl rfl) hns rfl ?_
            refine wfv 11 rfl (v_move rfl) (gy 77 rfl rfl) hns rfl ?_
            refine wf_bool 80 rfl ((nei hp3338)) ?_
            refine wfp 12 rfl (ps 80 rfl rfl rfl) hns rfl ?_
            refine wfp 13 rfl (ps 80 rfl rfl rfl) hns rfl ?_
            refine wfp 14 rfl (ps 80 rfl rfl rfl) hns rfl ?_
            refine wfp 15 rfl (ps 80 rfl rfl rfl) hns rfl ?_
            refine wfp 16 rfl (ps 80 rfl rfl rfl) hns rfl ?_
            refine wfp 17 rfl (ps 80 rfl rfl rfl) hns rfl ?_
            refine wfp 18 rfl (ps 80 rfl rfl rfl) hns rfl ?_
            refine wfp 19 rfl (ps 80 rfl rfl rfl) hns rfl ?_
            refine wfv 20 rfl (v_pick (b := false) rfl rfl) (gy 77 rfl rfl) hns rfl ?_
            refine wfv 21 rfl (v_pick (b := false) rfl rfl) gn hns rfl ?_
            refine wfv 22 rfl (v_move rfl) gn hns rfl ?_
            refine wfv 23 rfl (v_move rfl) (gy 91 rfl rfl) hns rfl ?_
            refine wfv 24 rfl (v_move rfl) (gy 91 rfl rfl) hns rfl ?_
            refine wfv 25 rfl (v_lenQ un_23 rfl (Ow.weak hL2587.env.size h2594).hq) (gy 91 rfl rfl) hns rfl ?_
            refine wfv 26 rfl (v_bin rfl rfl rfl) (gy 91 rfl rfl) hns rfl ?_
            refine wfv 27 rfl (v_bin rfl rfl rfl) (gy 91 rfl rfl) hns rfl ?_
            refine wfv 28 rfl (v_move rfl) (gy 91 rfl rfl) hns rfl ?_
            refine wf_bool 97 rfl ((nei hp3592)) ?_
            refine wfp 29 rfl (ps 97 rfl rfl rfl) hns rfl ?_
            refine wfp 30 rfl (ps 97 rfl rfl rfl) hns rfl ?_
            refine wfp 31 rfl (ps 97 rfl rfl rfl) hns rfl ?_
            refine wfp 32 rfl (ps 97 rfl rfl rfl) hns rfl ?_
            refine wfp 33 rfl (ps 97 rfl rfl rfl) hns rfl ?_
            refine wfp 34 rfl (ps 97 rfl rfl rfl) hns rfl ?_
            refine wfp 35 rfl (ps 97 rfl rfl rfl) hns rfl ?_
            refine wfp 36 rfl (ps 97 rfl rfl rfl) hns rfl ?_
            refine wfv 37 rfl (v_pick (b := false) rfl rfl) (gy 91 rfl rfl) hns rfl ?_
            refine wfv 38 rfl (v_pick (b := false) rfl rfl) gn hns rfl ?_
            refine wfv 39 rfl (v_move rfl) gn hns rfl ?_
            refine wfv 40 rfl (v_move rfl) (gy 108 rfl rfl) hns rfl ?_
            refine wfv 41 rfl (v_bin rfl rfl rfl) (gy 108 rfl rfl) hns rfl ?_
            refine wfv 42 rfl (v_move rfl) (gy 108 rfl rfl) hns rfl ?_
            refine wf_bool 111 rfl ((decide_eq_true hp3716)) ?_
            refine wfv 43 rfl (v_move rfl) (gy 111 rfl rfl) hns rfl ?_
            refine wfv 44 rfl (v_move rfl) (gy 111 rfl rfl) hns rfl ?_
            refine wfv 45 rfl (v_move rfl) (gy 111 rfl rfl) hns rfl ?_
            refine wfv 46 rfl (v_bin rfl rfl rfl) (gy 111 rfl rfl) hns rfl ?_
            refine wfv 47 rfl (v_idxO slE_23 rfl rfl (Ow.weak hL2587.env.size h2594) hb3717) (gy 111 rfl rfl) hns rfl ?_
            refine wfv 48 rfl (v_ldO1 (.int .i64 (ix r2589 (w64 (x2814 - 1)))) 1 ld_3 rfl rfl (fm_get0 (hlI .i64) hb3717 rfl)) (gy 111 rfl rfl) hns rfl ?_
            have hr3757 := Rw.readF (s := St w []) (hl := hl_api_Node) (h1 := h1_api_Node) h5 hb3718
            refine wfv 49 rfl (v_idxR (s := St w []) slE_22 rfl rfl h5 hb3718) (gy 111 rfl rfl) hns rfl ?_
            refine wfv 50 rfl (v_fldA fo_39_4 rfl) (gy 111 rfl rfl) hns rfl ?_
            refine wfv 51 rfl (v_ldA1 (kk := (ix r2589 (w64 (x2814 - 1)) : Int).toNat * 7) (j := 4) (St w []) ld_3 rfl hr3757 rfl (me 1 rfl)) (gy 111 rfl rfl) hns rfl ?_
            refine wfv 52 rfl (v_fldB fo_39_3 rfl) (gy 111 rfl rfl) hns rfl ?_
            refine wfv 53 rfl (v_ldB1 0 ld_3 rfl rfl rfl) (gy 111 rfl rfl) hns rfl ?_
            refine wfv 54 rfl (v_bin rfl rfl rfl) (gy 111 rfl rfl) hns rfl ?_
            refine wfv 55 rfl (v_pick (b := true) rfl rfl) (gy 108 rfl rfl) hns rfl ?_
            refine wfv 56 rfl (v_pick (b := false) rfl rfl) gn hns rfl ?_
            refine wf_end (by kernel_rfl) ?_
            by_cases hp3758 : (ix x1 (ix r2589 (w64 (x2814 - 1)))).to > (ix x1 (ix r2589 x2814)).from_
            ·have h := if_pos' hp3758 h
             refine g_true (c := q38c64) rfl _ rfl ((decide_eq_true hp3758)) ?_
             refine g_seq (c := q38c65) rfl ?_
             refine g_region (c := q38c67) rfl rfl ?_
             refine wl_v 0 rfl (v_assign rfl) gn rfl ?_
             refine w_end 1 rfl ?_
             have h := Out.inr hO2 h
             have h := Out.inr hO1 h
             refine g_retR (c := q38c68) [.bool false] rfl Try.func38 rfl (.tmp rfl (.nil)) fun wr hLr => ?_
             have hMr : B.Loc w wr [] [St w []] := hLr.pick0 (sels [1] rfl)
             show trellislaw15_nested_R w F  r (.returned (packV [.bool false])) wr
             rw [h]
             exact ⟨rfl, hMr⟩
            ·have h := if_neg' hp3758 h
             refine g_false (c := q38c64) rfl _ rfl ((decide_eq_false hp3758)) ?_
             refine g_skip (c := q38c66) rfl ?_
             refine g_inBlock ?_
             refine g_region (c := q38c59) rfl rfl ?_
             refine wl_v 0 rfl (v_move rfl) gn rfl ?_
             refine wl_v 1 rfl (v_bin rfl rfl rfl) gn rfl ?_
             refine wl_v 2 rfl (v_assign rfl) gn rfl ?_
             refine w_end 3 rfl ?_
             refine g_inLoop ?_
             have ih := Out.inl hO2 h
             exact g_go [0, 1] (ih ()) ⟨rfl, rfl, rfl, rfl, rfl, trivial⟩ (.cons _ (.cons_cons _ (.slnil))) rfl
           ·have h := if_neg' hp3716 h
            have hns : Region.noSelect (Code.ops q38c63) = true := by kernel_rfl
            refine g_drawF (c := q38c63) [.box gb3327 39 [.string ((ix x1 (ix r2589 x2814)).name), .bool ((ix x1 (ix r2589 x2814)).named), .string ((ix x1 (ix r2589 x2814)).field), .int .i64 ((ix x1 (ix r2589 x2814)).from_), .int .i64 ((ix x1 (ix r2589 x2814)).to), .int .i64 ((ix x1 (ix r2589 x2814)).kids), .int .i64 ((ix x1 (ix r2589 x2814)).leaf)], .own (.slice A2591 n2592 c2593) 3 1 n2592 (r2589.flatMap (eI .i64))] [Sm w.heap.size F w [], St w []] [] 57 rfl rfl mix rfl (.cons_cons _ (.cons_cons _ (.slnil))) (sels [0, 1] rfl) ?_
            refine wfv 0 rfl (v_move rfl) gn hns rfl ?_
            refine wfv 1 rfl (v_move rfl) gn hns rfl ?_
            refine wfv 2 rfl (v_move rfl) gn hns rfl ?_
            refine wfv 3 rfl (v_idxO slE_23 rfl rfl (Ow.weak hL2587.env.size h2594) hb3324) gn hns rfl ?_
            refine wfv 4 rfl (v_ldO1 (.int .i64 (ix r2589 x2814)) 1 ld_3 rfl rfl (fm_get0 (hlI .i64) hb3324 rfl)) gn hns rfl ?_
            refine wfv 6 rfl (v_move rfl) gn hns rfl ?_
            refine wf_all [5] (by kernel_rfl) rfl ⟨on_s 5 rfl gn rfl (s_call [.slice A2 n3 c4, .int .i64 (ix r2589 x2814)] rfl Try.func41 rfl rfl rfl fun w3789 hL3790 => ?_), trivial⟩
            have hp3791 : List.Perm ([.box gb3327 39 [.string ((ix x1 (ix r2589 x2814)).name), .bool ((ix x1 (ix r2589 x2814)).named), .string ((ix x1 (ix r2589 x2814)).field), .int .i64 ((ix x1 (ix r2589 x2814)).from_), .int .i64 ((ix x1 (ix r2589 x2814)).to), .int .i64 ((ix x1 (ix r2589 x2814)).kids), .int .i64 ((ix x1 (ix r2589 x2814)).leaf)], .own (.slice A2591 n2592 c2593) 3 1 n2592 (r2589.flatMap (eI .i64))] : List Ent) (([] : List Ent) ++ ([.box gb3327 39 [.string ((ix x1 (ix r2589 x2814)).name), .bool ((ix x1 (ix r2589 x2814)).named), .string ((ix x1 (ix r2589 x2814)).field), .int .i64 ((ix x1 (ix r2589 x2814)).from_), .int .i64 ((ix x1 (ix r2589 x2814)).to), .int .i64 ((ix x1 (ix r2589 x2814)).kids), .int .i64 ((ix x1 (ix r2589 x2814)).leaf)], .own (.slice A2591 n2592 c2593) 3 1 n2592 (r2589.flatMap (eI .i64))] : List Ent)) := perm_of_idx [] [0, 1] rfl rfl (by kernel_rfl)
            refine Calls.mono (tree_Parent_calls w3789 (Fl ([] : List Snap)) x1 (ix r2589 x2814) A2 n3 c4 (Rw.mono h5 (hL3790.toSt hp3791 (me 1 rfl))) (hL3790.hFl (Sl := ([] : List Snap)) hp3791 (sels [] rfl)) (hL3790.into hp3791 (Fl ([] : List Snap))) r3332 hv3333) ?_
            rintro _ w3792 ⟨rfl, hM3793⟩
            have hL3794 := hL3790.call hp3791 hM3793
            refine ⟨_, _, _, rfl, hL3794, ?_⟩
            refine ⟨sels [0, 1] rfl, sels [0, 1] rfl, ?_⟩
            refine wfv 7 rfl (v_bin rfl rfl rfl) gn hns rfl ?_
            refine wfv 8 rfl (v_move rfl) gn hns rfl ?_
            refine wf_bool 77 rfl ((eqib hp3337)) ?_
            refine wfv 9 rfl (v_move rfl) (gy 77 rfl rfl) hns rfl ?_
            refine wfv 10 rfl (v_bin rfl rfl rfl) (gy 77 rfl rfl) hns rfl ?_
            refine wfv 11 rfl (v_move rfl) (gy 77 rfl rfl) hns rfl ?_
            refine wf_bool 80 rfl ((nei hp3338)) ?_
            refine wfp 12 rfl (ps 80 rfl rfl rfl) hns rfl ?_
            refine wfp 13 rfl (ps 80 rfl rfl rfl) hns rfl ?_
            refine wfp 14 rfl (ps 80 rfl rfl rfl) hns rfl ?_
            refine wfp 15 rfl (ps 80 rfl rfl rfl) hns rfl ?_
            refine wfp 16 rfl (ps 80 rfl rfl rfl) hns rfl ?_
            refine wfp 17 rfl (ps 80 rfl rfl rfl) hns rfl ?_
            refine wfp 18 rfl (ps 80 rfl rfl rfl) hns rfl ?_
            refine wfp 19 rfl (ps 80 rfl rfl rfl) hns rfl ?_
            refine wfv 20 rfl (v_pick (b := false) rfl rfl) (gy 77 rfl rfl) hns rfl ?_
            refine wfv 21 rfl (v_pick (b := false) rfl rfl) gn hns rfl ?_
            refine wfv 22 rfl (v_move rfl) gn hns rfl ?_
            refine wfv 23 rfl (v_move rfl) (gy 91 rfl rfl) hns rfl ?_
            refine wfv 24 rfl (v_move rfl) (gy 91 rfl rfl) hns rfl ?_
            refine wfv 25 rfl (v_lenQ un_23 rfl (Ow.weak hL2587.env.size h2594).hq) (gy 91 rfl rfl) hns rfl ?_
            refine wfv 26 rfl (v_bin rfl rfl rfl) (gy 91 rfl rfl) hns rfl ?_
            refine wfv 27 rfl (v_bin rfl rfl rfl) (gy 91 rfl rfl) hns rfl ?_
            refine wfv 28 rfl (v_move rfl) (gy 91 rfl rfl) hns rfl ?_
            refine wf_bool 97 rfl ((nei hp3592)) ?_
            refine wfp 29 rfl (ps 97 rfl rfl rfl) hns rfl ?_
            refine wfp 30 rfl (ps 97 rfl rfl rfl) hns rfl ?_
            refine wfp 31 rfl (ps 97 rfl rfl rfl) hns rfl ?_
            refine wfp 32 rfl (ps 97 rfl rfl rfl) hns rfl ?_
            refine wfp 33 rfl (ps 97 rfl rfl rfl) hns rfl ?_
            refine wfp 34 rfl (ps 97 rfl rfl rfl) hns rfl ?_
            refine wfp 35 rfl (ps 97 rfl rfl rfl) hns rfl ?_
            refine wfp 36 rfl (ps 97 rfl rfl rfl) hns rfl ?_
            refine wfv 37 rfl (v_pick (b := false) rfl rfl) (gy 91 rfl rfl) hns rfl ?_
            refine wfv 38 rfl (v_pick (b := false) rfl rfl) gn hns rfl ?_
            refine wfv 39 rfl (v_move rfl) gn hns rfl ?_
            refine wfv 40 rfl (v_move rfl) (gy 108 rfl rfl) hns rfl ?_
            refine wfv 41 rfl (v_bin rfl rfl rfl) (gy 108 rfl rfl) hns rfl ?_
            refine wfv 42 rfl (v_move rfl) (gy 108 rfl rfl) hns rfl ?_
            refine wf_bool 111 rfl ((decide_eq_false hp3716)) ?_
            refine wfp 43 rfl (ps 111 rfl rfl rfl) hns rfl ?_
            refine wfp 44 rfl (ps 111 rfl rfl rfl) hns rfl ?_
            refine wfp 45 rfl (ps 111 rfl rfl rfl) hns rfl ?_
            refine wfp 46 rfl (ps 111 rfl rfl rfl) hns rfl ?_
            refine wfp 47 rfl (ps 111 rfl rfl rfl) hns rfl ?_
            refine wfp 48 rfl (ps 111 rfl rfl rfl) hns rfl ?_
            refine wfp 49 rfl (ps 111 rfl rfl rfl) hns rfl ?_
            refine wfp 50 rfl (ps 111 rfl rfl rfl) hns rfl ?_
            refine wfp 51 rfl (ps 111 rfl rfl rfl) hns rfl ?_
            refine wfp 52 rfl (ps 111 rfl rfl rfl) hns rfl ?_
            refine wfp 53 rfl (ps 111 rfl rfl rfl) hns rfl ?_
            refine wfp 54 rfl (ps 111 rfl rfl rfl) hns rfl ?_
            refine wfv 55 rfl (v_pick (b := false) rfl rfl) (gy 108 rfl rfl) hns rfl ?_
            refine wfv 56 rfl (v_pick (b := false) rfl rfl) gn hns rfl ?_
            refine wf_end (by kernel_rfl) ?_
            refine g_false (c := q38c64) rfl _ rfl (rfl) ?_
            refine g_skip (c := q38c66) rfl ?_
            refine g_inBlock ?_
            refine g_region (c := q38c59) rfl rfl ?_
            refine wl_v 0 rfl (v_move rfl) gn rfl ?_
            refine wl_v 1 rfl (v_bin rfl rfl rfl) gn rfl ?_
            refine wl_v 2 rfl (v_assign rfl) gn rfl ?_
            refine w_end 3 rfl ?_
            refine g_inLoop ?_
            have ih := Out.inl hO2 h
            exact g_go [0, 1] (ih ()) ⟨rfl, rfl, rfl, rfl, rfl, trivial⟩ (.cons _ (.cons_cons _ (.slnil))) rfl
        ·have h := if_neg' hp3337 h
         have hns : Region.noSelect (Code.ops q38c63) = true := by kernel_rfl
         refine g_drawF (c := q38c63) [.box gb3327 39 [.string ((ix x1 (ix r2589 x2814)).name), .bool ((ix x1 (ix r2589 x2814)).named), .string ((ix x1 (ix r2589 x2814)).field), .int .i64 ((ix x1 (ix r2589 x2814)).from_), .int .i64 ((ix x1 (ix r2589 x2814)).to), .int .i64 ((ix x1 (ix r2589 x2814)).kids), .int .i64 ((ix x1 (ix r2589 x2814)).leaf)], .own (.slice A2591 n2592 c2593) 3 1 n2592 (r2589.flatMap (eI .i64))] [Sm w.heap.size F w [], St w []] [] 57 rfl rfl mix rfl (.cons_cons _ (.cons_cons _ (.slnil))) (sels [0, 1] rfl) ?_
         refine wfv 0 rfl (v_move rfl) gn hns rfl ?_
         refine wfv 1 rfl (v_move rfl) gn hns rfl ?_
         refine wfv 2 rfl (v_move rfl) gn hns rfl ?_
         refine wfv 3 rfl (v_idxO slE_23 rfl rfl (Ow.weak hL2587.env.size h2594) hb3324) gn hns rfl ?_
         refine wfv 4 rfl (v_ldO1 (.int .i64 (ix r2589 x2814)) 1 ld_3 rfl rfl (fm_get0 (hlI .i64) hb3324 rfl)) gn hns rfl ?_
         refine wfv 6 rfl (v_move rfl) gn hns rfl ?_
         refine wf_all [5] (by kernel_rfl) rfl ⟨on_s 5 rfl gn rfl (s_call [.slice A2 n3 c4, .int .i64 (ix r2589 x2814)] rfl Try.func41 rfl rfl rfl fun w3825 hL3826 => ?_), trivial⟩
         have hp3827 : List.Perm ([.box gb3327 39 [.string ((ix x1 (ix r2589 x2814)).name), .bool ((ix x1 (ix r2589 x2814)).named), .string ((ix x1 (ix r2589 x2814)).field), .int .i64 ((ix x1 (ix r2589 x2814)).from_), .int .i64 ((ix x1 (ix r2589 x2814)).to), .int .i64 ((ix x1 (ix r2589 x2814)).kids), .int .i64 ((ix x1 (ix r2589 x2814)).leaf)], .own (.slice A2591 n2592 c2593) 3 1 n2592 (r2589.flatMap (eI .i64))] : List Ent) (([] : List Ent) ++ ([.box gb3327 39 [.string ((ix x1 (ix r2589 x2814)).name), .bool ((ix x1 (ix r2589 x2814)).named), .string ((ix x1 (ix r2589 x2814)).field), .int .i64 ((ix x1 (ix r2589 x2814)).from_), .int .i64 ((ix x1 (ix r2589 x2814)).to), .int .i64 ((ix x1 (ix r2589 x2814)).kids), .int .i64 ((ix x1 (ix r2589 x2814)).leaf)], .own (.slice A2591 n2592 c2593) 3 1 n2592 (r2589.flatMap (eI .i64))] : List Ent)) := perm_of_idx [] [0, 1] rfl rfl (by kernel_rfl)
         refine Calls.mono (tree_Parent_calls w3825 (Fl ([] : List Snap)) x1 (ix r2589 x2814) A2 n3 c4 (Rw.mono h5 (hL3826.toSt hp3827 (me 1 rfl))) (hL3826.hFl (Sl := ([] : List Snap)) hp3827 (sels [] rfl)) (hL3826.into hp3827 (Fl ([] : List Snap))) r3332 hv3333) ?_
         rintro _ w3828 ⟨rfl, hM3829⟩
         have hL3830 := hL3826.call hp3827 hM3829
         refine ⟨_, _, _, rfl, hL3830, ?_⟩
         refine ⟨sels [0, 1] rfl, sels [0, 1] rfl, ?_⟩
         refine wfv 7 rfl (v_bin rfl rfl rfl) gn hns rfl ?_
         refine wfv 8 rfl (v_move rfl) gn hns rfl ?_
         refine wf_bool 77 rfl ((neib hp3337)) ?_
         refine wfp 9 rfl (ps 77 rfl rfl rfl) hns rfl ?_
         refine wfp 10 rfl (ps 77 rfl rfl rfl) hns rfl ?_
         refine wfp 11 rfl (ps 77 rfl rfl rfl) hns rfl ?_
         refine wfp 12 rfl (pu 80 rfl rfl) hns rfl ?_
         refine wfp 13 rfl (pu 80 rfl rfl) hns rfl ?_
         refine wfp 14 rfl (pu 80 rfl rfl) hns rfl ?_
         refine wfp 15 rfl (pu 80 rfl rfl) hns rfl ?_
         refine wfp 16 rfl (pu 80 rfl rfl) hns rfl ?_
         refine wfp 17 rfl (pu 80 rfl rfl) hns rfl ?_
         refine wfp 18 rfl (pu 80 rfl rfl) hns rfl ?_
         refine wfp 19 rfl (pu 80 rfl rfl) hns rfl ?_
         refine wfp 20 rfl (ps 77 rfl rfl rfl) hns rfl ?_
         refine wfv 21 rfl (v_pick (b := true) rfl rfl) gn hns rfl ?_
         refine wfv 22 rfl (v_move rfl) gn hns rfl ?_
         refine wfp 23 rfl (ps 91 rfl rfl rfl) hns rfl ?_
         refine wfp 24 rfl (ps 91 rfl rfl rfl) hns rfl ?_
         refine wfp 25 rfl (ps 91 rfl rfl rfl) hns rfl ?_
         refine wfp 26 rfl (ps 91 rfl rfl rfl) hns rfl ?_
         refine wfp 27 rfl (ps 91 rfl rfl rfl) hns rfl ?_
         refine wfp 28 rfl (ps 91 rfl rfl rfl) hns rfl ?_
         refine wfp 29 rfl (pu 97 rfl rfl) hns rfl ?_
         refine wfp 30 rfl (pu 97 rfl rfl) hns rfl ?_
         refine wfp 31 rfl (pu 97 rfl rfl) hns rfl ?_
         refine wfp 32 rfl (pu 97 rfl rfl) hns rfl ?_
         refine wfp 33 rfl (pu 97 rfl rfl) hns rfl ?_
         refine wfp 34 rfl (pu 97 rfl rfl) hns rfl ?_
         refine wfp 35 rfl (pu 97 rfl rfl) hns rfl ?_
         refine wfp 36 rfl (pu 97 rfl rfl) hns rfl ?_
         refine wfp 37 rfl (ps 91 rfl rfl rfl) hns rfl ?_
         refine wfv 38 rfl (v_pick (b := true) rfl rfl) gn hns rfl ?_
         refine wfv 39 rfl (v_move rfl) gn hns rfl ?_
         refine wfp 40 rfl (ps 108 rfl rfl rfl) hns rfl ?_
         refine wfp 41 rfl (ps 108 rfl rfl rfl) hns rfl ?_
         refine wfp 42 rfl (ps 108 rfl rfl rfl) hns rfl ?_
         refine wfp 43 rfl (pu 111 rfl rfl) hns rfl ?_
         refine wfp 44 rfl (pu 111 rfl rfl) hns rfl ?_
         refine wfp 45 rfl (pu 111 rfl rfl) hns rfl ?_
         refine wfp 46 rfl (pu 111 rfl rfl) hns rfl ?_
         refine wfp 47 rfl (pu 111 rfl rfl) hns rfl ?_
         refine wfp 48 rfl (pu 111 rfl rfl) hns rfl ?_
         refine wfp 49 rfl (pu 111 rfl rfl) hns rfl ?_
         refine wfp 50 rfl (pu 111 rfl rfl) hns rfl ?_
         refine wfp 51 rfl (pu 111 rfl rfl) hns rfl ?_
         refine wfp 52 rfl (pu 111 rfl rfl) hns rfl ?_
         refine wfp 53 rfl (pu 111 rfl rfl) hns rfl ?_
         refine wfp 54 rfl (pu 111 rfl rfl) hns rfl ?_
         refine wfp 55 rfl (ps 108 rfl rfl rfl) hns rfl ?_
         refine wfv 56 rfl (v_pick (b := true) rfl rfl) gn hns rfl ?_
         refine wf_end (by kernel_rfl) ?_
         refine g_true (c := q38c64) rfl _ rfl (rfl) ?_
         refine g_seq (c := q38c65) rfl ?_
         refine g_region (c := q38c67) rfl rfl ?_
         refine wl_v 0 rfl (v_assign rfl) gn rfl ?_
         refine w_end 1 rfl ?_
         have h := Out.inr hO2 h
         have h := Out.inr hO1 h
         refine g_retR (c := q38c68) [.bool false] rfl Try.func38 rfl (.tmp rfl (.nil)) fun wr hLr => ?_
         have hMr : B.Loc w wr [] [St w []] := hLr.pick0 (sels [1] rfl)
         show trellislaw15_nested_R w F  r (.returned (packV [.bool false])) wr
         rw [h]
         exact ⟨rfl, hMr⟩
       ·have h := if_neg' hp3323 h
        refine g_false (c := q38c55) rfl _ rfl ((decide_eq_false hp3323)) ?_
        refine g_exit (c := q38c57) [.inBlock 1, .code q38c18, .inLoop q38c10, .inBlock 0, .code q38c6] rfl rfl ?_
        refine g_inBlock ?_
        refine g_region (c := q38c18) rfl rfl ?_
        refine wl_v 0 rfl (v_move rfl) gn rfl ?_
        refine wl_v 1 rfl (v_bin rfl rfl rfl) gn rfl ?_
        refine wl_v 2 rfl (v_assign rfl) gn rfl ?_
        refine w_end 3 rfl ?_
        refine g_inLoop ?_
        have h := Out.inr hO2 h
        have ih := Out.inl hO1 h
        exact g_go [0, 1] (ih ()) ⟨rfl, rfl, rfl, trivial⟩ (.cons _ (.slnil)) rfl
      exact g_go [0, 1] (key3 _ h ()) ⟨rfl, rfl, rfl, rfl, rfl, trivial⟩ (.cons_cons _ (.slnil)) rfl
     ·have h := if_neg' hp2600 h
      refine g_true (c := q38c45) rfl _ rfl ((neib hp2600)) ?_
      refine g_seq (c := q38c46) rfl ?_
      refine g_region (c := q38c69) rfl rfl ?_
      refine wl_v 0 rfl (v_assign rfl) gn rfl ?_
      refine w_end 1 rfl ?_
      have h := Out.inr hO1 h
      refine g_retR (c := q38c70) [.bool false] rfl Try.func38 rfl (.tmp rfl (.nil)) fun wr hLr => ?_
      have hMr : B.Loc w wr [] [St w []] := hLr.pick0 (sels [1] rfl)
      show trellislaw15_nested_R w F  r (.returned (packV [.bool false])) wr
      rw [h]
      exact ⟨rfl, hMr⟩
    by_cases hp2574 : r2569 = -1
    ·have h := if_pos' hp2574 h
     refine g_true (c := q38c31) rfl _ rfl ((eqi hp2574)) ?_
     refine g_seq (c := q38c32) rfl ?_
     refine g_seq (c := q38c34) rfl ?_
     by_cases hp3831 : x1272 ≥ 0
     ·have h := if_pos' hp3831 h
      obtain ⟨hb3832, h⟩ := h
      have hns : Region.noSelect (Code.ops q38c36) = true := by kernel_rfl
      refine g_drawF (c := q38c36) [] [Sm w.heap.size F w [], St w []] [] 15 rfl rfl mix rfl (.slnil) (sels [0, 1] rfl) ?_
      refine wfv 0 rfl (v_move rfl) gn hns rfl ?_
      refine wfv 1 rfl (v_bin rfl rfl rfl) gn hns rfl ?_
      refine wfv 2 rfl (v_move rfl) gn hns rfl ?_
      refine wf_bool 31 rfl ((decide_eq_true hp3831)) ?_
      refine wfv 3 rfl (v_move rfl) (gy 31 rfl rfl) hns rfl ?_
      refine wfv 4 rfl (v_move rfl) (gy 31 rfl rfl) hns rfl ?_
      have hr3837 := Rw.readF (s := St w []) (hl := hl_api_Node) (h1 := h1_api_Node) h5 hb3832
      refine wfv 5 rfl (v_idxR (s := St w []) slE_22 rfl rfl h5 hb3832) (gy 31 rfl rfl) hns rfl ?_
      refine wfv 6 rfl (v_fldA fo_39_4 rfl) (gy 31 rfl rfl) hns rfl ?_
      refine wfv 7 rfl (v_ldA1 (kk := (x1272 : Int).toNat * 7) (j := 4) (St w []) ld_3 rfl hr3837 rfl (me 1 rfl)) (gy 31 rfl rfl) hns rfl ?_
      refine wfv 8 rfl (v_move rfl) (gy 31 rfl rfl) hns rfl ?_
      refine wfv 9 rfl (v_move rfl) (gy 31 rfl rfl) hns rfl ?_
      have hr3838 := Rw.readF (s := St w []) (hl := hl_api_Node) (h1 := h1_api_Node) h5 hb2558
      refine wfv 10 rfl (v_idxR (s := St w []) slE_22 rfl rfl h5 hb2558) (gy 31 rfl rfl) hns rfl ?_
      refine wfv 11 rfl (v_fldA fo_39_3 rfl) (gy 31 rfl rfl) hns rfl ?_
      refine wfv 12 rfl (v_ldA1 (kk := (x1273 : Int).toNat * 7) (j := 3) (St w []) ld_3 rfl hr3838 rfl (me 1 rfl)) (gy 31 rfl rfl) hns rfl ?_
      refine wfv 13 rfl (v_bin rfl rfl rfl) (gy 31 rfl rfl) hns rfl ?_
      refine wfv 14 rfl (v_pick (b := true) rfl rfl) gn hns rfl ?_
      refine wf_end (by kernel_rfl) ?_
      by_cases hp3839 : (ix x1 x1272).to > (ix x1 x1273).from_
      ·have h := if_pos' hp3839 h
       refine g_true (c := q38c37) rfl _ rfl ((decide_eq_true hp3839)) ?_
       refine g_seq (c := q38c38) rfl ?_
       refine g_region (c := q38c73) rfl rfl ?_
       refine wl_v 0 rfl (v_assign rfl) gn rfl ?_
       refine w_end 1 rfl ?_
       have h := Out.inr hO1 h
       refine g_retR (c := q38c74) [.bool false] rfl Try.func38 rfl (.tmp rfl (.nil)) fun wr hLr => ?_
       have hMr : B.Loc w wr [] [St w []] := hLr.pick0 (sels [1] rfl)
       show trellislaw15_nested_R w F  r (.returned (packV [.bool false])) wr
       rw [h]
       exact ⟨rfl, hMr⟩
      ·have h := if_neg' hp3839 h
       refine g_false (c := q38c37) rfl _ rfl ((decide_eq_false hp3839)) ?_
       refine g_skip (c := q38c39) rfl ?_
       refine g_region (c := q38c35) rfl rfl ?_
       refine wl_v 0 rfl (v_move rfl) gn rfl ?_
       refine wl_v 1 rfl (v_assign rfl) gn rfl ?_
       refine w_end 2 rfl ?_
       exact g_go [0, 1] (j2 x1273 h) ⟨rfl, rfl, rfl, trivial⟩ (.slnil) rfl
     ·have h := if_neg' hp3831 h
      have hns : Region.noSelect (Code.ops q38c36) = true := by kernel_rfl
      refine g_drawF (c := q38c36) [] [Sm w.heap.size F w [], St w []] [] 15 rfl rfl mix rfl (.slnil) (sels [0, 1] rfl) ?_
      refine wfv 0 rfl (v_move rfl) gn hns rfl ?_
      refine wfv 1 rfl (v_bin rfl rfl rfl) gn hns rfl ?_
      refine wfv 2 rfl (v_move rfl) gn hns rfl ?_
      refine wf_bool 31 rfl ((decide_eq_false hp3831)) ?_
      refine wfp 3 rfl (ps 31 rfl rfl rfl) hns rfl ?_
      refine wfp 4 rfl (ps 31 rfl rfl rfl) hns rfl ?_
      refine wfp 5 rfl (ps 31 rfl rfl rfl) hns rfl ?_
      refine wfp 6 rfl (ps 31 rfl rfl rfl) hns rfl ?_
      refine wfp 7 rfl (ps 31 rfl rfl rfl) hns rfl ?_
      refine wfp 8 rfl (ps 31 rfl rfl rfl) hns rfl ?_
      refine wfp 9 rfl (ps 31 rfl rfl rfl) hns rfl ?_
      refine wfp 10 rfl (ps 31 rfl rfl rfl) hns rfl ?_
      refine wfp 11 rfl (ps 31 rfl rfl rfl) hns rfl ?_
      refine wfp 12 rfl (ps 31 rfl rfl rfl) hns rfl ?_
      refine wfp 13 rfl (ps 31 rfl rfl rfl) hns rfl ?_
      refine wfv 14 rfl (v_pick (b := false) rfl rfl) gn hns rfl ?_
      refine wf_end (by kernel_rfl) ?_
      refine g_false (c := q38c37) rfl _ rfl (rfl) ?_
      refine g_skip (c := q38c39) rfl ?_
      refine g_region (c := q38c35) rfl rfl ?_
      refine wl_v 0 rfl (v_move rfl) gn rfl ?_
      refine wl_v 1 rfl (v_assign rfl) gn rfl ?_
      refine w_end 2 rfl ?_
      exact g_go [0, 1] (j2 x1273 h) ⟨rfl, rfl, rfl, trivial⟩ (.slnil) rfl
    ·have h := if_neg' hp2574 h
     refine g_false (c := q38c31) rfl _ rfl ((nei hp2574)) ?_
     refine g_skip (c := q38c33) rfl ?_
     exact g_go [0, 1] (j2 x1272 h) ⟨rfl, rfl, rfl, trivial⟩ (.slnil) rfl
  ·have h := if_neg' hp2557 h
   refine g_false (c := q38c14) rfl _ rfl ((decide_eq_false hp2557)) ?_
   refine g_exit (c := q38c16) [.code q38c6] rfl rfl ?_
   refine g_seq (c := q38c6) rfl ?_
   refine g_region (c := q38c71) rfl rfl ?_
   refine wl_v 0 rfl (v_assign rfl) gn rfl ?_
   refine w_end 1 rfl ?_
   have h := Out.inr hO1 h
   refine g_retR (c := q38c72) [.bool true] rfl Try.func38 rfl (.tmp rfl (.nil)) fun wr hLr => ?_
   have hMr : B.Loc w wr [] [St w []] := hLr.pick0 (sels [1] rfl)
   show trellislaw15_nested_R w F  r (.returned (packV [.bool true])) wr
   rw [h]
   exact ⟨rfl, hMr⟩
 exact g_go [0, 1] (key1 _ h ()) ⟨rfl, rfl, rfl, trivial⟩ (.slnil) rfl
end Go.Proofs.Ytmekgfcfooghnaa.K
