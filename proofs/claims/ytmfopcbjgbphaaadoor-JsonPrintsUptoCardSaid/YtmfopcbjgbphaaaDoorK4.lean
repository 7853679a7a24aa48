/- What the machine's calls do, function by function, printed by my own tool. Condition of each: its relation holds of the answer, and what is handed in lies in memory as told. -/
import Derived.Test.YtmfopcbjgbphaaaDoorK3
set_option linter.unusedVariables false
set_option maxRecDepth 100000
set_option maxHeartbeats 4000000
namespace Go.Proofs.YtmfopcbjgbphaaaDoor.K
open Go.Proofs.YtmfopcbjgbphaaaDoor.B Go.Proofs.YtmfopcbjgbphaaaDoor.R Go.RowKit
noncomputable abbrev q42c0 : Code := bodyOf Tryd.f42
noncomputable abbrev q42c1 : Code := Code.fst q42c0
noncomputable abbrev q42c2 : Code := Code.snd q42c0
noncomputable abbrev q42c3 : Code := Code.fst q42c2
noncomputable abbrev q42c4 : Code := Code.snd q42c2
noncomputable abbrev q42c5 : Code := Code.fst q42c4
noncomputable abbrev q42c6 : Code := Code.snd q42c4
noncomputable abbrev q42c7 : Code := Code.fst q42c5
noncomputable abbrev q42c8 : Code := Code.snd q42c5
noncomputable abbrev q42c9 : Code := Code.fst q42c8
noncomputable abbrev q42c10 : Code := Code.snd q42c8
noncomputable abbrev q42c11 : Code := Code.fst q42c9
noncomputable abbrev q42c12 : Code := Code.snd q42c9
noncomputable abbrev q42c13 : Code := Code.fst q42c6
noncomputable abbrev q42c14 : Code := Code.snd q42c6
noncomputable abbrev q42c15 : Code := Code.fst q42c14
noncomputable abbrev q42c16 : Code := Code.snd q42c14
noncomputable abbrev q42c17 : Code := Code.fst q42c15
noncomputable abbrev q42c18 : Code := Code.snd q42c15
noncomputable abbrev q42c19 : Code := Code.fst q42c18
noncomputable abbrev q42c20 : Code := Code.fst q42c19
noncomputable abbrev q42c21 : Code := Code.fst q42c20
noncomputable abbrev q42c22 : Code := Code.snd q42c20
noncomputable abbrev q42c23 : Code := Code.fst q42c21
noncomputable abbrev q42c24 : Code := Code.snd q42c21
noncomputable abbrev q42c25 : Code := Code.fst q42c24
noncomputable abbrev q42c26 : Code := Code.snd q42c24
noncomputable abbrev q42c27 : Code := Code.fst q42c22
noncomputable abbrev q42c28 : Code := Code.snd q42c22
noncomputable abbrev q42c29 : Code := Code.fst q42c27
noncomputable abbrev q42c30 : Code := Code.fst q42c29
noncomputable abbrev q42c31 : Code := Code.snd q42c29
noncomputable abbrev q42c32 : Code := Code.fst q42c30
noncomputable abbrev q42c33 : Code := Code.snd q42c30
noncomputable abbrev q42c34 : Code := Code.fst q42c33
noncomputable abbrev q42c35 : Code := Code.snd q42c33
noncomputable abbrev q42c36 : Code := Code.fst q42c34
noncomputable abbrev q42c37 : Code := Code.snd q42c34
noncomputable abbrev q42c38 : Code := Code.fst q42c31
noncomputable abbrev q42c39 : Code := Code.snd q42c31
noncomputable abbrev q42c40 : Code := Code.fst q42c38
noncomputable abbrev q42c41 : Code := Code.snd q42c38
noncomputable abbrev q42c42 : Code := Code.fst q42c41
noncomputable abbrev q42c43 : Code := Code.fst q42c42
noncomputable abbrev q42c44 : Code := Code.fst q42c43
noncomputable abbrev q42c45 : Code := Code.snd q42c43
noncomputable abbrev q42c46 : Code := Code.fst q42c44
noncomputable abbrev q42c47 : Code := Code.snd q42c44
noncomputable abbrev q42c48 : Code := Code.fst q42c47
noncomputable abbrev q42c49 : Code := Code.snd q42c47
noncomputable abbrev q42c50 : Code := Code.fst q42c39
noncomputable abbrev q42c51 : Code := Code.snd q42c39
noncomputable abbrev q42c52 : Code := Code.fst q42c51
noncomputable abbrev q42c53 : Code := Code.snd q42c51
noncomputable abbrev q42c54 : Code := Code.fst q42c52
noncomputable abbrev q42c55 : Code := Code.snd q42c52
noncomputable abbrev q42c56 : Code := Code.fst q42c16
noncomputable abbrev q42c57 : Code := Code.snd q42c16
noncomputable abbrev q42c58 : Code := Code.fst q42c45
noncomputable abbrev q42c59 : Code := Code.snd q42c45
noncomputable abbrev q42c60 : Code := Code.fst q42c58
noncomputable abbrev q42c61 : Code := Code.fst q42c60
noncomputable abbrev q42c62 : Code := Code.snd q42c60
noncomputable abbrev q42c63 : Code := Code.fst q42c62
noncomputable abbrev q42c64 : Code := Code.snd q42c62
noncomputable abbrev q42c65 : Code := Code.fst q42c63
noncomputable abbrev q42c66 : Code := Code.snd q42c63
abbrev trellisref25_inside_R (w : World) (F : Nat → Prop) (r : Bool) : Ending → World → Prop := fun e w' => e = .returned (.bool r) ∧ B.Loc w w' [] [St w []]
noncomputable abbrev trellisref25_inside_C (w : World) (F : Nat → Prop) (r : Bool) : Cx := ⟨Tryd.prog, 42, Tryd.f42, 95, trellisref25_inside_R w F  r, w⟩
def trellisref25_inside_st (rl : (List api_JNode) → Int → Int → Bool → Prop) : Prop := ∀ (w : World) (F : Nat → Prop) (x1 : List api_JNode) (x6 : Int) (x7 : Int) (A2 : Option Addr) (n3 : Nat) (c4 : Nat) (h5 : Rw k_api_JNode w (St w []).av A2 n3 c4 x1) (hF : ∀ b, F b → b < w.heap.size ∧ ∀ o ∈ ([] : List (List Nat)), b ∉ o) (hL0 : B.Loc w w [] [Sm w.heap.size F w [], St w []]) (r : Bool) (h : rl x1 x6 x7 r), Calls Tryd.prog 42 #[.slice A2 n3 c4, .int .i64 x6, .int .i64 x7] w (trellisref25_inside_R w F  r)
theorem trellisref25_inside_step (rc_trellisref25_inside : (List api_JNode) → Int → Int → Bool → Prop) (ih_trellisref25_inside : trellisref25_inside_st rc_trellisref25_inside) : trellisref25_inside_st (trellisref25_inside_body rc_trellisref25_inside) := by
 intro w F x1 x6 x7 A2 n3 c4 h5 hF hL0 r h
 unfold trellisref25_inside_body at h
 refine calls_of_Loc (vs := [.slice A2 n3 c4, .int .i64 x6, .int .i64 x7]) 95 Tryd.func42 rfl Tryd.ntmps42 rfl hL0 ?_
 show G (trellisref25_inside_C w F r) _ _ _ _
 refine g_seq (c := q42c0) rfl ?_
 refine g_region (c := q42c1) rfl rfl ?_
 refine wl_v 0 rfl (v_assign rfl) gn rfl ?_
 refine w_end 1 rfl ?_
 refine g_seq (c := q42c2) rfl ?_
 have j1 : ∀ (x13 : Bool) (h : trellisref25_inside_j1 x1 x6 rc_trellisref25_inside x7 x13 r) , G (trellisref25_inside_C w F r) [.code q42c4] [(0, .slice A2 n3 c4), (1, .int .i64 x6), (2, .int .i64 x7), (7, .bool x13)] [] [Sm w.heap.size F w [], St w []] := by
  intro x13 h
  unfold trellisref25_inside_j1 at h
  refine g_seq (c := q42c4) rfl ?_
  refine g_seq (c := q42c5) rfl ?_
  have j2 : ∀ (x16 : Bool) (h : trellisref25_inside_j2 x1 x6 rc_trellisref25_inside x7 x16 r) , G (trellisref25_inside_C w F r) [.code q42c8, .code q42c6] [(0, .slice A2 n3 c4), (1, .int .i64 x6), (2, .int .i64 x7), (29, .bool x16)] [] [Sm w.heap.size F w [], St w []] := by
   intro x16 h
   unfold trellisref25_inside_j2 at h
   by_cases hp17 : x16 = true
   ·have h := if_pos' hp17 h
    refine g_true (c := q42c8) rfl _ rfl (hp17) ?_
    refine g_seq (c := q42c9) rfl ?_
    refine g_region (c := q42c11) rfl rfl ?_
    refine wl_v 0 rfl (v_assign rfl) gn rfl ?_
    refine w_end 1 rfl ?_
    refine g_retR (c := q42c12) [.bool false] rfl Tryd.func42 rfl (.tmp rfl (.nil)) fun wr hLr => ?_
    have hMr : B.Loc w wr [] [St w []] := hLr.pick0 (sels [1] rfl)
    show trellisref25_inside_R w F  r (.returned (packV [.bool false])) wr
    rw [h]
    exact ⟨rfl, hMr⟩
   ·have h := if_neg' hp17 h
    refine g_false (c := q42c8) rfl _ rfl ((bf hp17)) ?_
    refine g_skip (c := q42c10) rfl ?_
    refine g_seq (c := q42c6) rfl ?_
    refine g_region (c := q42c13) rfl rfl ?_
    refine wl_v 0 rfl (v_move rfl) gn rfl ?_
    refine wl_v 1 rfl (v_move rfl) gn rfl ?_
    obtain ⟨r21, hv22, h⟩ := h
    refine wl_s 2 rfl (s_call [.slice A2 n3 c4, .int .i64 x6] rfl Tryd.func32 rfl rfl rfl fun w18 hL19 => ?_) gn
    have hp20 : List.Perm ([] : List Ent) (([] : List Ent) ++ ([] : List Ent)) := perm_of_idx [] [] rfl rfl (by kernel_rfl)
    refine Calls.mono (trellisref25_kids_calls w18 (Fl ([] : List Snap)) x1 x6 A2 n3 c4 (Rw.mono h5 (hL19.toSt hp20 (me 1 rfl))) (hL19.hFl (Sl := ([] : List Snap)) hp20 (sels [] rfl)) (hL19.into hp20 (Fl ([] : List Snap))) r21 hv22) ?_
    rintro _ w28 ⟨A23, n24, c25, rfl, hM29, h26⟩
    have hL30 := hL19.call hp20 hM29
    refine ⟨_, _, _, rfl, hL30, ?_⟩
    refine wl_v 3 rfl (v_assign rfl) gn rfl ?_
    refine w_end 4 rfl ?_
    refine g_seq (c := q42c14) rfl ?_
    refine g_seq (c := q42c15) rfl ?_
    refine g_region (c := q42c17) rfl rfl ?_
    refine wl_v 0 rfl (v_assign rfl) gn rfl ?_
    refine w_end 1 rfl ?_
    refine g_block (c := q42c18) rfl ?_
    refine g_loop (c := q42c19) rfl ?_
    have key3 : ∀ s, Rounds (fun (s : Int) o => trellisref25_inside_b3 r21 x6 x1 rc_trellisref25_inside x7 s o) s r → (fun (s : Int) => ∀ (_ : Unit), G (trellisref25_inside_C w F r) [.code q42c20, .inLoop q42c20, .inBlock 0, .code q42c16] [(0, .slice A2 n3 c4), (1, .int .i64 x6), (2, .int .i64 x7), (8, .slice A23 n24 c25), (9, .int .i64 s)] [.own (.slice A23 n24 c25) 3 1 n24 (r21.flatMap (eI .i64))] [Sm w.heap.size F w [], St w []]) s := by
     intro s hs
     refine Rounds.ind (mot := (fun (s : Int) => ∀ (_ : Unit), G (trellisref25_inside_C w F r) [.code q42c20, .inLoop q42c20, .inBlock 0, .code q42c16] [(0, .slice A2 n3 c4), (1, .int .i64 x6), (2, .int .i64 x7), (8, .slice A23 n24 c25), (9, .int .i64 s)] [.own (.slice A23 n24 c25) 3 1 n24 (r21.flatMap (eI .i64))] [Sm w.heap.size F w [], St w []])) ?_ hs
     clear hs s
     intro x69 o1 h hO1
     show ∀ (_ : Unit), G (trellisref25_inside_C w F r) [.code q42c20, .inLoop q42c20, .inBlock 0, .code q42c16] [(0, .slice A2 n3 c4), (1, .int .i64 x6), (2, .int .i64 x7), (8, .slice A23 n24 c25), (9, .int .i64 x69)] [.own (.slice A23 n24 c25) 3 1 n24 (r21.flatMap (eI .i64))] [Sm w.heap.size F w [], St w []]
     intro _
     have h : trellisref25_inside_b3 r21 x6 x1 rc_trellisref25_inside x7 x69 o1 := h
     unfold trellisref25_inside_b3 at h
     refine g_seq (c := q42c20) rfl ?_
     refine g_seq (c := q42c21) rfl ?_
     refine g_region (c := q42c23) rfl rfl ?_
     refine wl_v 0 rfl (v_move rfl) gn rfl ?_
     refine wl_v 1 rfl (v_move rfl) gn rfl ?_
     refine wl_v 2 rfl (v_lenQ un_46 rfl (Ow.weak hL19.env.size h26).hq) gn rfl ?_
     refine wl_v 3 rfl (v_bin rfl rfl rfl) gn rfl ?_
     refine w_end 4 rfl ?_
     by_cases hp175 : x69 < (r21.length : Int)
     ·have h := if_pos' hp175 h
      refine g_true (c := q42c24) rfl _ rfl ((decide_eq_true hp175)) ?_
      refine g_skip (c := q42c25) rfl ?_
      refine g_seq (c := q42c22) rfl ?_
      refine g_block (c := q42c27) rfl ?_
      refine g_seq (c := q42c29) rfl ?_
      refine g_seq (c := q42c30) rfl ?_
      have j4 : ∀ (x183 : Bool) (h : trellisref25_inside_j4 x69 x6 x1 r21 rc_trellisref25_inside x7 x183 o1) , G (trellisref25_inside_C w F r) [.code q42c33, .code q42c31, .inBlock 1, .code q42c28, .inLoop q42c20, .inBlock 0, .code q42c16] [(0, .slice A2 n3 c4), (1, .int .i64 x6), (2, .int .i64 x7), (8, .slice A23 n24 c25), (9, .int .i64 x69), (55, .bool x183)] [.own (.slice A23 n24 c25) 3 1 n24 (r21.flatMap (eI .i64))] [Sm w.heap.size F w [], St w []] := by
       intro x183 h
       unfold trellisref25_inside_j4 at h
       by_cases hp184 : x183 = true
       ·have h := if_pos' hp184 h
        refine g_true (c := q42c33) rfl _ rfl (hp184) ?_
        refine g_seq (c := q42c34) rfl ?_
        refine g_region (c := q42c36) rfl rfl ?_
        refine wl_v 0 rfl (v_assign rfl) gn rfl ?_
        refine w_end 1 rfl ?_
        have h := Out.inr hO1 h
        refine g_retR (c := q42c37) [.bool false] rfl Tryd.func42 rfl (.tmp rfl (.nil)) fun wr hLr => ?_
        have hMr : B.Loc w wr [] [St w []] := hLr.pick0 (sels [1] rfl)
        show trellisref25_inside_R w F  r (.returned (packV [.bool false])) wr
        rw [h]
        exact ⟨rfl, hMr⟩
       ·have h := if_neg' hp184 h
        refine g_false (c := q42c33) rfl _ rfl ((bf hp184)) ?_
        refine g_skip (c := q42c35) rfl ?_
        refine g_seq (c := q42c31) rfl ?_
        refine g_seq (c := q42c38) rfl ?_
        refine g_region (c := q42c40) rfl rfl ?_
        refine wl_v 0 rfl (v_assign rfl) gn rfl ?_
        refine w_end 1 rfl ?_
        refine g_block (c := q42c41) rfl ?_
        refine g_loop (c := q42c42) rfl ?_
        have key5 : ∀ s, Rounds (fun (s : Int) o => trellisref25_inside_b5 x69 x6 x1 r21 rc_trellisref25_inside x7 s o) s o1 → (fun (s : Int) => ∀ (_ : Unit), G (trellisref25_inside_C w F r) [.code q42c43, .inLoop q42c43, .inBlock 2, .code q42c39, .inBlock 1, .code q42c28, .inLoop q42c20, .inBlock 0, .code q42c16] [(0, .slice A2 n3 c4), (1, .int .i64 x6), (2, .int .i64 x7), (8, .slice A23 n24 c25), (9, .int .i64 x69), (10, .int .i64 s)] [.own (.slice A23 n24 c25) 3 1 n24 (r21.flatMap (eI .i64))] [Sm w.heap.size F w [], St w []]) s := by
         intro s hs
         refine Rounds.ind (mot := (fun (s : Int) => ∀ (_ : Unit), G (trellisref25_inside_C w F r) [.code q42c43, .inLoop q42c43, .inBlock 2, .code q42c39, .inBlock 1, .code q42c28, .inLoop q42c20, .inBlock 0, .code q42c16] [(0, .slice A2 n3 c4), (1, .int .i64 x6), (2, .int .i64 x7), (8, .slice A23 n24 c25), (9, .int .i64 x69), (10, .int .i64 s)] [.own (.slice A23 n24 c25) 3 1 n24 (r21.flatMap (eI .i64))] [Sm w.heap.size F w [], St w []])) ?_ hs
         clear hs s
         intro x215 o2 h hO2
         show ∀ (_ : Unit), G (trellisref25_inside_C w F r) [.code q42c43, .inLoop q42c43, .inBlock 2, .code q42c39, .inBlock 1, .code q42c28, .inLoop q42c20, .inBlock 0, .code q42c16] [(0, .slice A2 n3 c4), (1, .int .i64 x6), (2, .int .i64 x7), (8, .slice A23 n24 c25), (9, .int .i64 x69), (10, .int .i64 x215)] [.own (.slice A23 n24 c25) 3 1 n24 (r21.flatMap (eI .i64))] [Sm w.heap.size F w [], St w []]
         intro _
         have h : trellisref25_inside_b5 x69 x6 x1 r21 rc_trellisref25_inside x7 x215 o2 := h
         unfold trellisref25_inside_b5 at h
         refine g_seq (c := q42c43) rfl ?_
         refine g_seq (c := q42c44) rfl ?_
         refine g_region (c := q42c46) rfl rfl ?_
         refine wl_v 0 rfl (v_move rfl) gn rfl ?_
         refine wl_v 1 rfl (v_move rfl) gn rfl ?_
         refine wl_v 2 rfl (v_bin rfl rfl rfl) gn rfl ?_
         refine w_end 3 rfl ?_
         by_cases hp245 : x215 < x69
         ·have h := if_pos' hp245 h
          refine g_true (c := q42c47) rfl _ rfl ((decide_eq_true hp245)) ?_
          refine g_skip (c := q42c48) rfl ?_
          refine g_seq (c := q42c45) rfl ?_
          refine g_block (c := q42c58) rfl ?_
          refine g_seq (c := q42c60) rfl ?_
          obtain ⟨hb246, h⟩ := h
          by_cases hp248 : (ix x1 x6).kind = 7
          ·have h := if_pos' hp248 h
           obtain ⟨hb249, h⟩ := h
           obtain ⟨hb250, h⟩ := h
           obtain ⟨hb252, h⟩ := h
           obtain ⟨hb253, h⟩ := h
           have hns : Region.noSelect (Code.ops q42c61) = true := by kernel_rfl
           refine g_drawF (c := q42c61) [.own (.slice A23 n24 c25) 3 1 n24 (r21.flatMap (eI .i64))] [Sm w.heap.size F w [], St w []] [] 25 rfl rfl mix rfl (.cons_cons _ (.slnil)) (sels [0, 1] rfl) ?_
           refine wfv 0 rfl (v_move rfl) gn hns rfl ?_
           refine wfv 1 rfl (v_move rfl) gn hns rfl ?_
           have hr258 := Rw.readF (s := St w []) (hl := hl_api_JNode) (h1 := h1_api_JNode) h5 hb246
           refine wfv 2 rfl (v_idxR (s := St w []) slE_22 rfl rfl h5 hb246) gn hns rfl ?_
           refine wfv 3 rfl (v_fldA fo_31_0 rfl) gn hns rfl ?_
           refine wfv 4 rfl (v_ldA1 (kk := (x6 : Int).toNat * 4) (j := 0) (St w []) ld_29 rfl hr258 rfl (me 1 rfl)) gn hns rfl ?_
           refine wfv 5 rfl (v_bin rfl rfl rfl) gn hns rfl ?_
           refine wfv 6 rfl (v_move rfl) gn hns rfl ?_
           refine wf_bool 67 rfl ((eqi hp248)) ?_
           refine wfv 7 rfl (v_move rfl) (gy 67 rfl rfl) hns rfl ?_
           refine wfv 8 rfl (v_move rfl) (gy 67 rfl rfl) hns rfl ?_
           refine wfv 9 rfl (v_move rfl) (gy 67 rfl rfl) hns rfl ?_
           refine wfv 10 rfl (v_idxO slE_46 rfl rfl (Ow.weak hL19.env.size h26) hb249) (gy 67 rfl rfl) hns rfl ?_
           refine wfv 11 rfl (v_ldO1 (.int .i64 (ix r21 x215)) 0 ld_3 rfl rfl (fm_get0 (hlI .i64) hb249 rfl)) (gy 67 rfl rfl) hns rfl ?_
           have hr259 := Rw.readF (s := St w []) (hl := hl_api_JNode) (h1 := h1_api_JNode) h5 hb250
           refine wfv 12 rfl (v_idxR (s := St w []) slE_22 rfl rfl h5 hb250) (gy 67 rfl rfl) hns rfl ?_
           refine wfv 13 rfl (v_fldA fo_31_1 rfl) (gy 67 rfl rfl) hns rfl ?_
           refine wfv 14 rfl (v_ldA1 (kk := (ix r21 x215 : Int).toNat * 4) (j := 1) (St w []) ld_9 rfl hr259 rfl (me 1 rfl)) (gy 67 rfl rfl) hns rfl ?_
           refine wfv 15 rfl (v_move rfl) (gy 67 rfl rfl) hns rfl ?_
           refine wfv 16 rfl (v_move rfl) (gy 67 rfl rfl) hns rfl ?_
           refine wfv 17 rfl (v_move rfl) (gy 67 rfl rfl) hns rfl ?_
           refine wfv 18 rfl (v_idxO slE_46 rfl rfl (Ow.weak hL19.env.size h26) hb252) (gy 67 rfl rfl) hns rfl ?_
           refine wfv 19 rfl (v_ldO1 (.int .i64 (ix r21 x69)) 0 ld_3 rfl rfl (fm_get0 (hlI .i64) hb252 rfl)) (gy 67 rfl rfl) hns rfl ?_
           have hr260 := Rw.readF (s := St w []) (hl := hl_api_JNode) (h1 := h1_api_JNode) h5 hb253
           refine wfv 20 rfl (v_idxR (s := St w []) slE_22 rfl rfl h5 hb253) (gy 67 rfl rfl) hns rfl ?_
           refine wfv 21 rfl (v_fldA fo_31_1 rfl) (gy 67 rfl rfl) hns rfl ?_
           refine wfv 22 rfl (v_ldA1 (kk := (ix r21 x69 : Int).toNat * 4) (j := 1) (St w []) ld_9 rfl hr260 rfl (me 1 rfl)) (gy 67 rfl rfl) hns rfl ?_
           refine wfv 23 rfl (v_eqS rfl rfl) (gy 67 rfl rfl) hns rfl ?_
           refine wfv 24 rfl (v_pick (b := true) rfl rfl) gn hns rfl ?_
           refine wf_end (by kernel_rfl) ?_
           by_cases hp261 : (ix x1 (ix r21 x215)).key = (ix x1 (ix r21 x69)).key
           ·have h := if_pos' hp261 h
            refine g_true (c := q42c62) rfl _ rfl ((seq_t hp261)) ?_
            refine g_seq (c := q42c63) rfl ?_
            refine g_region (c := q42c65) rfl rfl ?_
            refine wl_v 0 rfl (v_assign rfl) gn rfl ?_
            refine w_end 1 rfl ?_
            have h := Out.inr hO2 h
            have h := Out.inr hO1 h
            refine g_retR (c := q42c66) [.bool false] rfl Tryd.func42 rfl (.tmp rfl (.nil)) fun wr hLr => ?_
            have hMr : B.Loc w wr [] [St w []] := hLr.pick0 (sels [1] rfl)
            show trellisref25_inside_R w F  r (.returned (packV [.bool false])) wr
            rw [h]
            exact ⟨rfl, hMr⟩
           ·have h := if_neg' hp261 h
            refine g_false (c := q42c62) rfl _ rfl ((seq_f hp261)) ?_
            refine g_skip (c := q42c64) rfl ?_
            refine g_inBlock ?_
            refine g_region (c := q42c59) rfl rfl ?_
            refine wl_v 0 rfl (v_move rfl) gn rfl ?_
            refine wl_v 1 rfl (v_bin rfl rfl rfl) gn rfl ?_
            refine wl_v 2 rfl (v_assign rfl) gn rfl ?_
            refine w_end 3 rfl ?_
            refine g_inLoop ?_
            have ih := Out.inl hO2 h
            exact g_go [0, 1] (ih ()) ⟨rfl, rfl, rfl, rfl, rfl, rfl, trivial⟩ (.cons_cons _ (.slnil)) rfl
          ·have h := if_neg' hp248 h
           have hns : Region.noSelect (Code.ops q42c61) = true := by kernel_rfl
           refine g_drawF (c := q42c61) [.own (.slice A23 n24 c25) 3 1 n24 (r21.flatMap (eI .i64))] [Sm w.heap.size F w [], St w []] [] 25 rfl rfl mix rfl (.cons_cons _ (.slnil)) (sels [0, 1] rfl) ?_
           refine wfv 0 rfl (v_move rfl) gn hns rfl ?_
           refine wfv 1 rfl (v_move rfl) gn hns rfl ?_
           have hr263 := Rw.readF (s := St w []) (hl := hl_api_JNode) (h1 := h1_api_JNode) h5 hb246
           refine wfv 2 rfl (v_idxR (s := St w []) slE_22 rfl rfl h5 hb246) gn hns rfl ?_
           refine wfv 3 rfl (v_fldA fo_31_0 rfl) gn hns rfl ?_
           refine wfv 4 rfl (v_ldA1 (kk := (x6 : Int).toNat * 4) (j := 0) (St w []) ld_29 rfl hr263 rfl (me 1 rfl)) gn hns rfl ?_
           refine wfv 5 rfl (v_bin rfl rfl rfl) gn hns rfl ?_
           refine wfv 6 rfl (v_move rfl) gn hns rfl ?_
           refine wf_bool 67 rfl ((nei hp248)) ?_
           refine wfp 7 rfl (ps 67 rfl rfl rfl) hns rfl ?_
           refine wfp 8 rfl (ps 67 rfl rfl rfl) hns rfl ?_
           refine wfp 9 rfl (ps 67 rfl rfl rfl) hns rfl ?_
           refine wfp 10 rfl (ps 67 rfl rfl rfl) hns rfl ?_
           refine wfp 11 rfl (ps 67 rfl rfl rfl) hns rfl ?_
           refine wfp 12 rfl (ps 67 rfl rfl rfl) hns rfl ?_
           refine wfp 13 rfl (ps 67 rfl rfl rfl) hns rfl ?_
           refine wfp 14 rfl (ps 67 rfl rfl rfl) hns rfl ?_
           refine wfp 15 rfl (ps 67 rfl rfl rfl) hns rfl ?_
           refine wfp 16 rfl (ps 67 rfl rfl rfl) hns rfl ?_
           refine wfp 17 rfl (ps 67 rfl rfl rfl) hns rfl ?_
           refine wfp 18 rfl (ps 67 rfl rfl rfl) hns rfl ?_
           refine wfp 19 rfl (ps 67 rfl rfl rfl) hns rfl ?_
           refine wfp 20 rfl (ps 67 rfl rfl rfl) hns rfl ?_
           refine wfp 21 rfl (ps 67 rfl rfl rfl) hns rfl ?_
           refine wfp 22 rfl (ps 67 rfl rfl rfl) hns rfl ?_
           refine wfp 23 rfl (ps 67 rfl rfl rfl) hns rfl ?_
           refine wfv 24 rfl (v_pick (b := false) rfl rfl) gn hns rfl ?_
           refine wf_end (by kernel_rfl) ?_
           refine g_false (c := q42c62) rfl _ rfl (rfl) ?_
           refine g_skip (c := q42c64) rfl ?_
           refine g_inBlock ?_
           refine g_region (c := q42c59) rfl rfl ?_
           refine wl_v 0 rfl (v_move rfl) gn rfl ?_
           refine wl_v 1 rfl (v_bin rfl rfl rfl) gn rfl ?_
           refine wl_v 2 rfl (v_assign rfl) gn rfl ?_
           refine w_end 3 rfl ?_
           refine g_inLoop ?_
           have ih := Out.inl hO2 h
           exact g_go [0, 1] (ih ()) ⟨rfl, rfl, rfl, rfl, rfl, rfl, trivial⟩ (.cons_cons _ (.slnil)) rfl
         ·have h := if_neg' hp245 h
          refine g_false (c := q42c47) rfl _ rfl ((decide_eq_false hp245)) ?_
          refine g_exit (c := q42c49) [.code q42c39, .inBlock 1, .code q42c28, .inLoop q42c20, .inBlock 0, .code q42c16] rfl rfl ?_
          refine g_seq (c := q42c39) rfl ?_
          refine g_region (c := q42c50) rfl rfl ?_
          refine wl_v 0 rfl (v_move rfl) gn rfl ?_
          refine wl_v 1 rfl (v_move rfl) gn rfl ?_
          refine wl_v 2 rfl (v_move rfl) gn rfl ?_
          obtain ⟨hb264, h⟩ := h
          refine wl_v 3 rfl (v_idxO slE_46 rfl rfl (Ow.weak hL19.env.size h26) hb264) gn rfl ?_
          refine wl_v 4 rfl (v_ldO1 (.int .i64 (ix r21 x69)) 0 ld_3 rfl rfl (fm_get0 (hlI .i64) hb264 rfl)) gn rfl ?_
          refine wl_v 5 rfl (v_move rfl) gn rfl ?_
          refine wl_v 6 rfl (v_bin rfl rfl rfl) gn rfl ?_
          obtain ⟨r268, hv269, h⟩ := h
          refine wl_s 7 rfl (s_call [.slice A2 n3 c4, .int .i64 (ix r21 x69), .int .i64 (w64 (x7 + 1))] rfl Tryd.func42 rfl rfl rfl fun w265 hL266 => ?_) gn
          have hp267 : List.Perm ([.own (.slice A23 n24 c25) 3 1 n24 (r21.flatMap (eI .i64))] : List Ent) (([] : List Ent) ++ ([.own (.slice A23 n24 c25) 3 1 n24 (r21.flatMap (eI .i64))] : List Ent)) := perm_of_idx [] [0] rfl rfl (by kernel_rfl)
          refine Calls.mono (ih_trellisref25_inside w265 (Fl ([] : List Snap)) x1 (ix r21 x69) (w64 (x7 + 1)) A2 n3 c4 (Rw.mono h5 (hL266.toSt hp267 (me 1 rfl))) (hL266.hFl (Sl := ([] : List Snap)) hp267 (sels [] rfl)) (hL266.into hp267 (Fl ([] : List Snap))) r268 hv269) ?_
          rintro _ w270 ⟨rfl, hM271⟩
          have hL272 := hL266.call hp267 hM271
          refine ⟨_, _, _, rfl, hL272, ?_⟩
          refine wl_v 8 rfl (v_not rfl) gn rfl ?_
          refine w_end 9 rfl ?_
          by_cases hp273 : r268 = true
          ·have h := if_pos' hp273 h
           refine g_false (c := q42c51) rfl _ rfl ((nf hp273)) ?_
           refine g_skip (c := q42c53) rfl ?_
           refine g_inBlock ?_
           refine g_region (c := q42c28) rfl rfl ?_
           refine wl_v 0 rfl (v_move rfl) gn rfl ?_
           refine wl_v 1 rfl (v_bin rfl rfl rfl) gn rfl ?_
           refine wl_v 2 rfl (v_assign rfl) gn rfl ?_
           refine w_end 3 rfl ?_
           refine g_inLoop ?_
           have h := Out.inr hO2 h
           have ih := Out.inl hO1 h
           exact g_go [0, 1] (ih ()) ⟨rfl, rfl, rfl, rfl, rfl, trivial⟩ (.cons_cons _ (.slnil)) rfl
          ·have h := if_neg' hp273 h
           refine g_true (c := q42c51) rfl _ rfl ((nt (bf hp273))) ?_
           refine g_seq (c := q42c52) rfl ?_
           refine g_region (c := q42c54) rfl rfl ?_
           refine wl_v 0 rfl (v_assign rfl) gn rfl ?_
           refine w_end 1 rfl ?_
           have h := Out.inr hO2 h
           have h := Out.inr hO1 h
           refine g_retR (c := q42c55) [.bool false] rfl Tryd.func42 rfl (.tmp rfl (.nil)) fun wr hLr => ?_
           have hMr : B.Loc w wr [] [St w []] := hLr.pick0 (sels [1] rfl)
           show trellisref25_inside_R w F  r (.returned (packV [.bool false])) wr
           rw [h]
           exact ⟨rfl, hMr⟩
        exact g_go [0, 1] (key5 _ h ()) ⟨rfl, rfl, rfl, rfl, rfl, rfl, trivial⟩ (.cons_cons _ (.slnil)) rfl
      refine g_region (c := q42c32) rfl rfl ?_
      refine wl_v 0 rfl (v_move rfl) gn rfl ?_
      refine wl_v 1 rfl (v_move rfl) gn rfl ?_
      obtain ⟨hb274, h⟩ := h
      have hr275 := Rw.readF (s := St w []) (hl := hl_api_JNode) (h1 := h1_api_JNode) h5 hb274
      refine wl_v 2 rfl (v_idxR (s := St w []) slE_22 rfl rfl h5 hb274) gn rfl ?_
      refine wl_v 3 rfl (v_fldA fo_31_0 rfl) gn rfl ?_
      refine wl_v 4 rfl (v_ldA1 (kk := (x6 : Int).toNat * 4) (j := 0) (St w []) ld_29 rfl hr275 rfl (me 1 rfl)) gn rfl ?_
      refine wl_v 5 rfl (v_bin rfl rfl rfl) gn rfl ?_
      refine wl_v 6 rfl (v_move rfl) gn rfl ?_
      by_cases hp276 : (ix x1 x6).kind = 6
      ·have h := if_pos' hp276 h
       refine w_bool 45 rfl ((eqi hp276)) ?_
       refine wl_v 7 rfl (v_move rfl) (gy 45 rfl rfl) rfl ?_
       refine wl_v 8 rfl (v_move rfl) (gy 45 rfl rfl) rfl ?_
       refine wl_v 9 rfl (v_move rfl) (gy 45 rfl rfl) rfl ?_
       obtain ⟨hb277, h⟩ := h
       refine wl_v 10 rfl (v_idxO slE_46 rfl rfl (Ow.weak hL19.env.size h26) hb277) (gy 45 rfl rfl) rfl ?_
       refine wl_v 11 rfl (v_ldO1 (.int .i64 (ix r21 x69)) 0 ld_3 rfl rfl (fm_get0 (hlI .i64) hb277 rfl)) (gy 45 rfl rfl) rfl ?_
       obtain ⟨hb278, h⟩ := h
       have hr279 := Rw.readF (s := St w []) (hl := hl_api_JNode) (h1 := h1_api_JNode) h5 hb278
       refine wl_v 12 rfl (v_idxR (s := St w []) slE_22 rfl rfl h5 hb278) (gy 45 rfl rfl) rfl ?_
       refine wl_v 13 rfl (v_fldA fo_31_1 rfl) (gy 45 rfl rfl) rfl ?_
       refine wl_v 14 rfl (v_ldA1 (kk := (ix r21 x69 : Int).toNat * 4) (j := 1) (St w []) ld_9 rfl hr279 rfl (me 1 rfl)) (gy 45 rfl rfl) rfl ?_
       refine wl_v 15 rfl (v_neS rfl rfl) (gy 45 rfl rfl) rfl ?_
       refine wl_v 16 rfl (v_pick (b := true) rfl rfl) gn rfl ?_
       refine w_end 17 rfl ?_
       exact g_go [0, 1] (j4 (!(seq ((ix x1 (ix r21 x69)).key) (⟨#[]⟩ : ByteArray))) h) ⟨rfl, rfl, rfl, rfl, rfl, rfl, trivial⟩ (.cons_cons _ (.slnil)) rfl
      ·have h := if_neg' hp276 h
       refine w_bool 45 rfl ((nei hp276)) ?_
       refine wl_pass 7 rfl (ps 45 rfl rfl rfl) ?_
       refine wl_pass 8 rfl (ps 45 rfl rfl rfl) ?_
       refine wl_pass 9 rfl (ps 45 rfl rfl rfl) ?_
       refine wl_pass 10 rfl (ps 45 rfl rfl rfl) ?_
       refine wl_pass 11 rfl (ps 45 rfl rfl rfl) ?_
       refine wl_pass 12 rfl (ps 45 rfl rfl rfl) ?_
       refine wl_pass 13 rfl (ps 45 rfl rfl rfl) ?_
       refine wl_pass 14 rfl (ps 45 rfl rfl rfl) ?_
       refine wl_pass 15 rfl (ps 45 rfl rfl rfl) ?_
       refine wl_v 16 rfl (v_pick (b := false) rfl rfl) gn rfl ?_
       refine w_end 17 rfl ?_
       exact g_go [0, 1] (j4 false h) ⟨rfl, rfl, rfl, rfl, rfl, rfl, trivial⟩ (.cons_cons _ (.slnil)) rfl
     ·have h := if_neg' hp175 h
      refine g_false (c := q42c24) rfl _ rfl ((decide_eq_false hp175)) ?_
      refine g_exit (c := q42c26) [.code q42c16] rfl rfl ?_
      refine g_seq (c := q42c16) rfl ?_
      refine g_region (c := q42c56) rfl rfl ?_
      refine wl_v 0 rfl (v_assign rfl) gn rfl ?_
      refine w_end 1 rfl ?_
      have h := Out.inr hO1 h
      refine g_retR (c := q42c57) [.bool true] rfl Tryd.func42 rfl (.tmp rfl (.nil)) fun wr hLr => ?_
      have hMr : B.Loc w wr [] [St w []] := hLr.pick0 (sels [1] rfl)
      show trellisref25_inside_R w F  r (.returned (packV [.bool true])) wr
      rw [h]
      exact ⟨rfl, hMr⟩
    exact g_go [0, 1] (key3 _ h ()) ⟨rfl, rfl, rfl, rfl, rfl, trivial⟩ (.cons_cons _ (.slnil)) rfl
  refine g_region (c := q42c7) rfl rfl ?_
  refine wl_v 0 rfl (v_move rfl) gn rfl ?_
  refine wl_v 1 rfl (v_move rfl) gn rfl ?_
  by_cases hp280 : x13 = true
  ·have h := if_pos' hp280 h
   refine w_bool 26 rfl (hp280) ?_
   refine wl_v 2 rfl (v_move rfl) (gy 26 rfl rfl) rfl ?_
   refine wl_v 3 rfl (v_bin rfl rfl rfl) (gy 26 rfl rfl) rfl ?_
   refine wl_v 4 rfl (v_pick (b := true) rfl rfl) gn rfl ?_
   refine w_end 5 rfl ?_
   exact g_go [0, 1] (j2 (decide (x7 ≥ 64)) h) ⟨rfl, rfl, rfl, rfl, trivial⟩ (.slnil) rfl
  ·have h := if_neg' hp280 h
   refine w_bool 26 rfl ((bf hp280)) ?_
   refine wl_pass 2 rfl (ps 26 rfl rfl rfl) ?_
   refine wl_pass 3 rfl (ps 26 rfl rfl rfl) ?_
   refine wl_v 4 rfl (v_pick (b := false) rfl rfl) gn rfl ?_
   refine w_end 5 rfl ?_
   exact g_go [0, 1] (j2 false h) ⟨rfl, rfl, rfl, rfl, trivial⟩ (.slnil) rfl
 refine g_region (c := q42c3) rfl rfl ?_
 refine wl_v 0 rfl (v_move rfl) gn rfl ?_
 refine wl_v 1 rfl (v_move rfl) gn rfl ?_
 obtain ⟨hb281, h⟩ := h
 have hr282 := Rw.readF (s := St w []) (hl := hl_api_JNode) (h1 := h1_api_JNode) h5 hb281
 refine wl_v 2 rfl (v_idxR (s := St w []) slE_22 rfl rfl h5 hb281) gn rfl ?_
 refine wl_v 3 rfl (v_fldA fo_31_0 rfl) gn rfl ?_
 refine wl_v 4 rfl (v_ldA1 (kk := (x6 : Int).toNat * 4) (j := 0) (St w []) ld_29 rfl hr282 rfl (me 1 rfl)) gn rfl ?_
 refine wl_v 5 rfl (v_bin rfl rfl rfl) gn rfl ?_
 refine wl_v 6 rfl (v_move rfl) gn rfl ?_
 by_cases hp283 : (ix x1 x6).kind = 6
 ·have h := if_pos' hp283 h
  refine w_bool 17 rfl ((eqi hp283)) ?_
  refine wl_pass 7 rfl (ps 17 rfl rfl rfl) ?_
  refine wl_pass 8 rfl (ps 17 rfl rfl rfl) ?_
  refine wl_pass 9 rfl (ps 17 rfl rfl rfl) ?_
  refine wl_pass 10 rfl (ps 17 rfl rfl rfl) ?_
  refine wl_pass 11 rfl (ps 17 rfl rfl rfl) ?_
  refine wl_pass 12 rfl (ps 17 rfl rfl rfl) ?_
  refine wl_v 13 rfl (v_pick (b := true) rfl rfl) gn rfl ?_
  refine wl_v 14 rfl (v_assign rfl) gn rfl ?_
  refine w_end 15 rfl ?_
  exact g_go [0, 1] (j1 true h) ⟨rfl, rfl, rfl, rfl, trivial⟩ (.slnil) rfl
 ·have h := if_neg' hp283 h
  refine w_bool 17 rfl ((nei hp283)) ?_
  refine wl_v 7 rfl (v_move rfl) (gy 17 rfl rfl) rfl ?_
  refine wl_v 8 rfl (v_move rfl) (gy 17 rfl rfl) rfl ?_
  have hr284 := Rw.readF (s := St w []) (hl := hl_api_JNode) (h1 := h1_api_JNode) h5 hb281
  refine wl_v 9 rfl (v_idxR (s := St w []) slE_22 rfl rfl h5 hb281) (gy 17 rfl rfl) rfl ?_
  refine wl_v 10 rfl (v_fldA fo_31_0 rfl) (gy 17 rfl rfl) rfl ?_
  refine wl_v 11 rfl (v_ldA1 (kk := (x6 : Int).toNat * 4) (j := 0) (St w []) ld_29 rfl hr284 rfl (me 1 rfl)) (gy 17 rfl rfl) rfl ?_
  refine wl_v 12 rfl (v_bin rfl rfl rfl) (gy 17 rfl rfl) rfl ?_
  refine wl_v 13 rfl (v_pick (b := false) rfl rfl) gn rfl ?_
  refine wl_v 14 rfl (v_assign rfl) gn rfl ?_
  refine w_end 15 rfl ?_
  exact g_go [0, 1] (j1 (((ix x1 x6).kind) == 7) h) ⟨rfl, rfl, rfl, rfl, trivial⟩ (.slnil) rfl
theorem trellisref25_inside_ind : ∀ n, trellisref25_inside_st (trellisref25_inside_n n)
 | 0 => fun w F x1 x6 x7 A2 n3 c4 h5 hF hL0 r h => h.elim
 | n + 1 => by
  have ih := trellisref25_inside_ind n
  exact trellisref25_inside_step _ ih
theorem trellisref25_inside_calls (w : World) (F : Nat → Prop) (x1 : List api_JNode) (x6 : Int) (x7 : Int) (A2 : Option Addr) (n3 : Nat) (c4 : Nat) (h5 : Rw k_api_JNode w (St w []).av A2 n3 c4 x1) (hF : ∀ b, F b → b < w.heap.size ∧ ∀ o ∈ ([] : List (List Nat)), b ∉ o) (hL0 : B.Loc w w [] [Sm w.heap.size F w [], St w []]) (r : Bool) (h : trellisref25_inside x1 x6 x7 r) : Calls Tryd.prog 42 #[.slice A2 n3 c4, .int .i64 x6, .int .i64 x7] w (trellisref25_inside_R w F  r) := by
 obtain ⟨n, h⟩ := h
 exact (trellisref25_inside_ind n) w F x1 x6 x7 A2 n3 c4 h5 hF hL0 r h
noncomputable abbrev q24c0 : Code := bodyOf Tryd.f24
noncomputable abbrev q24c1 : Code := Code.fst q24c0
noncomputable abbrev q24c2 : Code := Code.snd q24c0
noncomputable abbrev q24c3 : Code := Code.fst q24c2
noncomputable abbrev q24c4 : Code := Code.snd q24c2
noncomputable abbrev q24c5 : Code := Code.fst q24c3
noncomputable abbrev q24c6 : Code := Code.snd q24c3
noncomputable abbrev q24c7 : Code := Code.fst q24c6
noncomputable abbrev q24c8 : Code := Code.snd q24c6
noncomputable abbrev q24c9 : Code := Code.fst q24c7
noncomputable abbrev q24c10 : Code := Code.snd q24c7
noncomputable abbrev q24c11 : Code := Code.fst q24c4
noncomputable abbrev q24c12 : Code := Code.snd q24c4
noncomputable abbrev q24c13 : Code := Code.fst q24c11
noncomputable abbrev q24c14 : Code := Code.snd q24c11
noncomputable abbrev q24c15 : Code := Code.fst q24c14
noncomputable abbrev q24c16 : Code := Code.fst q24c15
noncomputable abbrev q24c17 : Code := Code.fst q24c16
noncomputable abbrev q24c18 : Code := Code.snd q24c16
noncomputable abbrev q24c19 : Code := Code.fst q24c17
noncomputable abbrev q24c20 : Code := Code.snd q24c17
noncomputable abbrev q24c21 : Code := Code.fst q24c20
noncomputable abbrev q24c22 : Code := Code.snd q24c20
noncomputable abbrev q24c23 : Code := Code.fst q24c18
noncomputable abbrev q24c24 : Code := Code.snd q24c18
noncomputable abbrev q24c25 : Code := Code.fst q24c23
noncomputable abbrev q24c26 : Code := Code.fst q24c25
noncomputable abbrev q24c27 : Code := Code.snd q24c25
noncomputable abbrev q24c28 : Code := Code.fst q24c27
noncomputable abbrev q24c29 : Code := Code.snd q24c27
noncomputable abbrev q24c30 : Code := Code.fst q24c28
noncomputable abbrev q24c31 : Code := Code.snd q24c28
noncomputable abbrev q24c32 : Code := Code.fst q24c12
noncomputable abbrev q24c33 : Code := Code.snd q24c12
abbrev trellisref25_Shaped_R (w : World) (F : Nat → Prop) (r : Bool) : Ending → World → Prop := fun e w' => e = .returned (.bool r) ∧ B.Loc w w' [] [St w []]
noncomputable abbrev trellisref25_Shaped_C (w : World) (F : Nat → Prop) (r : Bool) : Cx := ⟨Tryd.prog, 24, Tryd.f24, 35, trellisref25_Shaped_R w F  r, w⟩
theorem trellisref25_Shaped_calls (w : World) (F : Nat → Prop) (x1 : List api_JNode) (A2 : Option Addr) (n3 : Nat) (c4 : Nat) (h5 : Rw k_api_JNode w (St w []).av A2 n3 c4 x1) (hF : ∀ b, F b → b < w.heap.size ∧ ∀ o ∈ ([] : List (List Nat)), b ∉ o) (hL0 : B.Loc w w [] [Sm w.heap.size F w [], St w []]) (r : Bool) (h : trellisref25_Shaped x1 r) : Calls Tryd.prog 24 #[.slice A2 n3 c4] w (trellisref25_Shaped_R w F  r) := by
 unfold trellisref25_Shaped at h
 refine calls_of_Loc (vs := [.slice A2 n3 c4]) 35 Tryd.func24 rfl Tryd.ntmps24 rfl hL0 ?_
 show G (trellisref25_Shaped_C w F r) _ _ _ _
 refine g_seq (c := q24c0) rfl ?_
 refine g_region (c := q24c1) rfl rfl ?_
 refine wl_v 0 rfl (v_assign rfl) gn rfl ?_
 refine w_end 1 rfl ?_
 refine g_seq (c := q24c2) rfl ?_
 refine g_seq (c := q24c3) rfl ?_
 have j1 : ∀ (x19 : Bool) (h : trellisref25_Shaped_j1 x1 x19 r) , G (trellisref25_Shaped_C w F r) [.code q24c6, .code q24c4] [(0, .slice A2 n3 c4), (20, .bool x19)] [] [Sm w.heap.size F w [], St w []] := by
  intro x19 h
  unfold trellisref25_Shaped_j1 at h
  by_cases hp20 : x19 = true
  ·have h := if_pos' hp20 h
   refine g_true (c := q24c6) rfl _ rfl (hp20) ?_
   refine g_seq (c := q24c7) rfl ?_
   refine g_region (c := q24c9) rfl rfl ?_
   refine wl_v 0 rfl (v_assign rfl) gn rfl ?_
   refine w_end 1 rfl ?_
   refine g_retR (c := q24c10) [.bool false] rfl Tryd.func24 rfl (.tmp rfl (.nil)) fun wr hLr => ?_
   have hMr : B.Loc w wr [] [St w []] := hLr.pick0 (sels [1] rfl)
   show trellisref25_Shaped_R w F  r (.returned (packV [.bool false])) wr
   rw [h]
   exact ⟨rfl, hMr⟩
  ·have h := if_neg' hp20 h
   refine g_false (c := q24c6) rfl _ rfl ((bf hp20)) ?_
   refine g_skip (c := q24c8) rfl ?_
   refine g_seq (c := q24c4) rfl ?_
   refine g_seq (c := q24c11) rfl ?_
   refine g_region (c := q24c13) rfl rfl ?_
   refine wl_v 0 rfl (v_assign rfl) gn rfl ?_
   refine w_end 1 rfl ?_
   refine g_block (c := q24c14) rfl ?_
   refine g_loop (c := q24c15) rfl ?_
   have key2 : ∀ s, Rounds (fun (s : Int) o => trellisref25_Shaped_b2 x1 s o) s r → (fun (s : Int) => ∀ (_ : Unit), G (trellisref25_Shaped_C w F r) [.code q24c16, .inLoop q24c16, .inBlock 0, .code q24c12] [(0, .slice A2 n3 c4), (3, .int .i64 s)] [] [Sm w.heap.size F w [], St w []]) s := by
    intro s hs
    refine Rounds.ind (mot := (fun (s : Int) => ∀ (_ : Unit), G (trellisref25_Shaped_C w F r) [.code q24c16, .inLoop q24c16, .inBlock 0, .code q24c12] [(0, .slice A2 n3 c4), (3, .int .i64 s)] [] [Sm w.heap.size F w [], St w []])) ?_ hs
    clear hs s
    intro x42 o1 h hO1
    show ∀ (_ : Unit), G (trellisref25_Shaped_C w F r) [.code q24c16, .inLoop q24c16, .inBlock 0, .code q24c12] [(0, .slice A2 n3 c4), (3, .int .i64 x42)] [] [Sm w.heap.size F w [], St w []]
    intro _
    have h : trellisref25_Shaped_b2 x1 x42 o1 := h
    unfold trellisref25_Shaped_b2 at h
    refine g_seq (c := q24c16) rfl ?_
    refine g_seq (c := q24c17) rfl ?_
    refine g_region (c := q24c19) rfl rfl ?_
    refine wl_v 0 rfl (v_move rfl) gn rfl ?_
    refine wl_v 1 rfl (v_move rfl) gn rfl ?_
    refine wl_v 2 rfl (v_lenQ un_22 rfl h5.hq) gn rfl ?_
    refine wl_v 3 rfl (v_bin rfl rfl rfl) gn rfl ?_
    refine w_end 4 rfl ?_
    by_cases hp63 : x42 < (x1.length : Int)
    ·have h := if_pos' hp63 h
     refine g_true (c := q24c20) rfl _ rfl ((decide_eq_true hp63)) ?_
     refine g_skip (c := q24c21) rfl ?_
     refine g_seq (c := q24c18) rfl ?_
     refine g_block (c := q24c23) rfl ?_
     refine g_seq (c := q24c25) rfl ?_
     refine g_region (c := q24c26) rfl rfl ?_
     refine wl_v 0 rfl (v_move rfl) gn rfl ?_
     refine wl_v 1 rfl (v_move rfl) gn rfl ?_
     obtain ⟨hb64, h⟩ := h
     have hr65 := Rw.readF (s := St w []) (hl := hl_api_JNode) (h1 := h1_api_JNode) h5 hb64
     refine wl_v 2 rfl (v_idxR (s := St w []) slE_22 rfl rfl h5 hb64) gn rfl ?_
     refine wl_v 3 rfl (v_ldA (St w []) ld_31 rfl hr65 rfl (me 1 rfl)) gn rfl ?_
     obtain ⟨r69, hv70, h⟩ := h
     refine wl_s 4 rfl (s_call [.agg #[.int .i64 ((ix x1 x42).kind), .string ((ix x1 x42).key), .string ((ix x1 x42).text), .int .i64 ((ix x1 x42).kids)]] rfl Tryd.func41 rfl rfl rfl fun w66 hL67 => ?_) gn
     have hp68 : List.Perm ([] : List Ent) (([] : List Ent) ++ ([] : List Ent)) := perm_of_idx [] [] rfl rfl (by kernel_rfl)
     refine Calls.mono (trellisref25_alone_calls w66 (Fl ([] : List Snap)) (ix x1 x42) (hL67.hFl (Sl := ([] : List Snap)) hp68 (sels [] rfl)) (hL67.into hp68 (Fl ([] : List Snap))) r69 hv70) ?_
     rintro _ w71 ⟨rfl, hM72⟩
     have hL73 := hL67.call hp68 hM72
     refine ⟨_, _, _, rfl, hL73, ?_⟩
     refine wl_v 5 rfl (v_not rfl) gn rfl ?_
     refine w_end 6 rfl ?_
     by_cases hp74 : r69 = true
     ·have h := if_pos' hp74 h
      refine g_false (c := q24c27) rfl _ rfl ((nf hp74)) ?_
      refine g_skip (c := q24c29) rfl ?_
      refine g_inBlock ?_
      refine g_region (c := q24c24) rfl rfl ?_
      refine wl_v 0 rfl (v_move rfl) gn rfl ?_
      refine wl_v 1 rfl (v_bin rfl rfl rfl) gn rfl ?_
      refine wl_v 2 rfl (v_assign rfl) gn rfl ?_
      refine w_end 3 rfl ?_
      refine g_inLoop ?_
      have ih := Out.inl hO1 h
      exact g_go [0, 1] (ih ()) ⟨rfl, rfl, trivial⟩ (.slnil) rfl
     ·have h := if_neg' hp74 h
      refine g_true (c := q24c27) rfl _ rfl ((nt (bf hp74))) ?_
      refine g_seq (c := q24c28) rfl ?_
      refine g_region (c := q24c30) rfl rfl ?_
      refine wl_v 0 rfl (v_assign rfl) gn rfl ?_
      refine w_end 1 rfl ?_
      have h := Out.inr hO1 h
      refine g_retR (c := q24c31) [.bool false] rfl Tryd.func24 rfl (.tmp rfl (.nil)) fun wr hLr => ?_
      have hMr : B.Loc w wr [] [St w []] := hLr.pick0 (sels [1] rfl)
      show trellisref25_Shaped_R w F  r (.returned (packV [.bool false])) wr
      rw [h]
      exact ⟨rfl, hMr⟩
    ·have h := if_neg' hp63 h
     refine g_false (c := q24c20) rfl _ rfl ((decide_eq_false hp63)) ?_
     refine g_exit (c := q24c22) [.code q24c12] rfl rfl ?_
     refine g_seq (c := q24c12) rfl ?_
     refine g_region (c := q24c32) rfl rfl ?_
     refine wl_v 0 rfl (v_move rfl) gn rfl ?_
     obtain ⟨r78, hv79, h⟩ := h
     refine wl_s 1 rfl (s_call [.slice A2 n3 c4, .int .i64 0, .int .i64 0] rfl Tryd.func42 rfl rfl rfl fun w75 hL76 => ?_) gn
     have hp77 : List.Perm ([] : List Ent) (([] : List Ent) ++ ([] : List Ent)) := perm_of_idx [] [] rfl rfl (by kernel_rfl)
     refine Calls.mono (trellisref25_inside_calls w75 (Fl ([] : List Snap)) x1 0 0 A2 n3 c4 (Rw.mono h5 (hL76.toSt hp77 (me 1 rfl))) (hL76.hFl (Sl := ([] : List Snap)) hp77 (sels [] rfl)) (hL76.into hp77 (Fl ([] : List Snap))) r78 hv79) ?_
     rintro _ w80 ⟨rfl, hM81⟩
     have hL82 := hL76.call hp77 hM81
     refine ⟨_, _, _, rfl, hL82, ?_⟩
     refine wl_v 2 rfl (v_assign rfl) gn rfl ?_
     refine w_end 3 rfl ?_
     have h := Out.inr hO1 h
     refine g_retR (c := q24c33) [.bool r78] rfl Tryd.func24 rfl (.tmp rfl (.nil)) fun wr hLr => ?_
     have hMr : B.Loc w wr [] [St w []] := hLr.pick0 (sels [1] rfl)
     show trellisref25_Shaped_R w F  r (.returned (packV [.bool r78])) wr
     rw [h]
     exact ⟨rfl, hMr⟩
   exact g_go [0, 1] (key2 _ h ()) ⟨rfl, rfl, trivial⟩ (.slnil) rfl
 refine g_region (c := q24c5) rfl rfl ?_
 refine wl_v 0 rfl (v_move rfl) gn rfl ?_
 refine wl_v 1 rfl (v_lenQ un_22 rfl h5.hq) gn rfl ?_
 refine wl_v 2 rfl (v_bin rfl rfl rfl) gn rfl ?_
 refine wl_v 3 rfl (v_move rfl) gn rfl ?_
 by_cases hp83 : (x1.length : Int) = 0
 ·have h := if_pos' hp83 h
  refine w_bool 7 rfl ((eqi hp83)) ?_
  refine wl_pass 4 rfl (ps 7 rfl rfl rfl) ?_
  refine wl_pass 5 rfl (ps 7 rfl rfl rfl) ?_
  refine wl_pass 6 rfl (ps 7 rfl rfl rfl) ?_
  refine wl_pass 7 rfl (ps 7 rfl rfl rfl) ?_
  refine wl_pass 8 rfl (ps 7 rfl rfl rfl) ?_
  refine wl_v 9 rfl (v_pick (b := true) rfl rfl) gn rfl ?_
  refine wl_v 10 rfl (v_move rfl) gn rfl ?_
  refine wl_pass 11 rfl (ps 14 rfl rfl rfl) ?_
  refine wl_pass 12 rfl (ps 14 rfl rfl rfl) ?_
  refine wl_pass 13 rfl (ps 14 rfl rfl rfl) ?_
  refine wl_pass 14 rfl (ps 14 rfl rfl rfl) ?_
  refine wl_pass 15 rfl (ps 14 rfl rfl rfl) ?_
  refine wl_v 16 rfl (v_pick (b := true) rfl rfl) gn rfl ?_
  refine w_end 17 rfl ?_
  exact g_go [0, 1] (j1 true h) ⟨rfl, rfl, trivial⟩ (.slnil) rfl
 ·have h := if_neg' hp83 h
  refine w_bool 7 rfl ((nei hp83)) ?_
  refine wl_v 4 rfl (v_move rfl) (gy 7 rfl rfl) rfl ?_
  obtain ⟨r87, hv88, h⟩ := h
  refine wl_s 5 rfl (s_call [.slice A2 n3 c4, .int .i64 0] rfl Tryd.func40 rfl rfl rfl fun w84 hL85 => ?_) (gy 7 rfl rfl)
  have hp86 : List.Perm ([] : List Ent) (([] : List Ent) ++ ([] : List Ent)) := perm_of_idx [] [] rfl rfl (by kernel_rfl)
  refine Calls.mono (trellisref25_Behind_calls w84 (Fl ([] : List Snap)) x1 0 A2 n3 c4 (Rw.mono h5 (hL85.toSt hp86 (me 1 rfl))) (hL85.hFl (Sl := ([] : List Snap)) hp86 (sels [] rfl)) (hL85.into hp86 (Fl ([] : List Snap))) r87 hv88) ?_
  rintro _ w89 ⟨rfl, hM90⟩
  have hL91 := hL85.call hp86 hM90
  refine ⟨_, _, _, rfl, hL91, ?_⟩
  refine wl_v 6 rfl (v_move rfl) (gy 7 rfl rfl) rfl ?_
  refine wl_v 7 rfl (v_lenQ un_22 rfl h5.hq) (gy 7 rfl rfl) rfl ?_
  refine wl_v 8 rfl (v_bin rfl rfl rfl) (gy 7 rfl rfl) rfl ?_
  refine wl_v 9 rfl (v_pick (b := false) rfl rfl) gn rfl ?_
  refine wl_v 10 rfl (v_move rfl) gn rfl ?_
  by_cases hp92 : r87 = (x1.length : Int)
  ·have h := if_pos' hp92 h
   refine w_bool 14 rfl ((eqib hp92)) ?_
   refine wl_v 11 rfl (v_move rfl) (gy 14 rfl rfl) rfl ?_
   obtain ⟨hb93, h⟩ := h
   have hr94 := Rw.readF (s := St w []) (hl := hl_api_JNode) (h1 := h1_api_JNode) h5 hb93
   refine wl_v 12 rfl (v_idxR (s := St w []) slE_22 rfl rfl h5 hb93) (gy 14 rfl rfl) rfl ?_
   refine wl_v 13 rfl (v_fldA fo_31_1 rfl) (gy 14 rfl rfl) rfl ?_
   refine wl_v 14 rfl (v_ldA1 (kk := (0 : Int).toNat * 4) (j := 1) (St w []) ld_9 rfl hr94 rfl (me 1 rfl)) (gy 14 rfl rfl) rfl ?_
   refine wl_v 15 rfl (v_neS rfl rfl) (gy 14 rfl rfl) rfl ?_
   refine wl_v 16 rfl (v_pick (b := false) rfl rfl) gn rfl ?_
   refine w_end 17 rfl ?_
   exact g_go [0, 1] (j1 (!(seq ((ix x1 0).key) (⟨#[]⟩ : ByteArray))) h) ⟨rfl, rfl, trivial⟩ (.slnil) rfl
  ·have h := if_neg' hp92 h
   refine w_bool 14 rfl ((neib hp92)) ?_
   refine wl_pass 11 rfl (ps 14 rfl rfl rfl) ?_
   refine wl_pass 12 rfl (ps 14 rfl rfl rfl) ?_
   refine wl_pass 13 rfl (ps 14 rfl rfl rfl) ?_
   refine wl_pass 14 rfl (ps 14 rfl rfl rfl) ?_
   refine wl_pass 15 rfl (ps 14 rfl rfl rfl) ?_
   refine wl_v 16 rfl (v_pick (b := true) rfl rfl) gn rfl ?_
   refine w_end 17 rfl ?_
   exact g_go [0, 1] (j1 true h) ⟨rfl, rfl, trivial⟩ (.slnil) rfl
noncomputable abbrev q27c0 : Code := bodyOf Tryd.f27
noncomputable abbrev q27c1 : Code := Code.fst q27c0
noncomputable abbrev q27c2 : Code := Code.snd q27c0
noncomputable abbrev q27c3 : Code := Code.fst q27c2
noncomputable abbrev q27c4 : Code := Code.snd q27c2
noncomputable abbrev q27c5 : Code := Code.fst q27c3
noncomputable abbrev q27c6 : Code := Code.snd q27c3
noncomputable abbrev q27c7 : Code := Code.fst q27c6
noncomputable abbrev q27c8 : Code := Code.snd q27c6
noncomputable abbrev q27c9 : Code := Code.fst q27c4
noncomputable abbrev q27c10 : Code := Code.snd q27c4
noncomputable abbrev q27c11 : Code := Code.fst q27c9
noncomputable abbrev q27c12 : Code := Code.snd q27c9
noncomputable abbrev q27c13 : Code := Code.fst q27c12
noncomputable abbrev q27c14 : Code := Code.fst q27c13
noncomputable abbrev q27c15 : Code := Code.fst q27c14
noncomputable abbrev q27c16 : Code := Code.snd q27c14
noncomputable abbrev q27c17 : Code := Code.fst q27c15
noncomputable abbrev q27c18 : Code := Code.snd q27c15
noncomputable abbrev q27c19 : Code := Code.fst q27c18
noncomputable abbrev q27c20 : Code := Code.snd q27c18
noncomputable abbrev q27c21 : Code := Code.fst q27c16
noncomputable abbrev q27c22 : Code := Code.snd q27c16
noncomputable abbrev q27c23 : Code := Code.fst q27c21
noncomputable abbrev q27c24 : Code := Code.fst q27c23
noncomputable abbrev q27c25 : Code := Code.snd q27c23
noncomputable abbrev q27c26 : Code := Code.fst q27c25
noncomputable abbrev q27c27 : Code := Code.snd q27c25
noncomputable abbrev q27c28 : Code := Code.fst q27c26
noncomputable abbrev q27c29 : Code := Code.snd q27c26
noncomputable abbrev q27c30 : Code := Code.fst q27c10
noncomputable abbrev q27c31 : Code := Code.snd q27c10
noncomputable abbrev q27c32 : Code := Code.fst q27c7
noncomputable abbrev q27c33 : Code := Code.snd q27c7
abbrev trellislaw25_same_R (w : World) (F : Nat → Prop) (r : Bool) : Ending → World → Prop := fun e w' => e = .returned (.bool r) ∧ B.Loc w w' [] [St w []]
noncomputable abbrev trellislaw25_same_C (w : World) (F : Nat → Prop) (r : Bool) : Cx := ⟨Tryd.prog, 27, Tryd.f27, 26, trellislaw25_same_R w F  r, w⟩
theorem trellislaw25_same_calls (w : World) (F : Nat → Prop) (x1 : List api_JNode) (x6 : List api_JNode) (A2 : Option Addr) (n3 : Nat) (c4 : Nat) (A7 : Option Addr) (n8 : Nat) (c9 : Nat) (h5 : Rw k_api_JNode w (St w []).av A2 n3 c4 x1) (h10 : Rw k_api_JNode w (St w []).av A7 n8 c9 x6) (hF : ∀ b, F b → b < w.heap.size ∧ ∀ o ∈ ([] : List (List Nat)), b ∉ o) (hL0 : B.Loc w w [] [Sm w.heap.size F w [], St w []]) (r : Bool) (h : trellislaw25_same x1 x6 r) : Calls Tryd.prog 27 #[.slice A2 n3 c4, .slice A7 n8 c9] w (trellislaw25_same_R w F  r) := by
 unfold trellislaw25_same at h
 refine calls_of_Loc (vs := [.slice A2 n3 c4, .slice A7 n8 c9]) 26 Tryd.func27 rfl Tryd.ntmps27 rfl hL0 ?_
 show G (trellislaw25_same_C w F r) _ _ _ _
 refine g_seq (c := q27c0) rfl ?_
 refine g_region (c := q27c1) rfl rfl ?_
 refine wl_v 0 rfl (v_assign rfl) gn rfl ?_
 refine w_end 1 rfl ?_
 refine g_seq (c := q27c2) rfl ?_
 refine g_seq (c := q27c3) rfl ?_
 refine g_region (c := q27c5) rfl rfl ?_
 refine wl_v 0 rfl (v_move rfl) gn rfl ?_
 refine wl_v 1 rfl (v_lenQ un_22 rfl h5.hq) gn rfl ?_
 refine wl_v 2 rfl (v_move rfl) gn rfl ?_
 refine wl_v 3 rfl (v_lenQ un_22 rfl h10.hq) gn rfl ?_
 refine wl_v 4 rfl (v_bin rfl rfl rfl) gn rfl ?_
 refine w_end 5 rfl ?_
 by_cases hp11 : (x1.length : Int) = (x6.length : Int)
 ·have h := if_pos' hp11 h
  refine g_false (c := q27c6) rfl _ rfl ((eqib hp11)) ?_
  refine g_skip (c := q27c8) rfl ?_
  refine g_seq (c := q27c4) rfl ?_
  refine g_seq (c := q27c9) rfl ?_
  refine g_region (c := q27c11) rfl rfl ?_
  refine wl_v 0 rfl (v_assign rfl) gn rfl ?_
  refine w_end 1 rfl ?_
  refine g_block (c := q27c12) rfl ?_
  refine g_loop (c := q27c13) rfl ?_
  have key1 : ∀ s, Rounds (fun (s : Int) o => trellislaw25_same_b1 x1 x6 s o) s r → (fun (s : Int) => ∀ (_ : Unit), G (trellislaw25_same_C w F r) [.code q27c14, .inLoop q27c14, .inBlock 0, .code q27c10] [(0, .slice A2 n3 c4), (1, .slice A7 n8 c9), (5, .int .i64 s)] [] [Sm w.heap.size F w [], St w []]) s := by
   intro s hs
   refine Rounds.ind (mot := (fun (s : Int) => ∀ (_ : Unit), G (trellislaw25_same_C w F r) [.code q27c14, .inLoop q27c14, .inBlock 0, .code q27c10] [(0, .slice A2 n3 c4), (1, .slice A7 n8 c9), (5, .int .i64 s)] [] [Sm w.heap.size F w [], St w []])) ?_ hs
   clear hs s
   intro x23 o1 h hO1
   show ∀ (_ : Unit), G (trellislaw25_same_C w F r) [.code q27c14, .inLoop q27c14, .inBlock 0, .code q27c10] [(0, .slice A2 n3 c4), (1, .slice A7 n8 c9), (5, .int .i64 x23)] [] [Sm w.heap.size F w [], St w []]
   intro _
   have h : trellislaw25_same_b1 x1 x6 x23 o1 := h
   unfold trellislaw25_same_b1 at h
   refine g_seq (c := q27c14) rfl ?_
   refine g_seq (c := q27c15) rfl ?_
   refine g_region (c := q27c17) rfl rfl ?_
   refine wl_v 0 rfl (v_move rfl) gn rfl ?_
   refine wl_v 1 rfl (v_move rfl) gn rfl ?_
   refine wl_v 2 rfl (v_lenQ un_22 rfl h5.hq) gn rfl ?_
   refine wl_v 3 rfl (v_bin rfl rfl rfl) gn rfl ?_
   refine w_end 4 rfl ?_
   by_cases hp34 : x23 < (x1.length : Int)
   ·have h := if_pos' hp34 h
    refine g_true (c := q27c18) rfl _ rfl ((decide_eq_true hp34)) ?_
    refine g_skip (c := q27c19) rfl ?_
    refine g_seq (c := q27c16) rfl ?_
    refine g_block (c := q27c21) rfl ?_
    refine g_seq (c := q27c23) rfl ?_
    obtain ⟨hb35, h⟩ := h
    obtain ⟨hb37, h⟩ := h
    have hns : Region.noSelect (Code.ops q27c24) = true := by kernel_rfl
    refine g_drawF (c := q27c24) [] [Sm w.heap.size F w [], St w []] [] 9 rfl rfl mix rfl (.slnil) (sels [0, 1] rfl) ?_
    refine wfv 0 rfl (v_move rfl) gn hns rfl ?_
    refine wfv 1 rfl (v_move rfl) gn hns rfl ?_
    have hr41 := Rw.readF (s := St w []) (hl := hl_api_JNode) (h1 := h1_api_JNode) h5 hb35
    refine wfv 2 rfl (v_idxR (s := St w []) slE_22 rfl rfl h5 hb35) gn hns rfl ?_
    refine wfv 3 rfl (v_ldA (St w []) ld_31 rfl hr41 rfl (me 1 rfl)) gn hns rfl ?_
    refine wfv 4 rfl (v_move rfl) gn hns rfl ?_
    refine wfv 5 rfl (v_move rfl) gn hns rfl ?_
    have hr42 := Rw.readF (s := St w []) (hl := hl_api_JNode) (h1 := h1_api_JNode) h10 hb37
    refine wfv 6 rfl (v_idxR (s := St w []) slE_22 rfl rfl h10 hb37) gn hns rfl ?_
    refine wfv 7 rfl (v_ldA (St w []) ld_31 rfl hr42 rfl (me 1 rfl)) gn hns rfl ?_
    refine wfv 8 rfl (v_neSt eq_31 rfl rfl (eqd_api_JNode (ix x1 x23) (ix x6 x23))) gn hns rfl ?_
    refine wf_end (by kernel_rfl) ?_
    by_cases hp43 : ix x1 x23 = ix x6 x23
    ·have h := if_pos' hp43 h
     refine g_false (c := q27c25) rfl _ rfl ((nf (decide_eq_true hp43))) ?_
     refine g_skip (c := q27c27) rfl ?_
     refine g_inBlock ?_
     refine g_region (c := q27c22) rfl rfl ?_
     refine wl_v 0 rfl (v_move rfl) gn rfl ?_
     refine wl_v 1 rfl (v_bin rfl rfl rfl) gn rfl ?_
     refine wl_v 2 rfl (v_assign rfl) gn rfl ?_
     refine w_end 3 rfl ?_
     refine g_inLoop ?_
     have ih := Out.inl hO1 h
     exact g_go [0, 1] (ih ()) ⟨rfl, rfl, rfl, trivial⟩ (.slnil) rfl
    ·have h := if_neg' hp43 h
     refine g_true (c := q27c25) rfl _ rfl ((nt (decide_eq_false hp43))) ?_
     refine g_seq (c := q27c26) rfl ?_
     refine g_region (c := q27c28) rfl rfl ?_
     refine wl_v 0 rfl (v_assign rfl) gn rfl ?_
     refine w_end 1 rfl ?_
     have h := Out.inr hO1 h
     refine g_retR (c := q27c29) [.bool false] rfl Tryd.func27 rfl (.tmp rfl (.nil)) fun wr hLr => ?_
     have hMr : B.Loc w wr [] [St w []] := hLr.pick0 (sels [1] rfl)
     show trellislaw25_same_R w F  r (.returned (packV [.bool false])) wr
     rw [h]
     exact ⟨rfl, hMr⟩
   ·have h := if_neg' hp34 h
    refine g_false (c := q27c18) rfl _ rfl ((decide_eq_false hp34)) ?_
    refine g_exit (c := q27c20) [.code q27c10] rfl rfl ?_
    refine g_seq (c := q27c10) rfl ?_
    refine g_region (c := q27c30) rfl rfl ?_
    refine wl_v 0 rfl (v_assign rfl) gn rfl ?_
    refine w_end 1 rfl ?_
    have h := Out.inr hO1 h
    refine g_retR (c := q27c31) [.bool true] rfl Tryd.func27 rfl (.tmp rfl (.nil)) fun wr hLr => ?_
    have hMr : B.Loc w wr [] [St w []] := hLr.pick0 (sels [1] rfl)
    show trellislaw25_same_R w F  r (.returned (packV [.bool true])) wr
    rw [h]
    exact ⟨rfl, hMr⟩
  exact g_go [0, 1] (key1 _ h ()) ⟨rfl, rfl, rfl, trivial⟩ (.slnil) rfl
 ·have h := if_neg' hp11 h
  refine g_true (c := q27c6) rfl _ rfl ((neib hp11)) ?_
  refine g_seq (c := q27c7) rfl ?_
  refine g_region (c := q27c32) rfl rfl ?_
  refine wl_v 0 rfl (v_assign rfl) gn rfl ?_
  refine w_end 1 rfl ?_
  refine g_retR (c := q27c33) [.bool false] rfl Tryd.func27 rfl (.tmp rfl (.nil)) fun wr hLr => ?_
  have hMr : B.Loc w wr [] [St w []] := hLr.pick0 (sels [1] rfl)
  show trellislaw25_same_R w F  r (.returned (packV [.bool false])) wr
  rw [h]
  exact ⟨rfl, hMr⟩
noncomputable abbrev q19c0 : Code := bodyOf Tryd.f19
noncomputable abbrev q19c1 : Code := Code.fst q19c0
noncomputable abbrev q19c2 : Code := Code.snd q19c0
noncomputable abbrev q19c3 : Code := Code.fst q19c2
noncomputable abbrev q19c4 : Code := Code.snd q19c2
abbrev trellislaw25_spared_R (w : World) (F : Nat → Prop) (r : Bool) : Ending → World → Prop := fun e w' => e = .returned (.bool r) ∧ B.Loc w w' [] [St w []]
noncomputable abbrev trellislaw25_spared_C (w : World) (F : Nat → Prop) (r : Bool) : Cx := ⟨Tryd.prog, 19, Tryd.f19, 30, trellislaw25_spared_R w F  r, w⟩
theorem trellislaw25_spared_calls (w : World) (F : Nat → Prop) (x1 : List api_JNode) (x6 : List api_JNode) (A2 : Option Addr) (n3 : Nat) (c4 : Nat) (A7 : Option Addr) (n8 : Nat) (c9 : Nat) (h5 : Rw k_api_JNode w (St w []).av A2 n3 c4 x1) (h10 : Rw k_api_JNode w (St w []).av A7 n8 c9 x6) (hF : ∀ b, F b → b < w.heap.size ∧ ∀ o ∈ ([] : List (List Nat)), b ∉ o) (hL0 : B.Loc w w [] [Sm w.heap.size F w [], St w []]) (r : Bool) (h : trellislaw25_spared x1 x6 r) : Calls Tryd.prog 19 #[.slice A2 n3 c4, .slice A7 n8 c9] w (trellislaw25_spared_R w F  r) := by
 unfold trellislaw25_spared at h
 refine calls_of_Loc (vs := [.slice A2 n3 c4, .slice A7 n8 c9]) 30 Tryd.func19 rfl Tryd.ntmps19 rfl hL0 ?_
 show G (trellislaw25_spared_C w F r) _ _ _ _
 refine g_seq (c := q19c0) rfl ?_
 refine g_region (c := q19c1) rfl rfl ?_
 refine wl_v 0 rfl (v_assign rfl) gn rfl ?_
 refine w_end 1 rfl ?_
 refine g_seq (c := q19c2) rfl ?_
 refine g_region (c := q19c3) rfl rfl ?_
 refine wl_v 0 rfl (v_move rfl) gn rfl ?_
 refine wl_v 1 rfl (v_move rfl) gn rfl ?_
 refine wl_v 2 rfl (v_lenQ un_22 rfl h10.hq) gn rfl ?_
 obtain ⟨hb11, h⟩ := h
 have h12 := Rw.cutHi (hv := (x6.length : Int)) h5 (by have q := hb11; have q1 := h5.hq; have q2 := h5.hn; omega)
 refine wl_v 3 rfl (v_cutHi (i := (x6.length : Int)) slE_22 rfl rfl (by have q := hb11; have q1 := h5.hq; have q2 := h5.hn; omega) h5.hn rfl) gn rfl ?_
 refine wl_v 4 rfl (v_move rfl) gn rfl ?_
 obtain ⟨r16, hv17, h⟩ := h
 refine wl_s 5 rfl (s_call [.slice A2 (((x6.length : Int) : Int).toNat) c4, .slice A7 n8 c9] rfl Tryd.func27 rfl rfl rfl fun w13 hL14 => ?_) gn
 have hp15 : List.Perm ([] : List Ent) (([] : List Ent) ++ ([] : List Ent)) := perm_of_idx [] [] rfl rfl (by kernel_rfl)
 refine Calls.mono (trellislaw25_same_calls w13 (Fl ([] : List Snap)) (x1.take ((x6.length : Int) : Int).toNat) x6 A2 (((x6.length : Int) : Int).toNat) c4 A7 n8 c9 (Rw.mono h12 (hL14.toSt hp15 (me 1 rfl))) (Rw.mono h10 (hL14.toSt hp15 (me 1 rfl))) (hL14.hFl (Sl := ([] : List Snap)) hp15 (sels [] rfl)) (hL14.into hp15 (Fl ([] : List Snap))) r16 hv17) ?_
 rintro _ w18 ⟨rfl, hM19⟩
 have hL20 := hL14.call hp15 hM19
 refine ⟨_, _, _, rfl, hL20, ?_⟩
 refine wl_v 6 rfl (v_move rfl) gn rfl ?_
 by_cases hp21 : r16 = true
 ·have h := if_pos' hp21 h
  refine w_bool 11 rfl (hp21) ?_
  refine wl_v 7 rfl (v_move rfl) (gy 11 rfl rfl) rfl ?_
  refine wl_v 8 rfl (v_move rfl) (gy 11 rfl rfl) rfl ?_
  refine wl_v 9 rfl (v_lenQ un_22 rfl h10.hq) (gy 11 rfl rfl) rfl ?_
  obtain ⟨hb22, h⟩ := h
  have hr23 := Rw.readF (s := St w []) (hl := hl_api_JNode) (h1 := h1_api_JNode) h5 hb22
  refine wl_v 10 rfl (v_idxR (s := St w []) slE_22 rfl rfl h5 hb22) (gy 11 rfl rfl) rfl ?_
  refine wl_v 11 rfl (v_ldA (St w []) ld_31 rfl hr23 rfl (me 1 rfl)) (gy 11 rfl rfl) rfl ?_
  refine wl_v 12 rfl (v_build #[.int .i64 0, .string (⟨#[109, 97, 114, 107]⟩ : ByteArray), .string (⟨#[]⟩ : ByteArray), .int .i64 0] bd_31 rfl (by kernel_rfl)) (gy 11 rfl rfl) rfl ?_
  refine wl_v 13 rfl (v_eqSt eq_31 rfl rfl (eqd_api_JNode (ix x1 (x6.length : Int)) (⟨0, (⟨#[109, 97, 114, 107]⟩ : ByteArray), (⟨#[]⟩ : ByteArray), 0⟩ : api_JNode))) (gy 11 rfl rfl) rfl ?_
  refine wl_v 14 rfl (v_pick (b := true) rfl rfl) gn rfl ?_
  refine wl_v 15 rfl (v_move rfl) gn rfl ?_
  by_cases hp24 : ix x1 (x6.length : Int) = (⟨0, (⟨#[109, 97, 114, 107]⟩ : ByteArray), (⟨#[]⟩ : ByteArray), 0⟩ : api_JNode)
  ·have h := if_pos' hp24 h
   refine w_bool 20 rfl ((decide_eq_true hp24)) ?_
   refine wl_v 16 rfl (v_move rfl) (gy 20 rfl rfl) rfl ?_
   refine wl_v 17 rfl (v_move rfl) (gy 20 rfl rfl) rfl ?_
   refine wl_v 18 rfl (v_lenQ un_22 rfl h10.hq) (gy 20 rfl rfl) rfl ?_
   refine wl_v 19 rfl (v_bin rfl rfl rfl) (gy 20 rfl rfl) rfl ?_
   obtain ⟨hb25, h⟩ := h
   have hr26 := Rw.readF (s := St w []) (hl := hl_api_JNode) (h1 := h1_api_JNode) h5 hb25
   refine wl_v 20 rfl (v_idxR (s := St w []) slE_22 rfl rfl h5 hb25) (gy 20 rfl rfl) rfl ?_
   refine wl_v 21 rfl (v_ldA (St w []) ld_31 rfl hr26 rfl (me 1 rfl)) (gy 20 rfl rfl) rfl ?_
   refine wl_v 22 rfl (v_build #[.int .i64 0, .string (⟨#[109, 97, 114, 107]⟩ : ByteArray), .string (⟨#[]⟩ : ByteArray), .int .i64 0] bd_31 rfl (by kernel_rfl)) (gy 20 rfl rfl) rfl ?_
   refine wl_v 23 rfl (v_eqSt eq_31 rfl rfl (eqd_api_JNode (ix x1 (w64 ((x6.length : Int) + 1))) (⟨0, (⟨#[109, 97, 114, 107]⟩ : ByteArray), (⟨#[]⟩ : ByteArray), 0⟩ : api_JNode))) (gy 20 rfl rfl) rfl ?_
   refine wl_v 24 rfl (v_pick (b := true) rfl rfl) gn rfl ?_
   refine wl_v 25 rfl (v_assign rfl) gn rfl ?_
   refine w_end 26 rfl ?_
   refine g_retR (c := q19c4) [.bool (decide (ix x1 (w64 ((x6.length : Int) + 1)) = (⟨0, (⟨#[109, 97, 114, 107]⟩ : ByteArray), (⟨#[]⟩ : ByteArray), 0⟩ : api_JNode)))] rfl Tryd.func19 rfl (.tmp rfl (.nil)) fun wr hLr => ?_
   have hMr : B.Loc w wr [] [St w []] := hLr.pick0 (sels [1] rfl)
   show trellislaw25_spared_R w F  r (.returned (packV [.bool (decide (ix x1 (w64 ((x6.length : Int) + 1)) = (⟨0, (⟨#[109, 97, 114, 107]⟩ : ByteArray), (⟨#[]⟩ : ByteArray), 0⟩ : api_JNode)))])) wr
   rw [h]
   exact ⟨rfl, hMr⟩
  ·have h := if_neg' hp24 h
   refine w_bool 20 rfl ((decide_eq_false hp24)) ?_
   refine wl_pass 16 rfl (ps 20 rfl rfl rfl) ?_
   refine wl_pass 17 rfl (ps 20 rfl rfl rfl) ?_
   refine wl_pass 18 rfl (ps 20 rfl rfl rfl) ?_
   refine wl_pass 19 rfl (ps 20 rfl rfl rfl) ?_
   refine wl_pass 20 rfl (ps 20 rfl rfl rfl) ?_
   refine wl_pass 21 rfl (ps 20 rfl rfl rfl) ?_
   refine wl_pass 22 rfl (ps 20 rfl rfl rfl) ?_
   refine wl_pass 23 rfl (ps 20 rfl rfl rfl) ?_
   refine wl_v 24 rfl (v_pick (b := false) rfl rfl) gn rfl ?_
   refine wl_v 25 rfl (v_assign rfl) gn rfl ?_
   refine w_end 26 rfl ?_
   refine g_retR (c := q19c4) [.bool false] rfl Tryd.func19 rfl (.tmp rfl (.nil)) fun wr hLr => ?_
   have hMr : B.Loc w wr [] [St w []] := hLr.pick0 (sels [1] rfl)
   show trellislaw25_spared_R w F  r (.returned (packV [.bool false])) wr
   rw [h]
   exact ⟨rfl, hMr⟩
 ·have h := if_neg' hp21 h
  refine w_bool 11 rfl ((bf hp21)) ?_
  refine wl_pass 7 rfl (ps 11 rfl rfl rfl) ?_
  refine wl_pass 8 rfl (ps 11 rfl rfl rfl) ?_
  refine wl_pass 9 rfl (ps 11 rfl rfl rfl) ?_
  refine wl_pass 10 rfl (ps 11 rfl rfl rfl) ?_
  refine wl_pass 11 rfl (ps 11 rfl rfl rfl) ?_
  refine wl_pass 12 rfl (ps 11 rfl rfl rfl) ?_
  refine wl_pass 13 rfl (ps 11 rfl rfl rfl) ?_
  refine wl_v 14 rfl (v_pick (b := false) rfl rfl) gn rfl ?_
  refine wl_v 15 rfl (v_move rfl) gn rfl ?_
  refine wl_pass 16 rfl (ps 20 rfl rfl rfl) ?_
  refine wl_pass 17 rfl (ps 20 rfl rfl rfl) ?_
  refine wl_pass 18 rfl (ps 20 rfl rfl rfl) ?_
  refine wl_pass 19 rfl (ps 20 rfl rfl rfl) ?_
  refine wl_pass 20 rfl (ps 20 rfl rfl rfl) ?_
  refine wl_pass 21 rfl (ps 20 rfl rfl rfl) ?_
  refine wl_pass 22 rfl (ps 20 rfl rfl rfl) ?_
  refine wl_pass 23 rfl (ps 20 rfl rfl rfl) ?_
  refine wl_v 24 rfl (v_pick (b := false) rfl rfl) gn rfl ?_
  refine wl_v 25 rfl (v_assign rfl) gn rfl ?_
  refine w_end 26 rfl ?_
  refine g_retR (c := q19c4) [.bool false] rfl Tryd.func19 rfl (.tmp rfl (.nil)) fun wr hLr => ?_
  have hMr : B.Loc w wr [] [St w []] := hLr.pick0 (sels [1] rfl)
  show trellislaw25_spared_R w F  r (.returned (packV [.bool false])) wr
  rw [h]
  exact ⟨rfl, hMr⟩
noncomputable abbrev q20c0 : Code := bodyOf Tryd.f20
noncomputable abbrev q20c1 : Code := Code.fst q20c0
noncomputable abbrev q20c2 : Code := Code.snd q20c0
noncomputable abbrev q20c3 : Code := Code.fst q20c2
noncomputable abbrev q20c4 : Code := Code.fst q20c3
noncomputable abbrev q20c5 : Code := Code.fst q20c4
noncomputable abbrev q20c6 : Code := Code.snd q20c4
noncomputable abbrev q20c7 : Code := Code.fst q20c5
noncomputable abbrev q20c8 : Code := Code.snd q20c5
noncomputable abbrev q20c9 : Code := Code.fst q20c8
noncomputable abbrev q20c10 : Code := Code.snd q20c8
noncomputable abbrev q20c11 : Code := Code.fst q20c6
noncomputable abbrev q20c12 : Code := Code.snd q20c6
noncomputable abbrev q20c13 : Code := Code.fst q20c11
noncomputable abbrev q20c14 : Code := Code.fst q20c13
noncomputable abbrev q20c15 : Code := Code.snd q20c13
abbrev trellislaw25_over_R (w : World) (F : Nat → Prop) (A2 : Option Addr) (n3 : Nat) (c4 : Nat) (z6 : Nat) (r : List api_JNode) : Ending → World → Prop := fun e w' => e = .returned (.tuple #[]) ∧ B.Loc w w' [.own (.slice A2 n3 c4) 31 4 n3 (r.flatMap enc_api_JNode)] [St w [(Value.slice A2 n3 c4).ownBlock.toList]] ∧ Ow z6 A2 n3 c4 r
noncomputable abbrev trellislaw25_over_C (w : World) (F : Nat → Prop) (A2 : Option Addr) (n3 : Nat) (c4 : Nat) (z6 : Nat) (r : List api_JNode) : Cx := ⟨Tryd.prog, 20, Tryd.f20, 31, trellislaw25_over_R w F A2 n3 c4 z6 r, w⟩
theorem trellislaw25_over_calls (w : World) (F : Nat → Prop) (x1 : List api_JNode) (z6 : Nat) (A2 : Option Addr) (n3 : Nat) (c4 : Nat) (hz7 : z6 ≤ w.heap.size) (h5 : Ow z6 A2 n3 c4 x1) (hF : ∀ b, F b → b < w.heap.size ∧ ∀ o ∈ ([(Value.slice A2 n3 c4).ownBlock.toList] : List (List Nat)), b ∉ o) (hL0 : B.Loc w w [.own (.slice A2 n3 c4) 31 4 n3 (x1.flatMap enc_api_JNode)] [Sm w.heap.size F w [(Value.slice A2 n3 c4).ownBlock.toList], St w [(Value.slice A2 n3 c4).ownBlock.toList]]) (r : List api_JNode) (h : trellislaw25_over x1 r) : Calls Tryd.prog 20 #[.slice A2 n3 c4] w (trellislaw25_over_R w F A2 n3 c4 z6 r) := by
 unfold trellislaw25_over at h
 refine calls_of_Loc (vs := [.slice A2 n3 c4]) 31 Tryd.func20 rfl Tryd.ntmps20 rfl hL0 ?_
 show G (trellislaw25_over_C w F A2 n3 c4 z6 r) _ _ _ _
 refine g_seq (c := q20c0) rfl ?_
 refine g_region (c := q20c1) rfl rfl ?_
 refine wl_v 0 rfl (v_assign rfl) gn rfl ?_
 refine w_end 1 rfl ?_
 refine g_block (c := q20c2) rfl ?_
 refine g_loop (c := q20c3) rfl ?_
 have key1 : ∀ s, Rounds (fun (s : (List api_JNode) × Int) o => trellislaw25_over_b1 s.1 s.2 o) s r → (fun (s : (List api_JNode) × Int) => ∀ (h21 : Ow z6 A2 n3 c4 s.1), G (trellislaw25_over_C w F A2 n3 c4 z6 r) [.code q20c4, .inLoop q20c4, .inBlock 0] [(0, .slice A2 n3 c4), (2, .int .i64 s.2)] [.own (.slice A2 n3 c4) 31 4 n3 (s.1.flatMap enc_api_JNode)] [Sm w.heap.size F w [(Value.slice A2 n3 c4).ownBlock.toList], St w [(Value.slice A2 n3 c4).ownBlock.toList]]) s := by
  intro s hs
  refine Rounds.ind (mot := (fun (s : (List api_JNode) × Int) => ∀ (h21 : Ow z6 A2 n3 c4 s.1), G (trellislaw25_over_C w F A2 n3 c4 z6 r) [.code q20c4, .inLoop q20c4, .inBlock 0] [(0, .slice A2 n3 c4), (2, .int .i64 s.2)] [.own (.slice A2 n3 c4) 31 4 n3 (s.1.flatMap enc_api_JNode)] [Sm w.heap.size F w [(Value.slice A2 n3 c4).ownBlock.toList], St w [(Value.slice A2 n3 c4).ownBlock.toList]])) ?_ hs
  clear hs s
  intro s o1 h hO1
  obtain ⟨x20, x22⟩ := s
  show ∀ (h21 : Ow z6 A2 n3 c4 x20), G (trellislaw25_over_C w F A2 n3 c4 z6 r) [.code q20c4, .inLoop q20c4, .inBlock 0] [(0, .slice A2 n3 c4), (2, .int .i64 x22)] [.own (.slice A2 n3 c4) 31 4 n3 (x20.flatMap enc_api_JNode)] [Sm w.heap.size F w [(Value.slice A2 n3 c4).ownBlock.toList], St w [(Value.slice A2 n3 c4).ownBlock.toList]]
  intro h21
  have h : trellislaw25_over_b1 x20 x22 o1 := h
  unfold trellislaw25_over_b1 at h
  refine g_seq (c := q20c4) rfl ?_
  refine g_seq (c := q20c5) rfl ?_
  refine g_region (c := q20c7) rfl rfl ?_
  refine wl_v 0 rfl (v_move rfl) gn rfl ?_
  refine wl_v 1 rfl (v_move rfl) gn rfl ?_
  refine wl_v 2 rfl (v_lenQ un_22 rfl h21.hq) gn rfl ?_
  refine wl_v 3 rfl (v_bin rfl rfl rfl) gn rfl ?_
  refine w_end 4 rfl ?_
  by_cases hp34 : x22 < (x20.length : Int)
  ·have h := if_pos' hp34 h
   refine g_true (c := q20c8) rfl _ rfl ((decide_eq_true hp34)) ?_
   refine g_skip (c := q20c9) rfl ?_
   refine g_seq (c := q20c6) rfl ?_
   refine g_block (c := q20c11) rfl ?_
   refine g_seq (c := q20c13) rfl ?_
   refine g_region (c := q20c14) rfl rfl ?_
   refine wl_v 0 rfl (v_move rfl) gn rfl ?_
   refine wl_v 1 rfl (v_move rfl) gn rfl ?_
   refine wl_v 2 rfl (v_move rfl) gn rfl ?_
   refine wl_v 3 rfl (v_move rfl) gn rfl ?_
   refine wl_v 4 rfl (v_lenQ un_22 rfl h21.hq) gn rfl ?_
   refine wl_v 5 rfl (v_bin rfl rfl rfl) gn rfl ?_
   obtain ⟨hb35, h⟩ := h
   refine wl_v 6 rfl (v_idxO slE_22 rfl rfl h21 hb35) gn rfl ?_
   refine wl_v 7 rfl (v_fldA fo_31_1 rfl) gn rfl ?_
   refine wl_v 8 rfl (v_ldO1 (.string ((ix x20 (w64 ((x20.length : Int) - 1))).key)) 0 ld_9 rfl rfl (fm_get hl_api_JNode hb35 rfl)) gn rfl ?_
   obtain ⟨hb36, h⟩ := h
   refine wl_v 9 rfl (v_idxO slE_22 rfl rfl h21 hb36) gn rfl ?_
   refine wl_v 10 rfl (v_fldA fo_31_1 rfl) gn rfl ?_
   obtain ⟨x37, hv38, h⟩ := h
   refine wl_s 11 rfl (s_stF (enc := enc_api_JNode) (o := 1) (z := ({ (ix x20 x22) with key := (ix x20 (w64 ((x20.length : Int) - 1))).key })) (vs := [.string ((ix x20 (w64 ((x20.length : Int) - 1))).key)]) (i := x22) 0 hl_api_JNode sz_9 rfl rfl rfl rfl rfl h21 hb36 rfl rfl rfl hv38 fun h39 => ?_) gn
   refine w_end 12 rfl ?_
   refine g_region (c := q20c15) rfl rfl ?_
   refine wl_v 0 rfl (v_move rfl) gn rfl ?_
   refine wl_v 1 rfl (v_move rfl) gn rfl ?_
   refine wl_v 2 rfl (v_move rfl) gn rfl ?_
   refine wl_v 3 rfl (v_move rfl) gn rfl ?_
   refine wl_v 4 rfl (v_lenQ un_22 rfl h39.hq) gn rfl ?_
   refine wl_v 5 rfl (v_bin rfl rfl rfl) gn rfl ?_
   obtain ⟨hb40, h⟩ := h
   refine wl_v 6 rfl (v_idxO slE_22 rfl rfl h39 hb40) gn rfl ?_
   refine wl_v 7 rfl (v_fldA fo_31_2 rfl) gn rfl ?_
   refine wl_v 8 rfl (v_ldO1 (.string ((ix x37 (w64 ((x37.length : Int) - 1))).text)) 0 ld_9 rfl rfl (fm_get hl_api_JNode hb40 rfl)) gn rfl ?_
   obtain ⟨hb41, h⟩ := h
   refine wl_v 9 rfl (v_idxO slE_22 rfl rfl h39 hb41) gn rfl ?_
   refine wl_v 10 rfl (v_fldA fo_31_2 rfl) gn rfl ?_
   obtain ⟨x42, hv43, h⟩ := h
   refine wl_s 11 rfl (s_stF (enc := enc_api_JNode) (o := 2) (z := ({ (ix x37 x22) with text := (ix x37 (w64 ((x37.length : Int) - 1))).text })) (vs := [.string ((ix x37 (w64 ((x37.length : Int) - 1))).text)]) (i := x22) 0 hl_api_JNode sz_9 rfl rfl rfl rfl rfl h39 hb41 rfl rfl rfl hv43 fun h44 => ?_) gn
   refine w_end 12 rfl ?_
   refine g_inBlock ?_
   refine g_region (c := q20c12) rfl rfl ?_
   refine wl_v 0 rfl (v_move rfl) gn rfl ?_
   refine wl_v 1 rfl (v_bin rfl rfl rfl) gn rfl ?_
   refine wl_v 2 rfl (v_assign rfl) gn rfl ?_
   refine w_end 3 rfl ?_
   refine g_inLoop ?_
   have ih := Out.inl hO1 h
   exact g_go [0, 1] (ih h44) ⟨rfl, rfl, trivial⟩ (.cons_cons _ (.slnil)) rfl
  ·have h := if_neg' hp34 h
   refine g_false (c := q20c8) rfl _ rfl ((decide_eq_false hp34)) ?_
   refine g_exit (c := q20c10) [] rfl rfl ?_
   have h := Out.inr hO1 h
   refine g_endR [] Tryd.func20 rfl (.nil) fun wr hLr => ?_
   have hMr : B.Loc w wr [.own (.slice A2 n3 c4) 31 4 n3 (x20.flatMap enc_api_JNode)] [St w [(Value.slice A2 n3 c4).ownBlock.toList]] := hLr.pick (rest := []) (perm_of_idx [0] [] rfl rfl (by kernel_rfl)) (sels [1] rfl)
   show trellislaw25_over_R w F A2 n3 c4 z6 r (.returned (packV [])) wr
   rw [h]
   exact ⟨rfl, hMr, h21⟩
 exact g_go [0, 1] (key1 _ h h5) ⟨rfl, rfl, trivial⟩ (.cons_cons _ (.slnil)) rfl
noncomputable abbrev q51c0 : Code := bodyOf Tryd.f51
noncomputable abbrev q51c1 : Code := Code.fst q51c0
noncomputable abbrev q51c2 : Code := Code.snd q51c0
noncomputable abbrev q51c3 : Code := Code.fst q51c2
noncomputable abbrev q51c4 : Code := Code.snd q51c2
noncomputable abbrev q51c5 : Code := Code.fst q51c4
noncomputable abbrev q51c6 : Code := Code.snd q51c4
noncomputable abbrev q51c7 : Code := Code.fst q51c6
noncomputable abbrev q51c8 : Code := Code.snd q51c6
abbrev strings_Builder_copyCheck_R (w : World) (F : Nat → Prop) (g2 : Nat) (v3 : Value) (r : strings_Builder) : Ending → World → Prop := fun e w' => e = .returned (.tuple #[]) ∧ B.Loc w w' [.box g2 56 [selfP g2 r.addr, v3]] [St w [[g2]]]
noncomputable abbrev strings_Builder_copyCheck_C (w : World) (F : Nat → Prop) (g2 : Nat) (v3 : Value) (r : strings_Builder) : Cx := ⟨Tryd.prog, 51, Tryd.f51, 20, strings_Builder_copyCheck_R w F g2 v3 r, w⟩
theorem strings_Builder_copyCheck_calls (w : World) (F : Nat → Prop) (x1 : strings_Builder) (g2 : Nat) (v3 : Value) (hF : ∀ b, F b → b < w.heap.size ∧ ∀ o ∈ ([[g2]] : List (List Nat)), b ∉ o) (hL0 : B.Loc w w [.box g2 56 [selfP g2 x1.addr, v3]] [Sm w.heap.size F w [[g2]], St w [[g2]]]) (r : strings_Builder) (h : strings_Builder_copyCheck x1 r) : Calls Tryd.prog 51 #[.pointer (some ⟨g2, 0, none⟩)] w (strings_Builder_copyCheck_R w F g2 v3 r) := by
 unfold strings_Builder_copyCheck at h
 refine calls_of_Loc (vs := [.pointer (some ⟨g2, 0, none⟩)]) 20 Tryd.func51 rfl Tryd.ntmps51 rfl hL0 ?_
 show G (strings_Builder_copyCheck_C w F g2 v3 r) _ _ _ _
 refine g_seq (c := q51c0) rfl ?_
 refine g_region (c := q51c1) rfl rfl ?_
 refine wl_v 0 rfl (v_move rfl) gn rfl ?_
 refine wl_v 1 rfl (v_nilCheck rfl) gn rfl ?_
 refine wl_v 2 rfl (v_fldB fo_56_0 rfl) gn rfl ?_
 refine wl_v 3 rfl (v_ldB1 0 ld_53 rfl rfl rfl) gn rfl ?_
 refine wl_v 4 rfl (v_eqSelf (gb := g2) (b := x1.addr) un_53 rfl rfl) gn rfl ?_
 refine w_end 5 rfl ?_
 by_cases hp4 : x1.addr = true
 ·have h := if_pos' hp4 h
  refine g_false (c := q51c2) rfl _ rfl ((nf hp4)) ?_
  refine g_seq (c := q51c4) rfl ?_
  refine g_region (c := q51c5) rfl rfl ?_
  refine wl_v 0 rfl (v_move rfl) gn rfl ?_
  refine wl_v 1 rfl (v_nilCheck rfl) gn rfl ?_
  refine wl_v 2 rfl (v_fldB fo_56_0 rfl) gn rfl ?_
  refine wl_v 3 rfl (v_ldB1 0 ld_53 rfl rfl rfl) gn rfl ?_
  refine wl_v 4 rfl (v_move rfl) gn rfl ?_
  refine wl_v 5 rfl (v_neSelf (gb := g2) (b := x1.addr) pt_53 rfl rfl) gn rfl ?_
  refine w_end 6 rfl ?_
  refine g_false (c := q51c6) rfl _ rfl ((nf hp4)) ?_
  refine g_skip (c := q51c8) rfl ?_
  refine g_endR [] Tryd.func51 rfl (.nil) fun wr hLr => ?_
  have hMr : B.Loc w wr [.box g2 56 [selfP g2 x1.addr, v3]] [St w [[g2]]] := hLr.pick (rest := []) (perm_of_idx [0] [] rfl rfl (by kernel_rfl)) (sels [1] rfl)
  show strings_Builder_copyCheck_R w F g2 v3 r (.returned (packV [])) wr
  rw [h]
  exact ⟨rfl, hMr⟩
 ·have h := if_neg' hp4 h
  refine g_true (c := q51c2) rfl _ rfl ((nt (bf hp4))) ?_
  refine g_region (c := q51c3) rfl rfl ?_
  refine wl_v 0 rfl (v_move rfl) gn rfl ?_
  refine wl_v 1 rfl (v_move rfl) gn rfl ?_
  refine wl_v 2 rfl (v_toU 0 pt_53 un_92 rfl rfl rfl) gn rfl ?_
  refine wl_v 3 rfl (v_ext [.pointer (some ⟨g2, 0, none⟩)] rfl Tryd.func68 rfl rfl (by kernel_rfl) (by kernel_rfl) (fun w => x_noEscape _ w)) gn rfl ?_
  refine wl_v 4 rfl (v_fromU 0 un_92 li_53_56_0 rfl rfl rfl) gn rfl ?_
  refine wl_v 5 rfl (v_nilCheck rfl) gn rfl ?_
  refine wl_v 6 rfl (v_fldB fo_56_0 rfl) gn rfl ?_
  refine wl_s 7 rfl (s_stB (vs := [.pointer (some ⟨g2, 0, none⟩)]) (cs' := [.pointer (some ⟨g2, 0, none⟩), v3]) (M' := [.box g2 56 [.pointer (some ⟨g2, 0, none⟩), v3]]) 0 sz_53 rfl rfl rfl rfl rfl rfl rfl rfl rfl ?_) gn
  refine w_end 8 rfl ?_
  refine g_endR [] Tryd.func51 rfl (.nil) fun wr hLr => ?_
  have hMr : B.Loc w wr [.box g2 56 [.pointer (some ⟨g2, 0, none⟩), v3]] [St w [[g2]]] := hLr.pick (rest := []) (perm_of_idx [0] [] rfl rfl (by kernel_rfl)) (sels [1] rfl)
  show strings_Builder_copyCheck_R w F g2 v3 r (.returned (packV [])) wr
  rw [h]
  exact ⟨rfl, hMr⟩
noncomputable abbrev q36c0 : Code := bodyOf Tryd.f36
noncomputable abbrev q36c1 : Code := Code.fst q36c0
noncomputable abbrev q36c2 : Code := Code.snd q36c0
noncomputable abbrev q36c3 : Code := Code.fst q36c2
noncomputable abbrev q36c4 : Code := Code.snd q36c2
noncomputable abbrev q36c5 : Code := Code.fst q36c4
noncomputable abbrev q36c6 : Code := Code.snd q36c4
noncomputable abbrev q36c7 : Code := Code.fst q36c6
noncomputable abbrev q36c8 : Code := Code.snd q36c6
abbrev strings_Builder_WriteByte_R (w : World) (F : Nat → Prop) (g2 : Nat) (A3 : Option Addr) (n4 : Nat) (c5 : Nat) (z7 : Nat) (r : strings_Builder) : Ending → World → Prop := fun e w' => ∃ A0 : Option Addr, ∃ n0 : Nat, ∃ c0 : Nat, e = .returned (.nilIface) ∧ B.Loc w w' [.box g2 56 [selfP g2 r.addr, .slice A0 n0 c0], .own (.slice A0 n0 c0) 5 1 n0 (r.buf.flatMap (eI .u8))] [St w [[g2], (Value.slice A3 n4 c5).ownBlock.toList]] ∧ Ow z7 A0 n0 c0 r.buf
noncomputable abbrev strings_Builder_WriteByte_C (w : World) (F : Nat → Prop) (g2 : Nat) (A3 : Option Addr) (n4 : Nat) (c5 : Nat) (z7 : Nat) (r : strings_Builder) : Cx := ⟨Tryd.prog, 36, Tryd.f36, 17, strings_Builder_WriteByte_R w F g2 A3 n4 c5 z7 r, w⟩
theorem strings_Builder_WriteByte_calls (w : World) (F : Nat → Prop) (x1 : strings_Builder) (x9 : Int) (g2 : Nat) (z7 : Nat) (A3 : Option Addr) (n4 : Nat) (c5 : Nat) (hz8 : z7 ≤ w.heap.size) (h6 : Ow z7 A3 n4 c5 x1.buf) (hF : ∀ b, F b → b < w.heap.size ∧ ∀ o ∈ ([[g2], (Value.slice A3 n4 c5).ownBlock.toList] : List (List Nat)), b ∉ o) (hL0 : B.Loc w w [.box g2 56 [selfP g2 x1.addr, .slice A3 n4 c5], .own (.slice A3 n4 c5) 5 1 n4 (x1.buf.flatMap (eI .u8))] [Sm w.heap.size F w [[g2], (Value.slice A3 n4 c5).ownBlock.toList], St w [[g2], (Value.slice A3 n4 c5).ownBlock.toList]]) (r : strings_Builder) (h : strings_Builder_WriteByte x1 x9 r) : Calls Tryd.prog 36 #[.pointer (some ⟨g2, 0, none⟩), .int .u8 x9] w (strings_Builder_WriteByte_R w F g2 A3 n4 c5 z7 r) := by
 unfold strings_Builder_WriteByte at h
 refine calls_of_Loc (vs := [.pointer (some ⟨g2, 0, none⟩), .int .u8 x9]) 17 Tryd.func36 rfl Tryd.ntmps36 rfl hL0 ?_
 show G (strings_Builder_WriteByte_C w F g2 A3 n4 c5 z7 r) _ _ _ _
 refine g_seq (c := q36c0) rfl ?_
 refine g_region (c := q36c1) rfl rfl ?_
 refine wl_v 0 rfl (v_assign rfl) gn rfl ?_
 refine w_end 1 rfl ?_
 refine g_seq (c := q36c2) rfl ?_
 refine g_region (c := q36c3) rfl rfl ?_
 refine wl_v 0 rfl (v_move rfl) gn rfl ?_
 obtain ⟨r13, hv14, h⟩ := h
 refine wl_s 1 rfl (s_call [.pointer (some ⟨g2, 0, none⟩)] rfl Tryd.func51 rfl rfl rfl fun w10 hL11 => ?_) gn
 have hp12 : List.Perm ([.box g2 56 [selfP g2 x1.addr, .slice A3 n4 c5], .own (.slice A3 n4 c5) 5 1 n4 (x1.buf.flatMap (eI .u8))] : List Ent) (([.box g2 56 [selfP g2 x1.addr, .slice A3 n4 c5]] : List Ent) ++ ([.own (.slice A3 n4 c5) 5 1 n4 (x1.buf.flatMap (eI .u8))] : List Ent)) := perm_of_idx [0] [1] rfl rfl (by kernel_rfl)
 refine Calls.mono (strings_Builder_copyCheck_calls w10 (Fl ([] : List Snap)) x1 g2 (.slice A3 n4 c5) (hL11.hFl (Sl := ([] : List Snap)) hp12 (sels [] rfl)) (hL11.into hp12 (Fl ([] : List Snap))) r13 hv14) ?_
 rintro _ w15 ⟨rfl, hM16⟩
 have hL17 := hL11.call hp12 hM16
 refine ⟨_, _, _, rfl, hL17, ?_⟩
 refine w_end 2 rfl ?_
 refine g_seq (c := q36c4) rfl ?_
 refine g_region (c := q36c5) rfl rfl ?_
 refine wl_v 0 rfl (v_move rfl) gn rfl ?_
 refine wl_v 1 rfl (v_move rfl) gn rfl ?_
 refine wl_v 2 rfl (v_nilCheck rfl) gn rfl ?_
 refine wl_v 3 rfl (v_fldB fo_56_1 rfl) gn rfl ?_
 refine wl_v 4 rfl (v_ldB1 0 ld_54 rfl rfl rfl) gn rfl ?_
 refine wl_v 5 rfl (v_move rfl) gn rfl ?_
 refine wl_s 6 rfl (s_litO (xs := ([x9] : List Int)) [.int .u8 x9] bs_54_1 rfl (by kernel_rfl) rfl rfl rfl rfl fun gb19 h20 => ?_) gn
 obtain ⟨x24, hv25, h⟩ := h
 obtain ⟨hb26, h⟩ := h
 refine wl_s 7 rfl (s_app (zs := x24) (cells' := x24.flatMap (eI .u8)) 2 ap_54 rfl rfl rfl h6 hz8 (Src.ownF (hl := (hlI .u8)) (h1 := (hone_int .u8)) 0 rfl h20) (by rw [hv25, List.flatMap_append] <;> rfl) (app_len hv25 h20.hq) hb26 rfl rfl fun A21 c22 h23 => ?_) gn
 refine wl_v 8 rfl (v_nilCheck rfl) gn rfl ?_
 refine wl_v 9 rfl (v_fldB fo_56_1 rfl) gn rfl ?_
 refine wl_s 10 rfl (s_stB (vs := [.slice A21 (n4 + 1) c22]) (cs' := [selfP g2 r13.addr, .slice A21 (n4 + 1) c22]) (M' := [.own (.slice (some ⟨gb19, 0, none⟩) 1 1) 5 1 1 (([x9] : List Int).flatMap (eI .u8)), .box g2 56 [selfP g2 r13.addr, .slice A21 (n4 + 1) c22], .own (.slice A21 (n4 + 1) c22) 5 1 (n4 + 1) (x24.flatMap (eI .u8))]) 1 sz_54 rfl rfl rfl rfl rfl rfl rfl rfl rfl ?_) gn
 refine w_end 11 rfl ?_
 refine g_seq (c := q36c6) rfl ?_
 refine g_region (c := q36c7) rfl rfl ?_
 refine wl_v 0 rfl (v_assign rfl) gn rfl ?_
 refine w_end 1 rfl ?_
 refine g_retR (c := q36c8) [.nilIface] rfl Tryd.func36 rfl (.tmp rfl (.nil)) fun wr hLr => ?_
 have hMr : B.Loc w wr [.box g2 56 [selfP g2 r13.addr, .slice A21 (n4 + 1) c22], .own (.slice A21 (n4 + 1) c22) 5 1 (n4 + 1) (x24.flatMap (eI .u8))] [St w [[g2], (Value.slice A3 n4 c5).ownBlock.toList]] := hLr.pick (rest := [.own (.slice (some ⟨gb19, 0, none⟩) 1 1) 5 1 1 (([x9] : List Int).flatMap (eI .u8))]) (perm_of_idx [1, 2] [0] rfl rfl (by kernel_rfl)) (sels [1] rfl)
 show strings_Builder_WriteByte_R w F g2 A3 n4 c5 z7 r (.returned (packV [.nilIface])) wr
 rw [h]
 exact ⟨A21, n4 + 1, c22, rfl, hMr, h23⟩
noncomputable abbrev q37c0 : Code := bodyOf Tryd.f37
noncomputable abbrev q37c1 : Code := Code.fst q37c0
noncomputable abbrev q37c2 : Code := Code.snd q37c0
noncomputable abbrev q37c3 : Code := Code.fst q37c2
noncomputable abbrev q37c4 : Code := Code.snd q37c2
noncomputable abbrev q37c5 : Code := Code.fst q37c4
noncomputable abbrev q37c6 : Code := Code.snd q37c4
noncomputable abbrev q37c7 : Code := Code.fst q37c6
noncomputable abbrev q37c8 : Code := Code.snd q37c6
abbrev strings_Builder_WriteString_R (w : World) (F : Nat → Prop) (g2 : Nat) (A3 : Option Addr) (n4 : Nat) (c5 : Nat) (z7 : Nat) (r : Int × strings_Builder) : Ending → World → Prop := fun e w' => ∃ A0 : Option Addr, ∃ n0 : Nat, ∃ c0 : Nat, e = .returned (.tuple #[.int .i64 r.1, .nilIface]) ∧ B.Loc w w' [.box g2 56 [selfP g2 r.2.addr, .slice A0 n0 c0], .own (.slice A0 n0 c0) 5 1 n0 (r.2.buf.flatMap (eI .u8))] [St w [[g2], (Value.slice A3 n4 c5).ownBlock.toList]] ∧ Ow z7 A0 n0 c0 r.2.buf
noncomputable abbrev strings_Builder_WriteString_C (w : World) (F : Nat → Prop) (g2 : Nat) (A3 : Option Addr) (n4 : Nat) (c5 : Nat) (z7 : Nat) (r : Int × strings_Builder) : Cx := ⟨Tryd.prog, 37, Tryd.f37, 19, strings_Builder_WriteString_R w F g2 A3 n4 c5 z7 r, w⟩
theorem strings_Builder_WriteString_calls (w : World) (F : Nat → Prop) (x1 : strings_Builder) (x9 : ByteArray) (g2 : Nat) (z7 : Nat) (A3 : Option Addr) (n4 : Nat) (c5 : Nat) (hz8 : z7 ≤ w.heap.size) (h6 : Ow z7 A3 n4 c5 x1.buf) (hF : ∀ b, F b → b < w.heap.size ∧ ∀ o ∈ ([[g2], (Value.slice A3 n4 c5).ownBlock.toList] : List (List Nat)), b ∉ o) (hL0 : B.Loc w w [.box g2 56 [selfP g2 x1.addr, .slice A3 n4 c5], .own (.slice A3 n4 c5) 5 1 n4 (x1.buf.flatMap (eI .u8))] [Sm w.heap.size F w [[g2], (Value.slice A3 n4 c5).ownBlock.toList], St w [[g2], (Value.slice A3 n4 c5).ownBlock.toList]]) (r : Int × strings_Builder) (h : strings_Builder_WriteString x1 x9 r) : Calls Tryd.prog 37 #[.pointer (some ⟨g2, 0, none⟩), .string x9] w (strings_Builder_WriteString_R w F g2 A3 n4 c5 z7 r) := by
 unfold strings_Builder_WriteString at h
 refine calls_of_Loc (vs := [.pointer (some ⟨g2, 0, none⟩), .string x9]) 19 Tryd.func37 rfl Tryd.ntmps37 rfl hL0 ?_
 show G (strings_Builder_WriteString_C w F g2 A3 n4 c5 z7 r) _ _ _ _
 refine g_seq (c := q37c0) rfl ?_
 refine g_region (c := q37c1) rfl rfl ?_
 refine wl_v 0 rfl (v_assign rfl) gn rfl ?_
 refine wl_v 1 rfl (v_assign rfl) gn rfl ?_
 refine w_end 2 rfl ?_
 refine g_seq (c := q37c2) rfl ?_
 refine g_region (c := q37c3) rfl rfl ?_
 refine wl_v 0 rfl (v_move rfl) gn rfl ?_
 obtain ⟨r13, hv14, h⟩ := h
 refine wl_s 1 rfl (s_call [.pointer (some ⟨g2, 0, none⟩)] rfl Tryd.func51 rfl rfl rfl fun w10 hL11 => ?_) gn
 have hp12 : List.Perm ([.box g2 56 [selfP g2 x1.addr, .slice A3 n4 c5], .own (.slice A3 n4 c5) 5 1 n4 (x1.buf.flatMap (eI .u8))] : List Ent) (([.box g2 56 [selfP g2 x1.addr, .slice A3 n4 c5]] : List Ent) ++ ([.own (.slice A3 n4 c5) 5 1 n4 (x1.buf.flatMap (eI .u8))] : List Ent)) := perm_of_idx [0] [1] rfl rfl (by kernel_rfl)
 refine Calls.mono (strings_Builder_copyCheck_calls w10 (Fl ([] : List Snap)) x1 g2 (.slice A3 n4 c5) (hL11.hFl (Sl := ([] : List Snap)) hp12 (sels [] rfl)) (hL11.into hp12 (Fl ([] : List Snap))) r13 hv14) ?_
 rintro _ w15 ⟨rfl, hM16⟩
 have hL17 := hL11.call hp12 hM16
 refine ⟨_, _, _, rfl, hL17, ?_⟩
 refine w_end 2 rfl ?_
 refine g_seq (c := q37c4) rfl ?_
 refine g_region (c := q37c5) rfl rfl ?_
 refine wl_v 0 rfl (v_move rfl) gn rfl ?_
 refine wl_v 1 rfl (v_move rfl) gn rfl ?_
 refine wl_v 2 rfl (v_nilCheck rfl) gn rfl ?_
 refine wl_v 3 rfl (v_fldB fo_56_1 rfl) gn rfl ?_
 refine wl_v 4 rfl (v_ldB1 0 ld_54 rfl rfl rfl) gn rfl ?_
 refine wl_v 5 rfl (v_move rfl) gn rfl ?_
 obtain ⟨x21, hv22, h⟩ := h
 obtain ⟨hb23, h⟩ := h
 refine wl_s 6 rfl (s_appS (zs := x21) 1 as_54_9 rfl rfl rfl h6 hz8 hv22 hb23 rfl fun A18 c19 h20 => ?_) gn
 refine wl_v 7 rfl (v_nilCheck rfl) gn rfl ?_
 refine wl_v 8 rfl (v_fldB fo_56_1 rfl) gn rfl ?_
 refine wl_s 9 rfl (s_stB (vs := [.slice A18 (n4 + x9.size) c19]) (cs' := [selfP g2 r13.addr, .slice A18 (n4 + x9.size) c19]) (M' := [.box g2 56 [selfP g2 r13.addr, .slice A18 (n4 + x9.size) c19], .own (.slice A18 (n4 + x9.size) c19) 5 1 (n4 + x9.size) (x21.flatMap (eI .u8))]) 0 sz_54 rfl rfl rfl rfl rfl rfl rfl rfl rfl ?_) gn
 refine w_end 10 rfl ?_
 refine g_seq (c := q37c6) rfl ?_
 refine g_region (c := q37c7) rfl rfl ?_
 refine wl_v 0 rfl (v_move rfl) gn rfl ?_
 refine wl_v 1 rfl (v_lenS un_9 rfl) gn rfl ?_
 refine wl_v 2 rfl (v_assign rfl) gn rfl ?_
 refine wl_v 3 rfl (v_assign rfl) gn rfl ?_
 refine w_end 4 rfl ?_
 refine g_retR (c := q37c8) [.int .i64 (x9.size : Int), .nilIface] rfl Tryd.func37 rfl (.tmp rfl (.tmp rfl (.nil))) fun wr hLr => ?_
 have hMr : B.Loc w wr [.box g2 56 [selfP g2 r13.addr, .slice A18 (n4 + x9.size) c19], .own (.slice A18 (n4 + x9.size) c19) 5 1 (n4 + x9.size) (x21.flatMap (eI .u8))] [St w [[g2], (Value.slice A3 n4 c5).ownBlock.toList]] := hLr.pick (rest := []) (perm_of_idx [0, 1] [] rfl rfl (by kernel_rfl)) (sels [1] rfl)
 show strings_Builder_WriteString_R w F g2 A3 n4 c5 z7 r (.returned (packV [.int .i64 (x9.size : Int), .nilIface])) wr
 rw [h]
 exact ⟨A18, n4 + x9.size, c19, rfl, hMr, h20⟩
noncomputable abbrev q35c0 : Code := bodyOf Tryd.f35
noncomputable abbrev q35c1 : Code := Code.fst q35c0
noncomputable abbrev q35c2 : Code := Code.snd q35c0
noncomputable abbrev q35c3 : Code := Code.fst q35c2
noncomputable abbrev q35c4 : Code := Code.snd q35c2
noncomputable abbrev q35c5 : Code := Code.fst q35c3
noncomputable abbrev q35c6 : Code := Code.snd q35c3
noncomputable abbrev q35c7 : Code := Code.fst q35c6
noncomputable abbrev q35c8 : Code := Code.fst q35c7
noncomputable abbrev q35c9 : Code := Code.fst q35c8
noncomputable abbrev q35c10 : Code := Code.snd q35c8
noncomputable abbrev q35c11 : Code := Code.fst q35c9
noncomputable abbrev q35c12 : Code := Code.snd q35c9
noncomputable abbrev q35c13 : Code := Code.fst q35c12
noncomputable abbrev q35c14 : Code := Code.snd q35c12
noncomputable abbrev q35c15 : Code := Code.fst q35c10
noncomputable abbrev q35c16 : Code := Code.snd q35c10
noncomputable abbrev q35c17 : Code := Code.fst q35c15
noncomputable abbrev q35c18 : Code := Code.fst q35c17
noncomputable abbrev q35c19 : Code := Code.snd q35c17
noncomputable abbrev q35c20 : Code := Code.fst q35c19
noncomputable abbrev q35c21 : Code := Code.fst q35c20
noncomputable abbrev q35c22 : Code := Code.snd q35c20
noncomputable abbrev q35c23 : Code := Code.fst q35c22
noncomputable abbrev q35c24 : Code := Code.snd q35c22
noncomputable abbrev q35c25 : Code := Code.fst q35c24
noncomputable abbrev q35c26 : Code := Code.snd q35c24
noncomputable abbrev q35c27 : Code := Code.fst q35c26
noncomputable abbrev q35c28 : Code := Code.snd q35c26
noncomputable abbrev q35c29 : Code := Code.fst q35c27
noncomputable abbrev q35c30 : Code := Code.snd q35c27
noncomputable abbrev q35c31 : Code := Code.fst q35c30
noncomputable abbrev q35c32 : Code := Code.snd q35c30
noncomputable abbrev q35c33 : Code := Code.fst q35c23
noncomputable abbrev q35c34 : Code := Code.snd q35c23
abbrev json_quote_R (w : World) (F : Nat → Prop) (g2 : Nat) (A3 : Option Addr) (n4 : Nat) (c5 : Nat) (z7 : Nat) (r : strings_Builder) : Ending → World → Prop := fun e w' => ∃ A0 : Option Addr, ∃ n0 : Nat, ∃ c0 : Nat, e = .returned (.tuple #[]) ∧ B.Loc w w' [.box g2 56 [selfP g2 r.addr, .slice A0 n0 c0], .own (.slice A0 n0 c0) 5 1 n0 (r.buf.flatMap (eI .u8))] [St w [[g2], (Value.slice A3 n4 c5).ownBlock.toList]] ∧ Ow z7 A0 n0 c0 r.buf
noncomputable abbrev json_quote_C (w : World) (F : Nat → Prop) (g2 : Nat) (A3 : Option Addr) (n4 : Nat) (c5 : Nat) (z7 : Nat) (r : strings_Builder) : Cx := ⟨Tryd.prog, 35, Tryd.f35, 49, json_quote_R w F g2 A3 n4 c5 z7 r, w⟩
theorem json_quote_calls (w : World) (F : Nat → Prop) (x1 : strings_Builder) (x9 : ByteArray) (g2 : Nat) (z7 : Nat) (A3 : Option Addr) (n4 : Nat) (c5 : Nat) (hz8 : z7 ≤ w.heap.size) (h6 : Ow z7 A3 n4 c5 x1.buf) (hG0 : Tt .u8 tb_0 0 (St w [[g2], (Value.slice A3 n4 c5).ownBlock.toList])) (hF : ∀ b, F b → b < w.heap.size ∧ ∀ o ∈ ([[g2], (Value.slice A3 n4 c5).ownBlock.toList] : List (List Nat)), b ∉ o) (hL0 : B.Loc w w [.box g2 56 [selfP g2 x1.addr, .slice A3 n4 c5], .own (.slice A3 n4 c5) 5 1 n4 (x1.buf.flatMap (eI .u8))] [Sm w.heap.size F w [[g2], (Value.slice A3 n4 c5).ownBlock.toList], St w [[g2], (Value.slice A3 n4 c5).ownBlock.toList]]) (r : strings_Builder) (h : json_quote x1 x9 r) : Calls Tryd.prog 35 #[.pointer (some ⟨g2, 0, none⟩), .string x9] w (json_quote_R w F g2 A3 n4 c5 z7 r) := by
 unfold json_quote at h
 refine calls_of_Loc (vs := [.pointer (some ⟨g2, 0, none⟩), .string x9]) 49 Tryd.func35 rfl Tryd.ntmps35 rfl hL0 ?_
 show G (json_quote_C w F g2 A3 n4 c5 z7 r) _ _ _ _
 refine g_seq (c := q35c0) rfl ?_
 refine g_region (c := q35c1) rfl rfl ?_
 refine wl_v 0 rfl (v_move rfl) gn rfl ?_
 obtain ⟨r13, hv14, h⟩ := h
 refine wl_s 1 rfl (s_call [.pointer (some ⟨g2, 0, none⟩), .int .u8 34] rfl Tryd.func36 rfl rfl rfl fun w10 hL11 => ?_) gn
 have hp12 : List.Perm ([.box g2 56 [selfP g2 x1.addr, .slice A3 n4 c5], .own (.slice A3 n4 c5) 5 1 n4 (x1.buf.flatMap (eI .u8))] : List Ent) (([.box g2 56 [selfP g2 x1.addr, .slice A3 n4 c5], .own (.slice A3 n4 c5) 5 1 n4 (x1.buf.flatMap (eI .u8))] : List Ent) ++ ([] : List Ent)) := perm_of_idx [0, 1] [] rfl rfl (by kernel_rfl)
 refine Calls.mono (strings_Builder_WriteByte_calls w10 (Fl ([] : List Snap)) x1 34 g2 z7 A3 n4 c5 (Nat.le_trans hz8 hL11.env.size) h6 (hL11.hFl (Sl := ([] : List Snap)) hp12 (sels [] rfl)) (hL11.into hp12 (Fl ([] : List Snap))) r13 hv14) ?_
 rintro _ w20 ⟨A15, n16, c17, rfl, hM21, h18⟩
 have hL22 := hL11.call hp12 hM21
 refine ⟨_, _, _, rfl, hL22, ?_⟩
 refine w_end 2 rfl ?_
 refine g_seq (c := q35c2) rfl ?_
 refine g_seq (c := q35c3) rfl ?_
 refine g_region (c := q35c5) rfl rfl ?_
 refine wl_v 0 rfl (v_assign rfl) gn rfl ?_
 refine w_end 1 rfl ?_
 refine g_block (c := q35c6) rfl ?_
 refine g_loop (c := q35c7) rfl ?_
 have key1 : ∀ s, Rounds (fun (s : Int × Bool × (List Int)) o => json_quote_b1 x9 s.1 s.2.1 s.2.2 o) s r → (fun (s : Int × Bool × (List Int)) => ∀ (A125 : Option Addr) (n126 : Nat) (c127 : Nat) (h128 : Ow z7 A125 n126 c127 s.2.2), G (json_quote_C w F g2 A3 n4 c5 z7 r) [.code q35c8, .inLoop q35c8, .inBlock 0, .code q35c4] [(0, .pointer (some ⟨g2, 0, none⟩)), (1, .string x9), (4, .int .i64 s.1)] [.own (.slice A125 n126 c127) 5 1 n126 (s.2.2.flatMap (eI .u8)), .box g2 56 [selfP g2 s.2.1, .slice A125 n126 c127]] [Sm w.heap.size F w [[g2], (Value.slice A3 n4 c5).ownBlock.toList], St w [[g2], (Value.slice A3 n4 c5).ownBlock.toList]]) s := by
  intro s hs
  refine Rounds.ind (mot := (fun (s : Int × Bool × (List Int)) => ∀ (A125 : Option Addr) (n126 : Nat) (c127 : Nat) (h128 : Ow z7 A125 n126 c127 s.2.2), G (json_quote_C w F g2 A3 n4 c5 z7 r) [.code q35c8, .inLoop q35c8, .inBlock 0, .code q35c4] [(0, .pointer (some ⟨g2, 0, none⟩)), (1, .string x9), (4, .int .i64 s.1)] [.own (.slice A125 n126 c127) 5 1 n126 (s.2.2.flatMap (eI .u8)), .box g2 56 [selfP g2 s.2.1, .slice A125 n126 c127]] [Sm w.heap.size F w [[g2], (Value.slice A3 n4 c5).ownBlock.toList], St w [[g2], (Value.slice A3 n4 c5).ownBlock.toList]])) ?_ hs
  clear hs s
  intro s o1 h hO1
  obtain ⟨x122, x123, x124⟩ := s
  show ∀ (A125 : Option Addr) (n126 : Nat) (c127 : Nat) (h128 : Ow z7 A125 n126 c127 x124), G (json_quote_C w F g2 A3 n4 c5 z7 r) [.code q35c8, .inLoop q35c8, .inBlock 0, .code q35c4] [(0, .pointer (some ⟨g2, 0, none⟩)), (1, .string x9), (4, .int .i64 x122)] [.own (.slice A125 n126 c127) 5 1 n126 (x124.flatMap (eI .u8)), .box g2 56 [selfP g2 x123, .slice A125 n126 c127]] [Sm w.heap.size F w [[g2], (Value.slice A3 n4 c5).ownBlock.toList], St w [[g2], (Value.slice A3 n4 c5).ownBlock.toList]]
  intro A125 n126 c127 h128
  have h : json_quote_b1 x9 x122 x123 x124 o1 := h
  unfold json_quote_b1 at h
  refine g_seq (c := q35c8) rfl ?_
  refine g_seq (c := q35c9) rfl ?_
  refine g_region (c := q35c11) rfl rfl ?_
  refine wl_v 0 rfl (v_move rfl) gn rfl ?_
  refine wl_v 1 rfl (v_move rfl) gn rfl ?_
  refine wl_v 2 rfl (v_lenS un_9 rfl) gn rfl ?_
  refine wl_v 3 rfl (v_bin rfl rfl rfl) gn rfl ?_
  refine w_end 4 rfl ?_
  by_cases hp227 : x122 < (x9.size : Int)
  ·have h := if_pos' hp227 h
   refine g_true (c := q35c12) rfl _ rfl ((decide_eq_true hp227)) ?_
   refine g_skip (c := q35c13) rfl ?_
   refine g_seq (c := q35c10) rfl ?_
   refine g_block (c := q35c15) rfl ?_
   refine g_seq (c := q35c17) rfl ?_
   refine g_region (c := q35c18) rfl rfl ?_
   refine wl_v 0 rfl (v_move rfl) gn rfl ?_
   refine wl_v 1 rfl (v_move rfl) gn rfl ?_
   obtain ⟨hb228, h⟩ := h
   refine wl_v 2 rfl (v_indexS un_9 rfl rfl hb228) gn rfl ?_
   refine wl_v 3 rfl (v_assign rfl) gn rfl ?_
   refine w_end 4 rfl ?_
   refine g_block (c := q35c19) rfl ?_
   refine g_seq (c := q35c20) rfl ?_
   refine g_region (c := q35c21) rfl rfl ?_
   refine wl_v 0 rfl (v_move rfl) gn rfl ?_
   obtain ⟨hb229, h⟩ := h
   refine wl_v 1 rfl (v_idxB ar_78 rfl rfl hb229) gn rfl ?_
   refine wl_v 2 rfl (v_ldT (zs := tb_0) (j := bt x9 x122) (St w [[g2], (Value.slice A3 n4 c5).ownBlock.toList]) hG0 (me 1 rfl) ld_5 rfl (tbh rfl hb229)) gn rfl ?_
   refine wl_v 3 rfl (v_bin rfl rfl rfl) gn rfl ?_
   refine wl_v 4 rfl (v_assign rfl) gn rfl ?_
   refine w_end 5 rfl ?_
   by_cases hp230 : ix tb_0 (bt x9 x122) = 0
   ·have h := if_pos' hp230 h
    refine g_false (c := q35c22) rfl _ rfl ((eqib hp230)) ?_
    refine g_seq (c := q35c24) rfl ?_
    refine g_region (c := q35c25) rfl rfl ?_
    refine wl_v 0 rfl (v_move rfl) gn rfl ?_
    refine wl_v 1 rfl (v_bin rfl rfl rfl) gn rfl ?_
    refine wl_v 2 rfl (v_assign rfl) gn rfl ?_
    refine w_end 3 rfl ?_
    by_cases hp231 : bt x9 x122 < 32
    ·have h := if_pos' hp231 h
     refine g_true (c := q35c26) rfl _ rfl ((decide_eq_true hp231)) ?_
     refine g_seq (c := q35c27) rfl ?_
     refine g_region (c := q35c29) rfl rfl ?_
     refine wl_v 0 rfl (v_move rfl) gn rfl ?_
     obtain ⟨r235, hv236, h⟩ := h
     refine wl_s 1 rfl (s_call [.pointer (some ⟨g2, 0, none⟩), .string (⟨#[92, 117, 48, 48]⟩ : ByteArray)] rfl Tryd.func37 rfl rfl rfl fun w232 hL233 => ?_) gn
     have hp234 : List.Perm ([.own (.slice A125 n126 c127) 5 1 n126 (x124.flatMap (eI .u8)), .box g2 56 [selfP g2 x123, .slice A125 n126 c127]] : List Ent) (([.box g2 56 [selfP g2 x123, .slice A125 n126 c127], .own (.slice A125 n126 c127) 5 1 n126 (x124.flatMap (eI .u8))] : List Ent) ++ ([] : List Ent)) := perm_of_idx [1, 0] [] rfl rfl (by kernel_rfl)
     refine Calls.mono (strings_Builder_WriteString_calls w232 (Fl ([] : List Snap)) (⟨x123, x124⟩ : strings_Builder) (⟨#[92, 117, 48, 48]⟩ : ByteArray) g2 z7 A125 n126 c127 (Nat.le_trans hz8 hL233.env.size) h128 (hL233.hFl (Sl := ([] : List Snap)) hp234 (sels [] rfl)) (hL233.into hp234 (Fl ([] : List Snap))) r235 hv236) ?_
     rintro _ w242 ⟨A237, n238, c239, rfl, hM243, h240⟩
     have hL244 := hL233.call hp234 hM243
     refine ⟨_, _, _, rfl, hL244, ?_⟩
     refine w_end 2 rfl ?_
     refine g_seq (c := q35c30) rfl ?_
     refine g_region (c := q35c31) rfl rfl ?_
     refine wl_v 0 rfl (v_move rfl) gn rfl ?_
     refine wl_v 1 rfl (v_move rfl) gn rfl ?_
     refine wl_v 2 rfl (v_quo rfl rfl (by decide)) gn rfl ?_
     obtain ⟨hb245, h⟩ := h
     refine wl_v 3 rfl (v_indexS un_9 rfl rfl hb245) gn rfl ?_
     obtain ⟨r249, hv250, h⟩ := h
     refine wl_s 4 rfl (s_call [.pointer (some ⟨g2, 0, none⟩), .int .u8 (bt (⟨#[48, 49, 50, 51, 52, 53, 54, 55, 56, 57, 97, 98, 99, 100, 101, 102]⟩ : ByteArray) (IntKind.u8.wrap (Int.tdiv (bt x9 x122) 16)))] rfl Tryd.func36 rfl rfl rfl fun w246 hL247 => ?_) gn
     have hp248 : List.Perm ([.box g2 56 [selfP g2 r235.2.addr, .slice A237 n238 c239], .own (.slice A237 n238 c239) 5 1 n238 (r235.2.buf.flatMap (eI .u8))] : List Ent) (([.box g2 56 [selfP g2 r235.2.addr, .slice A237 n238 c239], .own (.slice A237 n238 c239) 5 1 n238 (r235.2.buf.flatMap (eI .u8))] : List Ent) ++ ([] : List Ent)) := perm_of_idx [0, 1] [] rfl rfl (by kernel_rfl)
     refine Calls.mono (strings_Builder_WriteByte_calls w246 (Fl ([] : List Snap)) r235.2 (bt (⟨#[48, 49, 50, 51, 52, 53, 54, 55, 56, 57, 97, 98, 99, 100, 101, 102]⟩ : ByteArray) (IntKind.u8.wrap (Int.tdiv (bt x9 x122) 16))) g2 z7 A237 n238 c239 (Nat.le_trans hz8 hL247.env.size) h240 (hL247.hFl (Sl := ([] : List Snap)) hp248 (sels [] rfl)) (hL247.into hp248 (Fl ([] : List Snap))) r249 hv250) ?_
     rintro _ w256 ⟨A251, n252, c253, rfl, hM257, h254⟩
     have hL258 := hL247.call hp248 hM257
     refine ⟨_, _, _, rfl, hL258, ?_⟩
     refine w_end 5 rfl ?_
     refine g_region (c := q35c32) rfl rfl ?_
     refine wl_v 0 rfl (v_move rfl) gn rfl ?_
     refine wl_v 1 rfl (v_move rfl) gn rfl ?_
     refine wl_v 2 rfl (v_rem rfl rfl (by decide)) gn rfl ?_
     obtain ⟨hb259, h⟩ := h
     refine wl_v 3 rfl (v_indexS un_9 rfl rfl hb259) gn rfl ?_
     obtain ⟨r263, hv264, h⟩ := h
     refine wl_s 4 rfl (s_call [.pointer (some ⟨g2, 0, none⟩), .int .u8 (bt (⟨#[48, 49, 50, 51, 52, 53, 54, 55, 56, 57, 97, 98, 99, 100, 101, 102]⟩ : ByteArray) (Int.tmod (bt x9 x122) 16))] rfl Tryd.func36 rfl rfl rfl fun w260 hL261 => ?_) gn
     have hp262 : List.Perm ([.box g2 56 [selfP g2 r249.addr, .slice A251 n252 c253], .own (.slice A251 n252 c253) 5 1 n252 (r249.buf.flatMap (eI .u8))] : List Ent) (([.box g2 56 [selfP g2 r249.addr, .slice A251 n252 c253], .own (.slice A251 n252 c253) 5 1 n252 (r249.buf.flatMap (eI .u8))] : List Ent) ++ ([] : List Ent)) := perm_of_idx [0, 1] [] rfl rfl (by kernel_rfl)
     refine Calls.mono (strings_Builder_WriteByte_calls w260 (Fl ([] : List Snap)) r249 (bt (⟨#[48, 49, 50, 51, 52, 53, 54, 55, 56, 57, 97, 98, 99, 100, 101, 102]⟩ : ByteArray) (Int.tmod (bt x9 x122) 16)) g2 z7 A251 n252 c253 (Nat.le_trans hz8 hL261.env.size) h254 (hL261.hFl (Sl := ([] : List Snap)) hp262 (sels [] rfl)) (hL261.into hp262 (Fl ([] : List Snap))) r263 hv264) ?_
     rintro _ w270 ⟨A265, n266, c267, rfl, hM271, h268⟩
     have hL272 := hL261.call hp262 hM271
     refine ⟨_, _, _, rfl, hL272, ?_⟩
     refine w_end 5 rfl ?_
     refine g_inBlock ?_
     refine g_inBlock ?_
     refine g_region (c := q35c16) rfl rfl ?_
     refine wl_v 0 rfl (v_move rfl) gn rfl ?_
     refine wl_v 1 rfl (v_bin rfl rfl rfl) gn rfl ?_
     refine wl_v 2 rfl (v_assign rfl) gn rfl ?_
     refine w_end 3 rfl ?_
     refine g_inLoop ?_
     refine g_front 0 rfl ?_
     refine g_front 1 rfl ?_
     have ih := Out.inl hO1 h
     exact g_go [0, 1] (ih A265 n266 c267 h268) ⟨rfl, rfl, rfl, trivial⟩ (.cons_cons _ (.cons_cons _ (.slnil))) rfl
    ·have h := if_neg' hp231 h
     refine g_false (c := q35c26) rfl _ rfl ((decide_eq_false hp231)) ?_
     refine g_region (c := q35c28) rfl rfl ?_
     refine wl_v 0 rfl (v_move rfl) gn rfl ?_
     refine wl_v 1 rfl (v_move rfl) gn rfl ?_
     obtain ⟨r276, hv277, h⟩ := h
     refine wl_s 2 rfl (s_call [.pointer (some ⟨g2, 0, none⟩), .int .u8 (bt x9 x122)] rfl Tryd.func36 rfl rfl rfl fun w273 hL274 => ?_) gn
     have hp275 : List.Perm ([.own (.slice A125 n126 c127) 5 1 n126 (x124.flatMap (eI .u8)), .box g2 56 [selfP g2 x123, .slice A125 n126 c127]] : List Ent) (([.box g2 56 [selfP g2 x123, .slice A125 n126 c127], .own (.slice A125 n126 c127) 5 1 n126 (x124.flatMap (eI .u8))] : List Ent) ++ ([] : List Ent)) := perm_of_idx [1, 0] [] rfl rfl (by kernel_rfl)
     refine Calls.mono (strings_Builder_WriteByte_calls w273 (Fl ([] : List Snap)) (⟨x123, x124⟩ : strings_Builder) (bt x9 x122) g2 z7 A125 n126 c127 (Nat.le_trans hz8 hL274.env.size) h128 (hL274.hFl (Sl := ([] : List Snap)) hp275 (sels [] rfl)) (hL274.into hp275 (Fl ([] : List Snap))) r276 hv277) ?_
     rintro _ w283 ⟨A278, n279, c280, rfl, hM284, h281⟩
     have hL285 := hL274.call hp275 hM284
     refine ⟨_, _, _, rfl, hL285, ?_⟩
     refine w_end 3 rfl ?_
     refine g_inBlock ?_
     refine g_inBlock ?_
     refine g_region (c := q35c16) rfl rfl ?_
     refine wl_v 0 rfl (v_move rfl) gn rfl ?_
     refine wl_v 1 rfl (v_bin rfl rfl rfl) gn rfl ?_
     refine wl_v 2 rfl (v_assign rfl) gn rfl ?_
     refine w_end 3 rfl ?_
     refine g_inLoop ?_
     refine g_front 0 rfl ?_
     refine g_front 1 rfl ?_
     have ih := Out.inl hO1 h
     exact g_go [0, 1] (ih A278 n279 c280 h281) ⟨rfl, rfl, rfl, trivial⟩ (.cons_cons _ (.cons_cons _ (.slnil))) rfl
   ·have h := if_neg' hp230 h
    refine g_true (c := q35c22) rfl _ rfl ((neib hp230)) ?_
    refine g_seq (c := q35c23) rfl ?_
    refine g_region (c := q35c33) rfl rfl ?_
    refine wl_v 0 rfl (v_move rfl) gn rfl ?_
    obtain ⟨r289, hv290, h⟩ := h
    refine wl_s 1 rfl (s_call [.pointer (some ⟨g2, 0, none⟩), .int .u8 92] rfl Tryd.func36 rfl rfl rfl fun w286 hL287 => ?_) gn
    have hp288 : List.Perm ([.own (.slice A125 n126 c127) 5 1 n126 (x124.flatMap (eI .u8)), .box g2 56 [selfP g2 x123, .slice A125 n126 c127]] : List Ent) (([.box g2 56 [selfP g2 x123, .slice A125 n126 c127], .own (.slice A125 n126 c127) 5 1 n126 (x124.flatMap (eI .u8))] : List Ent) ++ ([] : List Ent)) := perm_of_idx [1, 0] [] rfl rfl (by kernel_rfl)
    refine Calls.mono (strings_Builder_WriteByte_calls w286 (Fl ([] : List Snap)) (⟨x123, x124⟩ : strings_Builder) 92 g2 z7 A125 n126 c127 (Nat.le_trans hz8 hL287.env.size) h128 (hL287.hFl (Sl := ([] : List Snap)) hp288 (sels [] rfl)) (hL287.into hp288 (Fl ([] : List Snap))) r289 hv290) ?_
    rintro _ w296 ⟨A291, n292, c293, rfl, hM297, h294⟩
    have hL298 := hL287.call hp288 hM297
    refine ⟨_, _, _, rfl, hL298, ?_⟩
    refine w_end 2 rfl ?_
    refine g_region (c := q35c34) rfl rfl ?_
    refine wl_v 0 rfl (v_move rfl) gn rfl ?_
    refine wl_v 1 rfl (v_move rfl) gn rfl ?_
    refine wl_v 2 rfl (v_idxB ar_78 rfl rfl hb229) gn rfl ?_
    refine wl_v 3 rfl (v_ldT (zs := tb_0) (j := bt x9 x122) (St w [[g2], (Value.slice A3 n4 c5).ownBlock.toList]) hG0 (me 1 rfl) ld_5 rfl (tbh rfl hb229)) gn rfl ?_
    obtain ⟨r302, hv303, h⟩ := h
    refine wl_s 4 rfl (s_call [.pointer (some ⟨g2, 0, none⟩), .int .u8 (ix tb_0 (bt x9 x122))] rfl Tryd.func36 rfl rfl rfl fun w299 hL300 => ?_) gn
    have hp301 : List.Perm ([.box g2 56 [selfP g2 r289.addr, .slice A291 n292 c293], .own (.slice A291 n292 c293) 5 1 n292 (r289.buf.flatMap (eI .u8))] : List Ent) (([.box g2 56 [selfP g2 r289.addr, .slice A291 n292 c293], .own (.slice A291 n292 c293) 5 1 n292 (r289.buf.flatMap (eI .u8))] : List Ent) ++ ([] : List Ent)) := perm_of_idx [0, 1] [] rfl rfl (by kernel_rfl)
    refine Calls.mono (strings_Builder_WriteByte_calls w299 (Fl ([] : List Snap)) r289 (ix tb_0 (bt x9 x122)) g2 z7 A291 n292 c293 (Nat.le_trans hz8 hL300.env.size) h294 (hL300.hFl (Sl := ([] : List Snap)) hp301 (sels [] rfl)) (hL300.into hp301 (Fl ([] : List Snap))) r302 hv303) ?_
    rintro _ w309 ⟨A304, n305, c306, rfl, hM310, h307⟩
    have hL311 := hL300.call hp301 hM310
    refine ⟨_, _, _, rfl, hL311, ?_⟩
    refine w_end 5 rfl ?_
    refine g_inBlock ?_
    refine g_inBlock ?_
    refine g_region (c := q35c16) rfl rfl ?_
    refine wl_v 0 rfl (v_move rfl) gn rfl ?_
    refine wl_v 1 rfl (v_bin rfl rfl rfl) gn rfl ?_
    refine wl_v 2 rfl (v_assign rfl) gn rfl ?_
    refine w_end 3 rfl ?_
    refine g_inLoop ?_
    refine g_front 0 rfl ?_
    refine g_front 1 rfl ?_
    have ih := Out.inl hO1 h
    exact g_go [0, 1] (ih A304 n305 c306 h307) ⟨rfl, rfl, rfl, trivial⟩ (.cons_cons _ (.cons_cons _ (.slnil))) rfl
  ·have h := if_neg' hp227 h
   refine g_false (c := q35c12) rfl _ rfl ((decide_eq_false hp227)) ?_
   refine g_exit (c := q35c14) [.code q35c4] rfl rfl ?_
   refine g_region (c := q35c4) rfl rfl ?_
   refine wl_v 0 rfl (v_move rfl) gn rfl ?_
   obtain ⟨r315, hv316, h⟩ := h
   refine wl_s 1 rfl (s_call [.pointer (some ⟨g2, 0, none⟩), .int .u8 34] rfl Tryd.func36 rfl rfl rfl fun w312 hL313 => ?_) gn
   have hp314 : List.Perm ([.own (.slice A125 n126 c127) 5 1 n126 (x124.flatMap (eI .u8)), .box g2 56 [selfP g2 x123, .slice A125 n126 c127]] : List Ent) (([.box g2 56 [selfP g2 x123, .slice A125 n126 c127], .own (.slice A125 n126 c127) 5 1 n126 (x124.flatMap (eI .u8))] : List Ent) ++ ([] : List Ent)) := perm_of_idx [1, 0] [] rfl rfl (by kernel_rfl)
   refine Calls.mono (strings_Builder_WriteByte_calls w312 (Fl ([] : List Snap)) (⟨x123, x124⟩ : strings_Builder) 34 g2 z7 A125 n126 c127 (Nat.le_trans hz8 hL313.env.size) h128 (hL313.hFl (Sl := ([] : List Snap)) hp314 (sels [] rfl)) (hL313.into hp314 (Fl ([] : List Snap))) r315 hv316) ?_
   rintro _ w322 ⟨A317, n318, c319, rfl, hM323, h320⟩
   have hL324 := hL313.call hp314 hM323
   refine ⟨_, _, _, rfl, hL324, ?_⟩
   refine w_end 2 rfl ?_
   have h := Out.inr hO1 h
   refine g_endR [] Tryd.func35 rfl (.nil) fun wr hLr => ?_
   have hMr : B.Loc w wr [.box g2 56 [selfP g2 r315.addr, .slice A317 n318 c319], .own (.slice A317 n318 c319) 5 1 n318 (r315.buf.flatMap (eI .u8))] [St w [[g2], (Value.slice A3 n4 c5).ownBlock.toList]] := hLr.pick (rest := []) (perm_of_idx [0, 1] [] rfl rfl (by kernel_rfl)) (sels [1] rfl)
   show json_quote_R w F g2 A3 n4 c5 z7 r (.returned (packV [])) wr
   rw [h]
   exact ⟨A317, n318, c319, rfl, hMr, h320⟩
 refine g_front 0 rfl ?_
 refine g_front 1 rfl ?_
 exact g_go [0, 1] (key1 _ h A15 n16 c17 h18) ⟨rfl, rfl, rfl, trivial⟩ (.cons_cons _ (.cons_cons _ (.slnil))) rfl
noncomputable abbrev q34c0 : Code := bodyOf Tryd.f34
noncomputable abbrev q34c1 : Code := Code.fst q34c0
noncomputable abbrev q34c2 : Code := Code.snd q34c0
noncomputable abbrev q34c3 : Code := Code.fst q34c2
noncomputable abbrev q34c4 : Code := Code.snd q34c2
noncomputable abbrev q34c5 : Code := Code.fst q34c4
noncomputable abbrev q34c6 : Code := Code.snd q34c4
noncomputable abbrev q34c7 : Code := Code.fst q34c5
noncomputable abbrev q34c8 : Code := Code.snd q34c5
noncomputable abbrev q34c9 : Code := Code.fst q34c8
noncomputable abbrev q34c10 : Code := Code.snd q34c8
noncomputable abbrev q34c11 : Code := Code.fst q34c9
noncomputable abbrev q34c12 : Code := Code.snd q34c9
noncomputable abbrev q34c13 : Code := Code.fst q34c6
noncomputable abbrev q34c14 : Code := Code.snd q34c6
noncomputable abbrev q34c15 : Code := Code.fst q34c14
noncomputable abbrev q34c16 : Code := Code.fst q34c15
noncomputable abbrev q34c17 : Code := Code.snd q34c15
noncomputable abbrev q34c18 : Code := Code.fst q34c17
noncomputable abbrev q34c19 : Code := Code.snd q34c17
noncomputable abbrev q34c20 : Code := Code.fst q34c19
noncomputable abbrev q34c21 : Code := Code.snd q34c19
noncomputable abbrev q34c22 : Code := Code.fst q34c21
noncomputable abbrev q34c23 : Code := Code.snd q34c21
noncomputable abbrev q34c24 : Code := Code.fst q34c23
noncomputable abbrev q34c25 : Code := Code.snd q34c23
noncomputable abbrev q34c26 : Code := Code.fst q34c25
noncomputable abbrev q34c27 : Code := Code.snd q34c25
noncomputable abbrev q34c28 : Code := Code.fst q34c27
noncomputable abbrev q34c29 : Code := Code.snd q34c27
noncomputable abbrev q34c30 : Code := Code.fst q34c29
noncomputable abbrev q34c31 : Code := Code.snd q34c29
noncomputable abbrev q34c32 : Code := Code.fst q34c31
noncomputable abbrev q34c33 : Code := Code.snd q34c31
noncomputable abbrev q34c34 : Code := Code.fst q34c33
noncomputable abbrev q34c35 : Code := Code.snd q34c33
noncomputable abbrev q34c36 : Code := Code.fst q34c35
noncomputable abbrev q34c37 : Code := Code.snd q34c35
noncomputable abbrev q34c38 : Code := Code.fst q34c37
noncomputable abbrev q34c39 : Code := Code.snd q34c37
noncomputable abbrev q34c40 : Code := Code.fst q34c38
noncomputable abbrev q34c41 : Code := Code.snd q34c38
noncomputable abbrev q34c42 : Code := Code.fst q34c41
noncomputable abbrev q34c43 : Code := Code.snd q34c41
noncomputable abbrev q34c44 : Code := Code.fst q34c39
noncomputable abbrev q34c45 : Code := Code.snd q34c39
noncomputable abbrev q34c46 : Code := Code.fst q34c45
noncomputable abbrev q34c47 : Code := Code.snd q34c45
noncomputable abbrev q34c48 : Code := Code.fst q34c46
noncomputable abbrev q34c49 : Code := Code.snd q34c46
noncomputable abbrev q34c50 : Code := Code.fst q34c49
noncomputable abbrev q34c51 : Code := Code.fst q34c50
noncomputable abbrev q34c52 : Code := Code.fst q34c51
noncomputable abbrev q34c53 : Code := Code.snd q34c51
noncomputable abbrev q34c54 : Code := Code.fst q34c53
noncomputable abbrev q34c55 : Code := Code.snd q34c53
noncomputable abbrev q34c56 : Code := Code.fst q34c54
noncomputable abbrev q34c57 : Code := Code.snd q34c54
noncomputable abbrev q34c58 : Code := Code.fst q34c55
noncomputable abbrev q34c59 : Code := Code.snd q34c55
noncomputable abbrev q34c60 : Code := Code.fst q34c58
noncomputable abbrev q34c61 : Code := Code.fst q34c60
noncomputable abbrev q34c62 : Code := Code.snd q34c60
noncomputable abbrev q34c63 : Code := Code.fst q34c62
noncomputable abbrev q34c64 : Code := Code.snd q34c62
noncomputable abbrev q34c65 : Code := Code.fst q34c63
noncomputable abbrev q34c66 : Code := Code.snd q34c63
noncomputable abbrev q34c67 : Code := Code.fst q34c66
noncomputable abbrev q34c68 : Code := Code.snd q34c66
abbrev json_Print_1_R (w : World) (F : Nat → Prop) (g3 : Nat) (g10 : Nat) (g13 : Nat) (g20 : Nat) (Tb4 : Nat) (Tb11 : Nat) (Tb21 : Nat) (A14 : Option Addr) (n15 : Nat) (c16 : Nat) (z18 : Nat) (r : (List api_JNode) × Int × strings_Builder) : Ending → World → Prop := fun e w' => ∃ A1 : Option Addr, ∃ n1 : Nat, ∃ c1 : Nat, ∃ A0 : Option Addr, ∃ n0 : Nat, ∃ c0 : Nat, e = .returned (.tuple #[]) ∧ B.Loc w w' [.box g3 Tb4 [.slice A0 n0 c0], .box g10 Tb11 [.int .i64 r.2.1], .box g13 56 [selfP g13 r.2.2.addr, .slice A1 n1 c1], .box g20 Tb21 [.func (.func 34) #[] #[.pointer (some ⟨g3, 0, none⟩), .pointer (some ⟨g10, 0, none⟩), .pointer (some ⟨g13, 0, none⟩), .pointer (some ⟨g20, 0, none⟩)]], .own (.slice A1 n1 c1) 5 1 n1 (r.2.2.buf.flatMap (eI .u8))] [St w [[g3], [g10], [g13], (Value.slice A14 n15 c16).ownBlock.toList, [g20]]] ∧ Ow z18 A1 n1 c1 r.2.2.buf ∧ Rw k_api_JNode w' (Nw w w' F [.box g3 Tb4 [.slice A0 n0 c0], .box g10 Tb11 [.int .i64 r.2.1], .box g13 56 [selfP g13 r.2.2.addr, .slice A1 n1 c1], .box g20 Tb21 [.func (.func 34) #[] #[.pointer (some ⟨g3, 0, none⟩), .pointer (some ⟨g10, 0, none⟩), .pointer (some ⟨g13, 0, none⟩), .pointer (some ⟨g20, 0, none⟩)]], .own (.slice A1 n1 c1) 5 1 n1 (r.2.2.buf.flatMap (eI .u8))]) A0 n0 c0 r.1
noncomputable abbrev json_Print_1_C (w : World) (F : Nat → Prop) (g3 : Nat) (g10 : Nat) (g13 : Nat) (g20 : Nat) (Tb4 : Nat) (Tb11 : Nat) (Tb21 : Nat) (A14 : Option Addr) (n15 : Nat) (c16 : Nat) (z18 : Nat) (r : (List api_JNode) × Int × strings_Builder) : Cx := ⟨Tryd.prog, 34, Tryd.f34, 64, json_Print_1_R w F g3 g10 g13 g20 Tb4 Tb11 Tb21 A14 n15 c16 z18 r, w⟩
def json_Print_1_st (rl : Bool → (List api_JNode) → Int → strings_Builder → ((List api_JNode) × Int × strings_Builder) → Prop) : Prop := ∀ (w : World) (F : Nat → Prop) (x1 : Bool) (x2 : List api_JNode) (x9 : Int) (x12 : strings_Builder) (g3 : Nat) (Tb4 : Nat) (A5 : Option Addr) (n6 : Nat) (c7 : Nat) (g10 : Nat) (Tb11 : Nat) (g13 : Nat) (z18 : Nat) (A14 : Option Addr) (n15 : Nat) (c16 : Nat) (g20 : Nat) (Tb21 : Nat) (h8 : Rw k_api_JNode w F A5 n6 c7 x2) (hz19 : z18 ≤ w.heap.size) (h17 : Ow z18 A14 n15 c16 x12.buf) (hG0 : Tt .u8 tb_0 0 (St w [[g3], [g10], [g13], (Value.slice A14 n15 c16).ownBlock.toList, [g20]])) (hF : ∀ b, F b → b < w.heap.size ∧ ∀ o ∈ ([[g3], [g10], [g13], (Value.slice A14 n15 c16).ownBlock.toList, [g20]] : List (List Nat)), b ∉ o) (hL0 : B.Loc w w [.box g3 Tb4 [.slice A5 n6 c7], .box g10 Tb11 [.int .i64 x9], .box g13 56 [selfP g13 x12.addr, .slice A14 n15 c16], .own (.slice A14 n15 c16) 5 1 n15 (x12.buf.flatMap (eI .u8)), .box g20 Tb21 [.func (.func 34) #[] #[.pointer (some ⟨g3, 0, none⟩), .pointer (some ⟨g10, 0, none⟩), .pointer (some ⟨g13, 0, none⟩), .pointer (some ⟨g20, 0, none⟩)]]] [Sm w.heap.size F w [[g3], [g10], [g13], (Value.slice A14 n15 c16).ownBlock.toList, [g20]], St w [[g3], [g10], [g13], (Value.slice A14 n15 c16).ownBlock.toList, [g20]]]) (r : (List api_JNode) × Int × strings_Builder) (h : rl x1 x2 x9 x12 r), Calls Tryd.prog 34 #[.bool x1, .pointer (some ⟨g3, 0, none⟩), .pointer (some ⟨g10, 0, none⟩), .pointer (some ⟨g13, 0, none⟩), .pointer (some ⟨g20, 0, none⟩)] w (json_Print_1_R w F g3 g10 g13 g20 Tb4 Tb11 Tb21 A14 n15 c16 z18 r)
theorem json_Print_1_step (rc_json_Print_1 : Bool → (List api_JNode) → Int → strings_Builder → ((List api_JNode) × Int × strings_Builder) → Prop) (ih_json_Print_1 : json_Print_1_st rc_json_Print_1) : json_Print_1_st (json_Print_1_body rc_json_Print_1) := by
 intro w F x1 x2 x9 x12 g3 Tb4 A5 n6 c7 g10 Tb11 g13 z18 A14 n15 c16 g20 Tb21 h8 hz19 h17 hG0 hF hL0 r h
 unfold json_Print_1_body at h
 have h8 := Rw.into (bs := [[g3], [g10], [g13], (Value.slice A14 n15 c16).ownBlock.toList, [g20]]) hF h8
 refine calls_of_Loc (vs := [.bool x1, .pointer (some ⟨g3, 0, none⟩), .pointer (some ⟨g10, 0, none⟩), .pointer (some ⟨g13, 0, none⟩), .pointer (some ⟨g20, 0, none⟩)]) 64 Tryd.func34 rfl Tryd.ntmps34 rfl hL0 ?_
 show G (json_Print_1_C w F g3 g10 g13 g20 Tb4 Tb11 Tb21 A14 n15 c16 z18 r) _ _ _ _
 refine g_seq (c := q34c0) rfl ?_
 refine g_region (c := q34c1) rfl rfl ?_
 refine wl_v 0 rfl (v_ldB1 0 ld_22 rfl rfl rfl) gn rfl ?_
 refine wl_v 1 rfl (v_ldB1 1 ld_3 rfl rfl rfl) gn rfl ?_
 obtain ⟨hb22, h⟩ := h
 have hr23 := Rw.readF (s := Sm w.heap.size F w [[g3], [g10], [g13], (Value.slice A14 n15 c16).ownBlock.toList, [g20]]) (hl := hl_api_JNode) (h1 := h1_api_JNode) h8 hb22
 refine wl_v 2 rfl (v_idxR (s := Sm w.heap.size F w [[g3], [g10], [g13], (Value.slice A14 n15 c16).ownBlock.toList, [g20]]) slE_22 rfl rfl h8 hb22) gn rfl ?_
 refine wl_v 3 rfl (v_ldA (Sm w.heap.size F w [[g3], [g10], [g13], (Value.slice A14 n15 c16).ownBlock.toList, [g20]]) ld_31 rfl hr23 rfl (me 0 rfl)) gn rfl ?_
 refine wl_s 4 rfl (s_alloc [.int .i64 0, .string (⟨#[]⟩ : ByteArray), .string (⟨#[]⟩ : ByteArray), .int .i64 0] zr_31 rfl fun gb24 => ?_) gn
 refine wl_s 5 rfl (s_stB (vs := [.int .i64 ((ix x2 x9).kind), .string ((ix x2 x9).key), .string ((ix x2 x9).text), .int .i64 ((ix x2 x9).kids)]) (cs' := [.int .i64 ((ix x2 x9).kind), .string ((ix x2 x9).key), .string ((ix x2 x9).text), .int .i64 ((ix x2 x9).kids)]) (M' := [.box gb24 31 [.int .i64 ((ix x2 x9).kind), .string ((ix x2 x9).key), .string ((ix x2 x9).text), .int .i64 ((ix x2 x9).kids)], .box g3 Tb4 [.slice A5 n6 c7], .box g10 Tb11 [.int .i64 x9], .box g13 56 [selfP g13 x12.addr, .slice A14 n15 c16], .own (.slice A14 n15 c16) 5 1 n15 (x12.buf.flatMap (eI .u8)), .box g20 Tb21 [.func (.func 34) #[] #[.pointer (some ⟨g3, 0, none⟩), .pointer (some ⟨g10, 0, none⟩), .pointer (some ⟨g13, 0, none⟩), .pointer (some ⟨g20, 0, none⟩)]]]) 0 sz_31 rfl rfl rfl rfl rfl rfl rfl rfl rfl ?_) gn
 refine w_end 6 rfl ?_
 refine g_seq (c := q34c2) rfl ?_
 refine g_region (c := q34c3) rfl rfl ?_
 refine wl_v 0 rfl (v_ldB1 2 ld_3 rfl rfl rfl) gn rfl ?_
 refine wl_v 1 rfl (v_bin rfl rfl rfl) gn rfl ?_
 refine wl_s 2 rfl (s_stB (vs := [.int .i64 (w64 (x9 + 1))]) (cs' := [.int .i64 (w64 (x9 + 1))]) (M' := [.box gb24 31 [.int .i64 ((ix x2 x9).kind), .string ((ix x2 x9).key), .string ((ix x2 x9).text), .int .i64 ((ix x2 x9).kids)], .box g3 Tb4 [.slice A5 n6 c7], .box g10 Tb11 [.int .i64 (w64 (x9 + 1))], .box g13 56 [selfP g13 x12.addr, .slice A14 n15 c16], .own (.slice A14 n15 c16) 5 1 n15 (x12.buf.flatMap (eI .u8)), .box g20 Tb21 [.func (.func 34) #[] #[.pointer (some ⟨g3, 0, none⟩), .pointer (some ⟨g10, 0, none⟩), .pointer (some ⟨g13, 0, none⟩), .pointer (some ⟨g20, 0, none⟩)]]]) 2 sz_3 rfl rfl rfl rfl rfl rfl rfl rfl rfl ?_) gn
 refine w_end 3 rfl ?_
 refine g_seq (c := q34c4) rfl ?_
 refine g_seq (c := q34c5) rfl ?_
 refine g_region (c := q34c7) rfl rfl ?_
 refine wl_v 0 rfl (v_move rfl) gn rfl ?_
 refine w_end 1 rfl ?_
 have j1 : ∀ (x54 : Bool) (x55 : List Int) (h : json_Print_1_j1 x2 x9 rc_json_Print_1 x54 x55 r) (A56 : Option Addr) (n57 : Nat) (c58 : Nat) (h59 : Ow z18 A56 n57 c58 x55), G (json_Print_1_C w F g3 g10 g13 g20 Tb4 Tb11 Tb21 A14 n15 c16 z18 r) [.code q34c6] [(3, .pointer (some ⟨g13, 0, none⟩)), (4, .pointer (some ⟨g20, 0, none⟩)), (6, .pointer (some ⟨gb24, 0, none⟩))] [.own (.slice A56 n57 c58) 5 1 n57 (x55.flatMap (eI .u8)), .box g13 56 [selfP g13 x54, .slice A56 n57 c58], .box gb24 31 [.int .i64 ((ix x2 x9).kind), .string ((ix x2 x9).key), .string ((ix x2 x9).text), .int .i64 ((ix x2 x9).kids)], .box g3 Tb4 [.slice A5 n6 c7], .box g10 Tb11 [.int .i64 (w64 (x9 + 1))], .box g20 Tb21 [.func (.func 34) #[] #[.pointer (some ⟨g3, 0, none⟩), .pointer (some ⟨g10, 0, none⟩), .pointer (some ⟨g13, 0, none⟩), .pointer (some ⟨g20, 0, none⟩)]]] [Sm w.heap.size F w [[g3], [g10], [g13], (Value.slice A14 n15 c16).ownBlock.toList, [g20]], St w [[g3], [g10], [g13], (Value.slice A14 n15 c16).ownBlock.toList, [g20]]] := by
  intro x54 x55 h A56 n57 c58 h59
  unfold json_Print_1_j1 at h
  refine g_seq (c := q34c6) rfl ?_
  refine g_region (c := q34c13) rfl rfl ?_
  refine wl_v 0 rfl (v_fldB fo_31_0 rfl) gn rfl ?_
  refine wl_v 1 rfl (v_ldB1 2 ld_29 rfl rfl rfl) gn rfl ?_
  refine w_end 2 rfl ?_
  refine g_block (c := q34c14) rfl ?_
  refine g_seq (c := q34c15) rfl ?_
  refine g_region (c := q34c16) rfl rfl ?_
  refine wl_v 0 rfl (v_bin rfl rfl rfl) gn rfl ?_
  refine wl_v 1 rfl (v_assign rfl) gn rfl ?_
  refine w_end 2 rfl ?_
  by_cases hp60 : (ix x2 x9).kind = 1
  ·have h := if_pos' hp60 h
   refine g_true (c := q34c17) rfl _ rfl ((eqi hp60)) ?_
   refine g_region (c := q34c18) rfl rfl ?_
   obtain ⟨r64, hv65, h⟩ := h
   refine wl_s 0 rfl (s_call [.pointer (some ⟨g13, 0, none⟩), .string (⟨#[110, 117, 108, 108]⟩ : ByteArray)] rfl Tryd.func37 rfl rfl rfl fun w61 hL62 => ?_) gn
   have hp63 : List.Perm ([.own (.slice A56 n57 c58) 5 1 n57 (x55.flatMap (eI .u8)), .box g13 56 [selfP g13 x54, .slice A56 n57 c58], .box gb24 31 [.int .i64 ((ix x2 x9).kind), .string ((ix x2 x9).key), .string ((ix x2 x9).text), .int .i64 ((ix x2 x9).kids)], .box g3 Tb4 [.slice A5 n6 c7], .box g10 Tb11 [.int .i64 (w64 (x9 + 1))], .box g20 Tb21 [.func (.func 34) #[] #[.pointer (some ⟨g3, 0, none⟩), .pointer (some ⟨g10, 0, none⟩), .pointer (some ⟨g13, 0, none⟩), .pointer (some ⟨g20, 0, none⟩)]]] : List Ent) (([.box g13 56 [selfP g13 x54, .slice A56 n57 c58], .own (.slice A56 n57 c58) 5 1 n57 (x55.flatMap (eI .u8))] : List Ent) ++ ([.box gb24 31 [.int .i64 ((ix x2 x9).kind), .string ((ix x2 x9).key), .string ((ix x2 x9).text), .int .i64 ((ix x2 x9).kids)], .box g3 Tb4 [.slice A5 n6 c7], .box g10 Tb11 [.int .i64 (w64 (x9 + 1))], .box g20 Tb21 [.func (.func 34) #[] #[.pointer (some ⟨g3, 0, none⟩), .pointer (some ⟨g10, 0, none⟩), .pointer (some ⟨g13, 0, none⟩), .pointer (some ⟨g20, 0, none⟩)]]] : List Ent)) := perm_of_idx [1, 0] [2, 3, 4, 5] rfl rfl (by kernel_rfl)
   refine Calls.mono (strings_Builder_WriteString_calls w61 (Fl ([] : List Snap)) (⟨x54, x55⟩ : strings_Builder) (⟨#[110, 117, 108, 108]⟩ : ByteArray) g13 z18 A56 n57 c58 (Nat.le_trans hz19 hL62.env.size) h59 (hL62.hFl (Sl := ([] : List Snap)) hp63 (sels [] rfl)) (hL62.into hp63 (Fl ([] : List Snap))) r64 hv65) ?_
   rintro _ w71 ⟨A66, n67, c68, rfl, hM72, h69⟩
   have hL73 := hL62.call hp63 hM72
   refine ⟨_, _, _, rfl, hL73, ?_⟩
   refine w_end 1 rfl ?_
   refine g_inBlock ?_
   refine g_endR [] Tryd.func34 rfl (.nil) fun wr hLr => ?_
   have hMr : B.Loc w wr [.box g3 Tb4 [.slice A5 n6 c7], .box g10 Tb11 [.int .i64 (w64 (x9 + 1))], .box g13 56 [selfP g13 r64.2.addr, .slice A66 n67 c68], .box g20 Tb21 [.func (.func 34) #[] #[.pointer (some ⟨g3, 0, none⟩), .pointer (some ⟨g10, 0, none⟩), .pointer (some ⟨g13, 0, none⟩), .pointer (some ⟨g20, 0, none⟩)]], .own (.slice A66 n67 c68) 5 1 n67 (r64.2.buf.flatMap (eI .u8))] [St w [[g3], [g10], [g13], (Value.slice A14 n15 c16).ownBlock.toList, [g20]]] := hLr.pick (rest := [.box gb24 31 [.int .i64 ((ix x2 x9).kind), .string ((ix x2 x9).key), .string ((ix x2 x9).text), .int .i64 ((ix x2 x9).kids)]]) (perm_of_idx [3, 4, 0, 5, 1] [2] rfl rfl (by kernel_rfl)) (sels [1] rfl)
   have hMi : ∀ e ∈ ([.box g3 Tb4 [.slice A5 n6 c7], .box g10 Tb11 [.int .i64 (w64 (x9 + 1))], .box g13 56 [selfP g13 r64.2.addr, .slice A66 n67 c68], .box g20 Tb21 [.func (.func 34) #[] #[.pointer (some ⟨g3, 0, none⟩), .pointer (some ⟨g10, 0, none⟩), .pointer (some ⟨g13, 0, none⟩), .pointer (some ⟨g20, 0, none⟩)]], .own (.slice A66 n67 c68) 5 1 n67 (r64.2.buf.flatMap (eI .u8))] : List Ent), e ∈ ([.box g13 56 [selfP g13 r64.2.addr, .slice A66 n67 c68], .own (.slice A66 n67 c68) 5 1 n67 (r64.2.buf.flatMap (eI .u8)), .box gb24 31 [.int .i64 ((ix x2 x9).kind), .string ((ix x2 x9).key), .string ((ix x2 x9).text), .int .i64 ((ix x2 x9).kids)], .box g3 Tb4 [.slice A5 n6 c7], .box g10 Tb11 [.int .i64 (w64 (x9 + 1))], .box g20 Tb21 [.func (.func 34) #[] #[.pointer (some ⟨g3, 0, none⟩), .pointer (some ⟨g10, 0, none⟩), .pointer (some ⟨g13, 0, none⟩), .pointer (some ⟨g20, 0, none⟩)]]] : List Ent) := sels [3, 4, 0, 5, 1] rfl
   show json_Print_1_R w F g3 g10 g13 g20 Tb4 Tb11 Tb21 A14 n15 c16 z18 r (.returned (packV [])) wr
   rw [h]
   exact ⟨A66, n67, c68, A5, n6, c7, rfl, hMr, h69, (hLr.outR (s := Sm w.heap.size F w [[g3], [g10], [g13], (Value.slice A14 n15 c16).ownBlock.toList, [g20]]) hMi (me 0 rfl) Sm.ok h8)⟩
  ·have h := if_neg' hp60 h
   refine g_false (c := q34c17) rfl _ rfl ((nei hp60)) ?_
   refine g_seq (c := q34c19) rfl ?_
   refine g_region (c := q34c20) rfl rfl ?_
   refine wl_v 0 rfl (v_bin rfl rfl rfl) gn rfl ?_
   refine wl_v 1 rfl (v_assign rfl) gn rfl ?_
   refine w_end 2 rfl ?_
   by_cases hp74 : (ix x2 x9).kind = 2
   ·have h := if_pos' hp74 h
    refine g_true (c := q34c21) rfl _ rfl ((eqi hp74)) ?_
    refine g_region (c := q34c22) rfl rfl ?_
    obtain ⟨r78, hv79, h⟩ := h
    refine wl_s 0 rfl (s_call [.pointer (some ⟨g13, 0, none⟩), .string (⟨#[102, 97, 108, 115, 101]⟩ : ByteArray)] rfl Tryd.func37 rfl rfl rfl fun w75 hL76 => ?_) gn
    have hp77 : List.Perm ([.own (.slice A56 n57 c58) 5 1 n57 (x55.flatMap (eI .u8)), .box g13 56 [selfP g13 x54, .slice A56 n57 c58], .box gb24 31 [.int .i64 ((ix x2 x9).kind), .string ((ix x2 x9).key), .string ((ix x2 x9).text), .int .i64 ((ix x2 x9).kids)], .box g3 Tb4 [.slice A5 n6 c7], .box g10 Tb11 [.int .i64 (w64 (x9 + 1))], .box g20 Tb21 [.func (.func 34) #[] #[.pointer (some ⟨g3, 0, none⟩), .pointer (some ⟨g10, 0, none⟩), .pointer (some ⟨g13, 0, none⟩), .pointer (some ⟨g20, 0, none⟩)]]] : List Ent) (([.box g13 56 [selfP g13 x54, .slice A56 n57 c58], .own (.slice A56 n57 c58) 5 1 n57 (x55.flatMap (eI .u8))] : List Ent) ++ ([.box gb24 31 [.int .i64 ((ix x2 x9).kind), .string ((ix x2 x9).key), .string ((ix x2 x9).text), .int .i64 ((ix x2 x9).kids)], .box g3 Tb4 [.slice A5 n6 c7], .box g10 Tb11 [.int .i64 (w64 (x9 + 1))], .box g20 Tb21 [.func (.func 34) #[] #[.pointer (some ⟨g3, 0, none⟩), .pointer (some ⟨g10, 0, none⟩), .pointer (some ⟨g13, 0, none⟩), .pointer (some ⟨g20, 0, none⟩)]]] : List Ent)) := perm_of_idx [1, 0] [2, 3, 4, 5] rfl rfl (by kernel_rfl)
    refine Calls.mono (strings_Builder_WriteString_calls w75 (Fl ([] : List Snap)) (⟨x54, x55⟩ : strings_Builder) (⟨#[102, 97, 108, 115, 101]⟩ : ByteArray) g13 z18 A56 n57 c58 (Nat.le_trans hz19 hL76.env.size) h59 (hL76.hFl (Sl := ([] : List Snap)) hp77 (sels [] rfl)) (hL76.into hp77 (Fl ([] : List Snap))) r78 hv79) ?_
    rintro _ w85 ⟨A80, n81, c82, rfl, hM86, h83⟩
    have hL87 := hL76.call hp77 hM86
    refine ⟨_, _, _, rfl, hL87, ?_⟩
    refine w_end 1 rfl ?_
    refine g_inBlock ?_
    refine g_endR [] Tryd.func34 rfl (.nil) fun wr hLr => ?_
    have hMr : B.Loc w wr [.box g3 Tb4 [.slice A5 n6 c7], .box g10 Tb11 [.int .i64 (w64 (x9 + 1))], .box g13 56 [selfP g13 r78.2.addr, .slice A80 n81 c82], .box g20 Tb21 [.func (.func 34) #[] #[.pointer (some ⟨g3, 0, none⟩), .pointer (some ⟨g10, 0, none⟩), .pointer (some ⟨g13, 0, none⟩), .pointer (some ⟨g20, 0, none⟩)]], .own (.slice A80 n81 c82) 5 1 n81 (r78.2.buf.flatMap (eI .u8))] [St w [[g3], [g10], [g13], (Value.slice A14 n15 c16).ownBlock.toList, [g20]]] := hLr.pick (rest := [.box gb24 31 [.int .i64 ((ix x2 x9).kind), .string ((ix x2 x9).key), .string ((ix x2 x9).text), .int .i64 ((ix x2 x9).kids)]]) (perm_of_idx [3, 4, 0, 5, 1] [2] rfl rfl (by kernel_rfl)) (sels [1] rfl)
    have hMi : ∀ e ∈ ([.box g3 Tb4 [.slice A5 n6 c7], .box g10 Tb11 [.int .i64 (w64 (x9 + 1))], .box g13 56 [selfP g13 r78.2.addr, .slice A80 n81 c82], .box g20 Tb21 [.func (.func 34) #[] #[.pointer (some ⟨g3, 0, none⟩), .pointer (some ⟨g10, 0, none⟩), .pointer (some ⟨g13, 0, none⟩), .pointer (some ⟨g20, 0, none⟩)]], .own (.slice A80 n81 c82) 5 1 n81 (r78.2.buf.flatMap (eI .u8))] : List Ent), e ∈ ([.box g13 56 [selfP g13 r78.2.addr, .slice A80 n81 c82], .own (.slice A80 n81 c82) 5 1 n81 (r78.2.buf.flatMap (eI .u8)), .box gb24 31 [.int .i64 ((ix x2 x9).kind), .string ((ix x2 x9).key), .string ((ix x2 x9).text), .int .i64 ((ix x2 x9).kids)], .box g3 Tb4 [.slice A5 n6 c7], .box g10 Tb11 [.int .i64 (w64 (x9 + 1))], .box g20 Tb21 [.func (.func 34) #[] #[.pointer (some ⟨g3, 0, none⟩), .pointer (some ⟨g10, 0, none⟩), .pointer (some ⟨g13, 0, none⟩), .pointer (some ⟨g20, 0, none⟩)]]] : List Ent) := sels [3, 4, 0, 5, 1] rfl
    show json_Print_1_R w F g3 g10 g13 g20 Tb4 Tb11 Tb21 A14 n15 c16 z18 r (.returned (packV [])) wr
    rw [h]
    exact ⟨A80, n81, c82, A5, n6, c7, rfl, hMr, h83, (hLr.outR (s := Sm w.heap.size F w [[g3], [g10], [g13], (Value.slice A14 n15 c16).ownBlock.toList, [g20]]) hMi (me 0 rfl) Sm.ok h8)⟩
   ·have h := if_neg' hp74 h
    refine g_false (c := q34c21) rfl _ rfl ((nei hp74)) ?_
    refine g_seq (c := q34c23) rfl ?_
    refine g_region (c := q34c24) rfl rfl ?_
    refine wl_v 0 rfl (v_bin rfl rfl rfl) gn rfl ?_
    refine wl_v 1 rfl (v_assign rfl) gn rfl ?_
    refine w_end 2 rfl ?_
    by_cases hp88 : (ix x2 x9).kind = 3
    ·have h := if_pos' hp88 h
     refine g_true (c := q34c25) rfl _ rfl ((eqi hp88)) ?_
     refine g_region (c := q34c26) rfl rfl ?_
     obtain ⟨r92, hv93, h⟩ := h
     refine wl_s 0 rfl (s_call [.pointer (some ⟨g13, 0, none⟩), .string (⟨#[116, 114, 117, 101]⟩ : ByteArray)] rfl Tryd.func37 rfl rfl rfl fun w89 hL90 => ?_) gn
     have hp91 : List.Perm ([.own (.slice A56 n57 c58) 5 1 n57 (x55.flatMap (eI .u8)), .box g13 56 [selfP g13 x54, .slice A56 n57 c58], .box gb24 31 [.int .i64 ((ix x2 x9).kind), .string ((ix x2 x9).key), .string ((ix x2 x9).text), .int .i64 ((ix x2 x9).kids)], .box g3 Tb4 [.slice A5 n6 c7], .box g10 Tb11 [.int .i64 (w64 (x9 + 1))], .box g20 Tb21 [.func (.func 34) #[] #[.pointer (some ⟨g3, 0, none⟩), .pointer (some ⟨g10, 0, none⟩), .pointer (some ⟨g13, 0, none⟩), .pointer (some ⟨g20, 0, none⟩)]]] : List Ent) (([.box g13 56 [selfP g13 x54, .slice A56 n57 c58], .own (.slice A56 n57 c58) 5 1 n57 (x55.flatMap (eI .u8))] : List Ent) ++ ([.box gb24 31 [.int .i64 ((ix x2 x9).kind), .string ((ix x2 x9).key), .string ((ix x2 x9).text), .int .i64 ((ix x2 x9).kids)], .box g3 Tb4 [.slice A5 n6 c7], .box g10 Tb11 [.int .i64 (w64 (x9 + 1))], .box g20 Tb21 [.func (.func 34) #[] #[.pointer (some ⟨g3, 0, none⟩), .pointer (some ⟨g10, 0, none⟩), .pointer (some ⟨g13, 0, none⟩), .pointer (some ⟨g20, 0, none⟩)]]] : List Ent)) := perm_of_idx [1, 0] [2, 3, 4, 5] rfl rfl (by kernel_rfl)
     refine Calls.mono (strings_Builder_WriteString_calls w89 (Fl ([] : List Snap)) (⟨x54, x55⟩ : strings_Builder) (⟨#[116, 114, 117, 101]⟩ : ByteArray) g13 z18 A56 n57 c58 (Nat.le_trans hz19 hL90.env.size) h59 (hL90.hFl (Sl := ([] : List Snap)) hp91 (sels [] rfl)) (hL90.into hp91 (Fl ([] : List Snap))) r92 hv93) ?_
     rintro _ w99 ⟨A94, n95, c96, rfl, hM100, h97⟩
     have hL101 := hL90.call hp91 hM100
     refine ⟨_, _, _, rfl, hL101, ?_⟩
     refine w_end 1 rfl ?_
     refine g_inBlock ?_
     refine g_endR [] Tryd.func34 rfl (.nil) fun wr hLr => ?_
     have hMr : B.Loc w wr [.box g3 Tb4 [.slice A5 n6 c7], .box g10 Tb11 [.int .i64 (w64 (x9 + 1))], .box g13 56 [selfP g13 r92.2.addr, .slice A94 n95 c96], .box g20 Tb21 [.func (.func 34) #[] #[.pointer (some ⟨g3, 0, none⟩), .pointer (some ⟨g10, 0, none⟩), .pointer (some ⟨g13, 0, none⟩), .pointer (some ⟨g20, 0, none⟩)]], .own (.slice A94 n95 c96) 5 1 n95 (r92.2.buf.flatMap (eI .u8))] [St w [[g3], [g10], [g13], (Value.slice A14 n15 c16).ownBlock.toList, [g20]]] := hLr.pick (rest := [.box gb24 31 [.int .i64 ((ix x2 x9).kind), .string ((ix x2 x9).key), .string ((ix x2 x9).text), .int .i64 ((ix x2 x9).kids)]]) (perm_of_idx [3, 4, 0, 5, 1] [2] rfl rfl (by kernel_rfl)) (sels [1] rfl)
     have hMi : ∀ e ∈ ([.box g3 Tb4 [.slice A5 n6 c7], .box g10 Tb11 [.int .i64 (w64 (x9 + 1))], .box g13 56 [selfP g13 r92.2.addr, .slice A94 n95 c96], .box g20 Tb21 [.func (.func 34) #[] #[.pointer (some ⟨g3, 0, none⟩), .pointer (some ⟨g10, 0, none⟩), .pointer (some ⟨g13, 0, none⟩), .pointer (some ⟨g20, 0, none⟩)]], .own (.slice A94 n95 c96) 5 1 n95 (r92.2.buf.flatMap (eI .u8))] : List Ent), e ∈ ([.box g13 56 [selfP g13 r92.2.addr, .slice A94 n95 c96], .own (.slice A94 n95 c96) 5 1 n95 (r92.2.buf.flatMap (eI .u8)), .box gb24 31 [.int .i64 ((ix x2 x9).kind), .string ((ix x2 x9).key), .string ((ix x2 x9).text), .int .i64 ((ix x2 x9).kids)], .box g3 Tb4 [.slice A5 n6 c7], .box g10 Tb11 [.int .i64 (w64 (x9 + 1))], .box g20 Tb21 [.func (.func 34) #[] #[.pointer (some ⟨g3, 0, none⟩), .pointer (some ⟨g10, 0, none⟩), .pointer (some ⟨g13, 0, none⟩), .pointer (some ⟨g20, 0, none⟩)]]] : List Ent) := sels [3, 4, 0, 5, 1] rfl
     show json_Print_1_R w F g3 g10 g13 g20 Tb4 Tb11 Tb21 A14 n15 c16 z18 r (.returned (packV [])) wr
     rw [h]
     exact ⟨A94, n95, c96, A5, n6, c7, rfl, hMr, h97, (hLr.outR (s := Sm w.heap.size F w [[g3], [g10], [g13], (Value.slice A14 n15 c16).ownBlock.toList, [g20]]) hMi (me 0 rfl) Sm.ok h8)⟩
    ·have h := if_neg' hp88 h
     refine g_false (c := q34c25) rfl _ rfl ((nei hp88)) ?_
     refine g_seq (c := q34c27) rfl ?_
     refine g_region (c := q34c28) rfl rfl ?_
     refine wl_v 0 rfl (v_bin rfl rfl rfl) gn rfl ?_
     refine wl_v 1 rfl (v_assign rfl) gn rfl ?_
     refine w_end 2 rfl ?_
     by_cases hp102 : (ix x2 x9).kind = 4
     ·have h := if_pos' hp102 h
      refine g_true (c := q34c29) rfl _ rfl ((eqi hp102)) ?_
      refine g_region (c := q34c30) rfl rfl ?_
      refine wl_v 0 rfl (v_fldB fo_31_2 rfl) gn rfl ?_
      refine wl_v 1 rfl (v_ldB1 2 ld_9 rfl rfl rfl) gn rfl ?_
      obtain ⟨r106, hv107, h⟩ := h
      refine wl_s 2 rfl (s_call [.pointer (some ⟨g13, 0, none⟩), .string ((ix x2 x9).text)] rfl Tryd.func37 rfl rfl rfl fun w103 hL104 => ?_) gn
      have hp105 : List.Perm ([.own (.slice A56 n57 c58) 5 1 n57 (x55.flatMap (eI .u8)), .box g13 56 [selfP g13 x54, .slice A56 n57 c58], .box gb24 31 [.int .i64 ((ix x2 x9).kind), .string ((ix x2 x9).key), .string ((ix x2 x9).text), .int .i64 ((ix x2 x9).kids)], .box g3 Tb4 [.slice A5 n6 c7], .box g10 Tb11 [.int .i64 (w64 (x9 + 1))], .box g20 Tb21 [.func (.func 34) #[] #[.pointer (some ⟨g3, 0, none⟩), .pointer (some ⟨g10, 0, none⟩), .pointer (some ⟨g13, 0, none⟩), .pointer (some ⟨g20, 0, none⟩)]]] : List Ent) (([.box g13 56 [selfP g13 x54, .slice A56 n57 c58], .own (.slice A56 n57 c58) 5 1 n57 (x55.flatMap (eI .u8))] : List Ent) ++ ([.box gb24 31 [.int .i64 ((ix x2 x9).kind), .string ((ix x2 x9).key), .string ((ix x2 x9).text), .int .i64 ((ix x2 x9).kids)], .box g3 Tb4 [.slice A5 n6 c7], .box g10 Tb11 [.int .i64 (w64 (x9 + 1))], .box g20 Tb21 [.func (.func 34) #[] #[.pointer (some ⟨g3, 0, none⟩), .pointer (some ⟨g10, 0, none⟩), .pointer (some ⟨g13, 0, none⟩), .pointer (some ⟨g20, 0, none⟩)]]] : List Ent)) := perm_of_idx [1, 0] [2, 3, 4, 5] rfl rfl (by kernel_rfl)
      refine Calls.mono (strings_Builder_WriteString_calls w103 (Fl ([] : List Snap)) (⟨x54, x55⟩ : strings_Builder) ((ix x2 x9).text) g13 z18 A56 n57 c58 (Nat.le_trans hz19 hL104.env.size) h59 (hL104.hFl (Sl := ([] : List Snap)) hp105 (sels [] rfl)) (hL104.into hp105 (Fl ([] : List Snap))) r106 hv107) ?_
      rintro _ w113 ⟨A108, n109, c110, rfl, hM114, h111⟩
      have hL115 := hL104.call hp105 hM114
      refine ⟨_, _, _, rfl, hL115, ?_⟩
      refine w_end 3 rfl ?_
      refine g_inBlock ?_
      refine g_endR [] Tryd.func34 rfl (.nil) fun wr hLr => ?_
      have hMr : B.Loc w wr [.box g3 Tb4 [.slice A5 n6 c7], .box g10 Tb11 [.int .i64 (w64 (x9 + 1))], .box g13 56 [selfP g13 r106.2.addr, .slice A108 n109 c110], .box g20 Tb21 [.func (.func 34) #[] #[.pointer (some ⟨g3, 0, none⟩), .pointer (some ⟨g10, 0, none⟩), .pointer (some ⟨g13, 0, none⟩), .pointer (some ⟨g20, 0, none⟩)]], .own (.slice A108 n109 c110) 5 1 n109 (r106.2.buf.flatMap (eI .u8))] [St w [[g3], [g10], [g13], (Value.slice A14 n15 c16).ownBlock.toList, [g20]]] := hLr.pick (rest := [.box gb24 31 [.int .i64 ((ix x2 x9).kind), .string ((ix x2 x9).key), .string ((ix x2 x9).text), .int .i64 ((ix x2 x9).kids)]]) (perm_of_idx [3, 4, 0, 5, 1] [2] rfl rfl (by kernel_rfl)) (sels [1] rfl)
      have hMi : ∀ e ∈ ([.box g3 Tb4 [.slice A5 n6 c7], .box g10 Tb11 [.int .i64 (w64 (x9 + 1))], .box g13 56 [selfP g13 r106.2.addr, .slice A108 n109 c110], .box g20 Tb21 [.func (.func 34) #[] #[.pointer (some ⟨g3, 0, none⟩), .pointer (some ⟨g10, 0, none⟩), .pointer (some ⟨g13, 0, none⟩), .pointer (some ⟨g20, 0, none⟩)]], .own (.slice A108 n109 c110) 5 1 n109 (r106.2.buf.flatMap (eI .u8))] : List Ent), e ∈ ([.box g13 56 [selfP g13 r106.2.addr, .slice A108 n109 c110], .own (.slice A108 n109 c110) 5 1 n109 (r106.2.buf.flatMap (eI .u8)), .box gb24 31 [.int .i64 ((ix x2 x9).kind), .string ((ix x2 x9).key), .string ((ix x2 x9).text), .int .i64 ((ix x2 x9).kids)], .box g3 Tb4 [.slice A5 n6 c7], .box g10 Tb11 [.int .i64 (w64 (x9 + 1))], .box g20 Tb21 [.func (.func 34) #[] #[.pointer (some ⟨g3, 0, none⟩), .pointer (some ⟨g10, 0, none⟩), .pointer (some ⟨g13, 0, none⟩), .pointer (some ⟨g20, 0, none⟩)]]] : List Ent) := sels [3, 4, 0, 5, 1] rfl
      show json_Print_1_R w F g3 g10 g13 g20 Tb4 Tb11 Tb21 A14 n15 c16 z18 r (.returned (packV [])) wr
      rw [h]
      exact ⟨A108, n109, c110, A5, n6, c7, rfl, hMr, h111, (hLr.outR (s := Sm w.heap.size F w [[g3], [g10], [g13], (Value.slice A14 n15 c16).ownBlock.toList, [g20]]) hMi (me 0 rfl) Sm.ok h8)⟩
     ·have h := if_neg' hp102 h
      refine g_false (c := q34c29) rfl _ rfl ((nei hp102)) ?_
      refine g_seq (c := q34c31) rfl ?_
      refine g_region (c := q34c32) rfl rfl ?_
      refine wl_v 0 rfl (v_bin rfl rfl rfl) gn rfl ?_
      refine wl_v 1 rfl (v_assign rfl) gn rfl ?_
      refine w_end 2 rfl ?_
      by_cases hp116 : (ix x2 x9).kind = 5
      ·have h := if_pos' hp116 h
       refine g_true (c := q34c33) rfl _ rfl ((eqi hp116)) ?_
       refine g_region (c := q34c34) rfl rfl ?_
       refine wl_v 0 rfl (v_fldB fo_31_2 rfl) gn rfl ?_
       refine wl_v 1 rfl (v_ldB1 2 ld_9 rfl rfl rfl) gn rfl ?_
       obtain ⟨r120, hv121, h⟩ := h
       refine wl_s 2 rfl (s_call [.pointer (some ⟨g13, 0, none⟩), .string ((ix x2 x9).text)] rfl Tryd.func35 rfl rfl rfl fun w117 hL118 => ?_) gn
       have hp119 : List.Perm ([.own (.slice A56 n57 c58) 5 1 n57 (x55.flatMap (eI .u8)), .box g13 56 [selfP g13 x54, .slice A56 n57 c58], .box gb24 31 [.int .i64 ((ix x2 x9).kind), .string ((ix x2 x9).key), .string ((ix x2 x9).text), .int .i64 ((ix x2 x9).kids)], .box g3 Tb4 [.slice A5 n6 c7], .box g10 Tb11 [.int .i64 (w64 (x9 + 1))], .box g20 Tb21 [.func (.func 34) #[] #[.pointer (some ⟨g3, 0, none⟩), .pointer (some ⟨g10, 0, none⟩), .pointer (some ⟨g13, 0, none⟩), .pointer (some ⟨g20, 0, none⟩)]]] : List Ent) (([.box g13 56 [selfP g13 x54, .slice A56 n57 c58], .own (.slice A56 n57 c58) 5 1 n57 (x55.flatMap (eI .u8))] : List Ent) ++ ([.box gb24 31 [.int .i64 ((ix x2 x9).kind), .string ((ix x2 x9).key), .string ((ix x2 x9).text), .int .i64 ((ix x2 x9).kids)], .box g3 Tb4 [.slice A5 n6 c7], .box g10 Tb11 [.int .i64 (w64 (x9 + 1))], .box g20 Tb21 [.func (.func 34) #[] #[.pointer (some ⟨g3, 0, none⟩), .pointer (some ⟨g10, 0, none⟩), .pointer (some ⟨g13, 0, none⟩), .pointer (some ⟨g20, 0, none⟩)]]] : List Ent)) := perm_of_idx [1, 0] [2, 3, 4, 5] rfl rfl (by kernel_rfl)
       refine Calls.mono (json_quote_calls w117 (Fl ([] : List Snap)) (⟨x54, x55⟩ : strings_Builder) ((ix x2 x9).text) g13 z18 A56 n57 c58 (Nat.le_trans hz19 hL118.env.size) h59 (hL118.tt hp119 hG0 (me 1 rfl)) (hL118.hFl (Sl := ([] : List Snap)) hp119 (sels [] rfl)) (hL118.into hp119 (Fl ([] : List Snap))) r120 hv121) ?_
       rintro _ w127 ⟨A122, n123, c124, rfl, hM128, h125⟩
       have hL129 := hL118.call hp119 hM128
       refine ⟨_, _, _, rfl, hL129, ?_⟩
       refine w_end 3 rfl ?_
       refine g_inBlock ?_
       refine g_endR [] Tryd.func34 rfl (.nil) fun wr hLr => ?_
       have hMr : B.Loc w wr [.box g3 Tb4 [.slice A5 n6 c7], .box g10 Tb11 [.int .i64 (w64 (x9 + 1))], .box g13 56 [selfP g13 r120.addr, .slice A122 n123 c124], .box g20 Tb21 [.func (.func 34) #[] #[.pointer (some ⟨g3, 0, none⟩), .pointer (some ⟨g10, 0, none⟩), .pointer (some ⟨g13, 0, none⟩), .pointer (some ⟨g20, 0, none⟩)]], .own (.slice A122 n123 c124) 5 1 n123 (r120.buf.flatMap (eI .u8))] [St w [[g3], [g10], [g13], (Value.slice A14 n15 c16).ownBlock.toList, [g20]]] := hLr.pick (rest := [.box gb24 31 [.int .i64 ((ix x2 x9).kind), .string ((ix x2 x9).key), .string ((ix x2 x9).text), .int .i64 ((ix x2 x9).kids)]]) (perm_of_idx [3, 4, 0, 5, 1] [2] rfl rfl (by kernel_rfl)) (sels [1] rfl)
       have hMi : ∀ e ∈ ([.box g3 Tb4 [.slice A5 n6 c7], .box g10 Tb11 [.int .i64 (w64 (x9 + 1))], .box g13 56 [selfP g13 r120.addr, .slice A122 n123 c124], .box g20 Tb21 [.func (.func 34) #[] #[.pointer (some ⟨g3, 0, none⟩), .pointer (some ⟨g10, 0, none⟩), .pointer (some ⟨g13, 0, none⟩), .pointer (some ⟨g20, 0, none⟩)]], .own (.slice A122 n123 c124) 5 1 n123 (r120.buf.flatMap (eI .u8))] : List Ent), e ∈ ([.box g13 56 [selfP g13 r120.addr, .slice A122 n123 c124], .own (.slice A122 n123 c124) 5 1 n123 (r120.buf.flatMap (eI .u8)), .box gb24 31 [.int .i64 ((ix x2 x9).kind), .string ((ix x2 x9).key), .string ((ix x2 x9).text), .int .i64 ((ix x2 x9).kids)], .box g3 Tb4 [.slice A5 n6 c7], .box g10 Tb11 [.int .i64 (w64 (x9 + 1))], .box g20 Tb21 [.func (.func 34) #[] #[.pointer (some ⟨g3, 0, none⟩), .pointer (some ⟨g10, 0, none⟩), .pointer (some ⟨g13, 0, none⟩), .pointer (some ⟨g20, 0, none⟩)]]] : List Ent) := sels [3, 4, 0, 5, 1] rfl
       show json_Print_1_R w F g3 g10 g13 g20 Tb4 Tb11 Tb21 A14 n15 c16 z18 r (.returned (packV [])) wr
       rw [h]
       exact ⟨A122, n123, c124, A5, n6, c7, rfl, hMr, h125, (hLr.outR (s := Sm w.heap.size F w [[g3], [g10], [g13], (Value.slice A14 n15 c16).ownBlock.toList, [g20]]) hMi (me 0 rfl) Sm.ok h8)⟩
      ·have h := if_neg' hp116 h
       refine g_false (c := q34c33) rfl _ rfl ((nei hp116)) ?_
       refine g_seq (c := q34c35) rfl ?_
       refine g_region (c := q34c36) rfl rfl ?_
       refine wl_v 0 rfl (v_assign rfl) gn rfl ?_
       refine w_end 1 rfl ?_
       refine g_seq (c := q34c37) rfl ?_
       refine g_seq (c := q34c38) rfl ?_
       refine g_region (c := q34c40) rfl rfl ?_
       refine wl_v 0 rfl (v_fldB fo_31_0 rfl) gn rfl ?_
       refine wl_v 1 rfl (v_ldB1 2 ld_29 rfl rfl rfl) gn rfl ?_
       refine wl_v 2 rfl (v_bin rfl rfl rfl) gn rfl ?_
       refine w_end 3 rfl ?_
       have j2 : ∀ (x132 : ByteArray) (h : json_Print_1_j2 x54 x55 x2 x9 rc_json_Print_1 x132 r) , G (json_Print_1_C w F g3 g10 g13 g20 Tb4 Tb11 Tb21 A14 n15 c16 z18 r) [.code q34c39, .inBlock 0] [(3, .pointer (some ⟨g13, 0, none⟩)), (4, .pointer (some ⟨g20, 0, none⟩)), (6, .pointer (some ⟨gb24, 0, none⟩)), (7, .string x132)] [.own (.slice A56 n57 c58) 5 1 n57 (x55.flatMap (eI .u8)), .box g13 56 [selfP g13 x54, .slice A56 n57 c58], .box gb24 31 [.int .i64 ((ix x2 x9).kind), .string ((ix x2 x9).key), .string ((ix x2 x9).text), .int .i64 ((ix x2 x9).kids)], .box g3 Tb4 [.slice A5 n6 c7], .box g10 Tb11 [.int .i64 (w64 (x9 + 1))], .box g20 Tb21 [.func (.func 34) #[] #[.pointer (some ⟨g3, 0, none⟩), .pointer (some ⟨g10, 0, none⟩), .pointer (some ⟨g13, 0, none⟩), .pointer (some ⟨g20, 0, none⟩)]]] [Sm w.heap.size F w [[g3], [g10], [g13], (Value.slice A14 n15 c16).ownBlock.toList, [g20]], St w [[g3], [g10], [g13], (Value.slice A14 n15 c16).ownBlock.toList, [g20]]] := by
        intro x132 h
        unfold json_Print_1_j2 at h
        refine g_seq (c := q34c39) rfl ?_
        refine g_region (c := q34c44) rfl rfl ?_
        refine wl_v 0 rfl (v_move rfl) gn rfl ?_
        obtain ⟨hb133, h⟩ := h
        refine wl_v 1 rfl (v_indexS un_9 rfl rfl hb133) gn rfl ?_
        obtain ⟨r137, hv138, h⟩ := h
        refine wl_s 2 rfl (s_call [.pointer (some ⟨g13, 0, none⟩), .int .u8 (bt x132 0)] rfl Tryd.func36 rfl rfl rfl fun w134 hL135 => ?_) gn
        have hp136 : List.Perm ([.own (.slice A56 n57 c58) 5 1 n57 (x55.flatMap (eI .u8)), .box g13 56 [selfP g13 x54, .slice A56 n57 c58], .box gb24 31 [.int .i64 ((ix x2 x9).kind), .string ((ix x2 x9).key), .string ((ix x2 x9).text), .int .i64 ((ix x2 x9).kids)], .box g3 Tb4 [.slice A5 n6 c7], .box g10 Tb11 [.int .i64 (w64 (x9 + 1))], .box g20 Tb21 [.func (.func 34) #[] #[.pointer (some ⟨g3, 0, none⟩), .pointer (some ⟨g10, 0, none⟩), .pointer (some ⟨g13, 0, none⟩), .pointer (some ⟨g20, 0, none⟩)]]] : List Ent) (([.box g13 56 [selfP g13 x54, .slice A56 n57 c58], .own (.slice A56 n57 c58) 5 1 n57 (x55.flatMap (eI .u8))] : List Ent) ++ ([.box gb24 31 [.int .i64 ((ix x2 x9).kind), .string ((ix x2 x9).key), .string ((ix x2 x9).text), .int .i64 ((ix x2 x9).kids)], .box g3 Tb4 [.slice A5 n6 c7], .box g10 Tb11 [.int .i64 (w64 (x9 + 1))], .box g20 Tb21 [.func (.func 34) #[] #[.pointer (some ⟨g3, 0, none⟩), .pointer (some ⟨g10, 0, none⟩), .pointer (some ⟨g13, 0, none⟩), .pointer (some ⟨g20, 0, none⟩)]]] : List Ent)) := perm_of_idx [1, 0] [2, 3, 4, 5] rfl rfl (by kernel_rfl)
        refine Calls.mono (strings_Builder_WriteByte_calls w134 (Fl ([] : List Snap)) (⟨x54, x55⟩ : strings_Builder) (bt x132 0) g13 z18 A56 n57 c58 (Nat.le_trans hz19 hL135.env.size) h59 (hL135.hFl (Sl := ([] : List Snap)) hp136 (sels [] rfl)) (hL135.into hp136 (Fl ([] : List Snap))) r137 hv138) ?_
        rintro _ w144 ⟨A139, n140, c141, rfl, hM145, h142⟩
        have hL146 := hL135.call hp136 hM145
        refine ⟨_, _, _, rfl, hL146, ?_⟩
        refine w_end 3 rfl ?_
        refine g_seq (c := q34c45) rfl ?_
        refine g_seq (c := q34c46) rfl ?_
        refine g_region (c := q34c48) rfl rfl ?_
        refine wl_v 0 rfl (v_fldB fo_31_3 rfl) gn rfl ?_
        refine wl_v 1 rfl (v_ldB1 2 ld_3 rfl rfl rfl) gn rfl ?_
        refine wl_v 2 rfl (v_move rfl) gn rfl ?_
        refine w_end 3 rfl ?_
        refine g_block (c := q34c49) rfl ?_
        refine g_loop (c := q34c50) rfl ?_
        have key3 : ∀ s, Rounds (fun (s : Int × Bool × (List Int) × (List api_JNode) × Int) o => json_Print_1_b3 x2 x9 rc_json_Print_1 x132 s.1 s.2.1 s.2.2.1 s.2.2.2.1 s.2.2.2.2 o) s r → (fun (s : Int × Bool × (List Int) × (List api_JNode) × Int) => ∀ (A185 : Option Addr) (n186 : Nat) (c187 : Nat) (h188 : Ow z18 A185 n186 c187 s.2.2.1) (A190 : Option Addr) (n191 : Nat) (c192 : Nat) (sw193 : World) (sb194 : List (List Nat)) (h195 : At k_api_JNode (Sm w.heap.size F sw193 sb194) A190 n191 c192 s.2.2.2.1), G (json_Print_1_C w F g3 g10 g13 g20 Tb4 Tb11 Tb21 A14 n15 c16 z18 r) [.code q34c51, .inLoop q34c51, .inBlock 1, .code q34c47, .inBlock 0] [(3, .pointer (some ⟨g13, 0, none⟩)), (4, .pointer (some ⟨g20, 0, none⟩)), (6, .pointer (some ⟨gb24, 0, none⟩)), (7, .string x132), (29, .int .i64 ((ix x2 x9).kids)), (30, .int .i64 s.1)] [.own (.slice A185 n186 c187) 5 1 n186 (s.2.2.1.flatMap (eI .u8)), .box g13 56 [selfP g13 s.2.1, .slice A185 n186 c187], .box gb24 31 [.int .i64 ((ix x2 x9).kind), .string ((ix x2 x9).key), .string ((ix x2 x9).text), .int .i64 ((ix x2 x9).kids)], .box g3 Tb4 [.slice A190 n191 c192], .box g10 Tb11 [.int .i64 s.2.2.2.2], .box g20 Tb21 [.func (.func 34) #[] #[.pointer (some ⟨g3, 0, none⟩), .pointer (some ⟨g10, 0, none⟩), .pointer (some ⟨g13, 0, none⟩), .pointer (some ⟨g20, 0, none⟩)]]] [Sm w.heap.size F sw193 sb194, Sm w.heap.size F w [[g3], [g10], [g13], (Value.slice A14 n15 c16).ownBlock.toList, [g20]], St w [[g3], [g10], [g13], (Value.slice A14 n15 c16).ownBlock.toList, [g20]]]) s := by
         intro s hs
         refine Rounds.ind (mot := (fun (s : Int × Bool × (List Int) × (List api_JNode) × Int) => ∀ (A185 : Option Addr) (n186 : Nat) (c187 : Nat) (h188 : Ow z18 A185 n186 c187 s.2.2.1) (A190 : Option Addr) (n191 : Nat) (c192 : Nat) (sw193 : World) (sb194 : List (List Nat)) (h195 : At k_api_JNode (Sm w.heap.size F sw193 sb194) A190 n191 c192 s.2.2.2.1), G (json_Print_1_C w F g3 g10 g13 g20 Tb4 Tb11 Tb21 A14 n15 c16 z18 r) [.code q34c51, .inLoop q34c51, .inBlock 1, .code q34c47, .inBlock 0] [(3, .pointer (some ⟨g13, 0, none⟩)), (4, .pointer (some ⟨g20, 0, none⟩)), (6, .pointer (some ⟨gb24, 0, none⟩)), (7, .string x132), (29, .int .i64 ((ix x2 x9).kids)), (30, .int .i64 s.1)] [.own (.slice A185 n186 c187) 5 1 n186 (s.2.2.1.flatMap (eI .u8)), .box g13 56 [selfP g13 s.2.1, .slice A185 n186 c187], .box gb24 31 [.int .i64 ((ix x2 x9).kind), .string ((ix x2 x9).key), .string ((ix x2 x9).text), .int .i64 ((ix x2 x9).kids)], .box g3 Tb4 [.slice A190 n191 c192], .box g10 Tb11 [.int .i64 s.2.2.2.2], .box g20 Tb21 [.func (.func 34) #[] #[.pointer (some ⟨g3, 0, none⟩), .pointer (some ⟨g10, 0, none⟩), .pointer (some ⟨g13, 0, none⟩), .pointer (some ⟨g20, 0, none⟩)]]] [Sm w.heap.size F sw193 sb194, Sm w.heap.size F w [[g3], [g10], [g13], (Value.slice A14 n15 c16).ownBlock.toList, [g20]], St w [[g3], [g10], [g13], (Value.slice A14 n15 c16).ownBlock.toList, [g20]]])) ?_ hs
         clear hs s
         intro s o1 h hO1
         obtain ⟨x182, x183, x184, x189, x196⟩ := s
         show ∀ (A185 : Option Addr) (n186 : Nat) (c187 : Nat) (h188 : Ow z18 A185 n186 c187 x184) (A190 : Option Addr) (n191 : Nat) (c192 : Nat) (sw193 : World) (sb194 : List (List Nat)) (h195 : At k_api_JNode (Sm w.heap.size F sw193 sb194) A190 n191 c192 x189), G (json_Print_1_C w F g3 g10 g13 g20 Tb4 Tb11 Tb21 A14 n15 c16 z18 r) [.code q34c51, .inLoop q34c51, .inBlock 1, .code q34c47, .inBlock 0] [(3, .pointer (some ⟨g13, 0, none⟩)), (4, .pointer (some ⟨g20, 0, none⟩)), (6, .pointer (some ⟨gb24, 0, none⟩)), (7, .string x132), (29, .int .i64 ((ix x2 x9).kids)), (30, .int .i64 x182)] [.own (.slice A185 n186 c187) 5 1 n186 (x184.flatMap (eI .u8)), .box g13 56 [selfP g13 x183, .slice A185 n186 c187], .box gb24 31 [.int .i64 ((ix x2 x9).kind), .string ((ix x2 x9).key), .string ((ix x2 x9).text), .int .i64 ((ix x2 x9).kids)], .box g3 Tb4 [.slice A190 n191 c192], .box g10 Tb11 [.int .i64 x196], .box g20 Tb21 [.func (.func 34) #[] #[.pointer (some ⟨g3, 0, none⟩), .pointer (some ⟨g10, 0, none⟩), .pointer (some ⟨g13, 0, none⟩), .pointer (some ⟨g20, 0, none⟩)]]] [Sm w.heap.size F sw193 sb194, Sm w.heap.size F w [[g3], [g10], [g13], (Value.slice A14 n15 c16).ownBlock.toList, [g20]], St w [[g3], [g10], [g13], (Value.slice A14 n15 c16).ownBlock.toList, [g20]]]
         intro A185 n186 c187 h188 A190 n191 c192 sw193 sb194 h195
         have h : json_Print_1_b3 x2 x9 rc_json_Print_1 x132 x182 x183 x184 x189 x196 o1 := h
         unfold json_Print_1_b3 at h
         refine g_seq (c := q34c51) rfl ?_
         refine g_region (c := q34c52) rfl rfl ?_
         refine wl_v 0 rfl (v_bin rfl rfl rfl) gn rfl ?_
         refine w_end 1 rfl ?_
         refine g_seq (c := q34c53) rfl ?_
         by_cases hp264 : x182 < (ix x2 x9).kids
         ·have h := if_pos' hp264 h
          refine g_true (c := q34c54) rfl _ rfl ((decide_eq_true hp264)) ?_
          refine g_skip (c := q34c56) rfl ?_
          refine g_seq (c := q34c55) rfl ?_
          refine g_block (c := q34c58) rfl ?_
          refine g_seq (c := q34c60) rfl ?_
          refine g_region (c := q34c61) rfl rfl ?_
          refine wl_v 0 rfl (v_move rfl) gn rfl ?_
          refine wl_v 1 rfl (v_assign rfl) gn rfl ?_
          refine w_end 2 rfl ?_
          refine g_seq (c := q34c62) rfl ?_
          refine g_seq (c := q34c63) rfl ?_
          refine g_region (c := q34c65) rfl rfl ?_
          refine wl_v 0 rfl (v_move rfl) gn rfl ?_
          refine wl_v 1 rfl (v_bin rfl rfl rfl) gn rfl ?_
          refine w_end 2 rfl ?_
          by_cases hp265 : x182 > 0
          ·have h := if_pos' hp265 h
           refine g_true (c := q34c66) rfl _ rfl ((decide_eq_true hp265)) ?_
           refine g_region (c := q34c67) rfl rfl ?_
           obtain ⟨r269, hv270, h⟩ := h
           refine wl_s 0 rfl (s_call [.pointer (some ⟨g13, 0, none⟩), .int .u8 44] rfl Tryd.func36 rfl rfl rfl fun w266 hL267 => ?_) gn
           have hp268 : List.Perm ([.own (.slice A185 n186 c187) 5 1 n186 (x184.flatMap (eI .u8)), .box g13 56 [selfP g13 x183, .slice A185 n186 c187], .box gb24 31 [.int .i64 ((ix x2 x9).kind), .string ((ix x2 x9).key), .string ((ix x2 x9).text), .int .i64 ((ix x2 x9).kids)], .box g3 Tb4 [.slice A190 n191 c192], .box g10 Tb11 [.int .i64 x196], .box g20 Tb21 [.func (.func 34) #[] #[.pointer (some ⟨g3, 0, none⟩), .pointer (some ⟨g10, 0, none⟩), .pointer (some ⟨g13, 0, none⟩), .pointer (some ⟨g20, 0, none⟩)]]] : List Ent) (([.box g13 56 [selfP g13 x183, .slice A185 n186 c187], .own (.slice A185 n186 c187) 5 1 n186 (x184.flatMap (eI .u8))] : List Ent) ++ ([.box gb24 31 [.int .i64 ((ix x2 x9).kind), .string ((ix x2 x9).key), .string ((ix x2 x9).text), .int .i64 ((ix x2 x9).kids)], .box g3 Tb4 [.slice A190 n191 c192], .box g10 Tb11 [.int .i64 x196], .box g20 Tb21 [.func (.func 34) #[] #[.pointer (some ⟨g3, 0, none⟩), .pointer (some ⟨g10, 0, none⟩), .pointer (some ⟨g13, 0, none⟩), .pointer (some ⟨g20, 0, none⟩)]]] : List Ent)) := perm_of_idx [1, 0] [2, 3, 4, 5] rfl rfl (by kernel_rfl)
           refine Calls.mono (strings_Builder_WriteByte_calls w266 (Fl ([] : List Snap)) (⟨x183, x184⟩ : strings_Builder) 44 g13 z18 A185 n186 c187 (Nat.le_trans hz19 hL267.env.size) h188 (hL267.hFl (Sl := ([] : List Snap)) hp268 (sels [] rfl)) (hL267.into hp268 (Fl ([] : List Snap))) r269 hv270) ?_
           rintro _ w276 ⟨A271, n272, c273, rfl, hM277, h274⟩
           have hL278 := hL267.call hp268 hM277
           refine ⟨_, _, _, rfl, hL278, ?_⟩
           refine w_end 1 rfl ?_
           refine g_region (c := q34c64) rfl rfl ?_
           refine wl_v 0 rfl (v_ldB1 5 ld_57 rfl rfl rfl) gn rfl ?_
           refine wl_v 1 rfl (v_fldB fo_31_0 rfl) gn rfl ?_
           refine wl_v 2 rfl (v_ldB1 2 ld_29 rfl rfl rfl) gn rfl ?_
           refine wl_v 3 rfl (v_bin rfl rfl rfl) gn rfl ?_
           obtain ⟨r282, hv283, h⟩ := h
           refine wl_s 4 rfl (s_callC [.bool (((ix x2 x9).kind) == 7)] [.pointer (some ⟨g3, 0, none⟩), .pointer (some ⟨g10, 0, none⟩), .pointer (some ⟨g13, 0, none⟩), .pointer (some ⟨g20, 0, none⟩)] rfl rfl Tryd.func34 rfl rfl rfl fun w279 hL280 => ?_) gn
           have hp281 : List.Perm ([.box g13 56 [selfP g13 r269.addr, .slice A271 n272 c273], .own (.slice A271 n272 c273) 5 1 n272 (r269.buf.flatMap (eI .u8)), .box gb24 31 [.int .i64 ((ix x2 x9).kind), .string ((ix x2 x9).key), .string ((ix x2 x9).text), .int .i64 ((ix x2 x9).kids)], .box g3 Tb4 [.slice A190 n191 c192], .box g10 Tb11 [.int .i64 x196], .box g20 Tb21 [.func (.func 34) #[] #[.pointer (some ⟨g3, 0, none⟩), .pointer (some ⟨g10, 0, none⟩), .pointer (some ⟨g13, 0, none⟩), .pointer (some ⟨g20, 0, none⟩)]]] : List Ent) (([.box g3 Tb4 [.slice A190 n191 c192], .box g10 Tb11 [.int .i64 x196], .box g13 56 [selfP g13 r269.addr, .slice A271 n272 c273], .own (.slice A271 n272 c273) 5 1 n272 (r269.buf.flatMap (eI .u8)), .box g20 Tb21 [.func (.func 34) #[] #[.pointer (some ⟨g3, 0, none⟩), .pointer (some ⟨g10, 0, none⟩), .pointer (some ⟨g13, 0, none⟩), .pointer (some ⟨g20, 0, none⟩)]]] : List Ent) ++ ([.box gb24 31 [.int .i64 ((ix x2 x9).kind), .string ((ix x2 x9).key), .string ((ix x2 x9).text), .int .i64 ((ix x2 x9).kids)]] : List Ent)) := perm_of_idx [3, 4, 0, 1, 5] [2] rfl rfl (by kernel_rfl)
           refine Calls.mono (ih_json_Print_1 w279 (Fl ([Sm w.heap.size F sw193 sb194] : List Snap)) (((ix x2 x9).kind) == 7) x189 x196 r269 g3 Tb4 A190 n191 c192 g10 Tb11 g13 z18 A271 n272 c273 g20 Tb21 (Rw.mono h195 (hL280.toFl (me 0 rfl) (me 0 rfl))) (Nat.le_trans hz19 hL280.env.size) h274 (hL280.tt hp281 hG0 (me 2 rfl)) (hL280.hFl (Sl := ([Sm w.heap.size F sw193 sb194] : List Snap)) hp281 (sels [0] rfl)) (hL280.into hp281 (Fl ([Sm w.heap.size F sw193 sb194] : List Snap))) r282 hv283) ?_
           rintro _ w293 ⟨A288, n289, c290, A284, n285, c286, rfl, hM294, h291, h287⟩
           obtain ⟨sb297, hL295, hv296⟩ := hL280.callB (Sl := ([Sm w.heap.size F sw193 sb194] : List Snap)) hp281 hM294 F (sels [0] rfl) ⟨Sm.ok, trivial⟩
           have h287 : At k_api_JNode (Sm w.heap.size F w293 sb297) A284 n285 c286 r282.1 := Rw.mono h287 hv296
           refine ⟨_, _, _, rfl, hL295, ?_⟩
           refine w_end 5 rfl ?_
           refine g_inBlock ?_
           refine g_region (c := q34c59) rfl rfl ?_
           refine wl_v 0 rfl (v_bin rfl rfl rfl) gn rfl ?_
           refine wl_v 1 rfl (v_move rfl) gn rfl ?_
           refine w_end 2 rfl ?_
           refine g_inLoop ?_
           refine g_front 3 rfl ?_
           refine g_front 2 rfl ?_
           refine g_front 2 rfl ?_
           refine g_front 5 rfl ?_
           refine g_front 4 rfl ?_
           refine g_front 5 rfl ?_
           have ih := Out.inl hO1 h
           exact g_go [0, 2, 3] (ih A288 n289 c290 h291 A284 n285 c286 w293 sb297 h287) ⟨rfl, rfl, rfl, rfl, rfl, rfl, trivial⟩ (.cons_cons _ (.cons_cons _ (.cons_cons _ (.cons_cons _ (.cons_cons _ (.cons_cons _ (.slnil))))))) rfl
          ·have h := if_neg' hp265 h
           refine g_false (c := q34c66) rfl _ rfl ((decide_eq_false hp265)) ?_
           refine g_skip (c := q34c68) rfl ?_
           refine g_region (c := q34c64) rfl rfl ?_
           refine wl_v 0 rfl (v_ldB1 5 ld_57 rfl rfl rfl) gn rfl ?_
           refine wl_v 1 rfl (v_fldB fo_31_0 rfl) gn rfl ?_
           refine wl_v 2 rfl (v_ldB1 2 ld_29 rfl rfl rfl) gn rfl ?_
           refine wl_v 3 rfl (v_bin rfl rfl rfl) gn rfl ?_
           obtain ⟨r301, hv302, h⟩ := h
           refine wl_s 4 rfl (s_callC [.bool (((ix x2 x9).kind) == 7)] [.pointer (some ⟨g3, 0, none⟩), .pointer (some ⟨g10, 0, none⟩), .pointer (some ⟨g13, 0, none⟩), .pointer (some ⟨g20, 0, none⟩)] rfl rfl Tryd.func34 rfl rfl rfl fun w298 hL299 => ?_) gn
           have hp300 : List.Perm ([.own (.slice A185 n186 c187) 5 1 n186 (x184.flatMap (eI .u8)), .box g13 56 [selfP g13 x183, .slice A185 n186 c187], .box gb24 31 [.int .i64 ((ix x2 x9).kind), .string ((ix x2 x9).key), .string ((ix x2 x9).text), .int .i64 ((ix x2 x9).kids)], .box g3 Tb4 [.slice A190 n191 c192], .box g10 Tb11 [.int .i64 x196], .box g20 Tb21 [.func (.func 34) #[] #[.pointer (some ⟨g3, 0, none⟩), .pointer (some ⟨g10, 0, none⟩), .pointer (some ⟨g13, 0, none⟩), .pointer (some ⟨g20, 0, none⟩)]]] : List Ent) (([.box g3 Tb4 [.slice A190 n191 c192], .box g10 Tb11 [.int .i64 x196], .box g13 56 [selfP g13 x183, .slice A185 n186 c187], .own (.slice A185 n186 c187) 5 1 n186 (x184.flatMap (eI .u8)), .box g20 Tb21 [.func (.func 34) #[] #[.pointer (some ⟨g3, 0, none⟩), .pointer (some ⟨g10, 0, none⟩), .pointer (some ⟨g13, 0, none⟩), .pointer (some ⟨g20, 0, none⟩)]]] : List Ent) ++ ([.box gb24 31 [.int .i64 ((ix x2 x9).kind), .string ((ix x2 x9).key), .string ((ix x2 x9).text), .int .i64 ((ix x2 x9).kids)]] : List Ent)) := perm_of_idx [3, 4, 1, 0, 5] [2] rfl rfl (by kernel_rfl)
           refine Calls.mono (ih_json_Print_1 w298 (Fl ([Sm w.heap.size F sw193 sb194] : List Snap)) (((ix x2 x9).kind) == 7) x189 x196 (⟨x183, x184⟩ : strings_Builder) g3 Tb4 A190 n191 c192 g10 Tb11 g13 z18 A185 n186 c187 g20 Tb21 (Rw.mono h195 (hL299.toFl (me 0 rfl) (me 0 rfl))) (Nat.le_trans hz19 hL299.env.size) h188 (hL299.tt hp300 hG0 (me 2 rfl)) (hL299.hFl (Sl := ([Sm w.heap.size F sw193 sb194] : List Snap)) hp300 (sels [0] rfl)) (hL299.into hp300 (Fl ([Sm w.heap.size F sw193 sb194] : List Snap))) r301 hv302) ?_
           rintro _ w312 ⟨A307, n308, c309, A303, n304, c305, rfl, hM313, h310, h306⟩
           obtain ⟨sb316, hL314, hv315⟩ := hL299.callB (Sl := ([Sm w.heap.size F sw193 sb194] : List Snap)) hp300 hM313 F (sels [0] rfl) ⟨Sm.ok, trivial⟩
           have h306 : At k_api_JNode (Sm w.heap.size F w312 sb316) A303 n304 c305 r301.1 := Rw.mono h306 hv315
           refine ⟨_, _, _, rfl, hL314, ?_⟩
           refine w_end 5 rfl ?_
           refine g_inBlock ?_
           refine g_region (c := q34c59) rfl rfl ?_
           refine wl_v 0 rfl (v_bin rfl rfl rfl) gn rfl ?_
           refine wl_v 1 rfl (v_move rfl) gn rfl ?_
           refine w_end 2 rfl ?_
           refine g_inLoop ?_
           refine g_front 3 rfl ?_
           refine g_front 2 rfl ?_
           refine g_front 2 rfl ?_
           refine g_front 5 rfl ?_
           refine g_front 4 rfl ?_
           refine g_front 5 rfl ?_
           have ih := Out.inl hO1 h
           exact g_go [0, 2, 3] (ih A307 n308 c309 h310 A303 n304 c305 w312 sb316 h306) ⟨rfl, rfl, rfl, rfl, rfl, rfl, trivial⟩ (.cons_cons _ (.cons_cons _ (.cons_cons _ (.cons_cons _ (.cons_cons _ (.cons_cons _ (.slnil))))))) rfl
         ·have h := if_neg' hp264 h
          refine g_false (c := q34c54) rfl _ rfl ((decide_eq_false hp264)) ?_
          refine g_exit (c := q34c57) [.code q34c47, .inBlock 0] rfl rfl ?_
          refine g_region (c := q34c47) rfl rfl ?_
          refine wl_v 0 rfl (v_move rfl) gn rfl ?_
          obtain ⟨hb317, h⟩ := h
          refine wl_v 1 rfl (v_indexS un_9 rfl rfl hb317) gn rfl ?_
          obtain ⟨r321, hv322, h⟩ := h
          refine wl_s 2 rfl (s_call [.pointer (some ⟨g13, 0, none⟩), .int .u8 (bt x132 1)] rfl Tryd.func36 rfl rfl rfl fun w318 hL319 => ?_) gn
          have hp320 : List.Perm ([.own (.slice A185 n186 c187) 5 1 n186 (x184.flatMap (eI .u8)), .box g13 56 [selfP g13 x183, .slice A185 n186 c187], .box gb24 31 [.int .i64 ((ix x2 x9).kind), .string ((ix x2 x9).key), .string ((ix x2 x9).text), .int .i64 ((ix x2 x9).kids)], .box g3 Tb4 [.slice A190 n191 c192], .box g10 Tb11 [.int .i64 x196], .box g20 Tb21 [.func (.func 34) #[] #[.pointer (some ⟨g3, 0, none⟩), .pointer (some ⟨g10, 0, none⟩), .pointer (some ⟨g13, 0, none⟩), .pointer (some ⟨g20, 0, none⟩)]]] : List Ent) (([.box g13 56 [selfP g13 x183, .slice A185 n186 c187], .own (.slice A185 n186 c187) 5 1 n186 (x184.flatMap (eI .u8))] : List Ent) ++ ([.box gb24 31 [.int .i64 ((ix x2 x9).kind), .string ((ix x2 x9).key), .string ((ix x2 x9).text), .int .i64 ((ix x2 x9).kids)], .box g3 Tb4 [.slice A190 n191 c192], .box g10 Tb11 [.int .i64 x196], .box g20 Tb21 [.func (.func 34) #[] #[.pointer (some ⟨g3, 0, none⟩), .pointer (some ⟨g10, 0, none⟩), .pointer (some ⟨g13, 0, none⟩), .pointer (some ⟨g20, 0, none⟩)]]] : List Ent)) := perm_of_idx [1, 0] [2, 3, 4, 5] rfl rfl (by kernel_rfl)
          refine Calls.mono (strings_Builder_WriteByte_calls w318 (Fl ([] : List Snap)) (⟨x183, x184⟩ : strings_Builder) (bt x132 1) g13 z18 A185 n186 c187 (Nat.le_trans hz19 hL319.env.size) h188 (hL319.hFl (Sl := ([] : List Snap)) hp320 (sels [] rfl)) (hL319.into hp320 (Fl ([] : List Snap))) r321 hv322) ?_
          rintro _ w328 ⟨A323, n324, c325, rfl, hM329, h326⟩
          have hL330 := hL319.call hp320 hM329
          refine ⟨_, _, _, rfl, hL330, ?_⟩
          refine w_end 3 rfl ?_
          refine g_inBlock ?_
          have h := Out.inr hO1 h
          refine g_endR [] Tryd.func34 rfl (.nil) fun wr hLr => ?_
          have hMr : B.Loc w wr [.box g3 Tb4 [.slice A190 n191 c192], .box g10 Tb11 [.int .i64 x196], .box g13 56 [selfP g13 r321.addr, .slice A323 n324 c325], .box g20 Tb21 [.func (.func 34) #[] #[.pointer (some ⟨g3, 0, none⟩), .pointer (some ⟨g10, 0, none⟩), .pointer (some ⟨g13, 0, none⟩), .pointer (some ⟨g20, 0, none⟩)]], .own (.slice A323 n324 c325) 5 1 n324 (r321.buf.flatMap (eI .u8))] [St w [[g3], [g10], [g13], (Value.slice A14 n15 c16).ownBlock.toList, [g20]]] := hLr.pick (rest := [.box gb24 31 [.int .i64 ((ix x2 x9).kind), .string ((ix x2 x9).key), .string ((ix x2 x9).text), .int .i64 ((ix x2 x9).kids)]]) (perm_of_idx [3, 4, 0, 5, 1] [2] rfl rfl (by kernel_rfl)) (sels [2] rfl)
          have hMi : ∀ e ∈ ([.box g3 Tb4 [.slice A190 n191 c192], .box g10 Tb11 [.int .i64 x196], .box g13 56 [selfP g13 r321.addr, .slice A323 n324 c325], .box g20 Tb21 [.func (.func 34) #[] #[.pointer (some ⟨g3, 0, none⟩), .pointer (some ⟨g10, 0, none⟩), .pointer (some ⟨g13, 0, none⟩), .pointer (some ⟨g20, 0, none⟩)]], .own (.slice A323 n324 c325) 5 1 n324 (r321.buf.flatMap (eI .u8))] : List Ent), e ∈ ([.box g13 56 [selfP g13 r321.addr, .slice A323 n324 c325], .own (.slice A323 n324 c325) 5 1 n324 (r321.buf.flatMap (eI .u8)), .box gb24 31 [.int .i64 ((ix x2 x9).kind), .string ((ix x2 x9).key), .string ((ix x2 x9).text), .int .i64 ((ix x2 x9).kids)], .box g3 Tb4 [.slice A190 n191 c192], .box g10 Tb11 [.int .i64 x196], .box g20 Tb21 [.func (.func 34) #[] #[.pointer (some ⟨g3, 0, none⟩), .pointer (some ⟨g10, 0, none⟩), .pointer (some ⟨g13, 0, none⟩), .pointer (some ⟨g20, 0, none⟩)]]] : List Ent) := sels [3, 4, 0, 5, 1] rfl
          show json_Print_1_R w F g3 g10 g13 g20 Tb4 Tb11 Tb21 A14 n15 c16 z18 r (.returned (packV [])) wr
          rw [h]
          exact ⟨A323, n324, c325, A190, n191, c192, rfl, hMr, h326, (hLr.outR (s := Sm w.heap.size F sw193 sb194) hMi (me 0 rfl) Sm.ok h195)⟩
        refine g_front 5 rfl ?_
        refine g_front 5 rfl ?_
        refine g_front 5 rfl ?_
        refine g_front 5 rfl ?_
        refine g_front 4 rfl ?_
        refine g_front 5 rfl ?_
        exact g_go [0, 0, 1] (key3 _ h A139 n140 c141 h142 A5 n6 c7 w [[g3], [g10], [g13], (Value.slice A14 n15 c16).ownBlock.toList, [g20]] h8) ⟨rfl, rfl, rfl, rfl, rfl, rfl, trivial⟩ (.cons_cons _ (.cons_cons _ (.cons_cons _ (.cons_cons _ (.cons_cons _ (.cons_cons _ (.slnil))))))) rfl
       by_cases hp130 : (ix x2 x9).kind = 7
       ·have h := if_pos' hp130 h
        refine g_true (c := q34c41) rfl _ rfl ((eqi hp130)) ?_
        refine g_region (c := q34c42) rfl rfl ?_
        refine wl_v 0 rfl (v_assign rfl) gn rfl ?_
        refine w_end 1 rfl ?_
        exact g_go [0, 1] (j2 (⟨#[123, 125]⟩ : ByteArray) h) ⟨rfl, rfl, rfl, rfl, trivial⟩ (.cons_cons _ (.cons_cons _ (.cons_cons _ (.cons_cons _ (.cons_cons _ (.cons_cons _ (.slnil))))))) rfl
       ·have h := if_neg' hp130 h
        refine g_false (c := q34c41) rfl _ rfl ((nei hp130)) ?_
        refine g_skip (c := q34c43) rfl ?_
        exact g_go [0, 1] (j2 (⟨#[91, 93]⟩ : ByteArray) h) ⟨rfl, rfl, rfl, rfl, trivial⟩ (.cons_cons _ (.cons_cons _ (.cons_cons _ (.cons_cons _ (.cons_cons _ (.cons_cons _ (.slnil))))))) rfl
 by_cases hp26 : x1 = true
 ·have h := if_pos' hp26 h
  refine g_true (c := q34c8) rfl _ rfl (hp26) ?_
  refine g_seq (c := q34c9) rfl ?_
  refine g_region (c := q34c11) rfl rfl ?_
  refine wl_v 0 rfl (v_fldB fo_31_1 rfl) gn rfl ?_
  refine wl_v 1 rfl (v_ldB1 0 ld_9 rfl rfl rfl) gn rfl ?_
  obtain ⟨r334, hv335, h⟩ := h
  refine wl_s 2 rfl (s_call [.pointer (some ⟨g13, 0, none⟩), .string ((ix x2 x9).key)] rfl Tryd.func35 rfl rfl rfl fun w331 hL332 => ?_) gn
  have hp333 : List.Perm ([.box gb24 31 [.int .i64 ((ix x2 x9).kind), .string ((ix x2 x9).key), .string ((ix x2 x9).text), .int .i64 ((ix x2 x9).kids)], .box g3 Tb4 [.slice A5 n6 c7], .box g10 Tb11 [.int .i64 (w64 (x9 + 1))], .box g13 56 [selfP g13 x12.addr, .slice A14 n15 c16], .own (.slice A14 n15 c16) 5 1 n15 (x12.buf.flatMap (eI .u8)), .box g20 Tb21 [.func (.func 34) #[] #[.pointer (some ⟨g3, 0, none⟩), .pointer (some ⟨g10, 0, none⟩), .pointer (some ⟨g13, 0, none⟩), .pointer (some ⟨g20, 0, none⟩)]]] : List Ent) (([.box g13 56 [selfP g13 x12.addr, .slice A14 n15 c16], .own (.slice A14 n15 c16) 5 1 n15 (x12.buf.flatMap (eI .u8))] : List Ent) ++ ([.box gb24 31 [.int .i64 ((ix x2 x9).kind), .string ((ix x2 x9).key), .string ((ix x2 x9).text), .int .i64 ((ix x2 x9).kids)], .box g3 Tb4 [.slice A5 n6 c7], .box g10 Tb11 [.int .i64 (w64 (x9 + 1))], .box g20 Tb21 [.func (.func 34) #[] #[.pointer (some ⟨g3, 0, none⟩), .pointer (some ⟨g10, 0, none⟩), .pointer (some ⟨g13, 0, none⟩), .pointer (some ⟨g20, 0, none⟩)]]] : List Ent)) := perm_of_idx [3, 4] [0, 1, 2, 5] rfl rfl (by kernel_rfl)
  refine Calls.mono (json_quote_calls w331 (Fl ([] : List Snap)) x12 ((ix x2 x9).key) g13 z18 A14 n15 c16 (Nat.le_trans hz19 hL332.env.size) h17 (hL332.tt hp333 hG0 (me 1 rfl)) (hL332.hFl (Sl := ([] : List Snap)) hp333 (sels [] rfl)) (hL332.into hp333 (Fl ([] : List Snap))) r334 hv335) ?_
  rintro _ w341 ⟨A336, n337, c338, rfl, hM342, h339⟩
  have hL343 := hL332.call hp333 hM342
  refine ⟨_, _, _, rfl, hL343, ?_⟩
  refine w_end 3 rfl ?_
  refine g_region (c := q34c12) rfl rfl ?_
  obtain ⟨r347, hv348, h⟩ := h
  refine wl_s 0 rfl (s_call [.pointer (some ⟨g13, 0, none⟩), .int .u8 58] rfl Tryd.func36 rfl rfl rfl fun w344 hL345 => ?_) gn
  have hp346 : List.Perm ([.box g13 56 [selfP g13 r334.addr, .slice A336 n337 c338], .own (.slice A336 n337 c338) 5 1 n337 (r334.buf.flatMap (eI .u8)), .box gb24 31 [.int .i64 ((ix x2 x9).kind), .string ((ix x2 x9).key), .string ((ix x2 x9).text), .int .i64 ((ix x2 x9).kids)], .box g3 Tb4 [.slice A5 n6 c7], .box g10 Tb11 [.int .i64 (w64 (x9 + 1))], .box g20 Tb21 [.func (.func 34) #[] #[.pointer (some ⟨g3, 0, none⟩), .pointer (some ⟨g10, 0, none⟩), .pointer (some ⟨g13, 0, none⟩), .pointer (some ⟨g20, 0, none⟩)]]] : List Ent) (([.box g13 56 [selfP g13 r334.addr, .slice A336 n337 c338], .own (.slice A336 n337 c338) 5 1 n337 (r334.buf.flatMap (eI .u8))] : List Ent) ++ ([.box gb24 31 [.int .i64 ((ix x2 x9).kind), .string ((ix x2 x9).key), .string ((ix x2 x9).text), .int .i64 ((ix x2 x9).kids)], .box g3 Tb4 [.slice A5 n6 c7], .box g10 Tb11 [.int .i64 (w64 (x9 + 1))], .box g20 Tb21 [.func (.func 34) #[] #[.pointer (some ⟨g3, 0, none⟩), .pointer (some ⟨g10, 0, none⟩), .pointer (some ⟨g13, 0, none⟩), .pointer (some ⟨g20, 0, none⟩)]]] : List Ent)) := perm_of_idx [0, 1] [2, 3, 4, 5] rfl rfl (by kernel_rfl)
  refine Calls.mono (strings_Builder_WriteByte_calls w344 (Fl ([] : List Snap)) r334 58 g13 z18 A336 n337 c338 (Nat.le_trans hz19 hL345.env.size) h339 (hL345.hFl (Sl := ([] : List Snap)) hp346 (sels [] rfl)) (hL345.into hp346 (Fl ([] : List Snap))) r347 hv348) ?_
  rintro _ w354 ⟨A349, n350, c351, rfl, hM355, h352⟩
  have hL356 := hL345.call hp346 hM355
  refine ⟨_, _, _, rfl, hL356, ?_⟩
  refine w_end 1 rfl ?_
  refine g_front 5 rfl ?_
  refine g_front 5 rfl ?_
  refine g_front 5 rfl ?_
  refine g_front 5 rfl ?_
  refine g_front 4 rfl ?_
  refine g_front 5 rfl ?_
  exact g_go [0, 1] (j1 r347.addr r347.buf h A349 n350 c351 h352) ⟨rfl, rfl, rfl, trivial⟩ (.cons_cons _ (.cons_cons _ (.cons_cons _ (.cons_cons _ (.cons_cons _ (.cons_cons _ (.slnil))))))) rfl
 ·have h := if_neg' hp26 h
  refine g_false (c := q34c8) rfl _ rfl ((bf hp26)) ?_
  refine g_skip (c := q34c10) rfl ?_
  refine g_front 5 rfl ?_
  refine g_front 3 rfl ?_
  refine g_front 3 rfl ?_
  refine g_front 3 rfl ?_
  refine g_front 4 rfl ?_
  refine g_front 5 rfl ?_
  exact g_go [0, 1] (j1 x12.addr x12.buf h A14 n15 c16 h17) ⟨rfl, rfl, rfl, trivial⟩ (.cons_cons _ (.cons_cons _ (.cons_cons _ (.cons_cons _ (.cons_cons _ (.cons_cons _ (.slnil))))))) rfl
theorem json_Print_1_ind : ∀ n, json_Print_1_st (json_Print_1_n n)
 | 0 => fun w F x1 x2 x9 x12 g3 Tb4 A5 n6 c7 g10 Tb11 g13 z18 A14 n15 c16 g20 Tb21 h8 hz19 h17 hG0 hF hL0 r h => h.elim
 | n + 1 => by
  have ih := json_Print_1_ind n
  exact json_Print_1_step _ ih
theorem json_Print_1_calls (w : World) (F : Nat → Prop) (x1 : Bool) (x2 : List api_JNode) (x9 : Int) (x12 : strings_Builder) (g3 : Nat) (Tb4 : Nat) (A5 : Option Addr) (n6 : Nat) (c7 : Nat) (g10 : Nat) (Tb11 : Nat) (g13 : Nat) (z18 : Nat) (A14 : Option Addr) (n15 : Nat) (c16 : Nat) (g20 : Nat) (Tb21 : Nat) (h8 : Rw k_api_JNode w F A5 n6 c7 x2) (hz19 : z18 ≤ w.heap.size) (h17 : Ow z18 A14 n15 c16 x12.buf) (hG0 : Tt .u8 tb_0 0 (St w [[g3], [g10], [g13], (Value.slice A14 n15 c16).ownBlock.toList, [g20]])) (hF : ∀ b, F b → b < w.heap.size ∧ ∀ o ∈ ([[g3], [g10], [g13], (Value.slice A14 n15 c16).ownBlock.toList, [g20]] : List (List Nat)), b ∉ o) (hL0 : B.Loc w w [.box g3 Tb4 [.slice A5 n6 c7], .box g10 Tb11 [.int .i64 x9], .box g13 56 [selfP g13 x12.addr, .slice A14 n15 c16], .own (.slice A14 n15 c16) 5 1 n15 (x12.buf.flatMap (eI .u8)), .box g20 Tb21 [.func (.func 34) #[] #[.pointer (some ⟨g3, 0, none⟩), .pointer (some ⟨g10, 0, none⟩), .pointer (some ⟨g13, 0, none⟩), .pointer (some ⟨g20, 0, none⟩)]]] [Sm w.heap.size F w [[g3], [g10], [g13], (Value.slice A14 n15 c16).ownBlock.toList, [g20]], St w [[g3], [g10], [g13], (Value.slice A14 n15 c16).ownBlock.toList, [g20]]]) (r : (List api_JNode) × Int × strings_Builder) (h : json_Print_1 x1 x2 x9 x12 r) : Calls Tryd.prog 34 #[.bool x1, .pointer (some ⟨g3, 0, none⟩), .pointer (some ⟨g10, 0, none⟩), .pointer (some ⟨g13, 0, none⟩), .pointer (some ⟨g20, 0, none⟩)] w (json_Print_1_R w F g3 g10 g13 g20 Tb4 Tb11 Tb21 A14 n15 c16 z18 r) := by
 obtain ⟨n, h⟩ := h
 exact (json_Print_1_ind n) w F x1 x2 x9 x12 g3 Tb4 A5 n6 c7 g10 Tb11 g13 z18 A14 n15 c16 g20 Tb21 h8 hz19 h17 hG0 hF hL0 r h
noncomputable abbrev q38c0 : Code := bodyOf Tryd.f38
noncomputable abbrev q38c1 : Code := Code.fst q38c0
noncomputable abbrev q38c2 : Code := Code.snd q38c0
noncomputable abbrev q38c3 : Code := Code.fst q38c2
noncomputable abbrev q38c4 : Code := Code.snd q38c2
abbrev strings_Builder_String_R (w : World) (F : Nat → Prop) (g2 : Nat) (A3 : Option Addr) (n4 : Nat) (c5 : Nat) (z7 : Nat) (r : ByteArray) : Ending → World → Prop := fun e w' => e = .returned (.string r) ∧ B.Loc w w' [] [St w [[g2], (Value.slice A3 n4 c5).ownBlock.toList]]
noncomputable abbrev strings_Builder_String_C (w : World) (F : Nat → Prop) (g2 : Nat) (A3 : Option Addr) (n4 : Nat) (c5 : Nat) (z7 : Nat) (r : ByteArray) : Cx := ⟨Tryd.prog, 38, Tryd.f38, 14, strings_Builder_String_R w F g2 A3 n4 c5 z7 r, w⟩
theorem strings_Builder_String_calls (w : World) (F : Nat → Prop) (x1 : strings_Builder) (g2 : Nat) (z7 : Nat) (A3 : Option Addr) (n4 : Nat) (c5 : Nat) (hz8 : z7 ≤ w.heap.size) (h6 : Ow z7 A3 n4 c5 x1.buf) (hF : ∀ b, F b → b < w.heap.size ∧ ∀ o ∈ ([[g2], (Value.slice A3 n4 c5).ownBlock.toList] : List (List Nat)), b ∉ o) (hL0 : B.Loc w w [.box g2 56 [selfP g2 x1.addr, .slice A3 n4 c5], .own (.slice A3 n4 c5) 5 1 n4 (x1.buf.flatMap (eI .u8))] [Sm w.heap.size F w [[g2], (Value.slice A3 n4 c5).ownBlock.toList], St w [[g2], (Value.slice A3 n4 c5).ownBlock.toList]]) (r : ByteArray) (h : strings_Builder_String x1 r) : Calls Tryd.prog 38 #[.pointer (some ⟨g2, 0, none⟩)] w (strings_Builder_String_R w F g2 A3 n4 c5 z7 r) := by
 unfold strings_Builder_String at h
 refine calls_of_Loc (vs := [.pointer (some ⟨g2, 0, none⟩)]) 14 Tryd.func38 rfl Tryd.ntmps38 rfl hL0 ?_
 show G (strings_Builder_String_C w F g2 A3 n4 c5 z7 r) _ _ _ _
 refine g_seq (c := q38c0) rfl ?_
 refine g_region (c := q38c1) rfl rfl ?_
 refine wl_v 0 rfl (v_assign rfl) gn rfl ?_
 refine w_end 1 rfl ?_
 refine g_seq (c := q38c2) rfl ?_
 have hns : Region.noSelect (Code.ops q38c3) = true := by kernel_rfl
 refine g_drawF (c := q38c3) [.box g2 56 [selfP g2 x1.addr, .slice A3 n4 c5], .own (.slice A3 n4 c5) 5 1 n4 (x1.buf.flatMap (eI .u8))] [Sm w.heap.size F w [[g2], (Value.slice A3 n4 c5).ownBlock.toList], St w [[g2], (Value.slice A3 n4 c5).ownBlock.toList]] [10, 11] 12 rfl rfl mix rfl (.cons_cons _ (.cons_cons _ (.slnil))) (sels [0, 1] rfl) ?_
 refine wfv 0 rfl (v_move rfl) gn hns (by kernel_rfl) ?_
 refine wfv 1 rfl (v_nilCheck rfl) gn hns (by kernel_rfl) ?_
 refine wfv 2 rfl (v_fldB fo_56_1 rfl) gn hns (by kernel_rfl) ?_
 refine wfv 3 rfl (v_ldB1 0 ld_54 rfl rfl rfl) gn hns (by kernel_rfl) ?_
 refine wfv 5 rfl (v_move rfl) gn hns (by kernel_rfl) ?_
 refine wfv 6 rfl (v_nilCheck rfl) gn hns (by kernel_rfl) ?_
 refine wfv 7 rfl (v_fldB fo_56_1 rfl) gn hns (by kernel_rfl) ?_
 refine wfv 8 rfl (v_ldB1 0 ld_54 rfl rfl rfl) gn hns (by kernel_rfl) ?_
 refine wfv 9 rfl (v_lenQ un_54 rfl h6.hq) gn hns (by kernel_rfl) ?_
 refine wf_all [4] (by kernel_rfl) rfl ⟨on_s 4 rfl gn rfl (s_slData 1 un_79 rfl rfl rfl fun p37 hp38 => ?_), trivial⟩
 refine ⟨sels [0, 1] rfl, sels [0, 1] rfl, ?_⟩
 refine wf_all [10] (by kernel_rfl) rfl ⟨on_l 10 rfl gn rfl (s_ustr 1 by_79_5 rfl hp38 rfl h6 rfl rfl ?_), trivial⟩
 unfold NxL
 refine wf_all [11] (by kernel_rfl) rfl ⟨on_l 11 rfl gn rfl (s_val (v_assign rfl) rfl ?_), trivial⟩
 unfold NxL
 refine wf_end (by kernel_rfl) ?_
 refine g_retR (c := q38c4) [.string (ofBs x1.buf)] rfl Tryd.func38 rfl (.tmp rfl (.nil)) fun wr hLr => ?_
 have hMr : B.Loc w wr [] [St w [[g2], (Value.slice A3 n4 c5).ownBlock.toList]] := hLr.pick0 (sels [1] rfl)
 show strings_Builder_String_R w F g2 A3 n4 c5 z7 r (.returned (packV [.string (ofBs x1.buf)])) wr
 rw [h]
 exact ⟨rfl, hMr⟩
end Go.Proofs.YtmfopcbjgbphaaaDoor.K
