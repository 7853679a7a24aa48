/- What the machine's calls do, function by function, printed by my own tool. Condition of each: its relation holds of the answer, and what is handed in lies in memory as told. -/
import Derived.Test.YtmfopcbjgbphaaaDoorK1
set_option linter.unusedVariables false
set_option maxRecDepth 100000
set_option maxHeartbeats 4000000
namespace Go.Proofs.YtmfopcbjgbphaaaDoor.K
open Go.Proofs.YtmfopcbjgbphaaaDoor.B Go.Proofs.YtmfopcbjgbphaaaDoor.R Go.RowKit
noncomputable abbrev q50c0 : Code := bodyOf Tryd.f50
noncomputable abbrev q50c1 := Code.fst q50c0
noncomputable abbrev q50c2 := Code.snd q50c0
noncomputable abbrev q50c3 := Code.fst q50c2
noncomputable abbrev q50c4 := Code.snd q50c2
noncomputable abbrev q50c5 := Code.fst q50c3
noncomputable abbrev q50c6 := Code.snd q50c3
noncomputable abbrev q50c7 := Code.fst q50c6
noncomputable abbrev q50c8 := Code.snd q50c6
noncomputable abbrev q50c9 := Code.fst q50c7
noncomputable abbrev q50c10 := Code.snd q50c7
noncomputable abbrev q50c11 := Code.fst q50c4
noncomputable abbrev q50c12 := Code.snd q50c4
noncomputable abbrev q50c13 := Code.fst q50c11
noncomputable abbrev q50c14 := Code.snd q50c11
noncomputable abbrev q50c15 := Code.fst q50c14
noncomputable abbrev q50c16 := Code.fst q50c15
noncomputable abbrev q50c17 := Code.snd q50c15
noncomputable abbrev q50c18 := Code.fst q50c16
noncomputable abbrev q50c19 := Code.snd q50c16
noncomputable abbrev q50c20 := Code.fst q50c19
noncomputable abbrev q50c21 := Code.snd q50c19
noncomputable abbrev q50c22 := Code.fst q50c17
noncomputable abbrev q50c23 := Code.snd q50c17
noncomputable abbrev q50c24 := Code.fst q50c22
noncomputable abbrev q50c25 := Code.snd q50c22
noncomputable abbrev q50c26 := Code.fst q50c23
noncomputable abbrev q50c27 := Code.snd q50c23
noncomputable abbrev q50c28 := Code.fst q50c27
noncomputable abbrev q50c29 := Code.snd q50c27
noncomputable abbrev q50c30 := Code.fst q50c28
noncomputable abbrev q50c31 := Code.snd q50c28
noncomputable abbrev q50c32 := Code.fst q50c31
noncomputable abbrev q50c33 := Code.snd q50c31
noncomputable abbrev q50c34 := Code.fst q50c29
noncomputable abbrev q50c35 := Code.snd q50c29
noncomputable abbrev q50c36 := Code.fst q50c35
noncomputable abbrev q50c37 := Code.snd q50c35
noncomputable abbrev q50c38 := Code.fst q50c36
noncomputable abbrev q50c39 := Code.snd q50c36
noncomputable abbrev q50c40 := Code.fst q50c37
noncomputable abbrev q50c41 := Code.snd q50c37
noncomputable abbrev q50c42 := Code.fst q50c40
noncomputable abbrev q50c43 := Code.snd q50c40
noncomputable abbrev q50c44 := Code.fst q50c43
noncomputable abbrev q50c45 := Code.snd q50c43
noncomputable abbrev q50c46 := Code.fst q50c45
noncomputable abbrev q50c47 := Code.snd q50c45
noncomputable abbrev q50c48 := Code.fst q50c47
noncomputable abbrev q50c49 := Code.snd q50c47
noncomputable abbrev q50c50 := Code.fst q50c41
noncomputable abbrev q50c51 := Code.snd q50c41
noncomputable abbrev q50c52 := Code.fst q50c50
noncomputable abbrev q50c53 := Code.snd q50c50
noncomputable abbrev q50c54 := Code.fst q50c12
noncomputable abbrev q50c55 := Code.snd q50c12
abbrev json_sound_R (w : World) (F : Nat → Prop) (r : Bool) : Ending → World → Prop := fun e w' => e = .returned (.bool r) ∧ B.Loc w w' [] [St w []]
noncomputable abbrev json_sound_C (w : World) (F : Nat → Prop) (r : Bool) : Cx := ⟨Tryd.prog, 50, Tryd.f50, 71, json_sound_R w F  r, w⟩
theorem json_sound_calls (w : World) (F : Nat → Prop) (x1 : JNd) (hG1 : Tt .u8 tb_1 1 (St w [])) (hG2 : Tt .u8 tb_2 2 (St w [])) (hF : ∀ b, F b → b < w.heap.size ∧ ∀ o ∈ ([] : List (List Nat)), b ∉ o) (hL0 : B.Loc w w [] [Sm w.heap.size F w [], St w []]) (r : Bool) (h : json_sound x1 r) : Calls Tryd.prog 50 #[.agg #[.int .i64 x1.kind, .string x1.key, .string x1.text, .int .i64 x1.kids]] w (json_sound_R w F  r) := by
 unfold json_sound at h
 refine calls_of_Loc (vs := [.agg #[.int .i64 x1.kind, .string x1.key, .string x1.text, .int .i64 x1.kids]]) 71 Tryd.func50 rfl Tryd.ntmps50 rfl hL0 ?_
 show G (json_sound_C w F r) _ _ _ _
 refine gSq (c := q50c0) rfl ?_
 refine gRg (c := q50c1) rfl rfl ?_
 refine wl_s 0 rfl (s_box [.int .i64 x1.kind, .string x1.key, .string x1.text, .int .i64 x1.kids] rfl rfl rfl fun gb2 => ?_) gn
 refine wl_v 1 rfl (vAs rfl) gn rfl ?_
 refine w_end 2 rfl ?_
 refine gSq (c := q50c2) rfl ?_
 refine gSq (c := q50c3) rfl ?_
 have j1 : ∀ (x14 : Bool) (h : json_sound_j1 x1 x14 r) , G (json_sound_C w F r) [.code q50c6, .code q50c4] [(1, .pointer (some ⟨gb2, 0, none⟩)), (12, .bool x14)] [.box gb2 31 [.int .i64 x1.kind, .string x1.key, .string x1.text, .int .i64 x1.kids]] [Sm w.heap.size F w [], St w []] := by
  intro x14 h
  unfold json_sound_j1 at h
  by_cases hp15 : x14 = true
  ·have h := if_pos' hp15 h
   refine gTr (c := q50c6) rfl _ rfl (hp15) ?_
   refine gSq (c := q50c7) rfl ?_
   refine gRg (c := q50c9) rfl rfl ?_
   refine wl_v 0 rfl (vAs rfl) gn rfl ?_
   refine w_end 1 rfl ?_
   refine g_retR (c := q50c10) [.bool false] rfl Tryd.func50 rfl (.tmp rfl (.nil)) fun wr hLr => ?_
   have hMr : B.Loc w wr [] [St w []] := hLr.pick0 (sels [1] rfl)
   show json_sound_R w F  r (.returned (packV [.bool false])) wr
   rw [h]
   exact ⟨rfl, hMr⟩
  ·have h := if_neg' hp15 h
   refine gFa (c := q50c6) rfl _ rfl ((bf hp15)) ?_
   refine g_skip (c := q50c8) rfl ?_
   refine gSq (c := q50c4) rfl ?_
   refine gSq (c := q50c11) rfl ?_
   refine gRg (c := q50c13) rfl rfl ?_
   refine wl_v 0 rfl (vFB fo_31_0 rfl) gn rfl ?_
   refine wl_v 1 rfl (v_ldB1 0 ld_29 rfl rfl rfl) gn rfl ?_
   refine w_end 2 rfl ?_
   refine g_block (c := q50c14) rfl ?_
   refine gSq (c := q50c15) rfl ?_
   refine gSq (c := q50c16) rfl ?_
   refine gRg (c := q50c18) rfl rfl ?_
   refine wl_v 0 rfl (vBn rfl rfl rfl) gn rfl ?_
   refine wl_v 1 rfl (vAs rfl) gn rfl ?_
   refine w_end 2 rfl ?_
   have j2 : ∀ (x18 : Bool) (h : json_sound_j2 x1 x18 r) , G (json_sound_C w F r) [.code q50c17, .inBlock 0, .code q50c12] [(1, .pointer (some ⟨gb2, 0, none⟩)), (14, .int .i64 x1.kind), (15, .bool x18)] [.box gb2 31 [.int .i64 x1.kind, .string x1.key, .string x1.text, .int .i64 x1.kids]] [Sm w.heap.size F w [], St w []] := by
    intro x18 h
    unfold json_sound_j2 at h
    by_cases hp19 : x18 = true
    ·have h := if_pos' hp19 h
     refine gTr (c := q50c17) rfl _ rfl (hp19) ?_
     refine gSq (c := q50c22) rfl ?_
     refine gRg (c := q50c24) rfl rfl ?_
     refine wl_v 0 rfl (vFB fo_31_2 rfl) gn rfl ?_
     refine wl_v 1 rfl (v_ldB1 0 ld_9 rfl rfl rfl) gn rfl ?_
     refine wl_v 2 rfl (v_eqS rfl rfl) gn rfl ?_
     refine wl_v 3 rfl (vAs rfl) gn rfl ?_
     refine w_end 4 rfl ?_
     refine g_retR (c := q50c25) [.bool (seq x1.text (⟨#[]⟩ : ByteArray))] rfl Tryd.func50 rfl (.tmp rfl (.nil)) fun wr hLr => ?_
     have hMr : B.Loc w wr [] [St w []] := hLr.pick0 (sels [1] rfl)
     show json_sound_R w F  r (.returned (packV [.bool (seq x1.text (⟨#[]⟩ : ByteArray))])) wr
     rw [h]
     exact ⟨rfl, hMr⟩
    ·have h := if_neg' hp19 h
     refine gFa (c := q50c17) rfl _ rfl ((bf hp19)) ?_
     refine gSq (c := q50c23) rfl ?_
     refine gRg (c := q50c26) rfl rfl ?_
     refine wl_v 0 rfl (vBn rfl rfl rfl) gn rfl ?_
     refine wl_v 1 rfl (vAs rfl) gn rfl ?_
     refine w_end 2 rfl ?_
     by_cases hp20 : x1.kind = 4
     ·have h := if_pos' hp20 h
      refine gTr (c := q50c27) rfl _ rfl ((eqi hp20)) ?_
      refine gSq (c := q50c28) rfl ?_
      refine gRg (c := q50c30) rfl rfl ?_
      refine wl_v 0 rfl (vFB fo_31_2 rfl) gn rfl ?_
      refine wl_v 1 rfl (v_ldB1 0 ld_9 rfl rfl rfl) gn rfl ?_
      refine wl_v 2 rfl (v_build #[.string x1.text, .int .i64 0, .slice none 0 0, .int .i64 0, .int .i64 0] bd_70 rfl (by kernel_rfl)) gn rfl ?_
      refine wl_s 3 rfl (s_box [.string x1.text, .int .i64 0, .slice none 0 0, .int .i64 0, .int .i64 0] rfl rfl rfl fun gb21 => ?_) gn
      refine wl_v 4 rfl (vAs rfl) gn rfl ?_
      refine w_end 5 rfl ?_
      refine gSq (c := q50c31) rfl ?_
      refine g_nil 31 4 ?_
      by_cases hp29 : x1.kids = 0
      ·have h := if_pos' hp29 h
       by_cases hp30 : x1.text = (⟨#[]⟩ : ByteArray)
       ·have h := if_pos' hp30 h
        have hns : Region.noSelect (Code.ops q50c32) = true := by kernel_rfl
        refine g_drawF (c := q50c32) [.own (.slice none 0 0) 31 4 0 (([] : List JNd).flatMap eJN), .box gb21 70 [.string x1.text, .int .i64 0, .slice none 0 0, .int .i64 0, .int .i64 0], .box gb2 31 [.int .i64 x1.kind, .string x1.key, .string x1.text, .int .i64 x1.kids]] [Sm w.heap.size F w [], St w []] [] 23 rfl rfl mix rfl (.cons_cons _ (.cons_cons _ (.cons_cons _ (.slnil)))) (sels [0, 1] rfl) ?_
        refine wfv 0 rfl (vFB fo_31_3 rfl) gn hns rfl ?_
        refine wfv 1 rfl (v_ldB1 2 ld_3 rfl rfl rfl) gn hns rfl ?_
        refine wfv 2 rfl (vBn rfl rfl rfl) gn hns rfl ?_
        refine wfv 3 rfl (vMv rfl) gn hns rfl ?_
        refine wf_bool 30 rfl ((eqi hp29)) ?_
        refine wfv 4 rfl (vFB fo_31_2 rfl) (gy 30 rfl rfl) hns rfl ?_
        refine wfv 5 rfl (v_ldB1 2 ld_9 rfl rfl rfl) (gy 30 rfl rfl) hns rfl ?_
        refine wfv 6 rfl (v_neS rfl rfl) (gy 30 rfl rfl) hns rfl ?_
        refine wfv 7 rfl (v_pick (b := true) rfl rfl) gn hns rfl ?_
        refine wfv 8 rfl (vMv rfl) gn hns rfl ?_
        refine wf_bool 35 rfl ((nf (seq_t hp30))) ?_
        refine wfp 9 rfl (ps 35 rfl rfl rfl) hns rfl ?_
        refine wfp 10 rfl (ps 35 rfl rfl rfl) hns rfl ?_
        refine wfv 11 rfl (v_pick (b := false) rfl rfl) gn hns rfl ?_
        refine wfv 12 rfl (vMv rfl) gn hns rfl ?_
        refine wfp 13 rfl (ps 39 rfl rfl rfl) hns rfl ?_
        refine wfp 14 rfl (ps 39 rfl rfl rfl) hns rfl ?_
        refine wfp 15 rfl (ps 39 rfl rfl rfl) hns rfl ?_
        refine wfp 16 rfl (ps 39 rfl rfl rfl) hns rfl ?_
        refine wfp 17 rfl (ps 39 rfl rfl rfl) hns rfl ?_
        refine wfp 18 rfl (ps 39 rfl rfl rfl) hns rfl ?_
        refine wfp 19 rfl (ps 39 rfl rfl rfl) hns rfl ?_
        refine wfp 20 rfl (ps 39 rfl rfl rfl) hns rfl ?_
        refine wfv 21 rfl (v_pick (b := false) rfl rfl) gn hns rfl ?_
        refine wfv 22 rfl (vAs rfl) gn hns rfl ?_
        refine wf_end (by kernel_rfl) ?_
        refine g_retR (c := q50c33) [.bool false] rfl Tryd.func50 rfl (.tmp rfl (.nil)) fun wr hLr => ?_
        have hMr : B.Loc w wr [] [St w []] := hLr.pick0 (sels [1] rfl)
        show json_sound_R w F  r (.returned (packV [.bool false])) wr
        rw [h]
        exact ⟨rfl, hMr⟩
       ·have h := if_neg' hp30 h
        obtain ⟨r34, hv35, h⟩ := h
        by_cases hp44 : r34.1 = true
        ·have h := if_pos' hp44 h
         have d1 : ∀ (_ : Unit), G (json_sound_C w F r) [.code q50c33, .inBlock 0, .code q50c12] [(2, .bool (r34.2.at_ == (x1.text.size : Int)))] [] [Sm w.heap.size F w [], St w []] := by
          intro _
          refine g_retR (c := q50c33) [.bool (r34.2.at_ == (x1.text.size : Int))] rfl Tryd.func50 rfl (.tmp rfl (.nil)) fun wr hLr => ?_
          have hMr : B.Loc w wr [] [St w []] := hLr.pick0 (sels [1] rfl)
          show json_sound_R w F  r (.returned (packV [.bool (r34.2.at_ == (x1.text.size : Int))])) wr
          rw [h]
          exact ⟨rfl, hMr⟩
         have hns : Region.noSelect (Code.ops q50c32) = true := by kernel_rfl
         refine g_drawF (c := q50c32) [.own (.slice none 0 0) 31 4 0 (([] : List JNd).flatMap eJN), .box gb21 70 [.string x1.text, .int .i64 0, .slice none 0 0, .int .i64 0, .int .i64 0], .box gb2 31 [.int .i64 x1.kind, .string x1.key, .string x1.text, .int .i64 x1.kids]] [Sm w.heap.size F w [], St w []] [10, 11, 12, 13, 14, 15, 16, 17, 18, 19, 20, 21, 22] 23 rfl rfl mix rfl (.cons_cons _ (.cons_cons _ (.cons_cons _ (.slnil)))) (sels [0, 1] rfl) ?_
         refine wfv 0 rfl (vFB fo_31_3 rfl) gn hns (by kernel_rfl) ?_
         refine wfv 1 rfl (v_ldB1 2 ld_3 rfl rfl rfl) gn hns (by kernel_rfl) ?_
         refine wfv 2 rfl (vBn rfl rfl rfl) gn hns (by kernel_rfl) ?_
         refine wfv 3 rfl (vMv rfl) gn hns (by kernel_rfl) ?_
         refine wf_bool 30 rfl ((eqi hp29)) ?_
         refine wfv 4 rfl (vFB fo_31_2 rfl) (gy 30 rfl rfl) hns (by kernel_rfl) ?_
         refine wfv 5 rfl (v_ldB1 2 ld_9 rfl rfl rfl) (gy 30 rfl rfl) hns (by kernel_rfl) ?_
         refine wfv 6 rfl (v_neS rfl rfl) (gy 30 rfl rfl) hns (by kernel_rfl) ?_
         refine wfv 7 rfl (v_pick (b := true) rfl rfl) gn hns (by kernel_rfl) ?_
         refine wfv 8 rfl (vMv rfl) gn hns (by kernel_rfl) ?_
         refine wf_bool 35 rfl ((nt (seq_f hp30))) ?_
         refine wfv 9 rfl (vMv rfl) (gy 35 rfl rfl) hns (by kernel_rfl) ?_
         refine wf_all [10] (by kernel_rfl) rfl ⟨on_l 10 rfl (gy 35 rfl rfl) rfl (sCl [.pointer (some ⟨gb21, 0, none⟩)] rfl Tryd.func59 rfl rfl rfl fun w56 hL57 => ?_), trivial⟩
         have hp58 : List.Perm ([.own (.slice none 0 0) 31 4 0 (([] : List JNd).flatMap eJN), .box gb21 70 [.string x1.text, .int .i64 0, .slice none 0 0, .int .i64 0, .int .i64 0], .box gb2 31 [.int .i64 x1.kind, .string x1.key, .string x1.text, .int .i64 x1.kids]] : List Ent) (([.box gb21 70 [.string x1.text, .int .i64 0, .slice none 0 0, .int .i64 0, .int .i64 0], .own (.slice none 0 0) 31 4 0 (([] : List JNd).flatMap eJN)] : List Ent) ++ ([.box gb2 31 [.int .i64 x1.kind, .string x1.key, .string x1.text, .int .i64 x1.kids]] : List Ent)) := pIx [1, 0] [2] rfl rfl (by kernel_rfl)
         refine Calls.mono (jps_number_calls w56 (Fl ([] : List Snap)) (⟨x1.text, 0, ([] : List JNd), 0, 0⟩ : jps) gb21 70 w.heap.size none 0 0 hL57.env.size (Ow.nil (z := w.heap.size)) (hL57.hFl (Sl := ([] : List Snap)) hp58 (sels [] rfl)) (hL57.into hp58 (Fl ([] : List Snap))) r34 hv35) ?_
         rintro _ w63 ⟨A59, n60, c61, rfl, hM64, h62⟩
         have hL65 := hL57.call hp58 hM64
         refine ⟨_, _, _, rfl, hL65, ?_⟩
         unfold NxL
         refine wf_all [11] (by kernel_rfl) rfl ⟨on_l 11 rfl gn rfl (s_val (v_pick (b := true) rfl rfl) rfl ?_), trivial⟩
         unfold NxL
         refine wf_all [12] (by kernel_rfl) rfl ⟨on_l 12 rfl gn rfl (s_val (vMv rfl) rfl ?_), trivial⟩
         unfold NxL
         refine wf_bool 39 rfl (hp44) ?_
         refine wf_all [13, 17] (by kernel_rfl) rfl ⟨?_, ?_, trivial⟩
         ·refine on_l 13 rfl (gy 39 rfl rfl) rfl (s_val (vMv rfl) rfl ?_)
          unfold NxL
          refine wf_all [14, 17] (by kernel_rfl) rfl ⟨?_, ?_, trivial⟩
          ·refine on_l 14 rfl (gy 39 rfl rfl) rfl (s_val (vNc rfl) rfl ?_)
           unfold NxL
           refine wf_all [15, 17] (by kernel_rfl) rfl ⟨?_, ?_, trivial⟩
           ·refine on_l 15 rfl (gy 39 rfl rfl) rfl (s_val (vFB fo_70_1 rfl) rfl ?_)
            unfold NxL
            refine wf_all [16, 17] (by kernel_rfl) rfl ⟨?_, ?_, trivial⟩
            ·refine on_l 16 rfl (gy 39 rfl rfl) rfl (s_val (v_ldB1 0 ld_3 rfl rfl rfl) rfl ?_)
             unfold NxL
             refine wf_all [17] (by kernel_rfl) rfl ⟨on_l 17 rfl (gy 39 rfl rfl) rfl (s_val (vFB fo_31_2 rfl) rfl ?_), trivial⟩
             unfold NxL
             refine wf_all [18] (by kernel_rfl) rfl ⟨on_l 18 rfl (gy 39 rfl rfl) rfl (s_val (v_ldB1 2 ld_9 rfl rfl rfl) rfl ?_), trivial⟩
             unfold NxL
             refine wf_all [19] (by kernel_rfl) rfl ⟨on_l 19 rfl (gy 39 rfl rfl) rfl (s_val (v_lenS un_9 rfl) rfl ?_), trivial⟩
             unfold NxL
             refine wf_all [20] (by kernel_rfl) rfl ⟨on_l 20 rfl (gy 39 rfl rfl) rfl (s_val (vBn rfl rfl rfl) rfl ?_), trivial⟩
             unfold NxL
             refine wf_all [21] (by kernel_rfl) rfl ⟨on_l 21 rfl gn rfl (s_val (v_pick (b := true) rfl rfl) rfl ?_), trivial⟩
             unfold NxL
             refine wf_all [22] (by kernel_rfl) rfl ⟨on_l 22 rfl gn rfl (s_val (vAs rfl) rfl ?_), trivial⟩
             unfold NxL
             refine wf_end (by kernel_rfl) ?_
             exact g_go [0, 1] (d1 ()) ⟨rfl, trivial⟩ (.cons _ (.cons _ (.cons _ (.slnil)))) rfl
            ·refine on_l 17 rfl (gy 39 rfl rfl) rfl (s_val (vFB fo_31_2 rfl) rfl ?_)
             unfold NxL
             refine wf_all [16, 18] (by kernel_rfl) rfl ⟨?_, ?_, trivial⟩
             ·refine on_l 16 rfl (gy 39 rfl rfl) rfl (s_val (v_ldB1 0 ld_3 rfl rfl rfl) rfl ?_)
              unfold NxL
              refine wf_all [18] (by kernel_rfl) rfl ⟨on_l 18 rfl (gy 39 rfl rfl) rfl (s_val (v_ldB1 2 ld_9 rfl rfl rfl) rfl ?_), trivial⟩
              unfold NxL
              refine wf_all [19] (by kernel_rfl) rfl ⟨on_l 19 rfl (gy 39 rfl rfl) rfl (s_val (v_lenS un_9 rfl) rfl ?_), trivial⟩
              unfold NxL
              refine wf_all [20] (by kernel_rfl) rfl ⟨on_l 20 rfl (gy 39 rfl rfl) rfl (s_val (vBn rfl rfl rfl) rfl ?_), trivial⟩
              unfold NxL
              refine wf_all [21] (by kernel_rfl) rfl ⟨on_l 21 rfl gn rfl (s_val (v_pick (b := true) rfl rfl) rfl ?_), trivial⟩
              unfold NxL
              refine wf_all [22] (by kernel_rfl) rfl ⟨on_l 22 rfl gn rfl (s_val (vAs rfl) rfl ?_), trivial⟩
              unfold NxL
              refine wf_end (by kernel_rfl) ?_
              exact g_go [0, 1] (d1 ()) ⟨rfl, trivial⟩ (.cons _ (.cons _ (.cons _ (.slnil)))) rfl
             ·refine on_l 18 rfl (gy 39 rfl rfl) rfl (s_val (v_ldB1 2 ld_9 rfl rfl rfl) rfl ?_)
              unfold NxL
              refine wf_all [16, 19] (by kernel_rfl) rfl ⟨?_, ?_, trivial⟩
              ·refine on_l 16 rfl (gy 39 rfl rfl) rfl (s_val (v_ldB1 0 ld_3 rfl rfl rfl) rfl ?_)
               unfold NxL
               refine wf_all [19] (by kernel_rfl) rfl ⟨on_l 19 rfl (gy 39 rfl rfl) rfl (s_val (v_lenS un_9 rfl) rfl ?_), trivial⟩
               unfold NxL
               refine wf_all [20] (by kernel_rfl) rfl ⟨on_l 20 rfl (gy 39 rfl rfl) rfl (s_val (vBn rfl rfl rfl) rfl ?_), trivial⟩
               unfold NxL
               refine wf_all [21] (by kernel_rfl) rfl ⟨on_l 21 rfl gn rfl (s_val (v_pick (b := true) rfl rfl) rfl ?_), trivial⟩
               unfold NxL
               refine wf_all [22] (by kernel_rfl) rfl ⟨on_l 22 rfl gn rfl (s_val (vAs rfl) rfl ?_), trivial⟩
               unfold NxL
               refine wf_end (by kernel_rfl) ?_
               exact g_go [0, 1] (d1 ()) ⟨rfl, trivial⟩ (.cons _ (.cons _ (.cons _ (.slnil)))) rfl
              ·refine on_l 19 rfl (gy 39 rfl rfl) rfl (s_val (v_lenS un_9 rfl) rfl ?_)
               unfold NxL
               refine wf_all [16] (by kernel_rfl) rfl ⟨on_l 16 rfl (gy 39 rfl rfl) rfl (s_val (v_ldB1 0 ld_3 rfl rfl rfl) rfl ?_), trivial⟩
               unfold NxL
               refine wf_all [20] (by kernel_rfl) rfl ⟨on_l 20 rfl (gy 39 rfl rfl) rfl (s_val (vBn rfl rfl rfl) rfl ?_), trivial⟩
               unfold NxL
               refine wf_all [21] (by kernel_rfl) rfl ⟨on_l 21 rfl gn rfl (s_val (v_pick (b := true) rfl rfl) rfl ?_), trivial⟩
               unfold NxL
               refine wf_all [22] (by kernel_rfl) rfl ⟨on_l 22 rfl gn rfl (s_val (vAs rfl) rfl ?_), trivial⟩
               unfold NxL
               refine wf_end (by kernel_rfl) ?_
               exact g_go [0, 1] (d1 ()) ⟨rfl, trivial⟩ (.cons _ (.cons _ (.cons _ (.slnil)))) rfl
           ·refine on_l 17 rfl (gy 39 rfl rfl) rfl (s_val (vFB fo_31_2 rfl) rfl ?_)
            unfold NxL
            refine wf_all [15, 18] (by kernel_rfl) rfl ⟨?_, ?_, trivial⟩
            ·refine on_l 15 rfl (gy 39 rfl rfl) rfl (s_val (vFB fo_70_1 rfl) rfl ?_)
             unfold NxL
             refine wf_all [16, 18] (by kernel_rfl) rfl ⟨?_, ?_, trivial⟩
             ·refine on_l 16 rfl (gy 39 rfl rfl) rfl (s_val (v_ldB1 0 ld_3 rfl rfl rfl) rfl ?_)
              unfold NxL
              refine wf_all [18] (by kernel_rfl) rfl ⟨on_l 18 rfl (gy 39 rfl rfl) rfl (s_val (v_ldB1 2 ld_9 rfl rfl rfl) rfl ?_), trivial⟩
              unfold NxL
              refine wf_all [19] (by kernel_rfl) rfl ⟨on_l 19 rfl (gy 39 rfl rfl) rfl (s_val (v_lenS un_9 rfl) rfl ?_), trivial⟩
              unfold NxL
              refine wf_all [20] (by kernel_rfl) rfl ⟨on_l 20 rfl (gy 39 rfl rfl) rfl (s_val (vBn rfl rfl rfl) rfl ?_), trivial⟩
              unfold NxL
              refine wf_all [21] (by kernel_rfl) rfl ⟨on_l 21 rfl gn rfl (s_val (v_pick (b := true) rfl rfl) rfl ?_), trivial⟩
              unfold NxL
              refine wf_all [22] (by kernel_rfl) rfl ⟨on_l 22 rfl gn rfl (s_val (vAs rfl) rfl ?_), trivial⟩
              unfold NxL
              refine wf_end (by kernel_rfl) ?_
              exact g_go [0, 1] (d1 ()) ⟨rfl, trivial⟩ (.cons _ (.cons _ (.cons _ (.slnil)))) rfl
             ·refine on_l 18 rfl (gy 39 rfl rfl) rfl (s_val (v_ldB1 2 ld_9 rfl rfl rfl) rfl ?_)
              unfold NxL
              refine wf_all [16, 19] (by kernel_rfl) rfl ⟨?_, ?_, trivial⟩
              ·refine on_l 16 rfl (gy 39 rfl rfl) rfl (s_val (v_ldB1 0 ld_3 rfl rfl rfl) rfl ?_)
               unfold NxL
               refine wf_all [19] (by kernel_rfl) rfl ⟨on_l 19 rfl (gy 39 rfl rfl) rfl (s_val (v_lenS un_9 rfl) rfl ?_), trivial⟩
               unfold NxL
               refine wf_all [20] (by kernel_rfl) rfl ⟨on_l 20 rfl (gy 39 rfl rfl) rfl (s_val (vBn rfl rfl rfl) rfl ?_), trivial⟩
               unfold NxL
               refine wf_all [21] (by kernel_rfl) rfl ⟨on_l 21 rfl gn rfl (s_val (v_pick (b := true) rfl rfl) rfl ?_), trivial⟩
               unfold NxL
               refine wf_all [22] (by kernel_rfl) rfl ⟨on_l 22 rfl gn rfl (s_val (vAs rfl) rfl ?_), trivial⟩
               unfold NxL
               refine wf_end (by kernel_rfl) ?_
               exact g_go [0, 1] (d1 ()) ⟨rfl, trivial⟩ (.cons _ (.cons _ (.cons _ (.slnil)))) rfl
              ·refine on_l 19 rfl (gy 39 rfl rfl) rfl (s_val (v_lenS un_9 rfl) rfl ?_)
               unfold NxL
               refine wf_all [16] (by kernel_rfl) rfl ⟨on_l 16 rfl (gy 39 rfl rfl) rfl (s_val (v_ldB1 0 ld_3 rfl rfl rfl) rfl ?_), trivial⟩
               unfold NxL
               refine wf_all [20] (by kernel_rfl) rfl ⟨on_l 20 rfl (gy 39 rfl rfl) rfl (s_val (vBn rfl rfl rfl) rfl ?_), trivial⟩
               unfold NxL
               refine wf_all [21] (by kernel_rfl) rfl ⟨on_l 21 rfl gn rfl (s_val (v_pick (b := true) rfl rfl) rfl ?_), trivial⟩
               unfold NxL
               refine wf_all [22] (by kernel_rfl) rfl ⟨on_l 22 rfl gn rfl (s_val (vAs rfl) rfl ?_), trivial⟩
               unfold NxL
               refine wf_end (by kernel_rfl) ?_
               exact g_go [0, 1] (d1 ()) ⟨rfl, trivial⟩ (.cons _ (.cons _ (.cons _ (.slnil)))) rfl
            ·refine on_l 18 rfl (gy 39 rfl rfl) rfl (s_val (v_ldB1 2 ld_9 rfl rfl rfl) rfl ?_)
             unfold NxL
             refine wf_all [15, 19] (by kernel_rfl) rfl ⟨?_, ?_, trivial⟩
             ·refine on_l 15 rfl (gy 39 rfl rfl) rfl (s_val (vFB fo_70_1 rfl) rfl ?_)
              unfold NxL
              refine wf_all [16, 19] (by kernel_rfl) rfl ⟨?_, ?_, trivial⟩
              ·refine on_l 16 rfl (gy 39 rfl rfl) rfl (s_val (v_ldB1 0 ld_3 rfl rfl rfl) rfl ?_)
               unfold NxL
               refine wf_all [19] (by kernel_rfl) rfl ⟨on_l 19 rfl (gy 39 rfl rfl) rfl (s_val (v_lenS un_9 rfl) rfl ?_), trivial⟩
               unfold NxL
               refine wf_all [20] (by kernel_rfl) rfl ⟨on_l 20 rfl (gy 39 rfl rfl) rfl (s_val (vBn rfl rfl rfl) rfl ?_), trivial⟩
               unfold NxL
               refine wf_all [21] (by kernel_rfl) rfl ⟨on_l 21 rfl gn rfl (s_val (v_pick (b := true) rfl rfl) rfl ?_), trivial⟩
               unfold NxL
               refine wf_all [22] (by kernel_rfl) rfl ⟨on_l 22 rfl gn rfl (s_val (vAs rfl) rfl ?_), trivial⟩
               unfold NxL
               refine wf_end (by kernel_rfl) ?_
               exact g_go [0, 1] (d1 ()) ⟨rfl, trivial⟩ (.cons _ (.cons _ (.cons _ (.slnil)))) rfl
              ·refine on_l 19 rfl (gy 39 rfl rfl) rfl (s_val (v_lenS un_9 rfl) rfl ?_)
               unfold NxL
               refine wf_all [16] (by kernel_rfl) rfl ⟨on_l 16 rfl (gy 39 rfl rfl) rfl (s_val (v_ldB1 0 ld_3 rfl rfl rfl) rfl ?_), trivial⟩
               unfold NxL
               refine wf_all [20] (by kernel_rfl) rfl ⟨on_l 20 rfl (gy 39 rfl rfl) rfl (s_val (vBn rfl rfl rfl) rfl ?_), trivial⟩
               unfold NxL
               refine wf_all [21] (by kernel_rfl) rfl ⟨on_l 21 rfl gn rfl (s_val (v_pick (b := true) rfl rfl) rfl ?_), trivial⟩
               unfold NxL
               refine wf_all [22] (by kernel_rfl) rfl ⟨on_l 22 rfl gn rfl (s_val (vAs rfl) rfl ?_), trivial⟩
               unfold NxL
               refine wf_end (by kernel_rfl) ?_
               exact g_go [0, 1] (d1 ()) ⟨rfl, trivial⟩ (.cons _ (.cons _ (.cons _ (.slnil)))) rfl
             ·refine on_l 19 rfl (gy 39 rfl rfl) rfl (s_val (v_lenS un_9 rfl) rfl ?_)
              unfold NxL
              refine wf_all [15] (by kernel_rfl) rfl ⟨on_l 15 rfl (gy 39 rfl rfl) rfl (s_val (vFB fo_70_1 rfl) rfl ?_), trivial⟩
              unfold NxL
              refine wf_all [16] (by kernel_rfl) rfl ⟨on_l 16 rfl (gy 39 rfl rfl) rfl (s_val (v_ldB1 0 ld_3 rfl rfl rfl) rfl ?_), trivial⟩
              unfold NxL
              refine wf_all [20] (by kernel_rfl) rfl ⟨on_l 20 rfl (gy 39 rfl rfl) rfl (s_val (vBn rfl rfl rfl) rfl ?_), trivial⟩
              unfold NxL
              refine wf_all [21] (by kernel_rfl) rfl ⟨on_l 21 rfl gn rfl (s_val (v_pick (b := true) rfl rfl) rfl ?_), trivial⟩
              unfold NxL
              refine wf_all [22] (by kernel_rfl) rfl ⟨on_l 22 rfl gn rfl (s_val (vAs rfl) rfl ?_), trivial⟩
              unfold NxL
              refine wf_end (by kernel_rfl) ?_
              exact g_go [0, 1] (d1 ()) ⟨rfl, trivial⟩ (.cons _ (.cons _ (.cons _ (.slnil)))) rfl
          ·refine on_l 17 rfl (gy 39 rfl rfl) rfl (s_val (vFB fo_31_2 rfl) rfl ?_)
           unfold NxL
           refine wf_all [14, 18] (by kernel_rfl) rfl ⟨?_, ?_, trivial⟩
           ·refine on_l 14 rfl (gy 39 rfl rfl) rfl (s_val (vNc rfl) rfl ?_)
            unfold NxL
            refine wf_all [15, 18] (by kernel_rfl) rfl ⟨?_, ?_, trivial⟩
            ·refine on_l 15 rfl (gy 39 rfl rfl) rfl (s_val (vFB fo_70_1 rfl) rfl ?_)
             unfold NxL
             refine wf_all [16, 18] (by kernel_rfl) rfl ⟨?_, ?_, trivial⟩
             ·refine on_l 16 rfl (gy 39 rfl rfl) rfl (s_val (v_ldB1 0 ld_3 rfl rfl rfl) rfl ?_)
              unfold NxL
              refine wf_all [18] (by kernel_rfl) rfl ⟨on_l 18 rfl (gy 39 rfl rfl) rfl (s_val (v_ldB1 2 ld_9 rfl rfl rfl) rfl ?_), trivial⟩
              unfold NxL
              refine wf_all [19] (by kernel_rfl) rfl ⟨on_l 19 rfl (gy 39 rfl rfl) rfl (s_val (v_lenS un_9 rfl) rfl ?_), trivial⟩
              unfold NxL
              refine wf_all [20] (by kernel_rfl) rfl ⟨on_l 20 rfl (gy 39 rfl rfl) rfl (s_val (vBn rfl rfl rfl) rfl ?_), trivial⟩
              unfold NxL
              refine wf_all [21] (by kernel_rfl) rfl ⟨on_l 21 rfl gn rfl (s_val (v_pick (b := true) rfl rfl) rfl ?_), trivial⟩
              unfold NxL
              refine wf_all [22] (by kernel_rfl) rfl ⟨on_l 22 rfl gn rfl (s_val (vAs rfl) rfl ?_), trivial⟩
              unfold NxL
              refine wf_end (by kernel_rfl) ?_
              exact g_go [0, 1] (d1 ()) ⟨rfl, trivial⟩ (.cons _ (.cons _ (.cons _ (.slnil)))) rfl
             ·refine on_l 18 rfl (gy 39 rfl rfl) rfl (s_val (v_ldB1 2 ld_9 rfl rfl rfl) rfl ?_)
              unfold NxL
              refine wf_all [16, 19] (by kernel_rfl) rfl ⟨?_, ?_, trivial⟩
              ·refine on_l 16 rfl (gy 39 rfl rfl) rfl (s_val (v_ldB1 0 ld_3 rfl rfl rfl) rfl ?_)
               unfold NxL
               refine wf_all [19] (by kernel_rfl) rfl ⟨on_l 19 rfl (gy 39 rfl rfl) rfl (s_val (v_lenS un_9 rfl) rfl ?_), trivial⟩
               unfold NxL
               refine wf_all [20] (by kernel_rfl) rfl ⟨on_l 20 rfl (gy 39 rfl rfl) rfl (s_val (vBn rfl rfl rfl) rfl ?_), trivial⟩
               unfold NxL
               refine wf_all [21] (by kernel_rfl) rfl ⟨on_l 21 rfl gn rfl (s_val (v_pick (b := true) rfl rfl) rfl ?_), trivial⟩
               unfold NxL
               refine wf_all [22] (by kernel_rfl) rfl ⟨on_l 22 rfl gn rfl (s_val (vAs rfl) rfl ?_), trivial⟩
               unfold NxL
               refine wf_end (by kernel_rfl) ?_
               exact g_go [0, 1] (d1 ()) ⟨rfl, trivial⟩ (.cons _ (.cons _ (.cons _ (.slnil)))) rfl
              ·refine on_l 19 rfl (gy 39 rfl rfl) rfl (s_val (v_lenS un_9 rfl) rfl ?_)
               unfold NxL
               refine wf_all [16] (by kernel_rfl) rfl ⟨on_l 16 rfl (gy 39 rfl rfl) rfl (s_val (v_ldB1 0 ld_3 rfl rfl rfl) rfl ?_), trivial⟩
               unfold NxL
               refine wf_all [20] (by kernel_rfl) rfl ⟨on_l 20 rfl (gy 39 rfl rfl) rfl (s_val (vBn rfl rfl rfl) rfl ?_), trivial⟩
               unfold NxL
               refine wf_all [21] (by kernel_rfl) rfl ⟨on_l 21 rfl gn rfl (s_val (v_pick (b := true) rfl rfl) rfl ?_), trivial⟩
               unfold NxL
               refine wf_all [22] (by kernel_rfl) rfl ⟨on_l 22 rfl gn rfl (s_val (vAs rfl) rfl ?_), trivial⟩
               unfold NxL
               refine wf_end (by kernel_rfl) ?_
               exact g_go [0, 1] (d1 ()) ⟨rfl, trivial⟩ (.cons _ (.cons _ (.cons _ (.slnil)))) rfl
            ·refine on_l 18 rfl (gy 39 rfl rfl) rfl (s_val (v_ldB1 2 ld_9 rfl rfl rfl) rfl ?_)
             unfold NxL
             refine wf_all [15, 19] (by kernel_rfl) rfl ⟨?_, ?_, trivial⟩
             ·refine on_l 15 rfl (gy 39 rfl rfl) rfl (s_val (vFB fo_70_1 rfl) rfl ?_)
              unfold NxL
              refine wf_all [16, 19] (by kernel_rfl) rfl ⟨?_, ?_, trivial⟩
              ·refine on_l 16 rfl (gy 39 rfl rfl) rfl (s_val (v_ldB1 0 ld_3 rfl rfl rfl) rfl ?_)
               unfold NxL
               refine wf_all [19] (by kernel_rfl) rfl ⟨on_l 19 rfl (gy 39 rfl rfl) rfl (s_val (v_lenS un_9 rfl) rfl ?_), trivial⟩
               unfold NxL
               refine wf_all [20] (by kernel_rfl) rfl ⟨on_l 20 rfl (gy 39 rfl rfl) rfl (s_val (vBn rfl rfl rfl) rfl ?_), trivial⟩
               unfold NxL
               refine wf_all [21] (by kernel_rfl) rfl ⟨on_l 21 rfl gn rfl (s_val (v_pick (b := true) rfl rfl) rfl ?_), trivial⟩
               unfold NxL
               refine wf_all [22] (by kernel_rfl) rfl ⟨on_l 22 rfl gn rfl (s_val (vAs rfl) rfl ?_), trivial⟩
               unfold NxL
               refine wf_end (by kernel_rfl) ?_
               exact g_go [0, 1] (d1 ()) ⟨rfl, trivial⟩ (.cons _ (.cons _ (.cons _ (.slnil)))) rfl
              ·refine on_l 19 rfl (gy 39 rfl rfl) rfl (s_val (v_lenS un_9 rfl) rfl ?_)
               unfold NxL
               refine wf_all [16] (by kernel_rfl) rfl ⟨on_l 16 rfl (gy 39 rfl rfl) rfl (s_val (v_ldB1 0 ld_3 rfl rfl rfl) rfl ?_), trivial⟩
               unfold NxL
               refine wf_all [20] (by kernel_rfl) rfl ⟨on_l 20 rfl (gy 39 rfl rfl) rfl (s_val (vBn rfl rfl rfl) rfl ?_), trivial⟩
               unfold NxL
               refine wf_all [21] (by kernel_rfl) rfl ⟨on_l 21 rfl gn rfl (s_val (v_pick (b := true) rfl rfl) rfl ?_), trivial⟩
               unfold NxL
               refine wf_all [22] (by kernel_rfl) rfl ⟨on_l 22 rfl gn rfl (s_val (vAs rfl) rfl ?_), trivial⟩
               unfold NxL
               refine wf_end (by kernel_rfl) ?_
               exact g_go [0, 1] (d1 ()) ⟨rfl, trivial⟩ (.cons _ (.cons _ (.cons _ (.slnil)))) rfl
             ·refine on_l 19 rfl (gy 39 rfl rfl) rfl (s_val (v_lenS un_9 rfl) rfl ?_)
              unfold NxL
              refine wf_all [15] (by kernel_rfl) rfl ⟨on_l 15 rfl (gy 39 rfl rfl) rfl (s_val (vFB fo_70_1 rfl) rfl ?_), trivial⟩
              unfold NxL
              refine wf_all [16] (by kernel_rfl) rfl ⟨on_l 16 rfl (gy 39 rfl rfl) rfl (s_val (v_ldB1 0 ld_3 rfl rfl rfl) rfl ?_), trivial⟩
              unfold NxL
              refine wf_all [20] (by kernel_rfl) rfl ⟨on_l 20 rfl (gy 39 rfl rfl) rfl (s_val (vBn rfl rfl rfl) rfl ?_), trivial⟩
              unfold NxL
              refine wf_all [21] (by kernel_rfl) rfl ⟨on_l 21 rfl gn rfl (s_val (v_pick (b := true) rfl rfl) rfl ?_), trivial⟩
              unfold NxL
              refine wf_all [22] (by kernel_rfl) rfl ⟨on_l 22 rfl gn rfl (s_val (vAs rfl) rfl ?_), trivial⟩
              unfold NxL
              refine wf_end (by kernel_rfl) ?_
              exact g_go [0, 1] (d1 ()) ⟨rfl, trivial⟩ (.cons _ (.cons _ (.cons _ (.slnil)))) rfl
           ·refine on_l 18 rfl (gy 39 rfl rfl) rfl (s_val (v_ldB1 2 ld_9 rfl rfl rfl) rfl ?_)
            unfold NxL
            refine wf_all [14, 19] (by kernel_rfl) rfl ⟨?_, ?_, trivial⟩
            ·refine on_l 14 rfl (gy 39 rfl rfl) rfl (s_val (vNc rfl) rfl ?_)
             unfold NxL
             refine wf_all [15, 19] (by kernel_rfl) rfl ⟨?_, ?_, trivial⟩
             ·refine on_l 15 rfl (gy 39 rfl rfl) rfl (s_val (vFB fo_70_1 rfl) rfl ?_)
              unfold NxL
              refine wf_all [16, 19] (by kernel_rfl) rfl ⟨?_, ?_, trivial⟩
              ·refine on_l 16 rfl (gy 39 rfl rfl) rfl (s_val (v_ldB1 0 ld_3 rfl rfl rfl) rfl ?_)
               unfold NxL
               refine wf_all [19] (by kernel_rfl) rfl ⟨on_l 19 rfl (gy 39 rfl rfl) rfl (s_val (v_lenS un_9 rfl) rfl ?_), trivial⟩
               unfold NxL
               refine wf_all [20] (by kernel_rfl) rfl ⟨on_l 20 rfl (gy 39 rfl rfl) rfl (s_val (vBn rfl rfl rfl) rfl ?_), trivial⟩
               unfold NxL
               refine wf_all [21] (by kernel_rfl) rfl ⟨on_l 21 rfl gn rfl (s_val (v_pick (b := true) rfl rfl) rfl ?_), trivial⟩
               unfold NxL
               refine wf_all [22] (by kernel_rfl) rfl ⟨on_l 22 rfl gn rfl (s_val (vAs rfl) rfl ?_), trivial⟩
               unfold NxL
               refine wf_end (by kernel_rfl) ?_
               exact g_go [0, 1] (d1 ()) ⟨rfl, trivial⟩ (.cons _ (.cons _ (.cons _ (.slnil)))) rfl
              ·refine on_l 19 rfl (gy 39 rfl rfl) rfl (s_val (v_lenS un_9 rfl) rfl ?_)
               unfold NxL
               refine wf_all [16] (by kernel_rfl) rfl ⟨on_l 16 rfl (gy 39 rfl rfl) rfl (s_val (v_ldB1 0 ld_3 rfl rfl rfl) rfl ?_), trivial⟩
               unfold NxL
               refine wf_all [20] (by kernel_rfl) rfl ⟨on_l 20 rfl (gy 39 rfl rfl) rfl (s_val (vBn rfl rfl rfl) rfl ?_), trivial⟩
               unfold NxL
               refine wf_all [21] (by kernel_rfl) rfl ⟨on_l 21 rfl gn rfl (s_val (v_pick (b := true) rfl rfl) rfl ?_), trivial⟩
               unfold NxL
               refine wf_all [22] (by kernel_rfl) rfl ⟨on_l 22 rfl gn rfl (s_val (vAs rfl) rfl ?_), trivial⟩
               unfold NxL
               refine wf_end (by kernel_rfl) ?_
               exact g_go [0, 1] (d1 ()) ⟨rfl, trivial⟩ (.cons _ (.cons _ (.cons _ (.slnil)))) rfl
             ·refine on_l 19 rfl (gy 39 rfl rfl) rfl (s_val (v_lenS un_9 rfl) rfl ?_)
              unfold NxL
              refine wf_all [15] (by kernel_rfl) rfl ⟨on_l 15 rfl (gy 39 rfl rfl) rfl (s_val (vFB fo_70_1 rfl) rfl ?_), trivial⟩
              unfold NxL
              refine wf_all [16] (by kernel_rfl) rfl ⟨on_l 16 rfl (gy 39 rfl rfl) rfl (s_val (v_ldB1 0 ld_3 rfl rfl rfl) rfl ?_), trivial⟩
              unfold NxL
              refine wf_all [20] (by kernel_rfl) rfl ⟨on_l 20 rfl (gy 39 rfl rfl) rfl (s_val (vBn rfl rfl rfl) rfl ?_), trivial⟩
              unfold NxL
              refine wf_all [21] (by kernel_rfl) rfl ⟨on_l 21 rfl gn rfl (s_val (v_pick (b := true) rfl rfl) rfl ?_), trivial⟩
              unfold NxL
              refine wf_all [22] (by kernel_rfl) rfl ⟨on_l 22 rfl gn rfl (s_val (vAs rfl) rfl ?_), trivial⟩
              unfold NxL
              refine wf_end (by kernel_rfl) ?_
              exact g_go [0, 1] (d1 ()) ⟨rfl, trivial⟩ (.cons _ (.cons _ (.cons _ (.slnil)))) rfl
            ·refine on_l 19 rfl (gy 39 rfl rfl) rfl (s_val (v_lenS un_9 rfl) rfl ?_)
             unfold NxL
             refine wf_all [14] (by kernel_rfl) rfl ⟨on_l 14 rfl (gy 39 rfl rfl) rfl (s_val (vNc rfl) rfl ?_), trivial⟩
             unfold NxL
             refine wf_all [15] (by kernel_rfl) rfl ⟨on_l 15 rfl (gy 39 rfl rfl) rfl (s_val (vFB fo_70_1 rfl) rfl ?_), trivial⟩
             unfold NxL
             refine wf_all [16] (by kernel_rfl) rfl ⟨on_l 16 rfl (gy 39 rfl rfl) rfl (s_val (v_ldB1 0 ld_3 rfl rfl rfl) rfl ?_), trivial⟩
             unfold NxL
             refine wf_all [20] (by kernel_rfl) rfl ⟨on_l 20 rfl (gy 39 rfl rfl) rfl (s_val (vBn rfl rfl rfl) rfl ?_), trivial⟩
             unfold NxL
             refine wf_all [21] (by kernel_rfl) rfl ⟨on_l 21 rfl gn rfl (s_val (v_pick (b := true) rfl rfl) rfl ?_), trivial⟩
             unfold NxL
             refine wf_all [22] (by kernel_rfl) rfl ⟨on_l 22 rfl gn rfl (s_val (vAs rfl) rfl ?_), trivial⟩
             unfold NxL
             refine wf_end (by kernel_rfl) ?_
             exact g_go [0, 1] (d1 ()) ⟨rfl, trivial⟩ (.cons _ (.cons _ (.cons _ (.slnil)))) rfl
         ·refine on_l 17 rfl (gy 39 rfl rfl) rfl (s_val (vFB fo_31_2 rfl) rfl ?_)
          unfold NxL
          refine wf_all [13, 18] (by kernel_rfl) rfl ⟨?_, ?_, trivial⟩
          ·refine on_l 13 rfl (gy 39 rfl rfl) rfl (s_val (vMv rfl) rfl ?_)
           unfold NxL
           refine wf_all [14, 18] (by kernel_rfl) rfl ⟨?_, ?_, trivial⟩
           ·refine on_l 14 rfl (gy 39 rfl rfl) rfl (s_val (vNc rfl) rfl ?_)
            unfold NxL
            refine wf_all [15, 18] (by kernel_rfl) rfl ⟨?_, ?_, trivial⟩
            ·refine on_l 15 rfl (gy 39 rfl rfl) rfl (s_val (vFB fo_70_1 rfl) rfl ?_)
             unfold NxL
             refine wf_all [16, 18] (by kernel_rfl) rfl ⟨?_, ?_, trivial⟩
             ·refine on_l 16 rfl (gy 39 rfl rfl) rfl (s_val (v_ldB1 0 ld_3 rfl rfl rfl) rfl ?_)
              unfold NxL
              refine wf_all [18] (by kernel_rfl) rfl ⟨on_l 18 rfl (gy 39 rfl rfl) rfl (s_val (v_ldB1 2 ld_9 rfl rfl rfl) rfl ?_), trivial⟩
              unfold NxL
              refine wf_all [19] (by kernel_rfl) rfl ⟨on_l 19 rfl (gy 39 rfl rfl) rfl (s_val (v_lenS un_9 rfl) rfl ?_), trivial⟩
              unfold NxL
              refine wf_all [20] (by kernel_rfl) rfl ⟨on_l 20 rfl (gy 39 rfl rfl) rfl (s_val (vBn rfl rfl rfl) rfl ?_), trivial⟩
              unfold NxL
              refine wf_all [21] (by kernel_rfl) rfl ⟨on_l 21 rfl gn rfl (s_val (v_pick (b := true) rfl rfl) rfl ?_), trivial⟩
              unfold NxL
              refine wf_all [22] (by kernel_rfl) rfl ⟨on_l 22 rfl gn rfl (s_val (vAs rfl) rfl ?_), trivial⟩
              unfold NxL
              refine wf_end (by kernel_rfl) ?_
              exact g_go [0, 1] (d1 ()) ⟨rfl, trivial⟩ (.cons _ (.cons _ (.cons _ (.slnil)))) rfl
             ·refine on_l 18 rfl (gy 39 rfl rfl) rfl (s_val (v_ldB1 2 ld_9 rfl rfl rfl) rfl ?_)
              unfold NxL
              refine wf_all [16, 19] (by kernel_rfl) rfl ⟨?_, ?_, trivial⟩
              ·refine on_l 16 rfl (gy 39 rfl rfl) rfl (s_val (v_ldB1 0 ld_3 rfl rfl rfl) rfl ?_)
               unfold NxL
               refine wf_all [19] (by kernel_rfl) rfl ⟨on_l 19 rfl (gy 39 rfl rfl) rfl (s_val (v_lenS un_9 rfl) rfl ?_), trivial⟩
               unfold NxL
               refine wf_all [20] (by kernel_rfl) rfl ⟨on_l 20 rfl (gy 39 rfl rfl) rfl (s_val (vBn rfl rfl rfl) rfl ?_), trivial⟩
               unfold NxL
               refine wf_all [21] (by kernel_rfl) rfl ⟨on_l 21 rfl gn rfl (s_val (v_pick (b := true) rfl rfl) rfl ?_), trivial⟩
               unfold NxL
               refine wf_all [22] (by kernel_rfl) rfl ⟨on_l 22 rfl gn rfl (s_val (vAs rfl) rfl ?_), trivial⟩
               unfold NxL
               refine wf_end (by kernel_rfl) ?_
               exact g_go [0, 1] (d1 ()) ⟨rfl, trivial⟩ (.cons _ (.cons _ (.cons _ (.slnil)))) rfl
              ·refine on_l 19 rfl (gy 39 rfl rfl) rfl (s_val (v_lenS un_9 rfl) rfl ?_)
               unfold NxL
               refine wf_all [16] (by kernel_rfl) rfl ⟨on_l 16 rfl (gy 39 rfl rfl) rfl (s_val (v_ldB1 0 ld_3 rfl rfl rfl) rfl ?_), trivial⟩
               unfold NxL
               refine wf_all [20] (by kernel_rfl) rfl ⟨on_l 20 rfl (gy 39 rfl rfl) rfl (s_val (vBn rfl rfl rfl) rfl ?_), trivial⟩
               unfold NxL
               refine wf_all [21] (by kernel_rfl) rfl ⟨on_l 21 rfl gn rfl (s_val (v_pick (b := true) rfl rfl) rfl ?_), trivial⟩
               unfold NxL
               refine wf_all [22] (by kernel_rfl) rfl ⟨on_l 22 rfl gn rfl (s_val (vAs rfl) rfl ?_), trivial⟩
               unfold NxL
               refine wf_end (by kernel_rfl) ?_
               exact g_go [0, 1] (d1 ()) ⟨rfl, trivial⟩ (.cons _ (.cons _ (.cons _ (.slnil)))) rfl
            ·refine on_l 18 rfl (gy 39 rfl rfl) rfl (s_val (v_ldB1 2 ld_9 rfl rfl rfl) rfl ?_)
             unfold NxL
             refine wf_all [15, 19] (by kernel_rfl) rfl ⟨?_, ?_, trivial⟩
             ·refine on_l 15 rfl (gy 39 rfl rfl) rfl (s_val (vFB fo_70_1 rfl) rfl ?_)
              unfold NxL
              refine wf_all [16, 19] (by kernel_rfl) rfl ⟨?_, ?_, trivial⟩
              ·refine on_l 16 rfl (gy 39 rfl rfl) rfl (s_val (v_ldB1 0 ld_3 rfl rfl rfl) rfl ?_)
               unfold NxL
               refine wf_all [19] (by kernel_rfl) rfl ⟨on_l 19 rfl (gy 39 rfl rfl) rfl (s_val (v_lenS un_9 rfl) rfl ?_), trivial⟩
               unfold NxL
               refine wf_all [20] (by kernel_rfl) rfl ⟨on_l 20 rfl (gy 39 rfl rfl) rfl (s_val (vBn rfl rfl rfl) rfl ?_), trivial⟩
               unfold NxL
               refine wf_all [21] (by kernel_rfl) rfl ⟨on_l 21 rfl gn rfl (s_val (v_pick (b := true) rfl rfl) rfl ?_), trivial⟩
               unfold NxL
               refine wf_all [22] (by kernel_rfl) rfl ⟨on_l 22 rfl gn rfl (s_val (vAs rfl) rfl ?_), trivial⟩
               unfold NxL
               refine wf_end (by kernel_rfl) ?_
               exact g_go [0, 1] (d1 ()) ⟨rfl, trivial⟩ (.cons _ (.cons _ (.cons _ (.slnil)))) rfl
              ·refine on_l 19 rfl (gy 39 rfl rfl) rfl (s_val (v_lenS un_9 rfl) rfl ?_)
               unfold NxL
               refine wf_all [16] (by kernel_rfl) rfl ⟨on_l 16 rfl (gy 39 rfl rfl) rfl (s_val (v_ldB1 0 ld_3 rfl rfl rfl) rfl ?_), trivial⟩
               unfold NxL
               refine wf_all [20] (by kernel_rfl) rfl ⟨on_l 20 rfl (gy 39 rfl rfl) rfl (s_val (vBn rfl rfl rfl) rfl ?_), trivial⟩
               unfold NxL
               refine wf_all [21] (by kernel_rfl) rfl ⟨on_l 21 rfl gn rfl (s_val (v_pick (b := true) rfl rfl) rfl ?_), trivial⟩
               unfold NxL
               refine wf_all [22] (by kernel_rfl) rfl ⟨on_l 22 rfl gn rfl (s_val (vAs rfl) rfl ?_), trivial⟩
               unfold NxL
               refine wf_end (by kernel_rfl) ?_
               exact g_go [0, 1] (d1 ()) ⟨rfl, trivial⟩ (.cons _ (.cons _ (.cons _ (.slnil)))) rfl
             ·refine on_l 19 rfl (gy 39 rfl rfl) rfl (s_val (v_lenS un_9 rfl) rfl ?_)
              unfold NxL
              refine wf_all [15] (by kernel_rfl) rfl ⟨on_l 15 rfl (gy 39 rfl rfl) rfl (s_val (vFB fo_70_1 rfl) rfl ?_), trivial⟩
              unfold NxL
              refine wf_all [16] (by kernel_rfl) rfl ⟨on_l 16 rfl (gy 39 rfl rfl) rfl (s_val (v_ldB1 0 ld_3 rfl rfl rfl) rfl ?_), trivial⟩
              unfold NxL
              refine wf_all [20] (by kernel_rfl) rfl ⟨on_l 20 rfl (gy 39 rfl rfl) rfl (s_val (vBn rfl rfl rfl) rfl ?_), trivial⟩
              unfold NxL
              refine wf_all [21] (by kernel_rfl) rfl ⟨on_l 21 rfl gn rfl (s_val (v_pick (b := true) rfl rfl) rfl ?_), trivial⟩
              unfold NxL
              refine wf_all [22] (by kernel_rfl) rfl ⟨on_l 22 rfl gn rfl (s_val (vAs rfl) rfl ?_), trivial⟩
              unfold NxL
              refine wf_end (by kernel_rfl) ?_
              exact g_go [0, 1] (d1 ()) ⟨rfl, trivial⟩ (.cons _ (.cons _ (.cons _ (.slnil)))) rfl
           ·refine on_l 18 rfl (gy 39 rfl rfl) rfl (s_val (v_ldB1 2 ld_9 rfl rfl rfl) rfl ?_)
            unfold NxL
            refine wf_all [14, 19] (by kernel_rfl) rfl ⟨?_, ?_, trivial⟩
            ·refine on_l 14 rfl (gy 39 rfl rfl) rfl (s_val (vNc rfl) rfl ?_)
             unfold NxL
             refine wf_all [15, 19] (by kernel_rfl) rfl ⟨?_, ?_, trivial⟩
             ·refine on_l 15 rfl (gy 39 rfl rfl) rfl (s_val (vFB fo_70_1 rfl) rfl ?_)
              unfold NxL
              refine wf_all [16, 19] (by kernel_rfl) rfl ⟨?_, ?_, trivial⟩
              ·refine on_l 16 rfl (gy 39 rfl rfl) rfl (s_val (v_ldB1 0 ld_3 rfl rfl rfl) rfl ?_)
               unfold NxL
               refine wf_all [19] (by kernel_rfl) rfl ⟨on_l 19 rfl (gy 39 rfl rfl) rfl (s_val (v_lenS un_9 rfl) rfl ?_), trivial⟩
               unfold NxL
               refine wf_all [20] (by kernel_rfl) rfl ⟨on_l 20 rfl (gy 39 rfl rfl) rfl (s_val (vBn rfl rfl rfl) rfl ?_), trivial⟩
               unfold NxL
               refine wf_all [21] (by kernel_rfl) rfl ⟨on_l 21 rfl gn rfl (s_val (v_pick (b := true) rfl rfl) rfl ?_), trivial⟩
               unfold NxL
               refine wf_all [22] (by kernel_rfl) rfl ⟨on_l 22 rfl gn rfl (s_val (vAs rfl) rfl ?_), trivial⟩
               unfold NxL
               refine wf_end (by kernel_rfl) ?_
               exact g_go [0, 1] (d1 ()) ⟨rfl, trivial⟩ (.cons _ (.cons _ (.cons _ (.slnil)))) rfl
              ·refine on_l 19 rfl (gy 39 rfl rfl) rfl (s_val (v_lenS un_9 rfl) rfl ?_)
               unfold NxL
               refine wf_all [16] (by kernel_rfl) rfl ⟨on_l 16 rfl (gy 39 rfl rfl) rfl (s_val (v_ldB1 0 ld_3 rfl rfl rfl) rfl ?_), trivial⟩
               unfold NxL
               refine wf_all [20] (by kernel_rfl) rfl ⟨on_l 20 rfl (gy 39 rfl rfl) rfl (s_val (vBn rfl rfl rfl) rfl ?_), trivial⟩
               unfold NxL
               refine wf_all [21] (by kernel_rfl) rfl ⟨on_l 21 rfl gn rfl (s_val (v_pick (b := true) rfl rfl) rfl ?_), trivial⟩
               unfold NxL
               refine wf_all [22] (by kernel_rfl) rfl ⟨on_l 22 rfl gn rfl (s_val (vAs rfl) rfl ?_), trivial⟩
               unfold NxL
               refine wf_end (by kernel_rfl) ?_
               exact g_go [0, 1] (d1 ()) ⟨rfl, trivial⟩ (.cons _ (.cons _ (.cons _ (.slnil)))) rfl
             ·refine on_l 19 rfl (gy 39 rfl rfl) rfl (s_val (v_lenS un_9 rfl) rfl ?_)
              unfold NxL
              refine wf_all [15] (by kernel_rfl) rfl ⟨on_l 15 rfl (gy 39 rfl rfl) rfl (s_val (vFB fo_70_1 rfl) rfl ?_), trivial⟩
              unfold NxL
              refine wf_all [16] (by kernel_rfl) rfl ⟨on_l 16 rfl (gy 39 rfl rfl) rfl (s_val (v_ldB1 0 ld_3 rfl rfl rfl) rfl ?_), trivial⟩
              unfold NxL
              refine wf_all [20] (by kernel_rfl) rfl ⟨on_l 20 rfl (gy 39 rfl rfl) rfl (s_val (vBn rfl rfl rfl) rfl ?_), trivial⟩
              unfold NxL
              refine wf_all [21] (by kernel_rfl) rfl ⟨on_l 21 rfl gn rfl (s_val (v_pick (b := true) rfl rfl) rfl ?_), trivial⟩
              unfold NxL
              refine wf_all [22] (by kernel_rfl) rfl ⟨on_l 22 rfl gn rfl (s_val (vAs rfl) rfl ?_), trivial⟩
              unfold NxL
              refine wf_end (by kernel_rfl) ?_
              exact g_go [0, 1] (d1 ()) ⟨rfl, trivial⟩ (.cons _ (.cons _ (.cons _ (.slnil)))) rfl
            ·refine on_l 19 rfl (gy 39 rfl rfl) rfl (s_val (v_lenS un_9 rfl) rfl ?_)
             unfold NxL
             refine wf_all [14] (by kernel_rfl) rfl ⟨on_l 14 rfl (gy 39 rfl rfl) rfl (s_val (vNc rfl) rfl ?_), trivial⟩
             unfold NxL
             refine wf_all [15] (by kernel_rfl) rfl ⟨on_l 15 rfl (gy 39 rfl rfl) rfl (s_val (vFB fo_70_1 rfl) rfl ?_), trivial⟩
             unfold NxL
             refine wf_all [16] (by kernel_rfl) rfl ⟨on_l 16 rfl (gy 39 rfl rfl) rfl (s_val (v_ldB1 0 ld_3 rfl rfl rfl) rfl ?_), trivial⟩
             unfold NxL
             refine wf_all [20] (by kernel_rfl) rfl ⟨on_l 20 rfl (gy 39 rfl rfl) rfl (s_val (vBn rfl rfl rfl) rfl ?_), trivial⟩
             unfold NxL
             refine wf_all [21] (by kernel_rfl) rfl ⟨on_l 21 rfl gn rfl (s_val (v_pick (b := true) rfl rfl) rfl ?_), trivial⟩
             unfold NxL
             refine wf_all [22] (by kernel_rfl) rfl ⟨on_l 22 rfl gn rfl (s_val (vAs rfl) rfl ?_), trivial⟩
             unfold NxL
             refine wf_end (by kernel_rfl) ?_
             exact g_go [0, 1] (d1 ()) ⟨rfl, trivial⟩ (.cons _ (.cons _ (.cons _ (.slnil)))) rfl
          ·refine on_l 18 rfl (gy 39 rfl rfl) rfl (s_val (v_ldB1 2 ld_9 rfl rfl rfl) rfl ?_)
           unfold NxL
           refine wf_all [13, 19] (by kernel_rfl) rfl ⟨?_, ?_, trivial⟩
           ·refine on_l 13 rfl (gy 39 rfl rfl) rfl (s_val (vMv rfl) rfl ?_)
            unfold NxL
            refine wf_all [14, 19] (by kernel_rfl) rfl ⟨?_, ?_, trivial⟩
            ·refine on_l 14 rfl (gy 39 rfl rfl) rfl (s_val (vNc rfl) rfl ?_)
             unfold NxL
             refine wf_all [15, 19] (by kernel_rfl) rfl ⟨?_, ?_, trivial⟩
             ·refine on_l 15 rfl (gy 39 rfl rfl) rfl (s_val (vFB fo_70_1 rfl) rfl ?_)
              unfold NxL
              refine wf_all [16, 19] (by kernel_rfl) rfl ⟨?_, ?_, trivial⟩
              ·refine on_l 16 rfl (gy 39 rfl rfl) rfl (s_val (v_ldB1 0 ld_3 rfl rfl rfl) rfl ?_)
               unfold NxL
               refine wf_all [19] (by kernel_rfl) rfl ⟨on_l 19 rfl (gy 39 rfl rfl) rfl (s_val (v_lenS un_9 rfl) rfl ?_), trivial⟩
               unfold NxL
               refine wf_all [20] (by kernel_rfl) rfl ⟨on_l 20 rfl (gy 39 rfl rfl) rfl (s_val (vBn rfl rfl rfl) rfl ?_), trivial⟩
               unfold NxL
               refine wf_all [21] (by kernel_rfl) rfl ⟨on_l 21 rfl gn rfl (s_val (v_pick (b := true) rfl rfl) rfl ?_), trivial⟩
               unfold NxL
               refine wf_all [22] (by kernel_rfl) rfl ⟨on_l 22 rfl gn rfl (s_val (vAs rfl) rfl ?_), trivial⟩
               unfold NxL
               refine wf_end (by kernel_rfl) ?_
               exact g_go [0, 1] (d1 ()) ⟨rfl, trivial⟩ (.cons _ (.cons _ (.cons _ (.slnil)))) rfl
              ·refine on_l 19 rfl (gy 39 rfl rfl) rfl (s_val (v_lenS un_9 rfl) rfl ?_)
               unfold NxL
               refine wf_all [16] (by kernel_rfl) rfl ⟨on_l 16 rfl (gy 39 rfl rfl) rfl (s_val (v_ldB1 0 ld_3 rfl rfl rfl) rfl ?_), trivial⟩
               unfold NxL
               refine wf_all [20] (by kernel_rfl) rfl ⟨on_l 20 rfl (gy 39 rfl rfl) rfl (s_val (vBn rfl rfl rfl) rfl ?_), trivial⟩
               unfold NxL
               refine wf_all [21] (by kernel_rfl) rfl ⟨on_l 21 rfl gn rfl (s_val (v_pick (b := true) rfl rfl) rfl ?_), trivial⟩
               unfold NxL
               refine wf_all [22] (by kernel_rfl) rfl ⟨on_l 22 rfl gn rfl (s_val (vAs rfl) rfl ?_), trivial⟩
               unfold NxL
               refine wf_end (by kernel_rfl) ?_
               exact g_go [0, 1] (d1 ()) ⟨rfl, trivial⟩ (.cons _ (.cons _ (.cons _ (.slnil)))) rfl
             ·refine on_l 19 rfl (gy 39 rfl rfl) rfl (s_val (v_lenS un_9 rfl) rfl ?_)
              unfold NxL
              refine wf_all [15] (by kernel_rfl) rfl ⟨on_l 15 rfl (gy 39 rfl rfl) rfl (s_val (vFB fo_70_1 rfl) rfl ?_), trivial⟩
              unfold NxL
              refine wf_all [16] (by kernel_rfl) rfl ⟨on_l 16 rfl (gy 39 rfl rfl) rfl (s_val (v_ldB1 0 ld_3 rfl rfl rfl) rfl ?_), trivial⟩
              unfold NxL
              refine wf_all [20] (by kernel_rfl) rfl ⟨on_l 20 rfl (gy 39 rfl rfl) rfl (s_val (vBn rfl rfl rfl) rfl ?_), trivial⟩
              unfold NxL
              refine wf_all [21] (by kernel_rfl) rfl ⟨on_l 21 rfl gn rfl (s_val (v_pick (b := true) rfl rfl) rfl ?_), trivial⟩
              unfold NxL
              refine wf_all [22] (by kernel_rfl) rfl ⟨on_l 22 rfl gn rfl (s_val (vAs rfl) rfl ?_), trivial⟩
              unfold NxL
              refine wf_end (by kernel_rfl) ?_
              exact g_go [0, 1] (d1 ()) ⟨rfl, trivial⟩ (.cons _ (.cons _ (.cons _ (.slnil)))) rfl
            ·refine on_l 19 rfl (gy 39 rfl rfl) rfl (s_val (v_lenS un_9 rfl) rfl ?_)
             unfold NxL
             refine wf_all [14] (by kernel_rfl) rfl ⟨on_l 14 rfl (gy 39 rfl rfl) rfl (s_val (vNc rfl) rfl ?_), trivial⟩
             unfold NxL
             refine wf_all [15] (by kernel_rfl) rfl ⟨on_l 15 rfl (gy 39 rfl rfl) rfl (s_val (vFB fo_70_1 rfl) rfl ?_), trivial⟩
             unfold NxL
             refine wf_all [16] (by kernel_rfl) rfl ⟨on_l 16 rfl (gy 39 rfl rfl) rfl (s_val (v_ldB1 0 ld_3 rfl rfl rfl) rfl ?_), trivial⟩
             unfold NxL
             refine wf_all [20] (by kernel_rfl) rfl ⟨on_l 20 rfl (gy 39 rfl rfl) rfl (s_val (vBn rfl rfl rfl) rfl ?_), trivial⟩
             unfold NxL
             refine wf_all [21] (by kernel_rfl) rfl ⟨on_l 21 rfl gn rfl (s_val (v_pick (b := true) rfl rfl) rfl ?_), trivial⟩
             unfold NxL
             refine wf_all [22] (by kernel_rfl) rfl ⟨on_l 22 rfl gn rfl (s_val (vAs rfl) rfl ?_), trivial⟩
             unfold NxL
             refine wf_end (by kernel_rfl) ?_
             exact g_go [0, 1] (d1 ()) ⟨rfl, trivial⟩ (.cons _ (.cons _ (.cons _ (.slnil)))) rfl
           ·refine on_l 19 rfl (gy 39 rfl rfl) rfl (s_val (v_lenS un_9 rfl) rfl ?_)
            unfold NxL
            refine wf_all [13] (by kernel_rfl) rfl ⟨on_l 13 rfl (gy 39 rfl rfl) rfl (s_val (vMv rfl) rfl ?_), trivial⟩
            unfold NxL
            refine wf_all [14] (by kernel_rfl) rfl ⟨on_l 14 rfl (gy 39 rfl rfl) rfl (s_val (vNc rfl) rfl ?_), trivial⟩
            unfold NxL
            refine wf_all [15] (by kernel_rfl) rfl ⟨on_l 15 rfl (gy 39 rfl rfl) rfl (s_val (vFB fo_70_1 rfl) rfl ?_), trivial⟩
            unfold NxL
            refine wf_all [16] (by kernel_rfl) rfl ⟨on_l 16 rfl (gy 39 rfl rfl) rfl (s_val (v_ldB1 0 ld_3 rfl rfl rfl) rfl ?_), trivial⟩
            unfold NxL
            refine wf_all [20] (by kernel_rfl) rfl ⟨on_l 20 rfl (gy 39 rfl rfl) rfl (s_val (vBn rfl rfl rfl) rfl ?_), trivial⟩
            unfold NxL
            refine wf_all [21] (by kernel_rfl) rfl ⟨on_l 21 rfl gn rfl (s_val (v_pick (b := true) rfl rfl) rfl ?_), trivial⟩
            unfold NxL
            refine wf_all [22] (by kernel_rfl) rfl ⟨on_l 22 rfl gn rfl (s_val (vAs rfl) rfl ?_), trivial⟩
            unfold NxL
            refine wf_end (by kernel_rfl) ?_
            exact g_go [0, 1] (d1 ()) ⟨rfl, trivial⟩ (.cons _ (.cons _ (.cons _ (.slnil)))) rfl
        ·have h := if_neg' hp44 h
         have d2 : ∀ (_ : Unit), G (json_sound_C w F r) [.code q50c33, .inBlock 0, .code q50c12] [(2, .bool false)] [] [Sm w.heap.size F w [], St w []] := by
          intro _
          refine g_retR (c := q50c33) [.bool false] rfl Tryd.func50 rfl (.tmp rfl (.nil)) fun wr hLr => ?_
          have hMr : B.Loc w wr [] [St w []] := hLr.pick0 (sels [1] rfl)
          show json_sound_R w F  r (.returned (packV [.bool false])) wr
          rw [h]
          exact ⟨rfl, hMr⟩
         have hns : Region.noSelect (Code.ops q50c32) = true := by kernel_rfl
         refine g_drawF (c := q50c32) [.own (.slice none 0 0) 31 4 0 (([] : List JNd).flatMap eJN), .box gb21 70 [.string x1.text, .int .i64 0, .slice none 0 0, .int .i64 0, .int .i64 0], .box gb2 31 [.int .i64 x1.kind, .string x1.key, .string x1.text, .int .i64 x1.kids]] [Sm w.heap.size F w [], St w []] [10, 11, 12, 13, 14, 15, 16, 17, 18, 19, 20, 21, 22] 23 rfl rfl mix rfl (.cons_cons _ (.cons_cons _ (.cons_cons _ (.slnil)))) (sels [0, 1] rfl) ?_
         refine wfv 0 rfl (vFB fo_31_3 rfl) gn hns (by kernel_rfl) ?_
         refine wfv 1 rfl (v_ldB1 2 ld_3 rfl rfl rfl) gn hns (by kernel_rfl) ?_
         refine wfv 2 rfl (vBn rfl rfl rfl) gn hns (by kernel_rfl) ?_
         refine wfv 3 rfl (vMv rfl) gn hns (by kernel_rfl) ?_
         refine wf_bool 30 rfl ((eqi hp29)) ?_
         refine wfv 4 rfl (vFB fo_31_2 rfl) (gy 30 rfl rfl) hns (by kernel_rfl) ?_
         refine wfv 5 rfl (v_ldB1 2 ld_9 rfl rfl rfl) (gy 30 rfl rfl) hns (by kernel_rfl) ?_
         refine wfv 6 rfl (v_neS rfl rfl) (gy 30 rfl rfl) hns (by kernel_rfl) ?_
         refine wfv 7 rfl (v_pick (b := true) rfl rfl) gn hns (by kernel_rfl) ?_
         refine wfv 8 rfl (vMv rfl) gn hns (by kernel_rfl) ?_
         refine wf_bool 35 rfl ((nt (seq_f hp30))) ?_
         refine wfv 9 rfl (vMv rfl) (gy 35 rfl rfl) hns (by kernel_rfl) ?_
         refine wf_all [10] (by kernel_rfl) rfl ⟨on_l 10 rfl (gy 35 rfl rfl) rfl (sCl [.pointer (some ⟨gb21, 0, none⟩)] rfl Tryd.func59 rfl rfl rfl fun w77 hL78 => ?_), trivial⟩
         have hp79 : List.Perm ([.own (.slice none 0 0) 31 4 0 (([] : List JNd).flatMap eJN), .box gb21 70 [.string x1.text, .int .i64 0, .slice none 0 0, .int .i64 0, .int .i64 0], .box gb2 31 [.int .i64 x1.kind, .string x1.key, .string x1.text, .int .i64 x1.kids]] : List Ent) (([.box gb21 70 [.string x1.text, .int .i64 0, .slice none 0 0, .int .i64 0, .int .i64 0], .own (.slice none 0 0) 31 4 0 (([] : List JNd).flatMap eJN)] : List Ent) ++ ([.box gb2 31 [.int .i64 x1.kind, .string x1.key, .string x1.text, .int .i64 x1.kids]] : List Ent)) := pIx [1, 0] [2] rfl rfl (by kernel_rfl)
         refine Calls.mono (jps_number_calls w77 (Fl ([] : List Snap)) (⟨x1.text, 0, ([] : List JNd), 0, 0⟩ : jps) gb21 70 w.heap.size none 0 0 hL78.env.size (Ow.nil (z := w.heap.size)) (hL78.hFl (Sl := ([] : List Snap)) hp79 (sels [] rfl)) (hL78.into hp79 (Fl ([] : List Snap))) r34 hv35) ?_
         rintro _ w84 ⟨A80, n81, c82, rfl, hM85, h83⟩
         have hL86 := hL78.call hp79 hM85
         refine ⟨_, _, _, rfl, hL86, ?_⟩
         unfold NxL
         refine wf_all [11] (by kernel_rfl) rfl ⟨on_l 11 rfl gn rfl (s_val (v_pick (b := true) rfl rfl) rfl ?_), trivial⟩
         unfold NxL
         refine wf_all [12] (by kernel_rfl) rfl ⟨on_l 12 rfl gn rfl (s_val (vMv rfl) rfl ?_), trivial⟩
         unfold NxL
         refine wf_bool 39 rfl ((bf hp44)) ?_
         refine wf_all [13, 17] (by kernel_rfl) rfl ⟨?_, ?_, trivial⟩
         ·refine on_p 13 rfl (ps 39 rfl rfl rfl) (.inr rfl) ?_
          refine wf_all [14, 17] (by kernel_rfl) rfl ⟨?_, ?_, trivial⟩
          ·refine on_p 14 rfl (ps 39 rfl rfl rfl) (.inr rfl) ?_
           refine wf_all [15, 17] (by kernel_rfl) rfl ⟨?_, ?_, trivial⟩
           ·refine on_p 15 rfl (ps 39 rfl rfl rfl) (.inr rfl) ?_
            refine wf_all [16, 17] (by kernel_rfl) rfl ⟨?_, ?_, trivial⟩
            ·refine on_p 16 rfl (ps 39 rfl rfl rfl) (.inr rfl) ?_
             refine wf_all [17] (by kernel_rfl) rfl ⟨on_p 17 rfl (ps 39 rfl rfl rfl) (.inr rfl) ?_, trivial⟩
             refine wf_all [18] (by kernel_rfl) rfl ⟨on_p 18 rfl (ps 39 rfl rfl rfl) (.inr rfl) ?_, trivial⟩
             refine wf_all [19] (by kernel_rfl) rfl ⟨on_p 19 rfl (ps 39 rfl rfl rfl) (.inr rfl) ?_, trivial⟩
             refine wf_all [20] (by kernel_rfl) rfl ⟨on_p 20 rfl (ps 39 rfl rfl rfl) (.inr rfl) ?_, trivial⟩
             refine wf_all [21] (by kernel_rfl) rfl ⟨on_l 21 rfl gn rfl (s_val (v_pick (b := false) rfl rfl) rfl ?_), trivial⟩
             unfold NxL
             refine wf_all [22] (by kernel_rfl) rfl ⟨on_l 22 rfl gn rfl (s_val (vAs rfl) rfl ?_), trivial⟩
             unfold NxL
             refine wf_end (by kernel_rfl) ?_
             exact g_go [0, 1] (d2 ()) ⟨rfl, trivial⟩ (.cons _ (.cons _ (.cons _ (.slnil)))) rfl
            ·refine on_p 17 rfl (ps 39 rfl rfl rfl) (.inr rfl) ?_
             refine wf_all [16, 18] (by kernel_rfl) rfl ⟨?_, ?_, trivial⟩
             ·refine on_p 16 rfl (ps 39 rfl rfl rfl) (.inr rfl) ?_
              refine wf_all [18] (by kernel_rfl) rfl ⟨on_p 18 rfl (ps 39 rfl rfl rfl) (.inr rfl) ?_, trivial⟩
              refine wf_all [19] (by kernel_rfl) rfl ⟨on_p 19 rfl (ps 39 rfl rfl rfl) (.inr rfl) ?_, trivial⟩
              refine wf_all [20] (by kernel_rfl) rfl ⟨on_p 20 rfl (ps 39 rfl rfl rfl) (.inr rfl) ?_, trivial⟩
              refine wf_all [21] (by kernel_rfl) rfl ⟨on_l 21 rfl gn rfl (s_val (v_pick (b := false) rfl rfl) rfl ?_), trivial⟩
              unfold NxL
              refine wf_all [22] (by kernel_rfl) rfl ⟨on_l 22 rfl gn rfl (s_val (vAs rfl) rfl ?_), trivial⟩
              unfold NxL
              refine wf_end (by kernel_rfl) ?_
              exact g_go [0, 1] (d2 ()) ⟨rfl, trivial⟩ (.cons _ (.cons _ (.cons _ (.slnil)))) rfl
             ·refine on_p 18 rfl (ps 39 rfl rfl rfl) (.inr rfl) ?_
              refine wf_all [16, 19] (by kernel_rfl) rfl ⟨?_, ?_, trivial⟩
              ·refine on_p 16 rfl (ps 39 rfl rfl rfl) (.inr rfl) ?_
               refine wf_all [19] (by kernel_rfl) rfl ⟨on_p 19 rfl (ps 39 rfl rfl rfl) (.inr rfl) ?_, trivial⟩
               refine wf_all [20] (by kernel_rfl) rfl ⟨on_p 20 rfl (ps 39 rfl rfl rfl) (.inr rfl) ?_, trivial⟩
               refine wf_all [21] (by kernel_rfl) rfl ⟨on_l 21 rfl gn rfl (s_val (v_pick (b := false) rfl rfl) rfl ?_), trivial⟩
               unfold NxL
               refine wf_all [22] (by kernel_rfl) rfl ⟨on_l 22 rfl gn rfl (s_val (vAs rfl) rfl ?_), trivial⟩
               unfold NxL
               refine wf_end (by kernel_rfl) ?_
               exact g_go [0, 1] (d2 ()) ⟨rfl, trivial⟩ (.cons _ (.cons _ (.cons _ (.slnil)))) rfl
              ·refine on_p 19 rfl (ps 39 rfl rfl rfl) (.inr rfl) ?_
               refine wf_all [16] (by kernel_rfl) rfl ⟨on_p 16 rfl (ps 39 rfl rfl rfl) (.inr rfl) ?_, trivial⟩
               refine wf_all [20] (by kernel_rfl) rfl ⟨on_p 20 rfl (ps 39 rfl rfl rfl) (.inr rfl) ?_, trivial⟩
               refine wf_all [21] (by kernel_rfl) rfl ⟨on_l 21 rfl gn rfl (s_val (v_pick (b := false) rfl rfl) rfl ?_), trivial⟩
               unfold NxL
               refine wf_all [22] (by kernel_rfl) rfl ⟨on_l 22 rfl gn rfl (s_val (vAs rfl) rfl ?_), trivial⟩
               unfold NxL
               refine wf_end (by kernel_rfl) ?_
               exact g_go [0, 1] (d2 ()) ⟨rfl, trivial⟩ (.cons _ (.cons _ (.cons _ (.slnil)))) rfl
           ·refine on_p 17 rfl (ps 39 rfl rfl rfl) (.inr rfl) ?_
            refine wf_all [15, 18] (by kernel_rfl) rfl ⟨?_, ?_, trivial⟩
            ·refine on_p 15 rfl (ps 39 rfl rfl rfl) (.inr rfl) ?_
             refine wf_all [16, 18] (by kernel_rfl) rfl ⟨?_, ?_, trivial⟩
             ·refine on_p 16 rfl (ps 39 rfl rfl rfl) (.inr rfl) ?_
              refine wf_all [18] (by kernel_rfl) rfl ⟨on_p 18 rfl (ps 39 rfl rfl rfl) (.inr rfl) ?_, trivial⟩
              refine wf_all [19] (by kernel_rfl) rfl ⟨on_p 19 rfl (ps 39 rfl rfl rfl) (.inr rfl) ?_, trivial⟩
              refine wf_all [20] (by kernel_rfl) rfl ⟨on_p 20 rfl (ps 39 rfl rfl rfl) (.inr rfl) ?_, trivial⟩
              refine wf_all [21] (by kernel_rfl) rfl ⟨on_l 21 rfl gn rfl (s_val (v_pick (b := false) rfl rfl) rfl ?_), trivial⟩
              unfold NxL
              refine wf_all [22] (by kernel_rfl) rfl ⟨on_l 22 rfl gn rfl (s_val (vAs rfl) rfl ?_), trivial⟩
              unfold NxL
              refine wf_end (by kernel_rfl) ?_
              exact g_go [0, 1] (d2 ()) ⟨rfl, trivial⟩ (.cons _ (.cons _ (.cons _ (.slnil)))) rfl
             ·refine on_p 18 rfl (ps 39 rfl rfl rfl) (.inr rfl) ?_
              refine wf_all [16, 19] (by kernel_rfl) rfl ⟨?_, ?_, trivial⟩
              ·refine on_p 16 rfl (ps 39 rfl rfl rfl) (.inr rfl) ?_
               refine wf_all [19] (by kernel_rfl) rfl ⟨on_p 19 rfl (ps 39 rfl rfl rfl) (.inr rfl) ?_, trivial⟩
               refine wf_all [20] (by kernel_rfl) rfl ⟨on_p 20 rfl (ps 39 rfl rfl rfl) (.inr rfl) ?_, trivial⟩
               refine wf_all [21] (by kernel_rfl) rfl ⟨on_l 21 rfl gn rfl (s_val (v_pick (b := false) rfl rfl) rfl ?_), trivial⟩
               unfold NxL
               refine wf_all [22] (by kernel_rfl) rfl ⟨on_l 22 rfl gn rfl (s_val (vAs rfl) rfl ?_), trivial⟩
               unfold NxL
               refine wf_end (by kernel_rfl) ?_
               exact g_go [0, 1] (d2 ()) ⟨rfl, trivial⟩ (.cons _ (.cons _ (.cons _ (.slnil)))) rfl
              ·refine on_p 19 rfl (ps 39 rfl rfl rfl) (.inr rfl) ?_
               refine wf_all [16] (by kernel_rfl) rfl ⟨on_p 16 rfl (ps 39 rfl rfl rfl) (.inr rfl) ?_, trivial⟩
               refine wf_all [20] (by kernel_rfl) rfl ⟨on_p 20 rfl (ps 39 rfl rfl rfl) (.inr rfl) ?_, trivial⟩
               refine wf_all [21] (by kernel_rfl) rfl ⟨on_l 21 rfl gn rfl (s_val (v_pick (b := false) rfl rfl) rfl ?_), trivial⟩
               unfold NxL
               refine wf_all [22] (by kernel_rfl) rfl ⟨on_l 22 rfl gn rfl (s_val (vAs rfl) rfl ?_), trivial⟩
               unfold NxL
               refine wf_end (by kernel_rfl) ?_
               exact g_go [0, 1] (d2 ()) ⟨rfl, trivial⟩ (.cons _ (.cons _ (.cons _ (.slnil)))) rfl
            ·refine on_p 18 rfl (ps 39 rfl rfl rfl) (.inr rfl) ?_
             refine wf_all [15, 19] (by kernel_rfl) rfl ⟨?_, ?_, trivial⟩
             ·refine on_p 15 rfl (ps 39 rfl rfl rfl) (.inr rfl) ?_
              refine wf_all [16, 19] (by kernel_rfl) rfl ⟨?_, ?_, trivial⟩
              ·refine on_p 16 rfl (ps 39 rfl rfl rfl) (.inr rfl) ?_
               refine wf_all [19] (by kernel_rfl) rfl ⟨on_p 19 rfl (ps 39 rfl rfl rfl) (.inr rfl) ?_, trivial⟩
               refine wf_all [20] (by kernel_rfl) rfl ⟨on_p 20 rfl (ps 39 rfl rfl rfl) (.inr rfl) ?_, trivial⟩
               refine wf_all [21] (by kernel_rfl) rfl ⟨on_l 21 rfl gn rfl (s_val (v_pick (b := false) rfl rfl) rfl ?_), trivial⟩
               unfold NxL
               refine wf_all [22] (by kernel_rfl) rfl ⟨on_l 22 rfl gn rfl (s_val (vAs rfl) rfl ?_), trivial⟩
               unfold NxL
               refine wf_end (by kernel_rfl) ?_
               exact g_go [0, 1] (d2 ()) ⟨rfl, trivial⟩ (.cons _ (.cons _ (.cons _ (.slnil)))) rfl
              ·refine on_p 19 rfl (ps 39 rfl rfl rfl) (.inr rfl) ?_
               refine wf_all [16] (by kernel_rfl) rfl ⟨on_p 16 rfl (ps 39 rfl rfl rfl) (.inr rfl) ?_, trivial⟩
               refine wf_all [20] (by kernel_rfl) rfl ⟨on_p 20 rfl (ps 39 rfl rfl rfl) (.inr rfl) ?_, trivial⟩
               refine wf_all [21] (by kernel_rfl) rfl ⟨on_l 21 rfl gn rfl (s_val (v_pick (b := false) rfl rfl) rfl ?_), trivial⟩
               unfold NxL
               refine wf_all [22] (by kernel_rfl) rfl ⟨on_l 22 rfl gn rfl (s_val (vAs rfl) rfl ?_), trivial⟩
               unfold NxL
               refine wf_end (by kernel_rfl) ?_
               exact g_go [0, 1] (d2 ()) ⟨rfl, trivial⟩ (.cons _ (.cons _ (.cons _ (.slnil)))) rfl
             ·refine on_p 19 rfl (ps 39 rfl rfl rfl) (.inr rfl) ?_
              refine wf_all [15] (by kernel_rfl) rfl ⟨on_p 15 rfl (ps 39 rfl rfl rfl) (.inr rfl) ?_, trivial⟩
              refine wf_all [16] (by kernel_rfl) rfl ⟨on_p 16 rfl (ps 39 rfl rfl rfl) (.inr rfl) ?_, trivial⟩
              refine wf_all [20] (by kernel_rfl) rfl ⟨on_p 20 rfl (ps 39 rfl rfl rfl) (.inr rfl) ?_, trivial⟩
              refine wf_all [21] (by kernel_rfl) rfl ⟨on_l 21 rfl gn rfl (s_val (v_pick (b := false) rfl rfl) rfl ?_), trivial⟩
              unfold NxL
              refine wf_all [22] (by kernel_rfl) rfl ⟨on_l 22 rfl gn rfl (s_val (vAs rfl) rfl ?_), trivial⟩
              unfold NxL
              refine wf_end (by kernel_rfl) ?_
              exact g_go [0, 1] (d2 ()) ⟨rfl, trivial⟩ (.cons _ (.cons _ (.cons _ (.slnil)))) rfl
          ·refine on_p 17 rfl (ps 39 rfl rfl rfl) (.inr rfl) ?_
           refine wf_all [14, 18] (by kernel_rfl) rfl ⟨?_, ?_, trivial⟩
           ·refine on_p 14 rfl (ps 39 rfl rfl rfl) (.inr rfl) ?_
            refine wf_all [15, 18] (by kernel_rfl) rfl ⟨?_, ?_, trivial⟩
            ·refine on_p 15 rfl (ps 39 rfl rfl rfl) (.inr rfl) ?_
             refine wf_all [16, 18] (by kernel_rfl) rfl ⟨?_, ?_, trivial⟩
             ·refine on_p 16 rfl (ps 39 rfl rfl rfl) (.inr rfl) ?_
              refine wf_all [18] (by kernel_rfl) rfl ⟨on_p 18 rfl (ps 39 rfl rfl rfl) (.inr rfl) ?_, trivial⟩
              refine wf_all [19] (by kernel_rfl) rfl ⟨on_p 19 rfl (ps 39 rfl rfl rfl) (.inr rfl) ?_, trivial⟩
              refine wf_all [20] (by kernel_rfl) rfl ⟨on_p 20 rfl (ps 39 rfl rfl rfl) (.inr rfl) ?_, trivial⟩
              refine wf_all [21] (by kernel_rfl) rfl ⟨on_l 21 rfl gn rfl (s_val (v_pick (b := false) rfl rfl) rfl ?_), trivial⟩
              unfold NxL
              refine wf_all [22] (by kernel_rfl) rfl ⟨on_l 22 rfl gn rfl (s_val (vAs rfl) rfl ?_), trivial⟩
              unfold NxL
              refine wf_end (by kernel_rfl) ?_
              exact g_go [0, 1] (d2 ()) ⟨rfl, trivial⟩ (.cons _ (.cons _ (.cons _ (.slnil)))) rfl
             ·refine on_p 18 rfl (ps 39 rfl rfl rfl) (.inr rfl) ?_
              refine wf_all [16, 19] (by kernel_rfl) rfl ⟨?_, ?_, trivial⟩
              ·refine on_p 16 rfl (ps 39 rfl rfl rfl) (.inr rfl) ?_
               refine wf_all [19] (by kernel_rfl) rfl ⟨on_p 19 rfl (ps 39 rfl rfl rfl) (.inr rfl) ?_, trivial⟩
               refine wf_all [20] (by kernel_rfl) rfl ⟨on_p 20 rfl (ps 39 rfl rfl rfl) (.inr rfl) ?_, trivial⟩
               refine wf_all [21] (by kernel_rfl) rfl ⟨on_l 21 rfl gn rfl (s_val (v_pick (b := false) rfl rfl) rfl ?_), trivial⟩
               unfold NxL
               refine wf_all [22] (by kernel_rfl) rfl ⟨on_l 22 rfl gn rfl (s_val (vAs rfl) rfl ?_), trivial⟩
               unfold NxL
               refine wf_end (by kernel_rfl) ?_
               exact g_go [0, 1] (d2 ()) ⟨rfl, trivial⟩ (.cons _ (.cons _ (.cons _ (.slnil)))) rfl
              ·refine on_p 19 rfl (ps 39 rfl rfl rfl) (.inr rfl) ?_
               refine wf_all [16] (by kernel_rfl) rfl ⟨on_p 16 rfl (ps 39 rfl rfl rfl) (.inr rfl) ?_, trivial⟩
               refine wf_all [20] (by kernel_rfl) rfl ⟨on_p 20 rfl (ps 39 rfl rfl rfl) (.inr rfl) ?_, trivial⟩
               refine wf_all [21] (by kernel_rfl) rfl ⟨on_l 21 rfl gn rfl (s_val (v_pick (b := false) rfl rfl) rfl ?_), trivial⟩
               unfold NxL
               refine wf_all [22] (by kernel_rfl) rfl ⟨on_l 22 rfl gn rfl (s_val (vAs rfl) rfl ?_), trivial⟩
               unfold NxL
               refine wf_end (by kernel_rfl) ?_
               exact g_go [0, 1] (d2 ()) ⟨rfl, trivial⟩ (.cons _ (.cons _ (.cons _ (.slnil)))) rfl
            ·refine on_p 18 rfl (ps 39 rfl rfl rfl) (.inr rfl) ?_
             refine wf_all [15, 19] (by kernel_rfl) rfl ⟨?_, ?_, trivial⟩
             ·refine on_p 15 rfl (ps 39 rfl rfl rfl) (.inr rfl) ?_
              refine wf_all [16, 19] (by kernel_rfl) rfl ⟨?_, ?_, trivial⟩
              ·refine on_p 16 rfl (ps 39 rfl rfl rfl) (.inr rfl) ?_
               refine wf_all [19] (by kernel_rfl) rfl ⟨on_p 19 rfl (ps 39 rfl rfl rfl) (.inr rfl) ?_, trivial⟩
               refine wf_all [20] (by kernel_rfl) rfl ⟨on_p 20 rfl (ps 39 rfl rfl rfl) (.inr rfl) ?_, trivial⟩
               refine wf_all [21] (by kernel_rfl) rfl ⟨on_l 21 rfl gn rfl (s_val (v_pick (b := false) rfl rfl) rfl ?_), trivial⟩
               unfold NxL
               refine wf_all [22] (by kernel_rfl) rfl ⟨on_l 22 rfl gn rfl (s_val (vAs rfl) rfl ?_), trivial⟩
               unfold NxL
               refine wf_end (by kernel_rfl) ?_
               exact g_go [0, 1] (d2 ()) ⟨rfl, trivial⟩ (.cons _ (.cons _ (.cons _ (.slnil)))) rfl
              ·refine on_p 19 rfl (ps 39 rfl rfl rfl) (.inr rfl) ?_
               refine wf_all [16] (by kernel_rfl) rfl ⟨on_p 16 rfl (ps 39 rfl rfl rfl) (.inr rfl) ?_, trivial⟩
               refine wf_all [20] (by kernel_rfl) rfl ⟨on_p 20 rfl (ps 39 rfl rfl rfl) (.inr rfl) ?_, trivial⟩
               refine wf_all [21] (by kernel_rfl) rfl ⟨on_l 21 rfl gn rfl (s_val (v_pick (b := false) rfl rfl) rfl ?_), trivial⟩
               unfold NxL
               refine wf_all [22] (by kernel_rfl) rfl ⟨on_l 22 rfl gn rfl (s_val (vAs rfl) rfl ?_), trivial⟩
               unfold NxL
               refine wf_end (by kernel_rfl) ?_
               exact g_go [0, 1] (d2 ()) ⟨rfl, trivial⟩ (.cons _ (.cons _ (.cons _ (.slnil)))) rfl
             ·refine on_p 19 rfl (ps 39 rfl rfl rfl) (.inr rfl) ?_
              refine wf_all [15] (by kernel_rfl) rfl ⟨on_p 15 rfl (ps 39 rfl rfl rfl) (.inr rfl) ?_, trivial⟩
              refine wf_all [16] (by kernel_rfl) rfl ⟨on_p 16 rfl (ps 39 rfl rfl rfl) (.inr rfl) ?_, trivial⟩
              refine wf_all [20] (by kernel_rfl) rfl ⟨on_p 20 rfl (ps 39 rfl rfl rfl) (.inr rfl) ?_, trivial⟩
              refine wf_all [21] (by kernel_rfl) rfl ⟨on_l 21 rfl gn rfl (s_val (v_pick (b := false) rfl rfl) rfl ?_), trivial⟩
              unfold NxL
              refine wf_all [22] (by kernel_rfl) rfl ⟨on_l 22 rfl gn rfl (s_val (vAs rfl) rfl ?_), trivial⟩
              unfold NxL
              refine wf_end (by kernel_rfl) ?_
              exact g_go [0, 1] (d2 ()) ⟨rfl, trivial⟩ (.cons _ (.cons _ (.cons _ (.slnil)))) rfl
           ·refine on_p 18 rfl (ps 39 rfl rfl rfl) (.inr rfl) ?_
            refine wf_all [14, 19] (by kernel_rfl) rfl ⟨?_, ?_, trivial⟩
            ·refine on_p 14 rfl (ps 39 rfl rfl rfl) (.inr rfl) ?_
             refine wf_all [15, 19] (by kernel_rfl) rfl ⟨?_, ?_, trivial⟩
             ·refine on_p 15 rfl (ps 39 rfl rfl rfl) (.inr rfl) ?_
              refine wf_all [16, 19] (by kernel_rfl) rfl ⟨?_, ?_, trivial⟩
              ·refine on_p 16 rfl (ps 39 rfl rfl rfl) (.inr rfl) ?_
               refine wf_all [19] (by kernel_rfl) rfl ⟨on_p 19 rfl (ps 39 rfl rfl rfl) (.inr rfl) ?_, trivial⟩
               refine wf_all [20] (by kernel_rfl) rfl ⟨on_p 20 rfl (ps 39 rfl rfl rfl) (.inr rfl) ?_, trivial⟩
               refine wf_all [21] (by kernel_rfl) rfl ⟨on_l 21 rfl gn rfl (s_val (v_pick (b := false) rfl rfl) rfl ?_), trivial⟩
               unfold NxL
               refine wf_all [22] (by kernel_rfl) rfl ⟨on_l 22 rfl gn rfl (s_val (vAs rfl) rfl ?_), trivial⟩
               unfold NxL
               refine wf_end (by kernel_rfl) ?_
               exact g_go [0, 1] (d2 ()) ⟨rfl, trivial⟩ (.cons _ (.cons _ (.cons _ (.slnil)))) rfl
              ·refine on_p 19 rfl (ps 39 rfl rfl rfl) (.inr rfl) ?_
               refine wf_all [16] (by kernel_rfl) rfl ⟨on_p 16 rfl (ps 39 rfl rfl rfl) (.inr rfl) ?_, trivial⟩
               refine wf_all [20] (by kernel_rfl) rfl ⟨on_p 20 rfl (ps 39 rfl rfl rfl) (.inr rfl) ?_, trivial⟩
               refine wf_all [21] (by kernel_rfl) rfl ⟨on_l 21 rfl gn rfl (s_val (v_pick (b := false) rfl rfl) rfl ?_), trivial⟩
               unfold NxL
               refine wf_all [22] (by kernel_rfl) rfl ⟨on_l 22 rfl gn rfl (s_val (vAs rfl) rfl ?_), trivial⟩
               unfold NxL
               refine wf_end (by kernel_rfl) ?_
               exact g_go [0, 1] (d2 ()) ⟨rfl, trivial⟩ (.cons _ (.cons _ (.cons _ (.slnil)))) rfl
             ·refine on_p 19 rfl (ps 39 rfl rfl rfl) (.inr rfl) ?_
              refine wf_all [15] (by kernel_rfl) rfl ⟨on_p 15 rfl (ps 39 rfl rfl rfl) (.inr rfl) ?_, trivial⟩
              refine wf_all [16] (by kernel_rfl) rfl ⟨on_p 16 rfl (ps 39 rfl rfl rfl) (.inr rfl) ?_, trivial⟩
              refine wf_all [20] (by kernel_rfl) rfl ⟨on_p 20 rfl (ps 39 rfl rfl rfl) (.inr rfl) ?_, trivial⟩
              refine wf_all [21] (by kernel_rfl) rfl ⟨on_l 21 rfl gn rfl (s_val (v_pick (b := false) rfl rfl) rfl ?_), trivial⟩
              unfold NxL
              refine wf_all [22] (by kernel_rfl) rfl ⟨on_l 22 rfl gn rfl (s_val (vAs rfl) rfl ?_), trivial⟩
              unfold NxL
              refine wf_end (by kernel_rfl) ?_
              exact g_go [0, 1] (d2 ()) ⟨rfl, trivial⟩ (.cons _ (.cons _ (.cons _ (.slnil)))) rfl
            ·refine on_p 19 rfl (ps 39 rfl rfl rfl) (.inr rfl) ?_
             refine wf_all [14] (by kernel_rfl) rfl ⟨on_p 14 rfl (ps 39 rfl rfl rfl) (.inr rfl) ?_, trivial⟩
             refine wf_all [15] (by kernel_rfl) rfl ⟨on_p 15 rfl (ps 39 rfl rfl rfl) (.inr rfl) ?_, trivial⟩
             refine wf_all [16] (by kernel_rfl) rfl ⟨on_p 16 rfl (ps 39 rfl rfl rfl) (.inr rfl) ?_, trivial⟩
             refine wf_all [20] (by kernel_rfl) rfl ⟨on_p 20 rfl (ps 39 rfl rfl rfl) (.inr rfl) ?_, trivial⟩
             refine wf_all [21] (by kernel_rfl) rfl ⟨on_l 21 rfl gn rfl (s_val (v_pick (b := false) rfl rfl) rfl ?_), trivial⟩
             unfold NxL
             refine wf_all [22] (by kernel_rfl) rfl ⟨on_l 22 rfl gn rfl (s_val (vAs rfl) rfl ?_), trivial⟩
             unfold NxL
             refine wf_end (by kernel_rfl) ?_
             exact g_go [0, 1] (d2 ()) ⟨rfl, trivial⟩ (.cons _ (.cons _ (.cons _ (.slnil)))) rfl
         ·refine on_p 17 rfl (ps 39 rfl rfl rfl) (.inr rfl) ?_
          refine wf_all [13, 18] (by kernel_rfl) rfl ⟨?_, ?_, trivial⟩
          ·refine on_p 13 rfl (ps 39 rfl rfl rfl) (.inr rfl) ?_
           refine wf_all [14, 18] (by kernel_rfl) rfl ⟨?_, ?_, trivial⟩
           ·refine on_p 14 rfl (ps 39 rfl rfl rfl) (.inr rfl) ?_
            refine wf_all [15, 18] (by kernel_rfl) rfl ⟨?_, ?_, trivial⟩
            ·refine on_p 15 rfl (ps 39 rfl rfl rfl) (.inr rfl) ?_
             refine wf_all [16, 18] (by kernel_rfl) rfl ⟨?_, ?_, trivial⟩
             ·refine on_p 16 rfl (ps 39 rfl rfl rfl) (.inr rfl) ?_
              refine wf_all [18] (by kernel_rfl) rfl ⟨on_p 18 rfl (ps 39 rfl rfl rfl) (.inr rfl) ?_, trivial⟩
              refine wf_all [19] (by kernel_rfl) rfl ⟨on_p 19 rfl (ps 39 rfl rfl rfl) (.inr rfl) ?_, trivial⟩
              refine wf_all [20] (by kernel_rfl) rfl ⟨on_p 20 rfl (ps 39 rfl rfl rfl) (.inr rfl) ?_, trivial⟩
              refine wf_all [21] (by kernel_rfl) rfl ⟨on_l 21 rfl gn rfl (s_val (v_pick (b := false) rfl rfl) rfl ?_), trivial⟩
              unfold NxL
              refine wf_all [22] (by kernel_rfl) rfl ⟨on_l 22 rfl gn rfl (s_val (vAs rfl) rfl ?_), trivial⟩
              unfold NxL
              refine wf_end (by kernel_rfl) ?_
              exact g_go [0, 1] (d2 ()) ⟨rfl, trivial⟩ (.cons _ (.cons _ (.cons _ (.slnil)))) rfl
             ·refine on_p 18 rfl (ps 39 rfl rfl rfl) (.inr rfl) ?_
              refine wf_all [16, 19] (by kernel_rfl) rfl ⟨?_, ?_, trivial⟩
              ·refine on_p 16 rfl (ps 39 rfl rfl rfl) (.inr rfl) ?_
               refine wf_all [19] (by kernel_rfl) rfl ⟨on_p 19 rfl (ps 39 rfl rfl rfl) (.inr rfl) ?_, trivial⟩
               refine wf_all [20] (by kernel_rfl) rfl ⟨on_p 20 rfl (ps 39 rfl rfl rfl) (.inr rfl) ?_, trivial⟩
               refine wf_all [21] (by kernel_rfl) rfl ⟨on_l 21 rfl gn rfl (s_val (v_pick (b := false) rfl rfl) rfl ?_), trivial⟩
               unfold NxL
               refine wf_all [22] (by kernel_rfl) rfl ⟨on_l 22 rfl gn rfl (s_val (vAs rfl) rfl ?_), trivial⟩
               unfold NxL
               refine wf_end (by kernel_rfl) ?_
               exact g_go [0, 1] (d2 ()) ⟨rfl, trivial⟩ (.cons _ (.cons _ (.cons _ (.slnil)))) rfl
              ·refine on_p 19 rfl (ps 39 rfl rfl rfl) (.inr rfl) ?_
               refine wf_all [16] (by kernel_rfl) rfl ⟨on_p 16 rfl (ps 39 rfl rfl rfl) (.inr rfl) ?_, trivial⟩
               refine wf_all [20] (by kernel_rfl) rfl ⟨on_p 20 rfl (ps 39 rfl rfl rfl) (.inr rfl) ?_, trivial⟩
               refine wf_all [21] (by kernel_rfl) rfl ⟨on_l 21 rfl gn rfl (s_val (v_pick (b := false) rfl rfl) rfl ?_), trivial⟩
               unfold NxL
               refine wf_all [22] (by kernel_rfl) rfl ⟨on_l 22 rfl gn rfl (s_val (vAs rfl) rfl ?_), trivial⟩
               unfold NxL
               refine wf_end (by kernel_rfl) ?_
               exact g_go [0, 1] (d2 ()) ⟨rfl, trivial⟩ (.cons _ (.cons _ (.cons _ (.slnil)))) rfl
            ·refine on_p 18 rfl (ps 39 rfl rfl rfl) (.inr rfl) ?_
             refine wf_all [15, 19] (by kernel_rfl) rfl ⟨?_, ?_, trivial⟩
             ·refine on_p 15 rfl (ps 39 rfl rfl rfl) (.inr rfl) ?_
              refine wf_all [16, 19] (by kernel_rfl) rfl ⟨?_, ?_, trivial⟩
              ·refine on_p 16 rfl (ps 39 rfl rfl rfl) (.inr rfl) ?_
               refine wf_all [19] (by kernel_rfl) rfl ⟨on_p 19 rfl (ps 39 rfl rfl rfl) (.inr rfl) ?_, trivial⟩
               refine wf_all [20] (by kernel_rfl) rfl ⟨on_p 20 rfl (ps 39 rfl rfl rfl) (.inr rfl) ?_, trivial⟩
               refine wf_all [21] (by kernel_rfl) rfl ⟨on_l 21 rfl gn rfl (s_val (v_pick (b := false) rfl rfl) rfl ?_), trivial⟩
               unfold NxL
               refine wf_all [22] (by kernel_rfl) rfl ⟨on_l 22 rfl gn rfl (s_val (vAs rfl) rfl ?_), trivial⟩
               unfold NxL
               refine wf_end (by kernel_rfl) ?_
               exact g_go [0, 1] (d2 ()) ⟨rfl, trivial⟩ (.cons _ (.cons _ (.cons _ (.slnil)))) rfl
              ·refine on_p 19 rfl (ps 39 rfl rfl rfl) (.inr rfl) ?_
               refine wf_all [16] (by kernel_rfl) rfl ⟨on_p 16 rfl (ps 39 rfl rfl rfl) (.inr rfl) ?_, trivial⟩
               refine wf_all [20] (by kernel_rfl) rfl ⟨on_p 20 rfl (ps 39 rfl rfl rfl) (.inr rfl) ?_, trivial⟩
               refine wf_all [21] (by kernel_rfl) rfl ⟨on_l 21 rfl gn rfl (s_val (v_pick (b := false) rfl rfl) rfl ?_), trivial⟩
               unfold NxL
               refine wf_all [22] (by kernel_rfl) rfl ⟨on_l 22 rfl gn rfl (s_val (vAs rfl) rfl ?_), trivial⟩
               unfold NxL
               refine wf_end (by kernel_rfl) ?_
               exact g_go [0, 1] (d2 ()) ⟨rfl, trivial⟩ (.cons _ (.cons _ (.cons _ (.slnil)))) rfl
             ·refine on_p 19 rfl (ps 39 rfl rfl rfl) (.inr rfl) ?_
              refine wf_all [15] (by kernel_rfl) rfl ⟨on_p 15 rfl (ps 39 rfl rfl rfl) (.inr rfl) ?_, trivial⟩
              refine wf_all [16] (by kernel_rfl) rfl ⟨on_p 16 rfl (ps 39 rfl rfl rfl) (.inr rfl) ?_, trivial⟩
              refine wf_all [20] (by kernel_rfl) rfl ⟨on_p 20 rfl (ps 39 rfl rfl rfl) (.inr rfl) ?_, trivial⟩
              refine wf_all [21] (by kernel_rfl) rfl ⟨on_l 21 rfl gn rfl (s_val (v_pick (b := false) rfl rfl) rfl ?_), trivial⟩
              unfold NxL
              refine wf_all [22] (by kernel_rfl) rfl ⟨on_l 22 rfl gn rfl (s_val (vAs rfl) rfl ?_), trivial⟩
              unfold NxL
              refine wf_end (by kernel_rfl) ?_
              exact g_go [0, 1] (d2 ()) ⟨rfl, trivial⟩ (.cons _ (.cons _ (.cons _ (.slnil)))) rfl
           ·refine on_p 18 rfl (ps 39 rfl rfl rfl) (.inr rfl) ?_
            refine wf_all [14, 19] (by kernel_rfl) rfl ⟨?_, ?_, trivial⟩
            ·refine on_p 14 rfl (ps 39 rfl rfl rfl) (.inr rfl) ?_
             refine wf_all [15, 19] (by kernel_rfl) rfl ⟨?_, ?_, trivial⟩
             ·refine on_p 15 rfl (ps 39 rfl rfl rfl) (.inr rfl) ?_
              refine wf_all [16, 19] (by kernel_rfl) rfl ⟨?_, ?_, trivial⟩
              ·refine on_p 16 rfl (ps 39 rfl rfl rfl) (.inr rfl) ?_
               refine wf_all [19] (by kernel_rfl) rfl ⟨on_p 19 rfl (ps 39 rfl rfl rfl) (.inr rfl) ?_, trivial⟩
               refine wf_all [20] (by kernel_rfl) rfl ⟨on_p 20 rfl (ps 39 rfl rfl rfl) (.inr rfl) ?_, trivial⟩
               refine wf_all [21] (by kernel_rfl) rfl ⟨on_l 21 rfl gn rfl (s_val (v_pick (b := false) rfl rfl) rfl ?_), trivial⟩
               unfold NxL
               refine wf_all [22] (by kernel_rfl) rfl ⟨on_l 22 rfl gn rfl (s_val (vAs rfl) rfl ?_), trivial⟩
               unfold NxL
               refine wf_end (by kernel_rfl) ?_
               exact g_go [0, 1] (d2 ()) ⟨rfl, trivial⟩ (.cons _ (.cons _ (.cons _ (.slnil)))) rfl
              ·refine on_p 19 rfl (ps 39 rfl rfl rfl) (.inr rfl) ?_
               refine wf_all [16] (by kernel_rfl) rfl ⟨on_p 16 rfl (ps 39 rfl rfl rfl) (.inr rfl) ?_, trivial⟩
               refine wf_all [20] (by kernel_rfl) rfl ⟨on_p 20 rfl (ps 39 rfl rfl rfl) (.inr rfl) ?_, trivial⟩
               refine wf_all [21] (by kernel_rfl) rfl ⟨on_l 21 rfl gn rfl (s_val (v_pick (b := false) rfl rfl) rfl ?_), trivial⟩
               unfold NxL
               refine wf_all [22] (by kernel_rfl) rfl ⟨on_l 22 rfl gn rfl (s_val (vAs rfl) rfl ?_), trivial⟩
               unfold NxL
               refine wf_end (by kernel_rfl) ?_
               exact g_go [0, 1] (d2 ()) ⟨rfl, trivial⟩ (.cons _ (.cons _ (.cons _ (.slnil)))) rfl
             ·refine on_p 19 rfl (ps 39 rfl rfl rfl) (.inr rfl) ?_
              refine wf_all [15] (by kernel_rfl) rfl ⟨on_p 15 rfl (ps 39 rfl rfl rfl) (.inr rfl) ?_, trivial⟩
              refine wf_all [16] (by kernel_rfl) rfl ⟨on_p 16 rfl (ps 39 rfl rfl rfl) (.inr rfl) ?_, trivial⟩
              refine wf_all [20] (by kernel_rfl) rfl ⟨on_p 20 rfl (ps 39 rfl rfl rfl) (.inr rfl) ?_, trivial⟩
              refine wf_all [21] (by kernel_rfl) rfl ⟨on_l 21 rfl gn rfl (s_val (v_pick (b := false) rfl rfl) rfl ?_), trivial⟩
              unfold NxL
              refine wf_all [22] (by kernel_rfl) rfl ⟨on_l 22 rfl gn rfl (s_val (vAs rfl) rfl ?_), trivial⟩
              unfold NxL
              refine wf_end (by kernel_rfl) ?_
              exact g_go [0, 1] (d2 ()) ⟨rfl, trivial⟩ (.cons _ (.cons _ (.cons _ (.slnil)))) rfl
            ·refine on_p 19 rfl (ps 39 rfl rfl rfl) (.inr rfl) ?_
             refine wf_all [14] (by kernel_rfl) rfl ⟨on_p 14 rfl (ps 39 rfl rfl rfl) (.inr rfl) ?_, trivial⟩
             refine wf_all [15] (by kernel_rfl) rfl ⟨on_p 15 rfl (ps 39 rfl rfl rfl) (.inr rfl) ?_, trivial⟩
             refine wf_all [16] (by kernel_rfl) rfl ⟨on_p 16 rfl (ps 39 rfl rfl rfl) (.inr rfl) ?_, trivial⟩
             refine wf_all [20] (by kernel_rfl) rfl ⟨on_p 20 rfl (ps 39 rfl rfl rfl) (.inr rfl) ?_, trivial⟩
             refine wf_all [21] (by kernel_rfl) rfl ⟨on_l 21 rfl gn rfl (s_val (v_pick (b := false) rfl rfl) rfl ?_), trivial⟩
             unfold NxL
             refine wf_all [22] (by kernel_rfl) rfl ⟨on_l 22 rfl gn rfl (s_val (vAs rfl) rfl ?_), trivial⟩
             unfold NxL
             refine wf_end (by kernel_rfl) ?_
             exact g_go [0, 1] (d2 ()) ⟨rfl, trivial⟩ (.cons _ (.cons _ (.cons _ (.slnil)))) rfl
          ·refine on_p 18 rfl (ps 39 rfl rfl rfl) (.inr rfl) ?_
           refine wf_all [13, 19] (by kernel_rfl) rfl ⟨?_, ?_, trivial⟩
           ·refine on_p 13 rfl (ps 39 rfl rfl rfl) (.inr rfl) ?_
            refine wf_all [14, 19] (by kernel_rfl) rfl ⟨?_, ?_, trivial⟩
            ·refine on_p 14 rfl (ps 39 rfl rfl rfl) (.inr rfl) ?_
             refine wf_all [15, 19] (by kernel_rfl) rfl ⟨?_, ?_, trivial⟩
             ·refine on_p 15 rfl (ps 39 rfl rfl rfl) (.inr rfl) ?_
              refine wf_all [16, 19] (by kernel_rfl) rfl ⟨?_, ?_, trivial⟩
              ·refine on_p 16 rfl (ps 39 rfl rfl rfl) (.inr rfl) ?_
               refine wf_all [19] (by kernel_rfl) rfl ⟨on_p 19 rfl (ps 39 rfl rfl rfl) (.inr rfl) ?_, trivial⟩
               refine wf_all [20] (by kernel_rfl) rfl ⟨on_p 20 rfl (ps 39 rfl rfl rfl) (.inr rfl) ?_, trivial⟩
               refine wf_all [21] (by kernel_rfl) rfl ⟨on_l 21 rfl gn rfl (s_val (v_pick (b := false) rfl rfl) rfl ?_), trivial⟩
               unfold NxL
               refine wf_all [22] (by kernel_rfl) rfl ⟨on_l 22 rfl gn rfl (s_val (vAs rfl) rfl ?_), trivial⟩
               unfold NxL
               refine wf_end (by kernel_rfl) ?_
               exact g_go [0, 1] (d2 ()) ⟨rfl, trivial⟩ (.cons _ (.cons _ (.cons _ (.slnil)))) rfl
              ·refine on_p 19 rfl (ps 39 rfl rfl rfl) (.inr rfl) ?_
               refine wf_all [16] (by kernel_rfl) rfl ⟨on_p 16 rfl (ps 39 rfl rfl rfl) (.inr rfl) ?_, trivial⟩
               refine wf_all [20] (by kernel_rfl) rfl ⟨on_p 20 rfl (ps 39 rfl rfl rfl) (.inr rfl) ?_, trivial⟩
               refine wf_all [21] (by kernel_rfl) rfl ⟨on_l 21 rfl gn rfl (s_val (v_pick (b := false) rfl rfl) rfl ?_), trivial⟩
               unfold NxL
               refine wf_all [22] (by kernel_rfl) rfl ⟨on_l 22 rfl gn rfl (s_val (vAs rfl) rfl ?_), trivial⟩
               unfold NxL
               refine wf_end (by kernel_rfl) ?_
               exact g_go [0, 1] (d2 ()) ⟨rfl, trivial⟩ (.cons _ (.cons _ (.cons _ (.slnil)))) rfl
             ·refine on_p 19 rfl (ps 39 rfl rfl rfl) (.inr rfl) ?_
              refine wf_all [15] (by kernel_rfl) rfl ⟨on_p 15 rfl (ps 39 rfl rfl rfl) (.inr rfl) ?_, trivial⟩
              refine wf_all [16] (by kernel_rfl) rfl ⟨on_p 16 rfl (ps 39 rfl rfl rfl) (.inr rfl) ?_, trivial⟩
              refine wf_all [20] (by kernel_rfl) rfl ⟨on_p 20 rfl (ps 39 rfl rfl rfl) (.inr rfl) ?_, trivial⟩
              refine wf_all [21] (by kernel_rfl) rfl ⟨on_l 21 rfl gn rfl (s_val (v_pick (b := false) rfl rfl) rfl ?_), trivial⟩
              unfold NxL
              refine wf_all [22] (by kernel_rfl) rfl ⟨on_l 22 rfl gn rfl (s_val (vAs rfl) rfl ?_), trivial⟩
              unfold NxL
              refine wf_end (by kernel_rfl) ?_
              exact g_go [0, 1] (d2 ()) ⟨rfl, trivial⟩ (.cons _ (.cons _ (.cons _ (.slnil)))) rfl
            ·refine on_p 19 rfl (ps 39 rfl rfl rfl) (.inr rfl) ?_
             refine wf_all [14] (by kernel_rfl) rfl ⟨on_p 14 rfl (ps 39 rfl rfl rfl) (.inr rfl) ?_, trivial⟩
             refine wf_all [15] (by kernel_rfl) rfl ⟨on_p 15 rfl (ps 39 rfl rfl rfl) (.inr rfl) ?_, trivial⟩
             refine wf_all [16] (by kernel_rfl) rfl ⟨on_p 16 rfl (ps 39 rfl rfl rfl) (.inr rfl) ?_, trivial⟩
             refine wf_all [20] (by kernel_rfl) rfl ⟨on_p 20 rfl (ps 39 rfl rfl rfl) (.inr rfl) ?_, trivial⟩
             refine wf_all [21] (by kernel_rfl) rfl ⟨on_l 21 rfl gn rfl (s_val (v_pick (b := false) rfl rfl) rfl ?_), trivial⟩
             unfold NxL
             refine wf_all [22] (by kernel_rfl) rfl ⟨on_l 22 rfl gn rfl (s_val (vAs rfl) rfl ?_), trivial⟩
             unfold NxL
             refine wf_end (by kernel_rfl) ?_
             exact g_go [0, 1] (d2 ()) ⟨rfl, trivial⟩ (.cons _ (.cons _ (.cons _ (.slnil)))) rfl
           ·refine on_p 19 rfl (ps 39 rfl rfl rfl) (.inr rfl) ?_
            refine wf_all [13] (by kernel_rfl) rfl ⟨on_p 13 rfl (ps 39 rfl rfl rfl) (.inr rfl) ?_, trivial⟩
            refine wf_all [14] (by kernel_rfl) rfl ⟨on_p 14 rfl (ps 39 rfl rfl rfl) (.inr rfl) ?_, trivial⟩
            refine wf_all [15] (by kernel_rfl) rfl ⟨on_p 15 rfl (ps 39 rfl rfl rfl) (.inr rfl) ?_, trivial⟩
            refine wf_all [16] (by kernel_rfl) rfl ⟨on_p 16 rfl (ps 39 rfl rfl rfl) (.inr rfl) ?_, trivial⟩
            refine wf_all [20] (by kernel_rfl) rfl ⟨on_p 20 rfl (ps 39 rfl rfl rfl) (.inr rfl) ?_, trivial⟩
            refine wf_all [21] (by kernel_rfl) rfl ⟨on_l 21 rfl gn rfl (s_val (v_pick (b := false) rfl rfl) rfl ?_), trivial⟩
            unfold NxL
            refine wf_all [22] (by kernel_rfl) rfl ⟨on_l 22 rfl gn rfl (s_val (vAs rfl) rfl ?_), trivial⟩
            unfold NxL
            refine wf_end (by kernel_rfl) ?_
            exact g_go [0, 1] (d2 ()) ⟨rfl, trivial⟩ (.cons _ (.cons _ (.cons _ (.slnil)))) rfl
      ·have h := if_neg' hp29 h
       have d3 : ∀ (_ : Unit), G (json_sound_C w F r) [.code q50c33, .inBlock 0, .code q50c12] [(2, .bool false)] [] [Sm w.heap.size F w [], St w []] := by
        intro _
        refine g_retR (c := q50c33) [.bool false] rfl Tryd.func50 rfl (.tmp rfl (.nil)) fun wr hLr => ?_
        have hMr : B.Loc w wr [] [St w []] := hLr.pick0 (sels [1] rfl)
        show json_sound_R w F  r (.returned (packV [.bool false])) wr
        rw [h]
        exact ⟨rfl, hMr⟩
       have hns : Region.noSelect (Code.ops q50c32) = true := by kernel_rfl
       refine g_drawF (c := q50c32) [.own (.slice none 0 0) 31 4 0 (([] : List JNd).flatMap eJN), .box gb21 70 [.string x1.text, .int .i64 0, .slice none 0 0, .int .i64 0, .int .i64 0], .box gb2 31 [.int .i64 x1.kind, .string x1.key, .string x1.text, .int .i64 x1.kids]] [Sm w.heap.size F w [], St w []] [10, 11, 12, 13, 14, 15, 16, 17, 18, 19, 20, 21, 22] 23 rfl rfl mix rfl (.cons_cons _ (.cons_cons _ (.cons_cons _ (.slnil)))) (sels [0, 1] rfl) ?_
       refine wfv 0 rfl (vFB fo_31_3 rfl) gn hns (by kernel_rfl) ?_
       refine wfv 1 rfl (v_ldB1 2 ld_3 rfl rfl rfl) gn hns (by kernel_rfl) ?_
       refine wfv 2 rfl (vBn rfl rfl rfl) gn hns (by kernel_rfl) ?_
       refine wfv 3 rfl (vMv rfl) gn hns (by kernel_rfl) ?_
       refine wf_bool 30 rfl ((nei hp29)) ?_
       refine wfp 4 rfl (ps 30 rfl rfl rfl) hns (by kernel_rfl) ?_
       refine wfp 5 rfl (ps 30 rfl rfl rfl) hns (by kernel_rfl) ?_
       refine wfp 6 rfl (ps 30 rfl rfl rfl) hns (by kernel_rfl) ?_
       refine wfv 7 rfl (v_pick (b := false) rfl rfl) gn hns (by kernel_rfl) ?_
       refine wfv 8 rfl (vMv rfl) gn hns (by kernel_rfl) ?_
       refine wfp 9 rfl (ps 35 rfl rfl rfl) hns (by kernel_rfl) ?_
       refine wf_all [10] (by kernel_rfl) rfl ⟨on_p 10 rfl (ps 35 rfl rfl rfl) (.inl rfl) ?_, trivial⟩
       refine wf_all [11] (by kernel_rfl) rfl ⟨on_l 11 rfl gn rfl (s_val (v_pick (b := false) rfl rfl) rfl ?_), trivial⟩
       unfold NxL
       refine wf_all [12] (by kernel_rfl) rfl ⟨on_l 12 rfl gn rfl (s_val (vMv rfl) rfl ?_), trivial⟩
       unfold NxL
       refine wf_all [13, 17] (by kernel_rfl) rfl ⟨?_, ?_, trivial⟩
       ·refine on_p 13 rfl (ps 39 rfl rfl rfl) (.inr rfl) ?_
        refine wf_all [14, 17] (by kernel_rfl) rfl ⟨?_, ?_, trivial⟩
        ·refine on_p 14 rfl (ps 39 rfl rfl rfl) (.inr rfl) ?_
         refine wf_all [15, 17] (by kernel_rfl) rfl ⟨?_, ?_, trivial⟩
         ·refine on_p 15 rfl (ps 39 rfl rfl rfl) (.inr rfl) ?_
          refine wf_all [16, 17] (by kernel_rfl) rfl ⟨?_, ?_, trivial⟩
          ·refine on_p 16 rfl (ps 39 rfl rfl rfl) (.inr rfl) ?_
           refine wf_all [17] (by kernel_rfl) rfl ⟨on_p 17 rfl (ps 39 rfl rfl rfl) (.inr rfl) ?_, trivial⟩
           refine wf_all [18] (by kernel_rfl) rfl ⟨on_p 18 rfl (ps 39 rfl rfl rfl) (.inr rfl) ?_, trivial⟩
           refine wf_all [19] (by kernel_rfl) rfl ⟨on_p 19 rfl (ps 39 rfl rfl rfl) (.inr rfl) ?_, trivial⟩
           refine wf_all [20] (by kernel_rfl) rfl ⟨on_p 20 rfl (ps 39 rfl rfl rfl) (.inr rfl) ?_, trivial⟩
           refine wf_all [21] (by kernel_rfl) rfl ⟨on_l 21 rfl gn rfl (s_val (v_pick (b := false) rfl rfl) rfl ?_), trivial⟩
           unfold NxL
           refine wf_all [22] (by kernel_rfl) rfl ⟨on_l 22 rfl gn rfl (s_val (vAs rfl) rfl ?_), trivial⟩
           unfold NxL
           refine wf_end (by kernel_rfl) ?_
           exact g_go [0, 1] (d3 ()) ⟨rfl, trivial⟩ (.cons _ (.cons _ (.cons _ (.slnil)))) rfl
          ·refine on_p 17 rfl (ps 39 rfl rfl rfl) (.inr rfl) ?_
           refine wf_all [16, 18] (by kernel_rfl) rfl ⟨?_, ?_, trivial⟩
           ·refine on_p 16 rfl (ps 39 rfl rfl rfl) (.inr rfl) ?_
            refine wf_all [18] (by kernel_rfl) rfl ⟨on_p 18 rfl (ps 39 rfl rfl rfl) (.inr rfl) ?_, trivial⟩
            refine wf_all [19] (by kernel_rfl) rfl ⟨on_p 19 rfl (ps 39 rfl rfl rfl) (.inr rfl) ?_, trivial⟩
            refine wf_all [20] (by kernel_rfl) rfl ⟨on_p 20 rfl (ps 39 rfl rfl rfl) (.inr rfl) ?_, trivial⟩
            refine wf_all [21] (by kernel_rfl) rfl ⟨on_l 21 rfl gn rfl (s_val (v_pick (b := false) rfl rfl) rfl ?_), trivial⟩
            unfold NxL
            refine wf_all [22] (by kernel_rfl) rfl ⟨on_l 22 rfl gn rfl (s_val (vAs rfl) rfl ?_), trivial⟩
            unfold NxL
            refine wf_end (by kernel_rfl) ?_
            exact g_go [0, 1] (d3 ()) ⟨rfl, trivial⟩ (.cons _ (.cons _ (.cons _ (.slnil)))) rfl
           ·refine on_p 18 rfl (ps 39 rfl rfl rfl) (.inr rfl) ?_
            refine wf_all [16, 19] (by kernel_rfl) rfl ⟨?_, ?_, trivial⟩
            ·refine on_p 16 rfl (ps 39 rfl rfl rfl) (.inr rfl) ?_
             refine wf_all [19] (by kernel_rfl) rfl ⟨on_p 19 rfl (ps 39 rfl rfl rfl) (.inr rfl) ?_, trivial⟩
             refine wf_all [20] (by kernel_rfl) rfl ⟨on_p 20 rfl (ps 39 rfl rfl rfl) (.inr rfl) ?_, trivial⟩
             refine wf_all [21] (by kernel_rfl) rfl ⟨on_l 21 rfl gn rfl (s_val (v_pick (b := false) rfl rfl) rfl ?_), trivial⟩
             unfold NxL
             refine wf_all [22] (by kernel_rfl) rfl ⟨on_l 22 rfl gn rfl (s_val (vAs rfl) rfl ?_), trivial⟩
             unfold NxL
             refine wf_end (by kernel_rfl) ?_
             exact g_go [0, 1] (d3 ()) ⟨rfl, trivial⟩ (.cons _ (.cons _ (.cons _ (.slnil)))) rfl
            ·refine on_p 19 rfl (ps 39 rfl rfl rfl) (.inr rfl) ?_
             refine wf_all [16] (by kernel_rfl) rfl ⟨on_p 16 rfl (ps 39 rfl rfl rfl) (.inr rfl) ?_, trivial⟩
             refine wf_all [20] (by kernel_rfl) rfl ⟨on_p 20 rfl (ps 39 rfl rfl rfl) (.inr rfl) ?_, trivial⟩
             refine wf_all [21] (by kernel_rfl) rfl ⟨on_l 21 rfl gn rfl (s_val (v_pick (b := false) rfl rfl) rfl ?_), trivial⟩
             unfold NxL
             refine wf_all [22] (by kernel_rfl) rfl ⟨on_l 22 rfl gn rfl (s_val (vAs rfl) rfl ?_), trivial⟩
             unfold NxL
             refine wf_end (by kernel_rfl) ?_
             exact g_go [0, 1] (d3 ()) ⟨rfl, trivial⟩ (.cons _ (.cons _ (.cons _ (.slnil)))) rfl
         ·refine on_p 17 rfl (ps 39 rfl rfl rfl) (.inr rfl) ?_
          refine wf_all [15, 18] (by kernel_rfl) rfl ⟨?_, ?_, trivial⟩
          ·refine on_p 15 rfl (ps 39 rfl rfl rfl) (.inr rfl) ?_
           refine wf_all [16, 18] (by kernel_rfl) rfl ⟨?_, ?_, trivial⟩
           ·refine on_p 16 rfl (ps 39 rfl rfl rfl) (.inr rfl) ?_
            refine wf_all [18] (by kernel_rfl) rfl ⟨on_p 18 rfl (ps 39 rfl rfl rfl) (.inr rfl) ?_, trivial⟩
            refine wf_all [19] (by kernel_rfl) rfl ⟨on_p 19 rfl (ps 39 rfl rfl rfl) (.inr rfl) ?_, trivial⟩
            refine wf_all [20] (by kernel_rfl) rfl ⟨on_p 20 rfl (ps 39 rfl rfl rfl) (.inr rfl) ?_, trivial⟩
            refine wf_all [21] (by kernel_rfl) rfl ⟨on_l 21 rfl gn rfl (s_val (v_pick (b := false) rfl rfl) rfl ?_), trivial⟩
            unfold NxL
            refine wf_all [22] (by kernel_rfl) rfl ⟨on_l 22 rfl gn rfl (s_val (vAs rfl) rfl ?_), trivial⟩
            unfold NxL
            refine wf_end (by kernel_rfl) ?_
            exact g_go [0, 1] (d3 ()) ⟨rfl, trivial⟩ (.cons _ (.cons _ (.cons _ (.slnil)))) rfl
           ·refine on_p 18 rfl (ps 39 rfl rfl rfl) (.inr rfl) ?_
            refine wf_all [16, 19] (by kernel_rfl) rfl ⟨?_, ?_, trivial⟩
            ·refine on_p 16 rfl (ps 39 rfl rfl rfl) (.inr rfl) ?_
             refine wf_all [19] (by kernel_rfl) rfl ⟨on_p 19 rfl (ps 39 rfl rfl rfl) (.inr rfl) ?_, trivial⟩
             refine wf_all [20] (by kernel_rfl) rfl ⟨on_p 20 rfl (ps 39 rfl rfl rfl) (.inr rfl) ?_, trivial⟩
             refine wf_all [21] (by kernel_rfl) rfl ⟨on_l 21 rfl gn rfl (s_val (v_pick (b := false) rfl rfl) rfl ?_), trivial⟩
             unfold NxL
             refine wf_all [22] (by kernel_rfl) rfl ⟨on_l 22 rfl gn rfl (s_val (vAs rfl) rfl ?_), trivial⟩
             unfold NxL
             refine wf_end (by kernel_rfl) ?_
             exact g_go [0, 1] (d3 ()) ⟨rfl, trivial⟩ (.cons _ (.cons _ (.cons _ (.slnil)))) rfl
            ·refine on_p 19 rfl (ps 39 rfl rfl rfl) (.inr rfl) ?_
             refine wf_all [16] (by kernel_rfl) rfl ⟨on_p 16 rfl (ps 39 rfl rfl rfl) (.inr rfl) ?_, trivial⟩
             refine wf_all [20] (by kernel_rfl) rfl ⟨on_p 20 rfl (ps 39 rfl rfl rfl) (.inr rfl) ?_, trivial⟩
             refine wf_all [21] (by kernel_rfl) rfl ⟨on_l 21 rfl gn rfl (s_val (v_pick (b := false) rfl rfl) rfl ?_), trivial⟩
             unfold NxL
             refine wf_all [22] (by kernel_rfl) rfl ⟨on_l 22 rfl gn rfl (s_val (vAs rfl) rfl ?_), trivial⟩
             unfold NxL
             refine wf_end (by kernel_rfl) ?_
             exact g_go [0, 1] (d3 ()) ⟨rfl, trivial⟩ (.cons _ (.cons _ (.cons _ (.slnil)))) rfl
          ·refine on_p 18 rfl (ps 39 rfl rfl rfl) (.inr rfl) ?_
           refine wf_all [15, 19] (by kernel_rfl) rfl ⟨?_, ?_, trivial⟩
           ·refine on_p 15 rfl (ps 39 rfl rfl rfl) (.inr rfl) ?_
            refine wf_all [16, 19] (by kernel_rfl) rfl ⟨?_, ?_, trivial⟩
            ·refine on_p 16 rfl (ps 39 rfl rfl rfl) (.inr rfl) ?_
             refine wf_all [19] (by kernel_rfl) rfl ⟨on_p 19 rfl (ps 39 rfl rfl rfl) (.inr rfl) ?_, trivial⟩
             refine wf_all [20] (by kernel_rfl) rfl ⟨on_p 20 rfl (ps 39 rfl rfl rfl) (.inr rfl) ?_, trivial⟩
             refine wf_all [21] (by kernel_rfl) rfl ⟨on_l 21 rfl gn rfl (s_val (v_pick (b := false) rfl rfl) rfl ?_), trivial⟩
             unfold NxL
             refine wf_all [22] (by kernel_rfl) rfl ⟨on_l 22 rfl gn rfl (s_val (vAs rfl) rfl ?_), trivial⟩
             unfold NxL
             refine wf_end (by kernel_rfl) ?_
             exact g_go [0, 1] (d3 ()) ⟨rfl, trivial⟩ (.cons _ (.cons _ (.cons _ (.slnil)))) rfl
            ·refine on_p 19 rfl (ps 39 rfl rfl rfl) (.inr rfl) ?_
             refine wf_all [16] (by kernel_rfl) rfl ⟨on_p 16 rfl (ps 39 rfl rfl rfl) (.inr rfl) ?_, trivial⟩
             refine wf_all [20] (by kernel_rfl) rfl ⟨on_p 20 rfl (ps 39 rfl rfl rfl) (.inr rfl) ?_, trivial⟩
             refine wf_all [21] (by kernel_rfl) rfl ⟨on_l 21 rfl gn rfl (s_val (v_pick (b := false) rfl rfl) rfl ?_), trivial⟩
             unfold NxL
             refine wf_all [22] (by kernel_rfl) rfl ⟨on_l 22 rfl gn rfl (s_val (vAs rfl) rfl ?_), trivial⟩
             unfold NxL
             refine wf_end (by kernel_rfl) ?_
             exact g_go [0, 1] (d3 ()) ⟨rfl, trivial⟩ (.cons _ (.cons _ (.cons _ (.slnil)))) rfl
           ·refine on_p 19 rfl (ps 39 rfl rfl rfl) (.inr rfl) ?_
            refine wf_all [15] (by kernel_rfl) rfl ⟨on_p 15 rfl (ps 39 rfl rfl rfl) (.inr rfl) ?_, trivial⟩
            refine wf_all [16] (by kernel_rfl) rfl ⟨on_p 16 rfl (ps 39 rfl rfl rfl) (.inr rfl) ?_, trivial⟩
            refine wf_all [20] (by kernel_rfl) rfl ⟨on_p 20 rfl (ps 39 rfl rfl rfl) (.inr rfl) ?_, trivial⟩
            refine wf_all [21] (by kernel_rfl) rfl ⟨on_l 21 rfl gn rfl (s_val (v_pick (b := false) rfl rfl) rfl ?_), trivial⟩
            unfold NxL
            refine wf_all [22] (by kernel_rfl) rfl ⟨on_l 22 rfl gn rfl (s_val (vAs rfl) rfl ?_), trivial⟩
            unfold NxL
            refine wf_end (by kernel_rfl) ?_
            exact g_go [0, 1] (d3 ()) ⟨rfl, trivial⟩ (.cons _ (.cons _ (.cons _ (.slnil)))) rfl
        ·refine on_p 17 rfl (ps 39 rfl rfl rfl) (.inr rfl) ?_
         refine wf_all [14, 18] (by kernel_rfl) rfl ⟨?_, ?_, trivial⟩
         ·refine on_p 14 rfl (ps 39 rfl rfl rfl) (.inr rfl) ?_
          refine wf_all [15, 18] (by kernel_rfl) rfl ⟨?_, ?_, trivial⟩
          ·refine on_p 15 rfl (ps 39 rfl rfl rfl) (.inr rfl) ?_
           refine wf_all [16, 18] (by kernel_rfl) rfl ⟨?_, ?_, trivial⟩
           ·refine on_p 16 rfl (ps 39 rfl rfl rfl) (.inr rfl) ?_
            refine wf_all [18] (by kernel_rfl) rfl ⟨on_p 18 rfl (ps 39 rfl rfl rfl) (.inr rfl) ?_, trivial⟩
            refine wf_all [19] (by kernel_rfl) rfl ⟨on_p 19 rfl (ps 39 rfl rfl rfl) (.inr rfl) ?_, trivial⟩
            refine wf_all [20] (by kernel_rfl) rfl ⟨on_p 20 rfl (ps 39 rfl rfl rfl) (.inr rfl) ?_, trivial⟩
            refine wf_all [21] (by kernel_rfl) rfl ⟨on_l 21 rfl gn rfl (s_val (v_pick (b := false) rfl rfl) rfl ?_), trivial⟩
            unfold NxL
            refine wf_all [22] (by kernel_rfl) rfl ⟨on_l 22 rfl gn rfl (s_val (vAs rfl) rfl ?_), trivial⟩
            unfold NxL
            refine wf_end (by kernel_rfl) ?_
            exact g_go [0, 1] (d3 ()) ⟨rfl, trivial⟩ (.cons _ (.cons _ (.cons _ (.slnil)))) rfl
           ·refine on_p 18 rfl (ps 39 rfl rfl rfl) (.inr rfl) ?_
            refine wf_all [16, 19] (by kernel_rfl) rfl ⟨?_, ?_, trivial⟩
            ·refine on_p 16 rfl (ps 39 rfl rfl rfl) (.inr rfl) ?_
             refine wf_all [19] (by kernel_rfl) rfl ⟨on_p 19 rfl (ps 39 rfl rfl rfl) (.inr rfl) ?_, trivial⟩
             refine wf_all [20] (by kernel_rfl) rfl ⟨on_p 20 rfl (ps 39 rfl rfl rfl) (.inr rfl) ?_, trivial⟩
             refine wf_all [21] (by kernel_rfl) rfl ⟨on_l 21 rfl gn rfl (s_val (v_pick (b := false) rfl rfl) rfl ?_), trivial⟩
             unfold NxL
             refine wf_all [22] (by kernel_rfl) rfl ⟨on_l 22 rfl gn rfl (s_val (vAs rfl) rfl ?_), trivial⟩
             unfold NxL
             refine wf_end (by kernel_rfl) ?_
             exact g_go [0, 1] (d3 ()) ⟨rfl, trivial⟩ (.cons _ (.cons _ (.cons _ (.slnil)))) rfl
            ·refine on_p 19 rfl (ps 39 rfl rfl rfl) (.inr rfl) ?_
             refine wf_all [16] (by kernel_rfl) rfl ⟨on_p 16 rfl (ps 39 rfl rfl rfl) (.inr rfl) ?_, trivial⟩
             refine wf_all [20] (by kernel_rfl) rfl ⟨on_p 20 rfl (ps 39 rfl rfl rfl) (.inr rfl) ?_, trivial⟩
             refine wf_all [21] (by kernel_rfl) rfl ⟨on_l 21 rfl gn rfl (s_val (v_pick (b := false) rfl rfl) rfl ?_), trivial⟩
             unfold NxL
             refine wf_all [22] (by kernel_rfl) rfl ⟨on_l 22 rfl gn rfl (s_val (vAs rfl) rfl ?_), trivial⟩
             unfold NxL
             refine wf_end (by kernel_rfl) ?_
             exact g_go [0, 1] (d3 ()) ⟨rfl, trivial⟩ (.cons _ (.cons _ (.cons _ (.slnil)))) rfl
          ·refine on_p 18 rfl (ps 39 rfl rfl rfl) (.inr rfl) ?_
           refine wf_all [15, 19] (by kernel_rfl) rfl ⟨?_, ?_, trivial⟩
           ·refine on_p 15 rfl (ps 39 rfl rfl rfl) (.inr rfl) ?_
            refine wf_all [16, 19] (by kernel_rfl) rfl ⟨?_, ?_, trivial⟩
            ·refine on_p 16 rfl (ps 39 rfl rfl rfl) (.inr rfl) ?_
             refine wf_all [19] (by kernel_rfl) rfl ⟨on_p 19 rfl (ps 39 rfl rfl rfl) (.inr rfl) ?_, trivial⟩
             refine wf_all [20] (by kernel_rfl) rfl ⟨on_p 20 rfl (ps 39 rfl rfl rfl) (.inr rfl) ?_, trivial⟩
             refine wf_all [21] (by kernel_rfl) rfl ⟨on_l 21 rfl gn rfl (s_val (v_pick (b := false) rfl rfl) rfl ?_), trivial⟩
             unfold NxL
             refine wf_all [22] (by kernel_rfl) rfl ⟨on_l 22 rfl gn rfl (s_val (vAs rfl) rfl ?_), trivial⟩
             unfold NxL
             refine wf_end (by kernel_rfl) ?_
             exact g_go [0, 1] (d3 ()) ⟨rfl, trivial⟩ (.cons _ (.cons _ (.cons _ (.slnil)))) rfl
            ·refine on_p 19 rfl (ps 39 rfl rfl rfl) (.inr rfl) ?_
             refine wf_all [16] (by kernel_rfl) rfl ⟨on_p 16 rfl (ps 39 rfl rfl rfl) (.inr rfl) ?_, trivial⟩
             refine wf_all [20] (by kernel_rfl) rfl ⟨on_p 20 rfl (ps 39 rfl rfl rfl) (.inr rfl) ?_, trivial⟩
             refine wf_all [21] (by kernel_rfl) rfl ⟨on_l 21 rfl gn rfl (s_val (v_pick (b := false) rfl rfl) rfl ?_), trivial⟩
             unfold NxL
             refine wf_all [22] (by kernel_rfl) rfl ⟨on_l 22 rfl gn rfl (s_val (vAs rfl) rfl ?_), trivial⟩
             unfold NxL
             refine wf_end (by kernel_rfl) ?_
             exact g_go [0, 1] (d3 ()) ⟨rfl, trivial⟩ (.cons _ (.cons _ (.cons _ (.slnil)))) rfl
           ·refine on_p 19 rfl (ps 39 rfl rfl rfl) (.inr rfl) ?_
            refine wf_all [15] (by kernel_rfl) rfl ⟨on_p 15 rfl (ps 39 rfl rfl rfl) (.inr rfl) ?_, trivial⟩
            refine wf_all [16] (by kernel_rfl) rfl ⟨on_p 16 rfl (ps 39 rfl rfl rfl) (.inr rfl) ?_, trivial⟩
            refine wf_all [20] (by kernel_rfl) rfl ⟨on_p 20 rfl (ps 39 rfl rfl rfl) (.inr rfl) ?_, trivial⟩
            refine wf_all [21] (by kernel_rfl) rfl ⟨on_l 21 rfl gn rfl (s_val (v_pick (b := false) rfl rfl) rfl ?_), trivial⟩
            unfold NxL
            refine wf_all [22] (by kernel_rfl) rfl ⟨on_l 22 rfl gn rfl (s_val (vAs rfl) rfl ?_), trivial⟩
            unfold NxL
            refine wf_end (by kernel_rfl) ?_
            exact g_go [0, 1] (d3 ()) ⟨rfl, trivial⟩ (.cons _ (.cons _ (.cons _ (.slnil)))) rfl
         ·refine on_p 18 rfl (ps 39 rfl rfl rfl) (.inr rfl) ?_
          refine wf_all [14, 19] (by kernel_rfl) rfl ⟨?_, ?_, trivial⟩
          ·refine on_p 14 rfl (ps 39 rfl rfl rfl) (.inr rfl) ?_
           refine wf_all [15, 19] (by kernel_rfl) rfl ⟨?_, ?_, trivial⟩
           ·refine on_p 15 rfl (ps 39 rfl rfl rfl) (.inr rfl) ?_
            refine wf_all [16, 19] (by kernel_rfl) rfl ⟨?_, ?_, trivial⟩
            ·refine on_p 16 rfl (ps 39 rfl rfl rfl) (.inr rfl) ?_
             refine wf_all [19] (by kernel_rfl) rfl ⟨on_p 19 rfl (ps 39 rfl rfl rfl) (.inr rfl) ?_, trivial⟩
             refine wf_all [20] (by kernel_rfl) rfl ⟨on_p 20 rfl (ps 39 rfl rfl rfl) (.inr rfl) ?_, trivial⟩
             refine wf_all [21] (by kernel_rfl) rfl ⟨on_l 21 rfl gn rfl (s_val (v_pick (b := false) rfl rfl) rfl ?_), trivial⟩
             unfold NxL
             refine wf_all [22] (by kernel_rfl) rfl ⟨on_l 22 rfl gn rfl (s_val (vAs rfl) rfl ?_), trivial⟩
             unfold NxL
             refine wf_end (by kernel_rfl) ?_
             exact g_go [0, 1] (d3 ()) ⟨rfl, trivial⟩ (.cons _ (.cons _ (.cons _ (.slnil)))) rfl
            ·refine on_p 19 rfl (ps 39 rfl rfl rfl) (.inr rfl) ?_
             refine wf_all [16] (by kernel_rfl) rfl ⟨on_p 16 rfl (ps 39 rfl rfl rfl) (.inr rfl) ?_, trivial⟩
             refine wf_all [20] (by kernel_rfl) rfl ⟨on_p 20 rfl (ps 39 rfl rfl rfl) (.inr rfl) ?_, trivial⟩
             refine wf_all [21] (by kernel_rfl) rfl ⟨on_l 21 rfl gn rfl (s_val (v_pick (b := false) rfl rfl) rfl ?_), trivial⟩
             unfold NxL
             refine wf_all [22] (by kernel_rfl) rfl ⟨on_l 22 rfl gn rfl (s_val (vAs rfl) rfl ?_), trivial⟩
             unfold NxL
             refine wf_end (by kernel_rfl) ?_
             exact g_go [0, 1] (d3 ()) ⟨rfl, trivial⟩ (.cons _ (.cons _ (.cons _ (.slnil)))) rfl
           ·refine on_p 19 rfl (ps 39 rfl rfl rfl) (.inr rfl) ?_
            refine wf_all [15] (by kernel_rfl) rfl ⟨on_p 15 rfl (ps 39 rfl rfl rfl) (.inr rfl) ?_, trivial⟩
            refine wf_all [16] (by kernel_rfl) rfl ⟨on_p 16 rfl (ps 39 rfl rfl rfl) (.inr rfl) ?_, trivial⟩
            refine wf_all [20] (by kernel_rfl) rfl ⟨on_p 20 rfl (ps 39 rfl rfl rfl) (.inr rfl) ?_, trivial⟩
            refine wf_all [21] (by kernel_rfl) rfl ⟨on_l 21 rfl gn rfl (s_val (v_pick (b := false) rfl rfl) rfl ?_), trivial⟩
            unfold NxL
            refine wf_all [22] (by kernel_rfl) rfl ⟨on_l 22 rfl gn rfl (s_val (vAs rfl) rfl ?_), trivial⟩
            unfold NxL
            refine wf_end (by kernel_rfl) ?_
            exact g_go [0, 1] (d3 ()) ⟨rfl, trivial⟩ (.cons _ (.cons _ (.cons _ (.slnil)))) rfl
          ·refine on_p 19 rfl (ps 39 rfl rfl rfl) (.inr rfl) ?_
           refine wf_all [14] (by kernel_rfl) rfl ⟨on_p 14 rfl (ps 39 rfl rfl rfl) (.inr rfl) ?_, trivial⟩
           refine wf_all [15] (by kernel_rfl) rfl ⟨on_p 15 rfl (ps 39 rfl rfl rfl) (.inr rfl) ?_, trivial⟩
           refine wf_all [16] (by kernel_rfl) rfl ⟨on_p 16 rfl (ps 39 rfl rfl rfl) (.inr rfl) ?_, trivial⟩
           refine wf_all [20] (by kernel_rfl) rfl ⟨on_p 20 rfl (ps 39 rfl rfl rfl) (.inr rfl) ?_, trivial⟩
           refine wf_all [21] (by kernel_rfl) rfl ⟨on_l 21 rfl gn rfl (s_val (v_pick (b := false) rfl rfl) rfl ?_), trivial⟩
           unfold NxL
           refine wf_all [22] (by kernel_rfl) rfl ⟨on_l 22 rfl gn rfl (s_val (vAs rfl) rfl ?_), trivial⟩
           unfold NxL
           refine wf_end (by kernel_rfl) ?_
           exact g_go [0, 1] (d3 ()) ⟨rfl, trivial⟩ (.cons _ (.cons _ (.cons _ (.slnil)))) rfl
       ·refine on_p 17 rfl (ps 39 rfl rfl rfl) (.inr rfl) ?_
        refine wf_all [13, 18] (by kernel_rfl) rfl ⟨?_, ?_, trivial⟩
        ·refine on_p 13 rfl (ps 39 rfl rfl rfl) (.inr rfl) ?_
         refine wf_all [14, 18] (by kernel_rfl) rfl ⟨?_, ?_, trivial⟩
         ·refine on_p 14 rfl (ps 39 rfl rfl rfl) (.inr rfl) ?_
          refine wf_all [15, 18] (by kernel_rfl) rfl ⟨?_, ?_, trivial⟩
          ·refine on_p 15 rfl (ps 39 rfl rfl rfl) (.inr rfl) ?_
           refine wf_all [16, 18] (by kernel_rfl) rfl ⟨?_, ?_, trivial⟩
           ·refine on_p 16 rfl (ps 39 rfl rfl rfl) (.inr rfl) ?_
            refine wf_all [18] (by kernel_rfl) rfl ⟨on_p 18 rfl (ps 39 rfl rfl rfl) (.inr rfl) ?_, trivial⟩
            refine wf_all [19] (by kernel_rfl) rfl ⟨on_p 19 rfl (ps 39 rfl rfl rfl) (.inr rfl) ?_, trivial⟩
            refine wf_all [20] (by kernel_rfl) rfl ⟨on_p 20 rfl (ps 39 rfl rfl rfl) (.inr rfl) ?_, trivial⟩
            refine wf_all [21] (by kernel_rfl) rfl ⟨on_l 21 rfl gn rfl (s_val (v_pick (b := false) rfl rfl) rfl ?_), trivial⟩
            unfold NxL
            refine wf_all [22] (by kernel_rfl) rfl ⟨on_l 22 rfl gn rfl (s_val (vAs rfl) rfl ?_), trivial⟩
            unfold NxL
            refine wf_end (by kernel_rfl) ?_
            exact g_go [0, 1] (d3 ()) ⟨rfl, trivial⟩ (.cons _ (.cons _ (.cons _ (.slnil)))) rfl
           ·refine on_p 18 rfl (ps 39 rfl rfl rfl) (.inr rfl) ?_
            refine wf_all [16, 19] (by kernel_rfl) rfl ⟨?_, ?_, trivial⟩
            ·refine on_p 16 rfl (ps 39 rfl rfl rfl) (.inr rfl) ?_
             refine wf_all [19] (by kernel_rfl) rfl ⟨on_p 19 rfl (ps 39 rfl rfl rfl) (.inr rfl) ?_, trivial⟩
             refine wf_all [20] (by kernel_rfl) rfl ⟨on_p 20 rfl (ps 39 rfl rfl rfl) (.inr rfl) ?_, trivial⟩
             refine wf_all [21] (by kernel_rfl) rfl ⟨on_l 21 rfl gn rfl (s_val (v_pick (b := false) rfl rfl) rfl ?_), trivial⟩
             unfold NxL
             refine wf_all [22] (by kernel_rfl) rfl ⟨on_l 22 rfl gn rfl (s_val (vAs rfl) rfl ?_), trivial⟩
             unfold NxL
             refine wf_end (by kernel_rfl) ?_
             exact g_go [0, 1] (d3 ()) ⟨rfl, trivial⟩ (.cons _ (.cons _ (.cons _ (.slnil)))) rfl
            ·refine on_p 19 rfl (ps 39 rfl rfl rfl) (.inr rfl) ?_
             refine wf_all [16] (by kernel_rfl) rfl ⟨on_p 16 rfl (ps 39 rfl rfl rfl) (.inr rfl) ?_, trivial⟩
             refine wf_all [20] (by kernel_rfl) rfl ⟨on_p 20 rfl (ps 39 rfl rfl rfl) (.inr rfl) ?_, trivial⟩
             refine wf_all [21] (by kernel_rfl) rfl ⟨on_l 21 rfl gn rfl (s_val (v_pick (b := false) rfl rfl) rfl ?_), trivial⟩
             unfold NxL
             refine wf_all [22] (by kernel_rfl) rfl ⟨on_l 22 rfl gn rfl (s_val (vAs rfl) rfl ?_), trivial⟩
             unfold NxL
             refine wf_end (by kernel_rfl) ?_
             exact g_go [0, 1] (d3 ()) ⟨rfl, trivial⟩ (.cons _ (.cons _ (.cons _ (.slnil)))) rfl
          ·refine on_p 18 rfl (ps 39 rfl rfl rfl) (.inr rfl) ?_
           refine wf_all [15, 19] (by kernel_rfl) rfl ⟨?_, ?_, trivial⟩
           ·refine on_p 15 rfl (ps 39 rfl rfl rfl) (.inr rfl) ?_
            refine wf_all [16, 19] (by kernel_rfl) rfl ⟨?_, ?_, trivial⟩
            ·refine on_p 16 rfl (ps 39 rfl rfl rfl) (.inr rfl) ?_
             refine wf_all [19] (by kernel_rfl) rfl ⟨on_p 19 rfl (ps 39 rfl rfl rfl) (.inr rfl) ?_, trivial⟩
             refine wf_all [20] (by kernel_rfl) rfl ⟨on_p 20 rfl (ps 39 rfl rfl rfl) (.inr rfl) ?_, trivial⟩
             refine wf_all [21] (by kernel_rfl) rfl ⟨on_l 21 rfl gn rfl (s_val (v_pick (b := false) rfl rfl) rfl ?_), trivial⟩
             unfold NxL
             refine wf_all [22] (by kernel_rfl) rfl ⟨on_l 22 rfl gn rfl (s_val (vAs rfl) rfl ?_), trivial⟩
             unfold NxL
             refine wf_end (by kernel_rfl) ?_
             exact g_go [0, 1] (d3 ()) ⟨rfl, trivial⟩ (.cons _ (.cons _ (.cons _ (.slnil)))) rfl
            ·refine on_p 19 rfl (ps 39 rfl rfl rfl) (.inr rfl) ?_
             refine wf_all [16] (by kernel_rfl) rfl ⟨on_p 16 rfl (ps 39 rfl rfl rfl) (.inr rfl) ?_, trivial⟩
             refine wf_all [20] (by kernel_rfl) rfl ⟨on_p 20 rfl (ps 39 rfl rfl rfl) (.inr rfl) ?_, trivial⟩
             refine wf_all [21] (by kernel_rfl) rfl ⟨on_l 21 rfl gn rfl (s_val (v_pick (b := false) rfl rfl) rfl ?_), trivial⟩
             unfold NxL
             refine wf_all [22] (by kernel_rfl) rfl ⟨on_l 22 rfl gn rfl (s_val (vAs rfl) rfl ?_), trivial⟩
             unfold NxL
             refine wf_end (by kernel_rfl) ?_
             exact g_go [0, 1] (d3 ()) ⟨rfl, trivial⟩ (.cons _ (.cons _ (.cons _ (.slnil)))) rfl
           ·refine on_p 19 rfl (ps 39 rfl rfl rfl) (.inr rfl) ?_
            refine wf_all [15] (by kernel_rfl) rfl ⟨on_p 15 rfl (ps 39 rfl rfl rfl) (.inr rfl) ?_, trivial⟩
            refine wf_all [16] (by kernel_rfl) rfl ⟨on_p 16 rfl (ps 39 rfl rfl rfl) (.inr rfl) ?_, trivial⟩
            refine wf_all [20] (by kernel_rfl) rfl ⟨on_p 20 rfl (ps 39 rfl rfl rfl) (.inr rfl) ?_, trivial⟩
            refine wf_all [21] (by kernel_rfl) rfl ⟨on_l 21 rfl gn rfl (s_val (v_pick (b := false) rfl rfl) rfl ?_), trivial⟩
            unfold NxL
            refine wf_all [22] (by kernel_rfl) rfl ⟨on_l 22 rfl gn rfl (s_val (vAs rfl) rfl ?_), trivial⟩
            unfold NxL
            refine wf_end (by kernel_rfl) ?_
            exact g_go [0, 1] (d3 ()) ⟨rfl, trivial⟩ (.cons _ (.cons _ (.cons _ (.slnil)))) rfl
         ·refine on_p 18 rfl (ps 39 rfl rfl rfl) (.inr rfl) ?_
          refine wf_all [14, 19] (by kernel_rfl) rfl ⟨?_, ?_, trivial⟩
          ·refine on_p 14 rfl (ps 39 rfl rfl rfl) (.inr rfl) ?_
           refine wf_all [15, 19] (by kernel_rfl) rfl ⟨?_, ?_, trivial⟩
           ·refine on_p 15 rfl (ps 39 rfl rfl rfl) (.inr rfl) ?_
            refine wf_all [16, 19] (by kernel_rfl) rfl ⟨?_, ?_, trivial⟩
            ·refine on_p 16 rfl (ps 39 rfl rfl rfl) (.inr rfl) ?_
             refine wf_all [19] (by kernel_rfl) rfl ⟨on_p 19 rfl (ps 39 rfl rfl rfl) (.inr rfl) ?_, trivial⟩
             refine wf_all [20] (by kernel_rfl) rfl ⟨on_p 20 rfl (ps 39 rfl rfl rfl) (.inr rfl) ?_, trivial⟩
             refine wf_all [21] (by kernel_rfl) rfl ⟨on_l 21 rfl gn rfl (s_val (v_pick (b := false) rfl rfl) rfl ?_), trivial⟩
             unfold NxL
             refine wf_all [22] (by kernel_rfl) rfl ⟨on_l 22 rfl gn rfl (s_val (vAs rfl) rfl ?_), trivial⟩
             unfold NxL
             refine wf_end (by kernel_rfl) ?_
             exact g_go [0, 1] (d3 ()) ⟨rfl, trivial⟩ (.cons _ (.cons _ (.cons _ (.slnil)))) rfl
            ·refine on_p 19 rfl (ps 39 rfl rfl rfl) (.inr rfl) ?_
             refine wf_all [16] (by kernel_rfl) rfl ⟨on_p 16 rfl (ps 39 rfl rfl rfl) (.inr rfl) ?_, trivial⟩
             refine wf_all [20] (by kernel_rfl) rfl ⟨on_p 20 rfl (ps 39 rfl rfl rfl) (.inr rfl) ?_, trivial⟩
             refine wf_all [21] (by kernel_rfl) rfl ⟨on_l 21 rfl gn rfl (s_val (v_pick (b := false) rfl rfl) rfl ?_), trivial⟩
             unfold NxL
             refine wf_all [22] (by kernel_rfl) rfl ⟨on_l 22 rfl gn rfl (s_val (vAs rfl) rfl ?_), trivial⟩
             unfold NxL
             refine wf_end (by kernel_rfl) ?_
             exact g_go [0, 1] (d3 ()) ⟨rfl, trivial⟩ (.cons _ (.cons _ (.cons _ (.slnil)))) rfl
           ·refine on_p 19 rfl (ps 39 rfl rfl rfl) (.inr rfl) ?_
            refine wf_all [15] (by kernel_rfl) rfl ⟨on_p 15 rfl (ps 39 rfl rfl rfl) (.inr rfl) ?_, trivial⟩
            refine wf_all [16] (by kernel_rfl) rfl ⟨on_p 16 rfl (ps 39 rfl rfl rfl) (.inr rfl) ?_, trivial⟩
            refine wf_all [20] (by kernel_rfl) rfl ⟨on_p 20 rfl (ps 39 rfl rfl rfl) (.inr rfl) ?_, trivial⟩
            refine wf_all [21] (by kernel_rfl) rfl ⟨on_l 21 rfl gn rfl (s_val (v_pick (b := false) rfl rfl) rfl ?_), trivial⟩
            unfold NxL
            refine wf_all [22] (by kernel_rfl) rfl ⟨on_l 22 rfl gn rfl (s_val (vAs rfl) rfl ?_), trivial⟩
            unfold NxL
            refine wf_end (by kernel_rfl) ?_
            exact g_go [0, 1] (d3 ()) ⟨rfl, trivial⟩ (.cons _ (.cons _ (.cons _ (.slnil)))) rfl
          ·refine on_p 19 rfl (ps 39 rfl rfl rfl) (.inr rfl) ?_
           refine wf_all [14] (by kernel_rfl) rfl ⟨on_p 14 rfl (ps 39 rfl rfl rfl) (.inr rfl) ?_, trivial⟩
           refine wf_all [15] (by kernel_rfl) rfl ⟨on_p 15 rfl (ps 39 rfl rfl rfl) (.inr rfl) ?_, trivial⟩
           refine wf_all [16] (by kernel_rfl) rfl ⟨on_p 16 rfl (ps 39 rfl rfl rfl) (.inr rfl) ?_, trivial⟩
           refine wf_all [20] (by kernel_rfl) rfl ⟨on_p 20 rfl (ps 39 rfl rfl rfl) (.inr rfl) ?_, trivial⟩
           refine wf_all [21] (by kernel_rfl) rfl ⟨on_l 21 rfl gn rfl (s_val (v_pick (b := false) rfl rfl) rfl ?_), trivial⟩
           unfold NxL
           refine wf_all [22] (by kernel_rfl) rfl ⟨on_l 22 rfl gn rfl (s_val (vAs rfl) rfl ?_), trivial⟩
           unfold NxL
           refine wf_end (by kernel_rfl) ?_
           exact g_go [0, 1] (d3 ()) ⟨rfl, trivial⟩ (.cons _ (.cons _ (.cons _ (.slnil)))) rfl
        ·refine on_p 18 rfl (ps 39 rfl rfl rfl) (.inr rfl) ?_
         refine wf_all [13, 19] (by kernel_rfl) rfl ⟨?_, ?_, trivial⟩
         ·refine on_p 13 rfl (ps 39 rfl rfl rfl) (.inr rfl) ?_
          refine wf_all [14, 19] (by kernel_rfl) rfl ⟨?_, ?_, trivial⟩
          ·refine on_p 14 rfl (ps 39 rfl rfl rfl) (.inr rfl) ?_
           refine wf_all [15, 19] (by kernel_rfl) rfl ⟨?_, ?_, trivial⟩
           ·refine on_p 15 rfl (ps 39 rfl rfl rfl) (.inr rfl) ?_
            refine wf_all [16, 19] (by kernel_rfl) rfl ⟨?_, ?_, trivial⟩
            ·refine on_p 16 rfl (ps 39 rfl rfl rfl) (.inr rfl) ?_
             refine wf_all [19] (by kernel_rfl) rfl ⟨on_p 19 rfl (ps 39 rfl rfl rfl) (.inr rfl) ?_, trivial⟩
             refine wf_all [20] (by kernel_rfl) rfl ⟨on_p 20 rfl (ps 39 rfl rfl rfl) (.inr rfl) ?_, trivial⟩
             refine wf_all [21] (by kernel_rfl) rfl ⟨on_l 21 rfl gn rfl (s_val (v_pick (b := false) rfl rfl) rfl ?_), trivial⟩
             unfold NxL
             refine wf_all [22] (by kernel_rfl) rfl ⟨on_l 22 rfl gn rfl (s_val (vAs rfl) rfl ?_), trivial⟩
             unfold NxL
             refine wf_end (by kernel_rfl) ?_
             exact g_go [0, 1] (d3 ()) ⟨rfl, trivial⟩ (.cons _ (.cons _ (.cons _ (.slnil)))) rfl
            ·refine on_p 19 rfl (ps 39 rfl rfl rfl) (.inr rfl) ?_
             refine wf_all [16] (by kernel_rfl) rfl ⟨on_p 16 rfl (ps 39 rfl rfl rfl) (.inr rfl) ?_, trivial⟩
             refine wf_all [20] (by kernel_rfl) rfl ⟨on_p 20 rfl (ps 39 rfl rfl rfl) (.inr rfl) ?_, trivial⟩
             refine wf_all [21] (by kernel_rfl) rfl ⟨on_l 21 rfl gn rfl (s_val (v_pick (b := false) rfl rfl) rfl ?_), trivial⟩
             unfold NxL
             refine wf_all [22] (by kernel_rfl) rfl ⟨on_l 22 rfl gn rfl (s_val (vAs rfl) rfl ?_), trivial⟩
             unfold NxL
             refine wf_end (by kernel_rfl) ?_
             exact g_go [0, 1] (d3 ()) ⟨rfl, trivial⟩ (.cons _ (.cons _ (.cons _ (.slnil)))) rfl
           ·refine on_p 19 rfl (ps 39 rfl rfl rfl) (.inr rfl) ?_
            refine wf_all [15] (by kernel_rfl) rfl ⟨on_p 15 rfl (ps 39 rfl rfl rfl) (.inr rfl) ?_, trivial⟩
            refine wf_all [16] (by kernel_rfl) rfl ⟨on_p 16 rfl (ps 39 rfl rfl rfl) (.inr rfl) ?_, trivial⟩
            refine wf_all [20] (by kernel_rfl) rfl ⟨on_p 20 rfl (ps 39 rfl rfl rfl) (.inr rfl) ?_, trivial⟩
            refine wf_all [21] (by kernel_rfl) rfl ⟨on_l 21 rfl gn rfl (s_val (v_pick (b := false) rfl rfl) rfl ?_), trivial⟩
            unfold NxL
            refine wf_all [22] (by kernel_rfl) rfl ⟨on_l 22 rfl gn rfl (s_val (vAs rfl) rfl ?_), trivial⟩
            unfold NxL
            refine wf_end (by kernel_rfl) ?_
            exact g_go [0, 1] (d3 ()) ⟨rfl, trivial⟩ (.cons _ (.cons _ (.cons _ (.slnil)))) rfl
          ·refine on_p 19 rfl (ps 39 rfl rfl rfl) (.inr rfl) ?_
           refine wf_all [14] (by kernel_rfl) rfl ⟨on_p 14 rfl (ps 39 rfl rfl rfl) (.inr rfl) ?_, trivial⟩
           refine wf_all [15] (by kernel_rfl) rfl ⟨on_p 15 rfl (ps 39 rfl rfl rfl) (.inr rfl) ?_, trivial⟩
           refine wf_all [16] (by kernel_rfl) rfl ⟨on_p 16 rfl (ps 39 rfl rfl rfl) (.inr rfl) ?_, trivial⟩
           refine wf_all [20] (by kernel_rfl) rfl ⟨on_p 20 rfl (ps 39 rfl rfl rfl) (.inr rfl) ?_, trivial⟩
           refine wf_all [21] (by kernel_rfl) rfl ⟨on_l 21 rfl gn rfl (s_val (v_pick (b := false) rfl rfl) rfl ?_), trivial⟩
           unfold NxL
           refine wf_all [22] (by kernel_rfl) rfl ⟨on_l 22 rfl gn rfl (s_val (vAs rfl) rfl ?_), trivial⟩
           unfold NxL
           refine wf_end (by kernel_rfl) ?_
           exact g_go [0, 1] (d3 ()) ⟨rfl, trivial⟩ (.cons _ (.cons _ (.cons _ (.slnil)))) rfl
         ·refine on_p 19 rfl (ps 39 rfl rfl rfl) (.inr rfl) ?_
          refine wf_all [13] (by kernel_rfl) rfl ⟨on_p 13 rfl (ps 39 rfl rfl rfl) (.inr rfl) ?_, trivial⟩
          refine wf_all [14] (by kernel_rfl) rfl ⟨on_p 14 rfl (ps 39 rfl rfl rfl) (.inr rfl) ?_, trivial⟩
          refine wf_all [15] (by kernel_rfl) rfl ⟨on_p 15 rfl (ps 39 rfl rfl rfl) (.inr rfl) ?_, trivial⟩
          refine wf_all [16] (by kernel_rfl) rfl ⟨on_p 16 rfl (ps 39 rfl rfl rfl) (.inr rfl) ?_, trivial⟩
          refine wf_all [20] (by kernel_rfl) rfl ⟨on_p 20 rfl (ps 39 rfl rfl rfl) (.inr rfl) ?_, trivial⟩
          refine wf_all [21] (by kernel_rfl) rfl ⟨on_l 21 rfl gn rfl (s_val (v_pick (b := false) rfl rfl) rfl ?_), trivial⟩
          unfold NxL
          refine wf_all [22] (by kernel_rfl) rfl ⟨on_l 22 rfl gn rfl (s_val (vAs rfl) rfl ?_), trivial⟩
          unfold NxL
          refine wf_end (by kernel_rfl) ?_
          exact g_go [0, 1] (d3 ()) ⟨rfl, trivial⟩ (.cons _ (.cons _ (.cons _ (.slnil)))) rfl
     ·have h := if_neg' hp20 h
      refine gFa (c := q50c27) rfl _ rfl ((nei hp20)) ?_
      refine gSq (c := q50c29) rfl ?_
      refine gRg (c := q50c34) rfl rfl ?_
      refine wl_v 0 rfl (vBn rfl rfl rfl) gn rfl ?_
      refine wl_v 1 rfl (vAs rfl) gn rfl ?_
      refine w_end 2 rfl ?_
      by_cases hp88 : x1.kind = 5
      ·have h := if_pos' hp88 h
       refine gTr (c := q50c35) rfl _ rfl ((eqi hp88)) ?_
       refine gSq (c := q50c36) rfl ?_
       refine gRg (c := q50c38) rfl rfl ?_
       refine wl_v 0 rfl (vFB fo_31_3 rfl) gn rfl ?_
       refine wl_v 1 rfl (v_ldB1 0 ld_3 rfl rfl rfl) gn rfl ?_
       refine wl_v 2 rfl (vBn rfl rfl rfl) gn rfl ?_
       refine wl_v 3 rfl (vMv rfl) gn rfl ?_
       by_cases hp89 : x1.kids = 0
       ·have h := if_pos' hp89 h
        refine w_bool 54 rfl ((eqi hp89)) ?_
        refine wl_v 4 rfl (vFB fo_31_2 rfl) (gy 54 rfl rfl) rfl ?_
        refine wl_v 5 rfl (v_ldB1 0 ld_9 rfl rfl rfl) (gy 54 rfl rfl) rfl ?_
        obtain ⟨r93, hv94, h⟩ := h
        refine wl_s 6 rfl (sCl [.string x1.text] rfl Tryd.func67 rfl rfl rfl fun w90 hL91 => ?_) (gy 54 rfl rfl)
        have hp92 : List.Perm ([.box gb2 31 [.int .i64 x1.kind, .string x1.key, .string x1.text, .int .i64 x1.kids]] : List Ent) (([] : List Ent) ++ ([.box gb2 31 [.int .i64 x1.kind, .string x1.key, .string x1.text, .int .i64 x1.kids]] : List Ent)) := pIx [] [0] rfl rfl (by kernel_rfl)
        refine Calls.mono (unicode_utf8_ValidString_calls w90 (Fl ([] : List Snap)) x1.text (hL91.tt hp92 hG1 (me 1 rfl)) (hL91.tt hp92 hG2 (me 1 rfl)) (hL91.hFl (Sl := ([] : List Snap)) hp92 (sels [] rfl)) (hL91.into hp92 (Fl ([] : List Snap))) r93 hv94) ?_
        rintro _ w95 ⟨rfl, hM96⟩
        have hL97 := hL91.call hp92 hM96
        refine ⟨_, _, _, rfl, hL97, ?_⟩
        refine wl_v 7 rfl (v_pick (b := true) rfl rfl) gn rfl ?_
        refine wl_v 8 rfl (vAs rfl) gn rfl ?_
        refine w_end 9 rfl ?_
        refine g_retR (c := q50c39) [.bool r93] rfl Tryd.func50 rfl (.tmp rfl (.nil)) fun wr hLr => ?_
        have hMr : B.Loc w wr [] [St w []] := hLr.pick0 (sels [1] rfl)
        show json_sound_R w F  r (.returned (packV [.bool r93])) wr
        rw [h]
        exact ⟨rfl, hMr⟩
       ·have h := if_neg' hp89 h
        refine w_bool 54 rfl ((nei hp89)) ?_
        refine wl_pass 4 rfl (ps 54 rfl rfl rfl) ?_
        refine wl_pass 5 rfl (ps 54 rfl rfl rfl) ?_
        refine wl_pass 6 rfl (ps 54 rfl rfl rfl) ?_
        refine wl_v 7 rfl (v_pick (b := false) rfl rfl) gn rfl ?_
        refine wl_v 8 rfl (vAs rfl) gn rfl ?_
        refine w_end 9 rfl ?_
        refine g_retR (c := q50c39) [.bool false] rfl Tryd.func50 rfl (.tmp rfl (.nil)) fun wr hLr => ?_
        have hMr : B.Loc w wr [] [St w []] := hLr.pick0 (sels [1] rfl)
        show json_sound_R w F  r (.returned (packV [.bool false])) wr
        rw [h]
        exact ⟨rfl, hMr⟩
      ·have h := if_neg' hp88 h
       refine gFa (c := q50c35) rfl _ rfl ((nei hp88)) ?_
       refine gSq (c := q50c37) rfl ?_
       refine gSq (c := q50c40) rfl ?_
       refine gRg (c := q50c42) rfl rfl ?_
       refine wl_v 0 rfl (vBn rfl rfl rfl) gn rfl ?_
       refine wl_v 1 rfl (vAs rfl) gn rfl ?_
       refine w_end 2 rfl ?_
       have j3 : ∀ (x101 : Bool) (h : json_sound_j3 x1 x101 r) , G (json_sound_C w F r) [.code q50c41, .inBlock 0, .code q50c12] [(1, .pointer (some ⟨gb2, 0, none⟩)), (59, .bool x101)] [.box gb2 31 [.int .i64 x1.kind, .string x1.key, .string x1.text, .int .i64 x1.kids]] [Sm w.heap.size F w [], St w []] := by
        intro x101 h
        unfold json_sound_j3 at h
        by_cases hp102 : x101 = true
        ·have h := if_pos' hp102 h
         refine gTr (c := q50c41) rfl _ rfl (hp102) ?_
         refine gSq (c := q50c50) rfl ?_
         refine gRg (c := q50c52) rfl rfl ?_
         refine wl_v 0 rfl (vFB fo_31_3 rfl) gn rfl ?_
         refine wl_v 1 rfl (v_ldB1 0 ld_3 rfl rfl rfl) gn rfl ?_
         refine wl_v 2 rfl (vBn rfl rfl rfl) gn rfl ?_
         refine wl_v 3 rfl (vMv rfl) gn rfl ?_
         by_cases hp103 : x1.kids = 0
         ·have h := if_pos' hp103 h
          refine w_bool 66 rfl ((eqi hp103)) ?_
          refine wl_v 4 rfl (vFB fo_31_2 rfl) (gy 66 rfl rfl) rfl ?_
          refine wl_v 5 rfl (v_ldB1 0 ld_9 rfl rfl rfl) (gy 66 rfl rfl) rfl ?_
          refine wl_v 6 rfl (v_eqS rfl rfl) (gy 66 rfl rfl) rfl ?_
          refine wl_v 7 rfl (v_pick (b := true) rfl rfl) gn rfl ?_
          refine wl_v 8 rfl (vAs rfl) gn rfl ?_
          refine w_end 9 rfl ?_
          refine g_retR (c := q50c53) [.bool (seq x1.text (⟨#[]⟩ : ByteArray))] rfl Tryd.func50 rfl (.tmp rfl (.nil)) fun wr hLr => ?_
          have hMr : B.Loc w wr [] [St w []] := hLr.pick0 (sels [1] rfl)
          show json_sound_R w F  r (.returned (packV [.bool (seq x1.text (⟨#[]⟩ : ByteArray))])) wr
          rw [h]
          exact ⟨rfl, hMr⟩
         ·have h := if_neg' hp103 h
          refine w_bool 66 rfl ((nei hp103)) ?_
          refine wl_pass 4 rfl (ps 66 rfl rfl rfl) ?_
          refine wl_pass 5 rfl (ps 66 rfl rfl rfl) ?_
          refine wl_pass 6 rfl (ps 66 rfl rfl rfl) ?_
          refine wl_v 7 rfl (v_pick (b := false) rfl rfl) gn rfl ?_
          refine wl_v 8 rfl (vAs rfl) gn rfl ?_
          refine w_end 9 rfl ?_
          refine g_retR (c := q50c53) [.bool false] rfl Tryd.func50 rfl (.tmp rfl (.nil)) fun wr hLr => ?_
          have hMr : B.Loc w wr [] [St w []] := hLr.pick0 (sels [1] rfl)
          show json_sound_R w F  r (.returned (packV [.bool false])) wr
          rw [h]
          exact ⟨rfl, hMr⟩
        ·have h := if_neg' hp102 h
         refine gFa (c := q50c41) rfl _ rfl ((bf hp102)) ?_
         refine g_skip (c := q50c51) rfl ?_
         refine g_inBlock ?_
         refine gSq (c := q50c12) rfl ?_
         refine gRg (c := q50c54) rfl rfl ?_
         refine wl_v 0 rfl (vAs rfl) gn rfl ?_
         refine w_end 1 rfl ?_
         refine g_retR (c := q50c55) [.bool false] rfl Tryd.func50 rfl (.tmp rfl (.nil)) fun wr hLr => ?_
         have hMr : B.Loc w wr [] [St w []] := hLr.pick0 (sels [1] rfl)
         show json_sound_R w F  r (.returned (packV [.bool false])) wr
         rw [h]
         exact ⟨rfl, hMr⟩
       by_cases hp98 : x1.kind = 1
       ·have h := if_pos' hp98 h
        refine gTr (c := q50c43) rfl _ rfl ((eqi hp98)) ?_
        refine g_skip (c := q50c44) rfl ?_
        exact g_go [0, 1] (j3 (x1.kind == 1) h) ⟨rfl, rfl, trivial⟩ (.cons_cons _ (.slnil)) rfl
       ·have h := if_neg' hp98 h
        refine gFa (c := q50c43) rfl _ rfl ((nei hp98)) ?_
        refine gSq (c := q50c45) rfl ?_
        refine gRg (c := q50c46) rfl rfl ?_
        refine wl_v 0 rfl (vBn rfl rfl rfl) gn rfl ?_
        refine wl_v 1 rfl (vAs rfl) gn rfl ?_
        refine w_end 2 rfl ?_
        by_cases hp104 : x1.kind = 2
        ·have h := if_pos' hp104 h
         refine gTr (c := q50c47) rfl _ rfl ((eqi hp104)) ?_
         refine g_skip (c := q50c48) rfl ?_
         exact g_go [0, 1] (j3 (x1.kind == 2) h) ⟨rfl, rfl, trivial⟩ (.cons_cons _ (.slnil)) rfl
        ·have h := if_neg' hp104 h
         refine gFa (c := q50c47) rfl _ rfl ((nei hp104)) ?_
         refine gRg (c := q50c49) rfl rfl ?_
         refine wl_v 0 rfl (vBn rfl rfl rfl) gn rfl ?_
         refine wl_v 1 rfl (vAs rfl) gn rfl ?_
         refine w_end 2 rfl ?_
         exact g_go [0, 1] (j3 (x1.kind == 3) h) ⟨rfl, rfl, trivial⟩ (.cons_cons _ (.slnil)) rfl
   by_cases hp16 : x1.kind = 6
   ·have h := if_pos' hp16 h
    refine gTr (c := q50c19) rfl _ rfl ((eqi hp16)) ?_
    refine g_skip (c := q50c20) rfl ?_
    exact g_go [0, 1] (j2 (x1.kind == 6) h) ⟨rfl, rfl, rfl, trivial⟩ (.cons_cons _ (.slnil)) rfl
   ·have h := if_neg' hp16 h
    refine gFa (c := q50c19) rfl _ rfl ((nei hp16)) ?_
    refine gRg (c := q50c21) rfl rfl ?_
    refine wl_v 0 rfl (vBn rfl rfl rfl) gn rfl ?_
    refine wl_v 1 rfl (vAs rfl) gn rfl ?_
    refine w_end 2 rfl ?_
    exact g_go [0, 1] (j2 (x1.kind == 7) h) ⟨rfl, rfl, rfl, trivial⟩ (.cons_cons _ (.slnil)) rfl
 refine gRg (c := q50c5) rfl rfl ?_
 refine wl_v 0 rfl (vFB fo_31_3 rfl) gn rfl ?_
 refine wl_v 1 rfl (v_ldB1 0 ld_3 rfl rfl rfl) gn rfl ?_
 refine wl_v 2 rfl (vBn rfl rfl rfl) gn rfl ?_
 refine wl_v 3 rfl (vMv rfl) gn rfl ?_
 by_cases hp105 : x1.kids < 0
 ·have h := if_pos' hp105 h
  refine w_bool 7 rfl ((decide_eq_true hp105)) ?_
  refine wl_pass 4 rfl (ps 7 rfl rfl rfl) ?_
  refine wl_pass 5 rfl (ps 7 rfl rfl rfl) ?_
  refine wl_pass 6 rfl (ps 7 rfl rfl rfl) ?_
  refine wl_pass 7 rfl (ps 7 rfl rfl rfl) ?_
  refine wl_v 8 rfl (v_pick (b := true) rfl rfl) gn rfl ?_
  refine w_end 9 rfl ?_
  exact g_go [0, 1] (j1 true h) ⟨rfl, rfl, trivial⟩ (.cons_cons _ (.slnil)) rfl
 ·have h := if_neg' hp105 h
  refine w_bool 7 rfl ((decide_eq_false hp105)) ?_
  refine wl_v 4 rfl (vFB fo_31_1 rfl) (gy 7 rfl rfl) rfl ?_
  refine wl_v 5 rfl (v_ldB1 0 ld_9 rfl rfl rfl) (gy 7 rfl rfl) rfl ?_
  obtain ⟨r109, hv110, h⟩ := h
  refine wl_s 6 rfl (sCl [.string x1.key] rfl Tryd.func67 rfl rfl rfl fun w106 hL107 => ?_) (gy 7 rfl rfl)
  have hp108 : List.Perm ([.box gb2 31 [.int .i64 x1.kind, .string x1.key, .string x1.text, .int .i64 x1.kids]] : List Ent) (([] : List Ent) ++ ([.box gb2 31 [.int .i64 x1.kind, .string x1.key, .string x1.text, .int .i64 x1.kids]] : List Ent)) := pIx [] [0] rfl rfl (by kernel_rfl)
  refine Calls.mono (unicode_utf8_ValidString_calls w106 (Fl ([] : List Snap)) x1.key (hL107.tt hp108 hG1 (me 1 rfl)) (hL107.tt hp108 hG2 (me 1 rfl)) (hL107.hFl (Sl := ([] : List Snap)) hp108 (sels [] rfl)) (hL107.into hp108 (Fl ([] : List Snap))) r109 hv110) ?_
  rintro _ w111 ⟨rfl, hM112⟩
  have hL113 := hL107.call hp108 hM112
  refine ⟨_, _, _, rfl, hL113, ?_⟩
  refine wl_v 7 rfl (v_not rfl) (gy 7 rfl rfl) rfl ?_
  refine wl_v 8 rfl (v_pick (b := false) rfl rfl) gn rfl ?_
  refine w_end 9 rfl ?_
  exact g_go [0, 1] (j1 (!r109) h) ⟨rfl, rfl, trivial⟩ (.cons_cons _ (.slnil)) rfl
noncomputable abbrev q33c0 : Code := bodyOf Tryd.f33
noncomputable abbrev q33c1 := Code.fst q33c0
noncomputable abbrev q33c2 := Code.snd q33c0
noncomputable abbrev q33c3 := Code.fst q33c2
noncomputable abbrev q33c4 := Code.snd q33c2
noncomputable abbrev q33c5 := Code.fst q33c3
noncomputable abbrev q33c6 := Code.snd q33c3
noncomputable abbrev q33c7 := Code.fst q33c6
noncomputable abbrev q33c8 := Code.snd q33c6
noncomputable abbrev q33c9 := Code.fst q33c7
noncomputable abbrev q33c10 := Code.snd q33c7
noncomputable abbrev q33c11 := Code.fst q33c4
noncomputable abbrev q33c12 := Code.snd q33c4
noncomputable abbrev q33c13 := Code.fst q33c12
noncomputable abbrev q33c14 := Code.snd q33c12
noncomputable abbrev q33c15 := Code.fst q33c13
noncomputable abbrev q33c16 := Code.snd q33c13
noncomputable abbrev q33c17 := Code.fst q33c16
noncomputable abbrev q33c18 := Code.snd q33c16
noncomputable abbrev q33c19 := Code.fst q33c17
noncomputable abbrev q33c20 := Code.snd q33c17
noncomputable abbrev q33c21 := Code.fst q33c14
noncomputable abbrev q33c22 := Code.snd q33c14
noncomputable abbrev q33c23 := Code.fst q33c21
noncomputable abbrev q33c24 := Code.snd q33c21
noncomputable abbrev q33c25 := Code.fst q33c24
noncomputable abbrev q33c26 := Code.snd q33c24
noncomputable abbrev q33c27 := Code.fst q33c25
noncomputable abbrev q33c28 := Code.snd q33c25
noncomputable abbrev q33c29 := Code.fst q33c22
noncomputable abbrev q33c30 := Code.snd q33c22
noncomputable abbrev q33c31 := Code.fst q33c30
noncomputable abbrev q33c32 := Code.snd q33c30
noncomputable abbrev q33c33 := Code.fst q33c32
noncomputable abbrev q33c34 := Code.snd q33c32
noncomputable abbrev q33c35 := Code.fst q33c33
noncomputable abbrev q33c36 := Code.snd q33c33
noncomputable abbrev q33c37 := Code.fst q33c36
noncomputable abbrev q33c38 := Code.fst q33c37
noncomputable abbrev q33c39 := Code.fst q33c38
noncomputable abbrev q33c40 := Code.snd q33c38
noncomputable abbrev q33c41 := Code.fst q33c40
noncomputable abbrev q33c42 := Code.snd q33c40
noncomputable abbrev q33c43 := Code.fst q33c41
noncomputable abbrev q33c44 := Code.snd q33c41
noncomputable abbrev q33c45 := Code.fst q33c42
noncomputable abbrev q33c46 := Code.snd q33c42
noncomputable abbrev q33c47 := Code.fst q33c45
noncomputable abbrev q33c48 := Code.fst q33c47
noncomputable abbrev q33c49 := Code.snd q33c47
noncomputable abbrev q33c50 := Code.fst q33c49
noncomputable abbrev q33c51 := Code.snd q33c49
noncomputable abbrev q33c52 := Code.fst q33c50
noncomputable abbrev q33c53 := Code.snd q33c50
noncomputable abbrev q33c54 := Code.fst q33c53
noncomputable abbrev q33c55 := Code.snd q33c53
noncomputable abbrev q33c56 := Code.fst q33c55
noncomputable abbrev q33c57 := Code.snd q33c55
noncomputable abbrev q33c58 := Code.fst q33c56
noncomputable abbrev q33c59 := Code.snd q33c56
noncomputable abbrev q33c60 := Code.fst q33c51
noncomputable abbrev q33c61 := Code.snd q33c51
noncomputable abbrev q33c62 := Code.fst q33c61
noncomputable abbrev q33c63 := Code.snd q33c61
noncomputable abbrev q33c64 := Code.fst q33c62
noncomputable abbrev q33c65 := Code.snd q33c62
noncomputable abbrev q33c66 := Code.fst q33c64
noncomputable abbrev q33c67 := Code.snd q33c64
noncomputable abbrev q33c68 := Code.fst q33c67
noncomputable abbrev q33c69 := Code.snd q33c67
noncomputable abbrev q33c70 := Code.fst q33c68
noncomputable abbrev q33c71 := Code.snd q33c68
noncomputable abbrev q33c72 := Code.fst q33c34
noncomputable abbrev q33c73 := Code.snd q33c34
abbrev json_subtree_R (w : World) (F : Nat → Prop) (r : Int) : Ending → World → Prop := fun e w' => e = .returned (.int .i64 r) ∧ B.Loc w w' [] [St w []]
noncomputable abbrev json_subtree_C (w : World) (F : Nat → Prop) (r : Int) : Cx := ⟨Tryd.prog, 33, Tryd.f33, 90, json_subtree_R w F  r, w⟩
def json_subtree_st (rl : (List JNd) → Int → Int → Bool → Int → Prop) : Prop := ∀ (w : World) (F : Nat → Prop) (x1 : List JNd) (x6 : Int) (x7 : Int) (x8 : Bool) (A2 : Option Addr) (n3 : Nat) (c4 : Nat) (h5 : Rw k_api_JNode w (St w []).av A2 n3 c4 x1) (hG1 : Tt .u8 tb_1 1 (St w [])) (hG2 : Tt .u8 tb_2 2 (St w [])) (hF : ∀ b, F b → b < w.heap.size ∧ ∀ o ∈ ([] : List (List Nat)), b ∉ o) (hL0 : B.Loc w w [] [Sm w.heap.size F w [], St w []]) (r : Int) (h : rl x1 x6 x7 x8 r), Calls Tryd.prog 33 #[.slice A2 n3 c4, .int .i64 x6, .int .i64 x7, .bool x8] w (json_subtree_R w F  r)
theorem json_subtree_step (rc_json_subtree : (List JNd) → Int → Int → Bool → Int → Prop) (ih_json_subtree : json_subtree_st rc_json_subtree) : json_subtree_st (json_subtree_body rc_json_subtree) := by
 intro w F x1 x6 x7 x8 A2 n3 c4 h5 hG1 hG2 hF hL0 r h
 unfold json_subtree_body at h
 refine calls_of_Loc (vs := [.slice A2 n3 c4, .int .i64 x6, .int .i64 x7, .bool x8]) 90 Tryd.func33 rfl Tryd.ntmps33 rfl hL0 ?_
 show G (json_subtree_C w F r) _ _ _ _
 refine gSq (c := q33c0) rfl ?_
 refine gRg (c := q33c1) rfl rfl ?_
 refine wl_v 0 rfl (vAs rfl) gn rfl ?_
 refine w_end 1 rfl ?_
 refine gSq (c := q33c2) rfl ?_
 refine gSq (c := q33c3) rfl ?_
 have j1 : ∀ (x24 : Bool) (h : json_subtree_j1 x6 x1 x7 rc_json_subtree x24 r) , G (json_subtree_C w F r) [.code q33c6, .code q33c4] [(0, .slice A2 n3 c4), (1, .int .i64 x6), (2, .int .i64 x7), (36, .bool x24)] [] [Sm w.heap.size F w [], St w []] := by
  intro x24 h
  unfold json_subtree_j1 at h
  by_cases hp25 : x24 = true
  ·have h := if_pos' hp25 h
   refine gTr (c := q33c6) rfl _ rfl (hp25) ?_
   refine gSq (c := q33c7) rfl ?_
   refine gRg (c := q33c9) rfl rfl ?_
   refine wl_v 0 rfl (vAs rfl) gn rfl ?_
   refine w_end 1 rfl ?_
   refine g_retR (c := q33c10) [.int .i64 (-1)] rfl Tryd.func33 rfl (.tmp rfl (.nil)) fun wr hLr => ?_
   have hMr : B.Loc w wr [] [St w []] := hLr.pick0 (sels [1] rfl)
   show json_subtree_R w F  r (.returned (packV [.int .i64 (-1)])) wr
   rw [h]
   exact ⟨rfl, hMr⟩
  ·have h := if_neg' hp25 h
   refine gFa (c := q33c6) rfl _ rfl ((bf hp25)) ?_
   refine g_skip (c := q33c8) rfl ?_
   refine gSq (c := q33c4) rfl ?_
   refine gRg (c := q33c11) rfl rfl ?_
   refine wl_v 0 rfl (vMv rfl) gn rfl ?_
   refine wl_v 1 rfl (vMv rfl) gn rfl ?_
   obtain ⟨hb26, h⟩ := h
   have hr27 := Rw.readF (s := St w []) (hl := hl_api_JNode) (h1 := h1_api_JNode) h5 hb26
   refine wl_v 2 rfl (v_idxR (s := St w []) slE_22 rfl rfl h5 hb26) gn rfl ?_
   refine wl_v 3 rfl (v_ldA (St w []) ld_31 rfl hr27 rfl (me 1 rfl)) gn rfl ?_
   refine wl_s 4 rfl (s_alloc [.int .i64 0, .string (⟨#[]⟩ : ByteArray), .string (⟨#[]⟩ : ByteArray), .int .i64 0] zr_31 rfl fun gb28 => ?_) gn
   refine wl_s 5 rfl (s_stB (vs := [.int .i64 ((ix x1 x6).kind), .string ((ix x1 x6).key), .string ((ix x1 x6).text), .int .i64 ((ix x1 x6).kids)]) (cs' := [.int .i64 ((ix x1 x6).kind), .string ((ix x1 x6).key), .string ((ix x1 x6).text), .int .i64 ((ix x1 x6).kids)]) (M' := [.box gb28 31 [.int .i64 ((ix x1 x6).kind), .string ((ix x1 x6).key), .string ((ix x1 x6).text), .int .i64 ((ix x1 x6).kids)]]) 0 sz_31 rfl rfl rfl rfl rfl rfl rfl rfl rfl ?_) gn
   refine w_end 6 rfl ?_
   refine gSq (c := q33c12) rfl ?_
   refine gSq (c := q33c13) rfl ?_
   have j2 : ∀ (x32 : Bool) (h : json_subtree_j2 x6 x7 x1 rc_json_subtree x32 r) , G (json_subtree_C w F r) [.code q33c16, .code q33c14] [(0, .slice A2 n3 c4), (1, .int .i64 x6), (2, .int .i64 x7), (9, .pointer (some ⟨gb28, 0, none⟩)), (48, .bool x32)] [.box gb28 31 [.int .i64 ((ix x1 x6).kind), .string ((ix x1 x6).key), .string ((ix x1 x6).text), .int .i64 ((ix x1 x6).kids)]] [Sm w.heap.size F w [], St w []] := by
    intro x32 h
    unfold json_subtree_j2 at h
    by_cases hp33 : x32 = true
    ·have h := if_pos' hp33 h
     refine gTr (c := q33c16) rfl _ rfl (hp33) ?_
     refine gSq (c := q33c17) rfl ?_
     refine gRg (c := q33c19) rfl rfl ?_
     refine wl_v 0 rfl (vMv rfl) gn rfl ?_
     refine wl_v 1 rfl (vBn rfl rfl rfl) gn rfl ?_
     refine wl_v 2 rfl (vAs rfl) gn rfl ?_
     refine w_end 3 rfl ?_
     refine g_retR (c := q33c20) [.int .i64 (w64 (x6 + 1))] rfl Tryd.func33 rfl (.tmp rfl (.nil)) fun wr hLr => ?_
     have hMr : B.Loc w wr [] [St w []] := hLr.pick0 (sels [1] rfl)
     show json_subtree_R w F  r (.returned (packV [.int .i64 (w64 (x6 + 1))])) wr
     rw [h]
     exact ⟨rfl, hMr⟩
    ·have h := if_neg' hp33 h
     refine gFa (c := q33c16) rfl _ rfl ((bf hp33)) ?_
     refine g_skip (c := q33c18) rfl ?_
     refine gSq (c := q33c14) rfl ?_
     refine gSq (c := q33c21) rfl ?_
     refine gRg (c := q33c23) rfl rfl ?_
     refine wl_v 0 rfl (vMv rfl) gn rfl ?_
     refine wl_v 1 rfl (vBn rfl rfl rfl) gn rfl ?_
     refine w_end 2 rfl ?_
     by_cases hp34 : x7 ≥ 64
     ·have h := if_pos' hp34 h
      refine gTr (c := q33c24) rfl _ rfl ((decide_eq_true hp34)) ?_
      refine gSq (c := q33c25) rfl ?_
      refine gRg (c := q33c27) rfl rfl ?_
      refine wl_v 0 rfl (vAs rfl) gn rfl ?_
      refine w_end 1 rfl ?_
      refine g_retR (c := q33c28) [.int .i64 (-1)] rfl Tryd.func33 rfl (.tmp rfl (.nil)) fun wr hLr => ?_
      have hMr : B.Loc w wr [] [St w []] := hLr.pick0 (sels [1] rfl)
      show json_subtree_R w F  r (.returned (packV [.int .i64 (-1)])) wr
      rw [h]
      exact ⟨rfl, hMr⟩
     ·have h := if_neg' hp34 h
      refine gFa (c := q33c24) rfl _ rfl ((decide_eq_false hp34)) ?_
      refine g_skip (c := q33c26) rfl ?_
      refine gSq (c := q33c22) rfl ?_
      refine gRg (c := q33c29) rfl rfl ?_
      refine wl_s 0 rfl (s_makeMap .i64 rfl fun gb35 => ?_) gn
      refine wl_v 1 rfl (vAs rfl) gn rfl ?_
      refine w_end 2 rfl ?_
      refine gSq (c := q33c30) rfl ?_
      refine gRg (c := q33c31) rfl rfl ?_
      refine wl_v 0 rfl (vMv rfl) gn rfl ?_
      refine wl_v 1 rfl (vBn rfl rfl rfl) gn rfl ?_
      refine wl_v 2 rfl (vAs rfl) gn rfl ?_
      refine w_end 3 rfl ?_
      refine gSq (c := q33c32) rfl ?_
      refine gSq (c := q33c33) rfl ?_
      refine gRg (c := q33c35) rfl rfl ?_
      refine wl_v 0 rfl (vFB fo_31_3 rfl) gn rfl ?_
      refine wl_v 1 rfl (v_ldB1 1 ld_3 rfl rfl rfl) gn rfl ?_
      refine wl_v 2 rfl (vMv rfl) gn rfl ?_
      refine w_end 3 rfl ?_
      refine g_block (c := q33c36) rfl ?_
      refine g_loop (c := q33c37) rfl ?_
      have key3 : ∀ s, Rounds (fun (s : Int × Int × (ByteArray → Int)) o => json_subtree_b3 x1 x6 rc_json_subtree x7 s.1 s.2.1 s.2.2 o) s r → (fun (s : Int × Int × (ByteArray → Int)) => ∀ (_ : Unit), G (json_subtree_C w F r) [.code q33c38, .inLoop q33c38, .inBlock 0, .code q33c34] [(0, .slice A2 n3 c4), (2, .int .i64 x7), (9, .pointer (some ⟨gb28, 0, none⟩)), (10, .map (some gb35)), (11, .int .i64 s.1), (57, .int .i64 ((ix x1 x6).kids)), (58, .int .i64 s.2.1)] [mapEnt gb35 .i64 s.2.2, .box gb28 31 [.int .i64 ((ix x1 x6).kind), .string ((ix x1 x6).key), .string ((ix x1 x6).text), .int .i64 ((ix x1 x6).kids)]] [Sm w.heap.size F w [], St w []]) s := by
       intro s hs
       refine Rounds.ind (mot := (fun (s : Int × Int × (ByteArray → Int)) => ∀ (_ : Unit), G (json_subtree_C w F r) [.code q33c38, .inLoop q33c38, .inBlock 0, .code q33c34] [(0, .slice A2 n3 c4), (2, .int .i64 x7), (9, .pointer (some ⟨gb28, 0, none⟩)), (10, .map (some gb35)), (11, .int .i64 s.1), (57, .int .i64 ((ix x1 x6).kids)), (58, .int .i64 s.2.1)] [mapEnt gb35 .i64 s.2.2, .box gb28 31 [.int .i64 ((ix x1 x6).kind), .string ((ix x1 x6).key), .string ((ix x1 x6).text), .int .i64 ((ix x1 x6).kids)]] [Sm w.heap.size F w [], St w []])) ?_ hs
       clear hs s
       intro s o1 h hO1
       obtain ⟨x53, x54, x55⟩ := s
       show ∀ (_ : Unit), G (json_subtree_C w F r) [.code q33c38, .inLoop q33c38, .inBlock 0, .code q33c34] [(0, .slice A2 n3 c4), (2, .int .i64 x7), (9, .pointer (some ⟨gb28, 0, none⟩)), (10, .map (some gb35)), (11, .int .i64 x53), (57, .int .i64 ((ix x1 x6).kids)), (58, .int .i64 x54)] [mapEnt gb35 .i64 x55, .box gb28 31 [.int .i64 ((ix x1 x6).kind), .string ((ix x1 x6).key), .string ((ix x1 x6).text), .int .i64 ((ix x1 x6).kids)]] [Sm w.heap.size F w [], St w []]
       intro _
       have h : json_subtree_b3 x1 x6 rc_json_subtree x7 x53 x54 x55 o1 := h
       unfold json_subtree_b3 at h
       refine gSq (c := q33c38) rfl ?_
       refine gRg (c := q33c39) rfl rfl ?_
       refine wl_v 0 rfl (vBn rfl rfl rfl) gn rfl ?_
       refine w_end 1 rfl ?_
       refine gSq (c := q33c40) rfl ?_
       by_cases hp71 : x54 < (ix x1 x6).kids
       ·have h := if_pos' hp71 h
        refine gTr (c := q33c41) rfl _ rfl ((decide_eq_true hp71)) ?_
        refine g_skip (c := q33c43) rfl ?_
        refine gSq (c := q33c42) rfl ?_
        refine g_block (c := q33c45) rfl ?_
        refine gSq (c := q33c47) rfl ?_
        refine gRg (c := q33c48) rfl rfl ?_
        refine wl_v 0 rfl (vMv rfl) gn rfl ?_
        refine wl_v 1 rfl (vAs rfl) gn rfl ?_
        refine w_end 2 rfl ?_
        refine gSq (c := q33c49) rfl ?_
        refine gSq (c := q33c50) rfl ?_
        refine gRg (c := q33c52) rfl rfl ?_
        refine wl_v 0 rfl (vMv rfl) gn rfl ?_
        refine wl_v 1 rfl (vMv rfl) gn rfl ?_
        refine wl_v 2 rfl (vMv rfl) gn rfl ?_
        refine wl_v 3 rfl (vBn rfl rfl rfl) gn rfl ?_
        refine wl_v 4 rfl (vFB fo_31_0 rfl) gn rfl ?_
        refine wl_v 5 rfl (v_ldB1 1 ld_29 rfl rfl rfl) gn rfl ?_
        refine wl_v 6 rfl (vBn rfl rfl rfl) gn rfl ?_
        obtain ⟨r75, hv76, h⟩ := h
        refine wl_s 7 rfl (sCl [.slice A2 n3 c4, .int .i64 x53, .int .i64 (w64 (x7 + 1)), .bool (((ix x1 x6).kind) == 7)] rfl Tryd.func33 rfl rfl rfl fun w72 hL73 => ?_) gn
        have hp74 : List.Perm ([mapEnt gb35 .i64 x55, .box gb28 31 [.int .i64 ((ix x1 x6).kind), .string ((ix x1 x6).key), .string ((ix x1 x6).text), .int .i64 ((ix x1 x6).kids)]] : List Ent) (([] : List Ent) ++ ([mapEnt gb35 .i64 x55, .box gb28 31 [.int .i64 ((ix x1 x6).kind), .string ((ix x1 x6).key), .string ((ix x1 x6).text), .int .i64 ((ix x1 x6).kids)]] : List Ent)) := pIx [] [0, 1] rfl rfl (by kernel_rfl)
        refine Calls.mono (ih_json_subtree w72 (Fl ([] : List Snap)) x1 x53 (w64 (x7 + 1)) (((ix x1 x6).kind) == 7) A2 n3 c4 (Rw.mono h5 (hL73.toSt hp74 (me 1 rfl))) (hL73.tt hp74 hG1 (me 1 rfl)) (hL73.tt hp74 hG2 (me 1 rfl)) (hL73.hFl (Sl := ([] : List Snap)) hp74 (sels [] rfl)) (hL73.into hp74 (Fl ([] : List Snap))) r75 hv76) ?_
        rintro _ w77 ⟨rfl, hM78⟩
        have hL79 := hL73.call hp74 hM78
        refine ⟨_, _, _, rfl, hL79, ?_⟩
        refine wl_v 8 rfl (vAs rfl) gn rfl ?_
        refine w_end 9 rfl ?_
        refine gSq (c := q33c53) rfl ?_
        refine gRg (c := q33c54) rfl rfl ?_
        refine wl_v 0 rfl (vMv rfl) gn rfl ?_
        refine wl_v 1 rfl (vBn rfl rfl rfl) gn rfl ?_
        refine w_end 2 rfl ?_
        by_cases hp80 : r75 < 0
        ·have h := if_pos' hp80 h
         refine gTr (c := q33c55) rfl _ rfl ((decide_eq_true hp80)) ?_
         refine gSq (c := q33c56) rfl ?_
         refine gRg (c := q33c58) rfl rfl ?_
         refine wl_v 0 rfl (vAs rfl) gn rfl ?_
         refine w_end 1 rfl ?_
         have h := Out.inr hO1 h
         refine g_retR (c := q33c59) [.int .i64 (-1)] rfl Tryd.func33 rfl (.tmp rfl (.nil)) fun wr hLr => ?_
         have hMr : B.Loc w wr [] [St w []] := hLr.pick0 (sels [1] rfl)
         show json_subtree_R w F  r (.returned (packV [.int .i64 (-1)])) wr
         rw [h]
         exact ⟨rfl, hMr⟩
        ·have h := if_neg' hp80 h
         refine gFa (c := q33c55) rfl _ rfl ((decide_eq_false hp80)) ?_
         refine g_skip (c := q33c57) rfl ?_
         refine gSq (c := q33c51) rfl ?_
         refine gRg (c := q33c60) rfl rfl ?_
         refine wl_v 0 rfl (vFB fo_31_0 rfl) gn rfl ?_
         refine wl_v 1 rfl (v_ldB1 1 ld_29 rfl rfl rfl) gn rfl ?_
         refine wl_v 2 rfl (vBn rfl rfl rfl) gn rfl ?_
         refine w_end 3 rfl ?_
         by_cases hp81 : (ix x1 x6).kind = 7
         ·have h := if_pos' hp81 h
          refine gTr (c := q33c61) rfl _ rfl ((eqi hp81)) ?_
          refine gSq (c := q33c62) rfl ?_
          refine gSq (c := q33c64) rfl ?_
          refine gRg (c := q33c66) rfl rfl ?_
          refine wl_v 0 rfl (vMv rfl) gn rfl ?_
          refine wl_v 1 rfl (vMv rfl) gn rfl ?_
          refine wl_v 2 rfl (vMv rfl) gn rfl ?_
          obtain ⟨hb82, h⟩ := h
          have hr83 := Rw.readF (s := St w []) (hl := hl_api_JNode) (h1 := h1_api_JNode) h5 hb82
          refine wl_v 3 rfl (v_idxR (s := St w []) slE_22 rfl rfl h5 hb82) gn rfl ?_
          refine wl_v 4 rfl (v_fldA fo_31_1 rfl) gn rfl ?_
          refine wl_v 5 rfl (v_ldA1 (kk := (x53 : Int).toNat * 4) (j := 1) (St w []) ld_9 rfl hr83 rfl (me 1 rfl)) gn rfl ?_
          refine wl_v 6 rfl (v_look 0 mp_77 rfl rfl rfl) gn rfl ?_
          refine wl_v 7 rfl (vBn rfl rfl rfl) gn rfl ?_
          refine w_end 8 rfl ?_
          by_cases hp84 : x55 ((ix x1 x53).key) > 0
          ·have h := if_pos' hp84 h
           refine gTr (c := q33c67) rfl _ rfl ((decide_eq_true hp84)) ?_
           refine gSq (c := q33c68) rfl ?_
           refine gRg (c := q33c70) rfl rfl ?_
           refine wl_v 0 rfl (vAs rfl) gn rfl ?_
           refine w_end 1 rfl ?_
           have h := Out.inr hO1 h
           refine g_retR (c := q33c71) [.int .i64 (-1)] rfl Tryd.func33 rfl (.tmp rfl (.nil)) fun wr hLr => ?_
           have hMr : B.Loc w wr [] [St w []] := hLr.pick0 (sels [1] rfl)
           show json_subtree_R w F  r (.returned (packV [.int .i64 (-1)])) wr
           rw [h]
           exact ⟨rfl, hMr⟩
          ·have h := if_neg' hp84 h
           refine gFa (c := q33c67) rfl _ rfl ((decide_eq_false hp84)) ?_
           refine g_skip (c := q33c69) rfl ?_
           refine gRg (c := q33c65) rfl rfl ?_
           refine wl_v 0 rfl (vMv rfl) gn rfl ?_
           refine wl_v 1 rfl (vMv rfl) gn rfl ?_
           refine wl_v 2 rfl (vMv rfl) gn rfl ?_
           have hr85 := Rw.readF (s := St w []) (hl := hl_api_JNode) (h1 := h1_api_JNode) h5 hb82
           refine wl_v 3 rfl (v_idxR (s := St w []) slE_22 rfl rfl h5 hb82) gn rfl ?_
           refine wl_v 4 rfl (v_fldA fo_31_1 rfl) gn rfl ?_
           refine wl_v 5 rfl (v_ldA1 (kk := (x53 : Int).toNat * 4) (j := 1) (St w []) ld_9 rfl hr85 rfl (me 1 rfl)) gn rfl ?_
           refine wl_s 6 rfl (s_mapSet (M' := [mapEnt gb35 .i64 (updM x55 ((ix x1 x53).key) 1), .box gb28 31 [.int .i64 ((ix x1 x6).kind), .string ((ix x1 x6).key), .string ((ix x1 x6).text), .int .i64 ((ix x1 x6).kids)]]) 0 mp_77 rfl rfl rfl rfl rfl ?_) gn
           refine w_end 7 rfl ?_
           refine g_inBlock ?_
           refine gRg (c := q33c46) rfl rfl ?_
           refine wl_v 0 rfl (vBn rfl rfl rfl) gn rfl ?_
           refine wl_v 1 rfl (vMv rfl) gn rfl ?_
           refine w_end 2 rfl ?_
           refine g_inLoop ?_
           have ih := Out.inl hO1 h
           exact g_go [0, 1] (ih ()) ⟨rfl, rfl, rfl, rfl, rfl, rfl, rfl, trivial⟩ (.cons_cons _ (.cons_cons _ (.slnil))) rfl
         ·have h := if_neg' hp81 h
          refine gFa (c := q33c61) rfl _ rfl ((nei hp81)) ?_
          refine g_skip (c := q33c63) rfl ?_
          refine g_inBlock ?_
          refine gRg (c := q33c46) rfl rfl ?_
          refine wl_v 0 rfl (vBn rfl rfl rfl) gn rfl ?_
          refine wl_v 1 rfl (vMv rfl) gn rfl ?_
          refine w_end 2 rfl ?_
          refine g_inLoop ?_
          have ih := Out.inl hO1 h
          exact g_go [0, 1] (ih ()) ⟨rfl, rfl, rfl, rfl, rfl, rfl, rfl, trivial⟩ (.cons_cons _ (.cons_cons _ (.slnil))) rfl
       ·have h := if_neg' hp71 h
        refine gFa (c := q33c41) rfl _ rfl ((decide_eq_false hp71)) ?_
        refine g_exit (c := q33c44) [.code q33c34] rfl rfl ?_
        refine gSq (c := q33c34) rfl ?_
        refine gRg (c := q33c72) rfl rfl ?_
        refine wl_v 0 rfl (vMv rfl) gn rfl ?_
        refine wl_v 1 rfl (vAs rfl) gn rfl ?_
        refine w_end 2 rfl ?_
        have h := Out.inr hO1 h
        refine g_retR (c := q33c73) [.int .i64 x53] rfl Tryd.func33 rfl (.tmp rfl (.nil)) fun wr hLr => ?_
        have hMr : B.Loc w wr [] [St w []] := hLr.pick0 (sels [1] rfl)
        show json_subtree_R w F  r (.returned (packV [.int .i64 x53])) wr
        rw [h]
        exact ⟨rfl, hMr⟩
      exact g_go [0, 1] (key3 _ h ()) ⟨rfl, rfl, rfl, rfl, rfl, rfl, rfl, trivial⟩ (.cons_cons _ (.cons_cons _ (.slnil))) rfl
   refine gRg (c := q33c15) rfl rfl ?_
   refine wl_v 0 rfl (vFB fo_31_0 rfl) gn rfl ?_
   refine wl_v 1 rfl (v_ldB1 0 ld_29 rfl rfl rfl) gn rfl ?_
   refine wl_v 2 rfl (vBn rfl rfl rfl) gn rfl ?_
   refine wl_v 3 rfl (vMv rfl) gn rfl ?_
   by_cases hp86 : (ix x1 x6).kind = 6
   ·have h := if_pos' hp86 h
    refine w_bool 44 rfl ((eqib hp86)) ?_
    refine wl_pass 4 rfl (ps 44 rfl rfl rfl) ?_
    refine wl_pass 5 rfl (ps 44 rfl rfl rfl) ?_
    refine wl_pass 6 rfl (ps 44 rfl rfl rfl) ?_
    refine wl_v 7 rfl (v_pick (b := false) rfl rfl) gn rfl ?_
    refine w_end 8 rfl ?_
    exact g_go [0, 1] (j2 false h) ⟨rfl, rfl, rfl, rfl, rfl, trivial⟩ (.cons_cons _ (.slnil)) rfl
   ·have h := if_neg' hp86 h
    refine w_bool 44 rfl ((neib hp86)) ?_
    refine wl_v 4 rfl (vFB fo_31_0 rfl) (gy 44 rfl rfl) rfl ?_
    refine wl_v 5 rfl (v_ldB1 0 ld_29 rfl rfl rfl) (gy 44 rfl rfl) rfl ?_
    refine wl_v 6 rfl (vBn rfl rfl rfl) (gy 44 rfl rfl) rfl ?_
    refine wl_v 7 rfl (v_pick (b := true) rfl rfl) gn rfl ?_
    refine w_end 8 rfl ?_
    exact g_go [0, 1] (j2 (((ix x1 x6).kind) != 7) h) ⟨rfl, rfl, rfl, rfl, rfl, trivial⟩ (.cons_cons _ (.slnil)) rfl
 refine gRg (c := q33c5) rfl rfl ?_
 refine wl_v 0 rfl (vMv rfl) gn rfl ?_
 refine wl_v 1 rfl (vMv rfl) gn rfl ?_
 refine wl_v 2 rfl (v_lenQ un_22 rfl h5.hq) gn rfl ?_
 refine wl_v 3 rfl (vBn rfl rfl rfl) gn rfl ?_
 refine wl_v 4 rfl (vMv rfl) gn rfl ?_
 by_cases hp87 : x6 ≥ (x1.length : Int)
 ·have h := if_pos' hp87 h
  refine w_bool 17 rfl ((decide_eq_true hp87)) ?_
  refine wl_pass 5 rfl (ps 17 rfl rfl rfl) ?_
  refine wl_pass 6 rfl (ps 17 rfl rfl rfl) ?_
  refine wl_pass 7 rfl (ps 17 rfl rfl rfl) ?_
  refine wl_pass 8 rfl (ps 17 rfl rfl rfl) ?_
  refine wl_pass 9 rfl (ps 17 rfl rfl rfl) ?_
  refine wl_pass 10 rfl (ps 17 rfl rfl rfl) ?_
  refine wl_v 11 rfl (v_pick (b := true) rfl rfl) gn rfl ?_
  refine wl_v 12 rfl (vMv rfl) gn rfl ?_
  refine wl_pass 13 rfl (ps 25 rfl rfl rfl) ?_
  refine wl_pass 14 rfl (ps 25 rfl rfl rfl) ?_
  refine wl_pass 15 rfl (ps 25 rfl rfl rfl) ?_
  refine wl_pass 16 rfl (pu 28 rfl rfl) ?_
  refine wl_pass 17 rfl (pu 28 rfl rfl) ?_
  refine wl_pass 18 rfl (pu 28 rfl rfl) ?_
  refine wl_pass 19 rfl (pu 28 rfl rfl) ?_
  refine wl_pass 20 rfl (pu 28 rfl rfl) ?_
  refine wl_pass 21 rfl (pu 28 rfl rfl) ?_
  refine wl_pass 22 rfl (ps 25 rfl rfl rfl) ?_
  refine wl_v 23 rfl (v_pick (b := true) rfl rfl) gn rfl ?_
  refine w_end 24 rfl ?_
  exact g_go [0, 1] (j1 true h) ⟨rfl, rfl, rfl, rfl, trivial⟩ (.slnil) rfl
 ·have h := if_neg' hp87 h
  refine w_bool 17 rfl ((decide_eq_false hp87)) ?_
  refine wl_v 5 rfl (vMv rfl) (gy 17 rfl rfl) rfl ?_
  refine wl_v 6 rfl (vMv rfl) (gy 17 rfl rfl) rfl ?_
  obtain ⟨hb88, h⟩ := h
  have hr89 := Rw.readF (s := St w []) (hl := hl_api_JNode) (h1 := h1_api_JNode) h5 hb88
  refine wl_v 7 rfl (v_idxR (s := St w []) slE_22 rfl rfl h5 hb88) (gy 17 rfl rfl) rfl ?_
  refine wl_v 8 rfl (v_ldA (St w []) ld_31 rfl hr89 rfl (me 1 rfl)) (gy 17 rfl rfl) rfl ?_
  obtain ⟨r93, hv94, h⟩ := h
  refine wl_s 9 rfl (sCl [.agg #[.int .i64 ((ix x1 x6).kind), .string ((ix x1 x6).key), .string ((ix x1 x6).text), .int .i64 ((ix x1 x6).kids)]] rfl Tryd.func50 rfl rfl rfl fun w90 hL91 => ?_) (gy 17 rfl rfl)
  have hp92 : List.Perm ([] : List Ent) (([] : List Ent) ++ ([] : List Ent)) := pIx [] [] rfl rfl (by kernel_rfl)
  refine Calls.mono (json_sound_calls w90 (Fl ([] : List Snap)) (ix x1 x6) (hL91.tt hp92 hG1 (me 1 rfl)) (hL91.tt hp92 hG2 (me 1 rfl)) (hL91.hFl (Sl := ([] : List Snap)) hp92 (sels [] rfl)) (hL91.into hp92 (Fl ([] : List Snap))) r93 hv94) ?_
  rintro _ w95 ⟨rfl, hM96⟩
  have hL97 := hL91.call hp92 hM96
  refine ⟨_, _, _, rfl, hL97, ?_⟩
  refine wl_v 10 rfl (v_not rfl) (gy 17 rfl rfl) rfl ?_
  refine wl_v 11 rfl (v_pick (b := false) rfl rfl) gn rfl ?_
  refine wl_v 12 rfl (vMv rfl) gn rfl ?_
  by_cases hp98 : r93 = true
  ·have h := if_pos' hp98 h
   refine w_bool 25 rfl ((nf hp98)) ?_
   refine wl_v 13 rfl (vMv rfl) (gy 25 rfl rfl) rfl ?_
   refine wl_v 14 rfl (v_not rfl) (gy 25 rfl rfl) rfl ?_
   refine wl_v 15 rfl (vMv rfl) (gy 25 rfl rfl) rfl ?_
   by_cases hp99 : x8 = true
   ·have h := if_pos' hp99 h
    refine w_bool 28 rfl ((nf hp99)) ?_
    refine wl_pass 16 rfl (ps 28 rfl rfl rfl) ?_
    refine wl_pass 17 rfl (ps 28 rfl rfl rfl) ?_
    refine wl_pass 18 rfl (ps 28 rfl rfl rfl) ?_
    refine wl_pass 19 rfl (ps 28 rfl rfl rfl) ?_
    refine wl_pass 20 rfl (ps 28 rfl rfl rfl) ?_
    refine wl_pass 21 rfl (ps 28 rfl rfl rfl) ?_
    refine wl_v 22 rfl (v_pick (b := false) rfl rfl) (gy 25 rfl rfl) rfl ?_
    refine wl_v 23 rfl (v_pick (b := false) rfl rfl) gn rfl ?_
    refine w_end 24 rfl ?_
    exact g_go [0, 1] (j1 false h) ⟨rfl, rfl, rfl, rfl, trivial⟩ (.slnil) rfl
   ·have h := if_neg' hp99 h
    refine w_bool 28 rfl ((nt (bf hp99))) ?_
    refine wl_v 16 rfl (vMv rfl) (gy 28 rfl rfl) rfl ?_
    refine wl_v 17 rfl (vMv rfl) (gy 28 rfl rfl) rfl ?_
    have hr100 := Rw.readF (s := St w []) (hl := hl_api_JNode) (h1 := h1_api_JNode) h5 hb88
    refine wl_v 18 rfl (v_idxR (s := St w []) slE_22 rfl rfl h5 hb88) (gy 28 rfl rfl) rfl ?_
    refine wl_v 19 rfl (v_fldA fo_31_1 rfl) (gy 28 rfl rfl) rfl ?_
    refine wl_v 20 rfl (v_ldA1 (kk := (x6 : Int).toNat * 4) (j := 1) (St w []) ld_9 rfl hr100 rfl (me 1 rfl)) (gy 28 rfl rfl) rfl ?_
    refine wl_v 21 rfl (v_neS rfl rfl) (gy 28 rfl rfl) rfl ?_
    refine wl_v 22 rfl (v_pick (b := true) rfl rfl) (gy 25 rfl rfl) rfl ?_
    refine wl_v 23 rfl (v_pick (b := false) rfl rfl) gn rfl ?_
    refine w_end 24 rfl ?_
    exact g_go [0, 1] (j1 (!(seq ((ix x1 x6).key) (⟨#[]⟩ : ByteArray))) h) ⟨rfl, rfl, rfl, rfl, trivial⟩ (.slnil) rfl
  ·have h := if_neg' hp98 h
   refine w_bool 25 rfl ((nt (bf hp98))) ?_
   refine wl_pass 13 rfl (ps 25 rfl rfl rfl) ?_
   refine wl_pass 14 rfl (ps 25 rfl rfl rfl) ?_
   refine wl_pass 15 rfl (ps 25 rfl rfl rfl) ?_
   refine wl_pass 16 rfl (pu 28 rfl rfl) ?_
   refine wl_pass 17 rfl (pu 28 rfl rfl) ?_
   refine wl_pass 18 rfl (pu 28 rfl rfl) ?_
   refine wl_pass 19 rfl (pu 28 rfl rfl) ?_
   refine wl_pass 20 rfl (pu 28 rfl rfl) ?_
   refine wl_pass 21 rfl (pu 28 rfl rfl) ?_
   refine wl_pass 22 rfl (ps 25 rfl rfl rfl) ?_
   refine wl_v 23 rfl (v_pick (b := true) rfl rfl) gn rfl ?_
   refine w_end 24 rfl ?_
   exact g_go [0, 1] (j1 true h) ⟨rfl, rfl, rfl, rfl, trivial⟩ (.slnil) rfl
theorem json_subtree_ind : ∀ n, json_subtree_st (json_subtree_n n)
 | 0 => fun w F x1 x6 x7 x8 A2 n3 c4 h5 hG1 hG2 hF hL0 r h => h.elim
 | n + 1 => by
  have ih := json_subtree_ind n
  exact json_subtree_step _ ih
theorem json_subtree_calls (w : World) (F : Nat → Prop) (x1 : List JNd) (x6 : Int) (x7 : Int) (x8 : Bool) (A2 : Option Addr) (n3 : Nat) (c4 : Nat) (h5 : Rw k_api_JNode w (St w []).av A2 n3 c4 x1) (hG1 : Tt .u8 tb_1 1 (St w [])) (hG2 : Tt .u8 tb_2 2 (St w [])) (hF : ∀ b, F b → b < w.heap.size ∧ ∀ o ∈ ([] : List (List Nat)), b ∉ o) (hL0 : B.Loc w w [] [Sm w.heap.size F w [], St w []]) (r : Int) (h : json_subtree x1 x6 x7 x8 r) : Calls Tryd.prog 33 #[.slice A2 n3 c4, .int .i64 x6, .int .i64 x7, .bool x8] w (json_subtree_R w F  r) := by
 obtain ⟨n, h⟩ := h
 exact (json_subtree_ind n) w F x1 x6 x7 x8 A2 n3 c4 h5 hG1 hG2 hF hL0 r h
noncomputable abbrev q21c0 : Code := bodyOf Tryd.f21
noncomputable abbrev q21c1 := Code.fst q21c0
noncomputable abbrev q21c2 := Code.snd q21c0
noncomputable abbrev q21c3 := Code.fst q21c2
noncomputable abbrev q21c4 := Code.snd q21c2
abbrev json_Shaped_R (w : World) (F : Nat → Prop) (r : Bool) : Ending → World → Prop := fun e w' => e = .returned (.bool r) ∧ B.Loc w w' [] [St w []]
noncomputable abbrev json_Shaped_C (w : World) (F : Nat → Prop) (r : Bool) : Cx := ⟨Tryd.prog, 21, Tryd.f21, 13, json_Shaped_R w F  r, w⟩
theorem json_Shaped_calls (w : World) (F : Nat → Prop) (x1 : List JNd) (A2 : Option Addr) (n3 : Nat) (c4 : Nat) (h5 : Rw k_api_JNode w (St w []).av A2 n3 c4 x1) (hG1 : Tt .u8 tb_1 1 (St w [])) (hG2 : Tt .u8 tb_2 2 (St w [])) (hF : ∀ b, F b → b < w.heap.size ∧ ∀ o ∈ ([] : List (List Nat)), b ∉ o) (hL0 : B.Loc w w [] [Sm w.heap.size F w [], St w []]) (r : Bool) (h : json_Shaped x1 r) : Calls Tryd.prog 21 #[.slice A2 n3 c4] w (json_Shaped_R w F  r) := by
 unfold json_Shaped at h
 refine calls_of_Loc (vs := [.slice A2 n3 c4]) 13 Tryd.func21 rfl Tryd.ntmps21 rfl hL0 ?_
 show G (json_Shaped_C w F r) _ _ _ _
 refine gSq (c := q21c0) rfl ?_
 refine gRg (c := q21c1) rfl rfl ?_
 refine wl_v 0 rfl (vAs rfl) gn rfl ?_
 refine w_end 1 rfl ?_
 refine gSq (c := q21c2) rfl ?_
 refine gRg (c := q21c3) rfl rfl ?_
 refine wl_v 0 rfl (vMv rfl) gn rfl ?_
 refine wl_v 1 rfl (v_lenQ un_22 rfl h5.hq) gn rfl ?_
 refine wl_v 2 rfl (vBn rfl rfl rfl) gn rfl ?_
 refine wl_v 3 rfl (vMv rfl) gn rfl ?_
 by_cases hp6 : (x1.length : Int) > 0
 ·have h := if_pos' hp6 h
  refine w_bool 6 rfl ((decide_eq_true hp6)) ?_
  refine wl_v 4 rfl (vMv rfl) (gy 6 rfl rfl) rfl ?_
  obtain ⟨r10, hv11, h⟩ := h
  refine wl_s 5 rfl (sCl [.slice A2 n3 c4, .int .i64 0, .int .i64 0, .bool false] rfl Tryd.func33 rfl rfl rfl fun w7 hL8 => ?_) (gy 6 rfl rfl)
  have hp9 : List.Perm ([] : List Ent) (([] : List Ent) ++ ([] : List Ent)) := pIx [] [] rfl rfl (by kernel_rfl)
  refine Calls.mono (json_subtree_calls w7 (Fl ([] : List Snap)) x1 0 0 false A2 n3 c4 (Rw.mono h5 (hL8.toSt hp9 (me 1 rfl))) (hL8.tt hp9 hG1 (me 1 rfl)) (hL8.tt hp9 hG2 (me 1 rfl)) (hL8.hFl (Sl := ([] : List Snap)) hp9 (sels [] rfl)) (hL8.into hp9 (Fl ([] : List Snap))) r10 hv11) ?_
  rintro _ w12 ⟨rfl, hM13⟩
  have hL14 := hL8.call hp9 hM13
  refine ⟨_, _, _, rfl, hL14, ?_⟩
  refine wl_v 6 rfl (vMv rfl) (gy 6 rfl rfl) rfl ?_
  refine wl_v 7 rfl (v_lenQ un_22 rfl h5.hq) (gy 6 rfl rfl) rfl ?_
  refine wl_v 8 rfl (vBn rfl rfl rfl) (gy 6 rfl rfl) rfl ?_
  refine wl_v 9 rfl (v_pick (b := true) rfl rfl) gn rfl ?_
  refine wl_v 10 rfl (vAs rfl) gn rfl ?_
  refine w_end 11 rfl ?_
  refine g_retR (c := q21c4) [.bool (r10 == (x1.length : Int))] rfl Tryd.func21 rfl (.tmp rfl (.nil)) fun wr hLr => ?_
  have hMr : B.Loc w wr [] [St w []] := hLr.pick0 (sels [1] rfl)
  show json_Shaped_R w F  r (.returned (packV [.bool (r10 == (x1.length : Int))])) wr
  rw [h]
  exact ⟨rfl, hMr⟩
 ·have h := if_neg' hp6 h
  refine w_bool 6 rfl ((decide_eq_false hp6)) ?_
  refine wl_pass 4 rfl (ps 6 rfl rfl rfl) ?_
  refine wl_pass 5 rfl (ps 6 rfl rfl rfl) ?_
  refine wl_pass 6 rfl (ps 6 rfl rfl rfl) ?_
  refine wl_pass 7 rfl (ps 6 rfl rfl rfl) ?_
  refine wl_pass 8 rfl (ps 6 rfl rfl rfl) ?_
  refine wl_v 9 rfl (v_pick (b := false) rfl rfl) gn rfl ?_
  refine wl_v 10 rfl (vAs rfl) gn rfl ?_
  refine w_end 11 rfl ?_
  refine g_retR (c := q21c4) [.bool false] rfl Tryd.func21 rfl (.tmp rfl (.nil)) fun wr hLr => ?_
  have hMr : B.Loc w wr [] [St w []] := hLr.pick0 (sels [1] rfl)
  show json_Shaped_R w F  r (.returned (packV [.bool false])) wr
  rw [h]
  exact ⟨rfl, hMr⟩
end Go.Proofs.YtmfopcbjgbphaaaDoor.K
