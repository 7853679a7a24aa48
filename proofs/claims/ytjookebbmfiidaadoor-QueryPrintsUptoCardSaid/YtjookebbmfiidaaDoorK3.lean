/- What the machine's calls do, function by function, printed by my own tool. Condition of each: its relation holds of the answer, and what is handed in lies in memory as told. -/
import Derived.Test.YtjookebbmfiidaaDoorK2
set_option linter.unusedVariables false
set_option maxRecDepth 100000
set_option maxHeartbeats 4000000
namespace Go.Proofs.YtjookebbmfiidaaDoor.K
open Go.Proofs.YtjookebbmfiidaaDoor.B Go.Proofs.YtjookebbmfiidaaDoor.R Go.RowKit
noncomputable abbrev q24c4 := Code.snd (Code.snd (bodyOf Tryd.f24))
noncomputable abbrev q24c5 := Code.fst (Code.fst (Code.snd (bodyOf Tryd.f24)))
noncomputable abbrev q24c6 := Code.snd (Code.fst (Code.snd (bodyOf Tryd.f24)))
noncomputable abbrev q24c12 := Code.snd q24c4
noncomputable abbrev q24c16 := Code.fst (Code.fst (Code.snd (Code.fst q24c4)))
noncomputable abbrev q24c35 := Code.snd q24c12
noncomputable abbrev q24c39 := Code.fst (Code.fst (Code.snd (Code.fst q24c12)))
abbrev query_Shaped_R (w : World) (F : Nat → Prop) (r : Bool) : Ending → World → Prop := fun e w' => e = .returned (.bool r) ∧ B.Loc w w' [] [St w []]
noncomputable abbrev query_Shaped_C (w : World) (F : Nat → Prop) (r : Bool) : Cx := ⟨Tryd.prog, 24, Tryd.f24, 81, query_Shaped_R w F  r, w⟩
theorem query_Shaped_calls (w : World) (F : Nat → Prop) (x1 : api_Query) (A2 : Option Addr) (n3 : Nat) (c4 : Nat) (A6 : Option Addr) (n7 : Nat) (c8 : Nat) (h5 : Rw k_api_PatNode w (St w []).av A2 n3 c4 x1.nodes) (h9 : Rw k_api_Cond w (St w []).av A6 n7 c8 x1.conds) (hG : Tb Tryd.prog (St w [])) (hF : ∀ b, F b → b < w.heap.size ∧ ∀ o ∈ ([] : List (List Nat)), b ∉ o) (hL0 : B.Loc w w [] [Sm w.heap.size F w [], St w []]) (r : Bool) (h : query_Shaped x1 r) : Calls Tryd.prog 24 #[.agg #[.slice A2 n3 c4, .slice A6 n7 c8]] w (query_Shaped_R w F  r) := by
 unfold query_Shaped at h
 refine calls_of_Loc (vs := [.agg #[.slice A2 n3 c4, .slice A6 n7 c8]]) 81 Tryd.func24 rfl Tryd.ntmps24 rfl hL0 ?_
 show G (query_Shaped_C w F r) _ _ _ _
 refine g_seq rfl <| g_region rfl rfl ?_
 refine wl_s 0 rfl (s_box [.slice A2 n3 c4, .slice A6 n7 c8] rfl rfl rfl fun gb10 => ?_) gn
 refine wl_v 1 rfl (v_assign rfl) gn rfl <| w_end 2 rfl <| g_seq rfl <| g_seq rfl ?_
 have j1 : ∀ (x84 : Bool) (h : query_Shaped_j1 x1 x84 r) , G (query_Shaped_C w F r) [.code q24c6, .code q24c4] [(1, .pointer (some ⟨gb10, 0, none⟩)), (25, .bool x84)] [.box gb10 25 [.slice A2 n3 c4, .slice A6 n7 c8]] [Sm w.heap.size F w [], St w []] := by
  intro x84 h
  unfold query_Shaped_j1 at h
  by_cases hp85 : x84 = true
  ·have h := if_pos' hp85 h
   refine g_true rfl _ rfl (hp85) <| g_seq rfl <| g_region rfl rfl <| wl_v 0 rfl (v_assign rfl) gn rfl <| w_end 1 rfl ?_
   refine g_retR [.bool false] rfl Tryd.func24 rfl (.tmp rfl (.nil)) fun wr hLr => ?_
   have hMr := hLr.pk0 (.c 1 rfl .n)
   show query_Shaped_R w F  r (.returned (packV [.bool false])) wr
   rw [h]
   exact ⟨rfl, hMr⟩
  ·have h := if_neg' hp85 h
   refine g_false rfl _ rfl ((bf hp85)) <| g_skip rfl <| g_seq rfl <| g_seq rfl <| g_region rfl rfl <| wl_v 0 rfl (v_fldB fo_25_0 rfl) gn rfl <| wl_v 1 rfl (v_ldB1 0 ld_22 rfl rfl rfl) gn rfl <| wl_v 2 rfl (v_lenQ un_22 rfl h5.hq) gn rfl <| wl_v 3 rfl (v_move rfl) gn rfl <| w_end 4 rfl <| g_block rfl <| g_loop rfl ?_
   have key2 : ∀ s, Rounds (fun (s : Int) o => query_Shaped_b2 x1 s o) s r → (fun (s : Int) => ∀ (_ : Unit), G (query_Shaped_C w F r) [.code q24c16, .inLoop q24c16, .inBlock 0, .code q24c12] [(1, .pointer (some ⟨gb10, 0, none⟩)), (27, .slice A2 n3 c4), (28, .int .i64 (x1.nodes.length : Int)), (29, .int .i64 s)] [.box gb10 25 [.slice A2 n3 c4, .slice A6 n7 c8]] [Sm w.heap.size F w [], St w []]) s := by
    intro s hs
    refine Rounds.ind (mot := (fun (s : Int) => ∀ (_ : Unit), G (query_Shaped_C w F r) [.code q24c16, .inLoop q24c16, .inBlock 0, .code q24c12] [(1, .pointer (some ⟨gb10, 0, none⟩)), (27, .slice A2 n3 c4), (28, .int .i64 (x1.nodes.length : Int)), (29, .int .i64 s)] [.box gb10 25 [.slice A2 n3 c4, .slice A6 n7 c8]] [Sm w.heap.size F w [], St w []])) ?_ hs
    clear hs s
    intro x188 o1 h hO1
    show ∀ (_ : Unit), G (query_Shaped_C w F r) [.code q24c16, .inLoop q24c16, .inBlock 0, .code q24c12] [(1, .pointer (some ⟨gb10, 0, none⟩)), (27, .slice A2 n3 c4), (28, .int .i64 (x1.nodes.length : Int)), (29, .int .i64 x188)] [.box gb10 25 [.slice A2 n3 c4, .slice A6 n7 c8]] [Sm w.heap.size F w [], St w []]
    intro _
    have h : query_Shaped_b2 x1 x188 o1 := h
    unfold query_Shaped_b2 at h
    refine g_seq rfl <| g_region rfl rfl <| wl_v 0 rfl (v_bin rfl rfl rfl) gn rfl <| w_end 1 rfl <| g_seq rfl ?_
    by_cases hp290 : x188 < (x1.nodes.length : Int)
    ·have h := if_pos' hp290 h
     refine g_true rfl _ rfl ((decide_eq_true hp290)) <| g_skip rfl <| g_seq rfl <| g_block rfl <| g_seq rfl <| g_region rfl rfl <| wl_v 0 rfl (v_move rfl) gn rfl ?_
     obtain ⟨hb291, h⟩ := h
     have hr292 := Rw.readF (s := St w []) (hl := hl_api_PatNode) (h1 := h1_api_PatNode) h5 hb291
     refine wl_v 1 rfl (v_idxR (s := St w []) slE_22 rfl rfl h5 hb291) gn rfl <| wl_v 2 rfl (v_ldA (St w []) ld_45 rfl hr292 rfl (me 1 rfl)) gn rfl ?_
     refine wl_s 3 rfl (s_alloc [.string (⟨#[]⟩ : ByteArray), .bool false, .string (⟨#[]⟩ : ByteArray), .string (⟨#[]⟩ : ByteArray), .int .i64 0] zr_45 rfl fun gb293 => ?_) gn
     refine wl_v 4 rfl (v_assign rfl) gn rfl ?_
     refine wl_s 5 rfl (s_stB (vs := [.string ((ix x1.nodes x188).name), .bool ((ix x1.nodes x188).lit), .string ((ix x1.nodes x188).field), .string ((ix x1.nodes x188).capture), .int .i64 ((ix x1.nodes x188).kids)]) (cs' := [.string ((ix x1.nodes x188).name), .bool ((ix x1.nodes x188).lit), .string ((ix x1.nodes x188).field), .string ((ix x1.nodes x188).capture), .int .i64 ((ix x1.nodes x188).kids)]) (M' := [.box gb293 45 [.string ((ix x1.nodes x188).name), .bool ((ix x1.nodes x188).lit), .string ((ix x1.nodes x188).field), .string ((ix x1.nodes x188).capture), .int .i64 ((ix x1.nodes x188).kids)], .box gb10 25 [.slice A2 n3 c4, .slice A6 n7 c8]]) 0 sz_45 rfl rfl rfl rfl rfl rfl rfl rfl rfl ?_) gn
     refine w_end 6 rfl <| g_seq rfl <| g_region rfl rfl <| wl_v 0 rfl (v_ldB [.string ((ix x1.nodes x188).name), .bool ((ix x1.nodes x188).lit), .string ((ix x1.nodes x188).field), .string ((ix x1.nodes x188).capture), .int .i64 ((ix x1.nodes x188).kids)] 0 ld_45 rfl rfl rfl rfl) gn rfl ?_
     obtain ⟨r298, hv299, h⟩ := h
     refine wl_s 1 rfl (s_call [.agg #[.string ((ix x1.nodes x188).name), .bool ((ix x1.nodes x188).lit), .string ((ix x1.nodes x188).field), .string ((ix x1.nodes x188).capture), .int .i64 ((ix x1.nodes x188).kids)]] rfl Tryd.func55 rfl rfl rfl fun w295 hL296 => ?_) gn
     have hp297 := pmI hL296 .n (.c 0 rfl (.c 1 rfl .n)) (by kernel_rfl)
     refine Calls.mono (query_sound_calls w295 (Fl ([] : List Snap)) (ix x1.nodes x188) (hL296.tb hp297 hG (me 1 rfl)) (hL296.hFl hp297 (sels [] rfl)) (hL296.into hp297 _) r298 hv299) ?_
     rintro _ w300 ⟨rfl, hM301⟩
     have hL302 := hL296.call hp297 hM301
     refine ⟨_, _, _, rfl, hL302, ?_⟩
     refine wl_v 2 rfl (v_not rfl) gn rfl <| wl_v 3 rfl (v_move rfl) gn rfl ?_
     by_cases hp303 : r298 = true
     ·have h := if_pos' hp303 h
      refine w_bool 37 rfl ((nf hp303)) <| wl_v 4 rfl (v_fldB fo_45_3 rfl) (gy 37 rfl rfl) rfl <| wl_v 5 rfl (v_ldB1 0 ld_9 rfl rfl rfl) (gy 37 rfl rfl) rfl <| wl_v 6 rfl (v_neS rfl rfl) (gy 37 rfl rfl) rfl <| wl_v 7 rfl (v_move rfl) (gy 37 rfl rfl) rfl ?_
      by_cases hp304 : (ix x1.nodes x188).capture = (⟨#[]⟩ : ByteArray)
      ·have h := if_pos' hp304 h
       refine w_bool 41 rfl ((nf (seq_t hp304))) <| wl_pass 8 rfl (ps 41 rfl rfl rfl) <| wl_pass 9 rfl (ps 41 rfl rfl rfl) <| wl_pass 10 rfl (ps 41 rfl rfl rfl) <| wl_pass 11 rfl (ps 41 rfl rfl rfl) <| wl_pass 12 rfl (ps 41 rfl rfl rfl) <| wl_pass 13 rfl (ps 41 rfl rfl rfl) <| wl_v 14 rfl (v_pick (b := false) rfl rfl) (gy 37 rfl rfl) rfl <| wl_v 15 rfl (v_pick (b := false) rfl rfl) gn rfl <| w_end 16 rfl <| g_false rfl _ rfl (rfl) <| g_skip rfl ?_
       refine g_inBlock <| g_region rfl rfl <| wl_v 0 rfl (v_bin rfl rfl rfl) gn rfl <| wl_v 1 rfl (v_move rfl) gn rfl <| w_end 2 rfl <| g_inLoop ?_
       have ih := Out.inl hO1 h
       exact g_go [0, 1] (ih ()) ⟨rfl, rfl, rfl, rfl, trivial⟩ (.cons _ (.cons_cons _ (.slnil))) rfl
      ·have h := if_neg' hp304 h
       refine w_bool 41 rfl ((nt (seq_f hp304))) <| wl_v 8 rfl (v_ldB [.slice A2 n3 c4, .slice A6 n7 c8] 1 ld_25 rfl rfl rfl rfl) (gy 41 rfl rfl) rfl <| wl_v 9 rfl (v_fldB fo_45_3 rfl) (gy 41 rfl rfl) rfl <| wl_v 10 rfl (v_ldB1 0 ld_9 rfl rfl rfl) (gy 41 rfl rfl) rfl ?_
       obtain ⟨r308, hv309, h⟩ := h
       refine wl_s 11 rfl (s_call [.agg #[.slice A2 n3 c4, .slice A6 n7 c8], .string ((ix x1.nodes x188).capture)] rfl Tryd.func43 rfl rfl rfl fun w305 hL306 => ?_) (gy 41 rfl rfl)
       have hp307 := pmI hL306 .n (.c 0 rfl (.c 1 rfl .n)) (by kernel_rfl)
       refine Calls.mono (query_captured_calls w305 (Fl ([] : List Snap)) x1 ((ix x1.nodes x188).capture) A2 n3 c4 A6 n7 c8 (Rw.mono h5 (hL306.toSt hp307 (me 1 rfl))) (Rw.mono h9 (hL306.toSt hp307 (me 1 rfl))) (hL306.hFl hp307 (sels [] rfl)) (hL306.into hp307 _) r308 hv309) ?_
       rintro _ w310 ⟨rfl, hM311⟩
       have hL312 := hL306.call hp307 hM311
       refine ⟨_, _, _, rfl, hL312, ?_⟩
       refine wl_v 12 rfl (v_move rfl) (gy 41 rfl rfl) rfl <| wl_v 13 rfl (v_bin rfl rfl rfl) (gy 41 rfl rfl) rfl <| wl_v 14 rfl (v_pick (b := true) rfl rfl) (gy 37 rfl rfl) rfl <| wl_v 15 rfl (v_pick (b := false) rfl rfl) gn rfl <| w_end 16 rfl ?_
       by_cases hp313 : r308 = x188
       ·have h := if_pos' hp313 h
        refine g_false rfl _ rfl ((eqib hp313)) <| g_skip rfl <| g_inBlock <| g_region rfl rfl <| wl_v 0 rfl (v_bin rfl rfl rfl) gn rfl <| wl_v 1 rfl (v_move rfl) gn rfl <| w_end 2 rfl <| g_inLoop ?_
        have ih := Out.inl hO1 h
        exact g_go [0, 1] (ih ()) ⟨rfl, rfl, rfl, rfl, trivial⟩ (.cons _ (.cons_cons _ (.slnil))) rfl
       ·have h := if_neg' hp313 h
        refine g_true rfl _ rfl ((neib hp313)) <| g_seq rfl <| g_region rfl rfl <| wl_v 0 rfl (v_assign rfl) gn rfl <| w_end 1 rfl ?_
        have h := Out.inr hO1 h
        refine g_retR [.bool false] rfl Tryd.func24 rfl (.tmp rfl (.nil)) fun wr hLr => ?_
        have hMr := hLr.pk0 (.c 1 rfl .n)
        show query_Shaped_R w F  r (.returned (packV [.bool false])) wr
        rw [h]
        exact ⟨rfl, hMr⟩
     ·have h := if_neg' hp303 h
      refine w_bool 37 rfl ((nt (bf hp303))) <| wl_pass 4 rfl (ps 37 rfl rfl rfl) <| wl_pass 5 rfl (ps 37 rfl rfl rfl) <| wl_pass 6 rfl (ps 37 rfl rfl rfl) <| wl_pass 7 rfl (ps 37 rfl rfl rfl) <| wl_pass 8 rfl (pu 41 rfl rfl) <| wl_pass 9 rfl (pu 41 rfl rfl) <| wl_pass 10 rfl (pu 41 rfl rfl) <| wl_pass 11 rfl (pu 41 rfl rfl) <| wl_pass 12 rfl (pu 41 rfl rfl) <| wl_pass 13 rfl (pu 41 rfl rfl) <| wl_pass 14 rfl (ps 37 rfl rfl rfl) ?_
      refine wl_v 15 rfl (v_pick (b := true) rfl rfl) gn rfl <| w_end 16 rfl <| g_true rfl _ rfl (rfl) <| g_seq rfl <| g_region rfl rfl <| wl_v 0 rfl (v_assign rfl) gn rfl <| w_end 1 rfl ?_
      have h := Out.inr hO1 h
      refine g_retR [.bool false] rfl Tryd.func24 rfl (.tmp rfl (.nil)) fun wr hLr => ?_
      have hMr := hLr.pk0 (.c 1 rfl .n)
      show query_Shaped_R w F  r (.returned (packV [.bool false])) wr
      rw [h]
      exact ⟨rfl, hMr⟩
    ·have h := if_neg' hp290 h
     refine g_false rfl _ rfl ((decide_eq_false hp290)) <| g_exit [.code q24c12] rfl rfl <| g_seq rfl <| g_seq rfl <| g_region rfl rfl <| wl_v 0 rfl (v_fldB fo_25_1 rfl) gn rfl <| wl_v 1 rfl (v_ldB1 0 ld_23 rfl rfl rfl) gn rfl <| wl_v 2 rfl (v_lenQ un_23 rfl h9.hq) gn rfl <| wl_v 3 rfl (v_move rfl) gn rfl <| w_end 4 rfl <| g_block rfl <| g_loop rfl ?_
     have key3 : ∀ s, Rounds (fun (s : Int) o => query_Shaped_b3 x1 s o) s o1 → (fun (s : Int) => ∀ (_ : Unit), G (query_Shaped_C w F r) [.code q24c39, .inLoop q24c39, .inBlock 2, .code q24c35] [(1, .pointer (some ⟨gb10, 0, none⟩)), (52, .slice A6 n7 c8), (53, .int .i64 (x1.conds.length : Int)), (54, .int .i64 s)] [.box gb10 25 [.slice A2 n3 c4, .slice A6 n7 c8]] [Sm w.heap.size F w [], St w []]) s := by
      intro s hs
      refine Rounds.ind (mot := (fun (s : Int) => ∀ (_ : Unit), G (query_Shaped_C w F r) [.code q24c39, .inLoop q24c39, .inBlock 2, .code q24c35] [(1, .pointer (some ⟨gb10, 0, none⟩)), (52, .slice A6 n7 c8), (53, .int .i64 (x1.conds.length : Int)), (54, .int .i64 s)] [.box gb10 25 [.slice A2 n3 c4, .slice A6 n7 c8]] [Sm w.heap.size F w [], St w []])) ?_ hs
      clear hs s
      intro x340 o2 h hO2
      show ∀ (_ : Unit), G (query_Shaped_C w F r) [.code q24c39, .inLoop q24c39, .inBlock 2, .code q24c35] [(1, .pointer (some ⟨gb10, 0, none⟩)), (52, .slice A6 n7 c8), (53, .int .i64 (x1.conds.length : Int)), (54, .int .i64 x340)] [.box gb10 25 [.slice A2 n3 c4, .slice A6 n7 c8]] [Sm w.heap.size F w [], St w []]
      intro _
      have h : query_Shaped_b3 x1 x340 o2 := h
      unfold query_Shaped_b3 at h
      refine g_seq rfl <| g_region rfl rfl <| wl_v 0 rfl (v_bin rfl rfl rfl) gn rfl <| w_end 1 rfl <| g_seq rfl ?_
      by_cases hp366 : x340 < (x1.conds.length : Int)
      ·have h := if_pos' hp366 h
       refine g_true rfl _ rfl ((decide_eq_true hp366)) <| g_skip rfl <| g_seq rfl <| g_block rfl <| g_seq rfl <| g_region rfl rfl ?_
       obtain ⟨hb367, h⟩ := h
       have hr368 := Rw.readF (s := St w []) (hl := hl_api_Cond) (h1 := h1_api_Cond) h9 hb367
       refine wl_v 0 rfl (v_idxR (s := St w []) slE_23 rfl rfl h9 hb367) gn rfl <| wl_v 1 rfl (v_ldA (St w []) ld_47 rfl hr368 rfl (me 1 rfl)) gn rfl ?_
       refine wl_s 2 rfl (s_alloc [.bool false, .string (⟨#[]⟩ : ByteArray), .string (⟨#[]⟩ : ByteArray), .string (⟨#[]⟩ : ByteArray)] zr_47 rfl fun gb369 => ?_) gn
       refine wl_s 3 rfl (s_stB (vs := [.bool ((ix x1.conds x340).not), .string ((ix x1.conds x340).a), .string ((ix x1.conds x340).b), .string ((ix x1.conds x340).text)]) (cs' := [.bool ((ix x1.conds x340).not), .string ((ix x1.conds x340).a), .string ((ix x1.conds x340).b), .string ((ix x1.conds x340).text)]) (M' := [.box gb369 47 [.bool ((ix x1.conds x340).not), .string ((ix x1.conds x340).a), .string ((ix x1.conds x340).b), .string ((ix x1.conds x340).text)], .box gb10 25 [.slice A2 n3 c4, .slice A6 n7 c8]]) 0 sz_47 rfl rfl rfl rfl rfl rfl rfl rfl rfl ?_) gn
       refine w_end 4 rfl <| g_seq rfl <| g_region rfl rfl <| wl_v 0 rfl (v_ldB [.slice A2 n3 c4, .slice A6 n7 c8] 1 ld_25 rfl rfl rfl rfl) gn rfl <| wl_v 1 rfl (v_fldB fo_47_1 rfl) gn rfl <| wl_v 2 rfl (v_ldB1 0 ld_9 rfl rfl rfl) gn rfl ?_
       obtain ⟨r374, hv375, h⟩ := h
       refine wl_s 3 rfl (s_call [.agg #[.slice A2 n3 c4, .slice A6 n7 c8], .string ((ix x1.conds x340).a)] rfl Tryd.func43 rfl rfl rfl fun w371 hL372 => ?_) gn
       have hp373 := pmI hL372 .n (.c 0 rfl (.c 1 rfl .n)) (by kernel_rfl)
       refine Calls.mono (query_captured_calls w371 (Fl ([] : List Snap)) x1 ((ix x1.conds x340).a) A2 n3 c4 A6 n7 c8 (Rw.mono h5 (hL372.toSt hp373 (me 1 rfl))) (Rw.mono h9 (hL372.toSt hp373 (me 1 rfl))) (hL372.hFl hp373 (sels [] rfl)) (hL372.into hp373 _) r374 hv375) ?_
       rintro _ w376 ⟨rfl, hM377⟩
       have hL378 := hL372.call hp373 hM377
       refine ⟨_, _, _, rfl, hL378, ?_⟩
       refine wl_v 4 rfl (v_bin rfl rfl rfl) gn rfl <| wl_v 5 rfl (v_move rfl) gn rfl ?_
       by_cases hp379 : r374 < 0
       ·have h := if_pos' hp379 h
        refine w_bool 63 rfl ((decide_eq_true hp379)) <| wl_pass 6 rfl (ps 63 rfl rfl rfl) <| wl_pass 7 rfl (ps 63 rfl rfl rfl) <| wl_pass 8 rfl (ps 63 rfl rfl rfl) <| wl_pass 9 rfl (ps 63 rfl rfl rfl) <| wl_pass 10 rfl (pu 67 rfl rfl) <| wl_pass 11 rfl (pu 67 rfl rfl) <| wl_pass 12 rfl (pu 67 rfl rfl) <| wl_pass 13 rfl (pu 67 rfl rfl) <| wl_pass 14 rfl (pu 67 rfl rfl) <| wl_pass 15 rfl (pu 67 rfl rfl) <| wl_pass 16 rfl (pu 73 rfl rfl) ?_
        refine wl_pass 17 rfl (pu 73 rfl rfl) <| wl_pass 18 rfl (pu 73 rfl rfl) <| wl_pass 19 rfl (pu 67 rfl rfl) <| wl_pass 20 rfl (ps 63 rfl rfl rfl) <| wl_v 21 rfl (v_pick (b := true) rfl rfl) gn rfl <| w_end 22 rfl <| g_true rfl _ rfl (rfl) <| g_seq rfl <| g_region rfl rfl <| wl_v 0 rfl (v_assign rfl) gn rfl <| w_end 1 rfl ?_
        have h := Out.inr hO2 h
        have h := Out.inr hO1 h
        refine g_retR [.bool false] rfl Tryd.func24 rfl (.tmp rfl (.nil)) fun wr hLr => ?_
        have hMr := hLr.pk0 (.c 1 rfl .n)
        show query_Shaped_R w F  r (.returned (packV [.bool false])) wr
        rw [h]
        exact ⟨rfl, hMr⟩
       ·have h := if_neg' hp379 h
        refine w_bool 63 rfl ((decide_eq_false hp379)) <| wl_v 6 rfl (v_fldB fo_47_2 rfl) (gy 63 rfl rfl) rfl <| wl_v 7 rfl (v_ldB1 0 ld_9 rfl rfl rfl) (gy 63 rfl rfl) rfl <| wl_v 8 rfl (v_neS rfl rfl) (gy 63 rfl rfl) rfl <| wl_v 9 rfl (v_move rfl) (gy 63 rfl rfl) rfl ?_
        by_cases hp380 : (ix x1.conds x340).b = (⟨#[]⟩ : ByteArray)
        ·have h := if_pos' hp380 h
         refine w_bool 67 rfl ((nf (seq_t hp380))) <| wl_pass 10 rfl (ps 67 rfl rfl rfl) <| wl_pass 11 rfl (ps 67 rfl rfl rfl) <| wl_pass 12 rfl (ps 67 rfl rfl rfl) <| wl_pass 13 rfl (ps 67 rfl rfl rfl) <| wl_pass 14 rfl (ps 67 rfl rfl rfl) <| wl_pass 15 rfl (ps 67 rfl rfl rfl) <| wl_pass 16 rfl (pu 73 rfl rfl) <| wl_pass 17 rfl (pu 73 rfl rfl) <| wl_pass 18 rfl (pu 73 rfl rfl) <| wl_pass 19 rfl (ps 67 rfl rfl rfl) <| wl_v 20 rfl (v_pick (b := false) rfl rfl) (gy 63 rfl rfl) rfl ?_
         refine wl_v 21 rfl (v_pick (b := false) rfl rfl) gn rfl <| w_end 22 rfl <| g_false rfl _ rfl (rfl) <| g_skip rfl <| g_inBlock <| g_region rfl rfl <| wl_v 0 rfl (v_bin rfl rfl rfl) gn rfl <| wl_v 1 rfl (v_move rfl) gn rfl <| w_end 2 rfl <| g_inLoop ?_
         have ih := Out.inl hO2 h
         exact g_go [0, 1] (ih ()) ⟨rfl, rfl, rfl, rfl, trivial⟩ (.cons _ (.cons_cons _ (.slnil))) rfl
        ·have h := if_neg' hp380 h
         refine w_bool 67 rfl ((nt (seq_f hp380))) <| wl_v 10 rfl (v_ldB [.slice A2 n3 c4, .slice A6 n7 c8] 1 ld_25 rfl rfl rfl rfl) (gy 67 rfl rfl) rfl <| wl_v 11 rfl (v_fldB fo_47_2 rfl) (gy 67 rfl rfl) rfl <| wl_v 12 rfl (v_ldB1 0 ld_9 rfl rfl rfl) (gy 67 rfl rfl) rfl ?_
         obtain ⟨r384, hv385, h⟩ := h
         refine wl_s 13 rfl (s_call [.agg #[.slice A2 n3 c4, .slice A6 n7 c8], .string ((ix x1.conds x340).b)] rfl Tryd.func43 rfl rfl rfl fun w381 hL382 => ?_) (gy 67 rfl rfl)
         have hp383 := pmI hL382 .n (.c 0 rfl (.c 1 rfl .n)) (by kernel_rfl)
         refine Calls.mono (query_captured_calls w381 (Fl ([] : List Snap)) x1 ((ix x1.conds x340).b) A2 n3 c4 A6 n7 c8 (Rw.mono h5 (hL382.toSt hp383 (me 1 rfl))) (Rw.mono h9 (hL382.toSt hp383 (me 1 rfl))) (hL382.hFl hp383 (sels [] rfl)) (hL382.into hp383 _) r384 hv385) ?_
         rintro _ w386 ⟨rfl, hM387⟩
         have hL388 := hL382.call hp383 hM387
         refine ⟨_, _, _, rfl, hL388, ?_⟩
         refine wl_v 14 rfl (v_bin rfl rfl rfl) (gy 67 rfl rfl) rfl <| wl_v 15 rfl (v_move rfl) (gy 67 rfl rfl) rfl ?_
         by_cases hp389 : r384 < 0
         ·have h := if_pos' hp389 h
          refine w_bool 73 rfl ((decide_eq_true hp389)) <| wl_pass 16 rfl (ps 73 rfl rfl rfl) <| wl_pass 17 rfl (ps 73 rfl rfl rfl) <| wl_pass 18 rfl (ps 73 rfl rfl rfl) <| wl_v 19 rfl (v_pick (b := true) rfl rfl) (gy 67 rfl rfl) rfl <| wl_v 20 rfl (v_pick (b := true) rfl rfl) (gy 63 rfl rfl) rfl <| wl_v 21 rfl (v_pick (b := false) rfl rfl) gn rfl <| w_end 22 rfl <| g_true rfl _ rfl (rfl) <| g_seq rfl <| g_region rfl rfl <| wl_v 0 rfl (v_assign rfl) gn rfl ?_
          refine w_end 1 rfl ?_
          have h := Out.inr hO2 h
          have h := Out.inr hO1 h
          refine g_retR [.bool false] rfl Tryd.func24 rfl (.tmp rfl (.nil)) fun wr hLr => ?_
          have hMr := hLr.pk0 (.c 1 rfl .n)
          show query_Shaped_R w F  r (.returned (packV [.bool false])) wr
          rw [h]
          exact ⟨rfl, hMr⟩
         ·have h := if_neg' hp389 h
          refine w_bool 73 rfl ((decide_eq_false hp389)) <| wl_v 16 rfl (v_fldB fo_47_3 rfl) (gy 73 rfl rfl) rfl <| wl_v 17 rfl (v_ldB1 0 ld_9 rfl rfl rfl) (gy 73 rfl rfl) rfl <| wl_v 18 rfl (v_neS rfl rfl) (gy 73 rfl rfl) rfl <| wl_v 19 rfl (v_pick (b := false) rfl rfl) (gy 67 rfl rfl) rfl <| wl_v 20 rfl (v_pick (b := true) rfl rfl) (gy 63 rfl rfl) rfl <| wl_v 21 rfl (v_pick (b := false) rfl rfl) gn rfl <| w_end 22 rfl ?_
          by_cases hp390 : (ix x1.conds x340).text = (⟨#[]⟩ : ByteArray)
          ·have h := if_pos' hp390 h
           refine g_false rfl _ rfl ((nf (seq_t hp390))) <| g_skip rfl <| g_inBlock <| g_region rfl rfl <| wl_v 0 rfl (v_bin rfl rfl rfl) gn rfl <| wl_v 1 rfl (v_move rfl) gn rfl <| w_end 2 rfl <| g_inLoop ?_
           have ih := Out.inl hO2 h
           exact g_go [0, 1] (ih ()) ⟨rfl, rfl, rfl, rfl, trivial⟩ (.cons _ (.cons_cons _ (.slnil))) rfl
          ·have h := if_neg' hp390 h
           refine g_true rfl _ rfl ((nt (seq_f hp390))) <| g_seq rfl <| g_region rfl rfl <| wl_v 0 rfl (v_assign rfl) gn rfl <| w_end 1 rfl ?_
           have h := Out.inr hO2 h
           have h := Out.inr hO1 h
           refine g_retR [.bool false] rfl Tryd.func24 rfl (.tmp rfl (.nil)) fun wr hLr => ?_
           have hMr := hLr.pk0 (.c 1 rfl .n)
           show query_Shaped_R w F  r (.returned (packV [.bool false])) wr
           rw [h]
           exact ⟨rfl, hMr⟩
      ·have h := if_neg' hp366 h
       refine g_false rfl _ rfl ((decide_eq_false hp366)) <| g_exit [.code q24c35] rfl rfl <| g_seq rfl <| g_region rfl rfl <| wl_v 0 rfl (v_assign rfl) gn rfl <| w_end 1 rfl ?_
       have h := Out.inr hO2 h
       have h := Out.inr hO1 h
       refine g_retR [.bool true] rfl Tryd.func24 rfl (.tmp rfl (.nil)) fun wr hLr => ?_
       have hMr := hLr.pk0 (.c 1 rfl .n)
       show query_Shaped_R w F  r (.returned (packV [.bool true])) wr
       rw [h]
       exact ⟨rfl, hMr⟩
     exact g_go [0, 1] (key3 _ h ()) ⟨rfl, rfl, rfl, rfl, trivial⟩ (.cons_cons _ (.slnil)) rfl
   exact g_go [0, 1] (key2 _ h ()) ⟨rfl, rfl, rfl, rfl, trivial⟩ (.cons_cons _ (.slnil)) rfl
 by_cases hp391 : (x1.nodes.length : Int) > 32
 ·have h := if_pos' hp391 h
  have hns : Region.noSelect (Code.ops q24c5) = true := by kernel_rfl
  refine g_drawG [] 19 rfl rfl mix rfl (.c 0 rfl (.c 1 rfl .n)) <| wfv 0 rfl (v_fldB fo_25_0 rfl) gn hns rfl <| wfv 1 rfl (v_ldB1 0 ld_22 rfl rfl rfl) gn hns rfl <| wfv 2 rfl (v_lenQ un_22 rfl h5.hq) gn hns rfl <| wfv 3 rfl (v_bin rfl rfl rfl) gn hns rfl <| wfv 4 rfl (v_move rfl) gn hns rfl <| wf_bool 11 rfl ((decide_eq_true hp391)) <| wfp 5 rfl (ps 11 rfl rfl rfl) hns rfl <| wfp 6 rfl (ps 11 rfl rfl rfl) hns rfl <| wfp 7 rfl (ps 11 rfl rfl rfl) hns rfl <| wfp 8 rfl (ps 11 rfl rfl rfl) hns rfl <| wfv 9 rfl (v_pick (b := true) rfl rfl) gn hns rfl ?_
  refine wfv 10 rfl (v_move rfl) gn hns rfl <| wfp 11 rfl (ps 17 rfl rfl rfl) hns rfl <| wfp 12 rfl (ps 17 rfl rfl rfl) hns rfl <| wfp 13 rfl (ps 17 rfl rfl rfl) hns rfl <| wfp 14 rfl (ps 17 rfl rfl rfl) hns rfl <| wfp 15 rfl (ps 17 rfl rfl rfl) hns rfl <| wfp 16 rfl (ps 17 rfl rfl rfl) hns rfl <| wfp 17 rfl (ps 17 rfl rfl rfl) hns rfl <| wfv 18 rfl (v_pick (b := true) rfl rfl) gn hns rfl <| wf_end (by kernel_rfl) ?_
  exact g_go [0, 1] (j1 true h) ⟨rfl, rfl, trivial⟩ (.cons_cons _ (.slnil)) rfl
 ·have h := if_neg' hp391 h
  by_cases hp392 : (x1.conds.length : Int) > 16
  ·have h := if_pos' hp392 h
   have hns : Region.noSelect (Code.ops q24c5) = true := by kernel_rfl
   refine g_drawG [] 19 rfl rfl mix rfl (.c 0 rfl (.c 1 rfl .n)) <| wfv 0 rfl (v_fldB fo_25_0 rfl) gn hns rfl <| wfv 1 rfl (v_ldB1 0 ld_22 rfl rfl rfl) gn hns rfl <| wfv 2 rfl (v_lenQ un_22 rfl h5.hq) gn hns rfl <| wfv 3 rfl (v_bin rfl rfl rfl) gn hns rfl <| wfv 4 rfl (v_move rfl) gn hns rfl <| wf_bool 11 rfl ((decide_eq_false hp391)) <| wfv 5 rfl (v_fldB fo_25_1 rfl) (gy 11 rfl rfl) hns rfl <| wfv 6 rfl (v_ldB1 0 ld_23 rfl rfl rfl) (gy 11 rfl rfl) hns rfl <| wfv 7 rfl (v_lenQ un_23 rfl h9.hq) (gy 11 rfl rfl) hns rfl <| wfv 8 rfl (v_bin rfl rfl rfl) (gy 11 rfl rfl) hns rfl <| wfv 9 rfl (v_pick (b := false) rfl rfl) gn hns rfl ?_
   refine wfv 10 rfl (v_move rfl) gn hns rfl <| wf_bool 17 rfl ((decide_eq_true hp392)) <| wfp 11 rfl (ps 17 rfl rfl rfl) hns rfl <| wfp 12 rfl (ps 17 rfl rfl rfl) hns rfl <| wfp 13 rfl (ps 17 rfl rfl rfl) hns rfl <| wfp 14 rfl (ps 17 rfl rfl rfl) hns rfl <| wfp 15 rfl (ps 17 rfl rfl rfl) hns rfl <| wfp 16 rfl (ps 17 rfl rfl rfl) hns rfl <| wfp 17 rfl (ps 17 rfl rfl rfl) hns rfl <| wfv 18 rfl (v_pick (b := true) rfl rfl) gn hns rfl <| wf_end (by kernel_rfl) ?_
   exact g_go [0, 1] (j1 true h) ⟨rfl, rfl, trivial⟩ (.cons_cons _ (.slnil)) rfl
  ·have h := if_neg' hp392 h
   obtain ⟨r396, hv397, h⟩ := h
   have hns : Region.noSelect (Code.ops q24c5) = true := by kernel_rfl
   refine g_drawG [] 19 rfl rfl mix rfl (.c 0 rfl (.c 1 rfl .n)) <| wfv 0 rfl (v_fldB fo_25_0 rfl) gn hns rfl <| wfv 1 rfl (v_ldB1 0 ld_22 rfl rfl rfl) gn hns rfl <| wfv 2 rfl (v_lenQ un_22 rfl h5.hq) gn hns rfl <| wfv 3 rfl (v_bin rfl rfl rfl) gn hns rfl <| wfv 4 rfl (v_move rfl) gn hns rfl <| wf_bool 11 rfl ((decide_eq_false hp391)) <| wfv 5 rfl (v_fldB fo_25_1 rfl) (gy 11 rfl rfl) hns rfl <| wfv 6 rfl (v_ldB1 0 ld_23 rfl rfl rfl) (gy 11 rfl rfl) hns rfl <| wfv 7 rfl (v_lenQ un_23 rfl h9.hq) (gy 11 rfl rfl) hns rfl <| wfv 8 rfl (v_bin rfl rfl rfl) (gy 11 rfl rfl) hns rfl <| wfv 9 rfl (v_pick (b := false) rfl rfl) gn hns rfl ?_
   refine wfv 10 rfl (v_move rfl) gn hns rfl <| wf_bool 17 rfl ((decide_eq_false hp392)) <| wfv 11 rfl (v_fldB fo_25_0 rfl) (gy 17 rfl rfl) hns rfl <| wfv 12 rfl (v_ldB1 0 ld_22 rfl rfl rfl) (gy 17 rfl rfl) hns rfl <| wfv 14 rfl (v_fldB fo_25_0 rfl) (gy 17 rfl rfl) hns rfl <| wfv 15 rfl (v_ldB1 0 ld_22 rfl rfl rfl) (gy 17 rfl rfl) hns rfl <| wfv 16 rfl (v_lenQ un_22 rfl h5.hq) (gy 17 rfl rfl) hns rfl ?_
   refine wf_all [13] (by kernel_rfl) rfl ⟨on_s 13 rfl (gy 17 rfl rfl) rfl (s_call [.slice A2 n3 c4, .int .i64 0] rfl Tryd.func54 rfl rfl rfl fun w455 hL456 => ?_), trivial⟩
   have hp457 := pmI hL456 .n (.c 0 rfl .n) (by kernel_rfl)
   refine Calls.mono (query_subtree_calls w455 (Fl ([] : List Snap)) x1.nodes 0 A2 n3 c4 (Rw.mono h5 (hL456.toSt hp457 (me 1 rfl))) (hL456.hFl hp457 (sels [] rfl)) (hL456.into hp457 _) r396 hv397) ?_
   rintro _ w458 ⟨rfl, hM459⟩
   have hL460 := hL456.call hp457 hM459
   refine ⟨_, _, _, rfl, hL460, ?_⟩
   refine ⟨sels [0] rfl, sels [0, 1] rfl, ?_⟩
   refine wfv 17 rfl (v_bin rfl rfl rfl) (gy 17 rfl rfl) hns rfl <| wfv 18 rfl (v_pick (b := false) rfl rfl) gn hns rfl <| wf_end (by kernel_rfl) ?_
   exact g_go [0, 1] (j1 (r396 != (x1.nodes.length : Int)) h) ⟨rfl, rfl, trivial⟩ (.cons_cons _ (.slnil)) rfl
noncomputable abbrev q29c4 := Code.snd (Code.snd (bodyOf Tryd.f29))
noncomputable abbrev q29c6 := Code.snd (Code.fst (Code.snd (bodyOf Tryd.f29)))
noncomputable abbrev q29c12 := Code.snd q29c4
noncomputable abbrev q29c16 := Code.fst (Code.fst (Code.snd (Code.fst q29c4)))
noncomputable abbrev q29c26 := Code.fst (Code.fst (Code.fst (Code.snd q29c16)))
noncomputable abbrev q29c33 := Code.snd q29c12
noncomputable abbrev q29c37 := Code.fst (Code.fst (Code.snd (Code.fst q29c12)))
noncomputable abbrev q29c47 := Code.fst (Code.fst (Code.fst (Code.snd q29c37)))
abbrev trellislaw20_same_R (w : World) (F : Nat → Prop) (r : Bool) : Ending → World → Prop := fun e w' => e = .returned (.bool r) ∧ B.Loc w w' [] [St w []]
noncomputable abbrev trellislaw20_same_C (w : World) (F : Nat → Prop) (r : Bool) : Cx := ⟨Tryd.prog, 29, Tryd.f29, 59, trellislaw20_same_R w F  r, w⟩
theorem trellislaw20_same_calls (w : World) (F : Nat → Prop) (x1 : api_Query) (x10 : api_Query) (A2 : Option Addr) (n3 : Nat) (c4 : Nat) (A6 : Option Addr) (n7 : Nat) (c8 : Nat) (A11 : Option Addr) (n12 : Nat) (c13 : Nat) (A15 : Option Addr) (n16 : Nat) (c17 : Nat) (h5 : Rw k_api_PatNode w (St w []).av A2 n3 c4 x1.nodes) (h9 : Rw k_api_Cond w (St w []).av A6 n7 c8 x1.conds) (h14 : Rw k_api_PatNode w (St w []).av A11 n12 c13 x10.nodes) (h18 : Rw k_api_Cond w (St w []).av A15 n16 c17 x10.conds) (hF : ∀ b, F b → b < w.heap.size ∧ ∀ o ∈ ([] : List (List Nat)), b ∉ o) (hL0 : B.Loc w w [] [Sm w.heap.size F w [], St w []]) (r : Bool) (h : trellislaw20_same x1 x10 r) : Calls Tryd.prog 29 #[.agg #[.slice A2 n3 c4, .slice A6 n7 c8], .agg #[.slice A11 n12 c13, .slice A15 n16 c17]] w (trellislaw20_same_R w F  r) := by
 unfold trellislaw20_same at h
 refine calls_of_Loc (vs := [.agg #[.slice A2 n3 c4, .slice A6 n7 c8], .agg #[.slice A11 n12 c13, .slice A15 n16 c17]]) 59 Tryd.func29 rfl Tryd.ntmps29 rfl hL0 ?_
 show G (trellislaw20_same_C w F r) _ _ _ _
 refine g_seq rfl <| g_region rfl rfl ?_
 refine wl_s 0 rfl (s_box [.slice A2 n3 c4, .slice A6 n7 c8] rfl rfl rfl fun gb19 => ?_) gn
 refine wl_s 1 rfl (s_box [.slice A11 n12 c13, .slice A15 n16 c17] rfl rfl rfl fun gb21 => ?_) gn
 refine wl_v 2 rfl (v_assign rfl) gn rfl <| w_end 3 rfl <| g_seq rfl <| g_seq rfl ?_
 have j1 : ∀ (x25 : Bool) (h : trellislaw20_same_j1 x1 x10 x25 r) , G (trellislaw20_same_C w F r) [.code q29c6, .code q29c4] [(2, .pointer (some ⟨gb19, 0, none⟩)), (3, .pointer (some ⟨gb21, 0, none⟩)), (22, .bool x25)] [.box gb21 25 [.slice A11 n12 c13, .slice A15 n16 c17], .box gb19 25 [.slice A2 n3 c4, .slice A6 n7 c8]] [Sm w.heap.size F w [], St w []] := by
  intro x25 h
  unfold trellislaw20_same_j1 at h
  by_cases hp26 : x25 = true
  ·have h := if_pos' hp26 h
   refine g_true rfl _ rfl (hp26) <| g_seq rfl <| g_region rfl rfl <| wl_v 0 rfl (v_assign rfl) gn rfl <| w_end 1 rfl ?_
   refine g_retR [.bool false] rfl Tryd.func29 rfl (.tmp rfl (.nil)) fun wr hLr => ?_
   have hMr := hLr.pk0 (.c 1 rfl .n)
   show trellislaw20_same_R w F  r (.returned (packV [.bool false])) wr
   rw [h]
   exact ⟨rfl, hMr⟩
  ·have h := if_neg' hp26 h
   refine g_false rfl _ rfl ((bf hp26)) <| g_skip rfl <| g_seq rfl <| g_seq rfl <| g_region rfl rfl <| wl_v 0 rfl (v_assign rfl) gn rfl <| w_end 1 rfl <| g_block rfl <| g_loop rfl ?_
   have key2 : ∀ s, Rounds (fun (s : Int) o => trellislaw20_same_b2 x1 x10 s o) s r → (fun (s : Int) => ∀ (_ : Unit), G (trellislaw20_same_C w F r) [.code q29c16, .inLoop q29c16, .inBlock 0, .code q29c12] [(2, .pointer (some ⟨gb19, 0, none⟩)), (3, .pointer (some ⟨gb21, 0, none⟩)), (5, .int .i64 s)] [.box gb21 25 [.slice A11 n12 c13, .slice A15 n16 c17], .box gb19 25 [.slice A2 n3 c4, .slice A6 n7 c8]] [Sm w.heap.size F w [], St w []]) s := by
    intro s hs
    refine Rounds.ind (mot := (fun (s : Int) => ∀ (_ : Unit), G (trellislaw20_same_C w F r) [.code q29c16, .inLoop q29c16, .inBlock 0, .code q29c12] [(2, .pointer (some ⟨gb19, 0, none⟩)), (3, .pointer (some ⟨gb21, 0, none⟩)), (5, .int .i64 s)] [.box gb21 25 [.slice A11 n12 c13, .slice A15 n16 c17], .box gb19 25 [.slice A2 n3 c4, .slice A6 n7 c8]] [Sm w.heap.size F w [], St w []])) ?_ hs
    clear hs s
    intro x70 o1 h hO1
    show ∀ (_ : Unit), G (trellislaw20_same_C w F r) [.code q29c16, .inLoop q29c16, .inBlock 0, .code q29c12] [(2, .pointer (some ⟨gb19, 0, none⟩)), (3, .pointer (some ⟨gb21, 0, none⟩)), (5, .int .i64 x70)] [.box gb21 25 [.slice A11 n12 c13, .slice A15 n16 c17], .box gb19 25 [.slice A2 n3 c4, .slice A6 n7 c8]] [Sm w.heap.size F w [], St w []]
    intro _
    have h : trellislaw20_same_b2 x1 x10 x70 o1 := h
    unfold trellislaw20_same_b2 at h
    refine g_seq rfl <| g_seq rfl <| g_region rfl rfl <| wl_v 0 rfl (v_move rfl) gn rfl <| wl_v 1 rfl (v_fldB fo_25_0 rfl) gn rfl <| wl_v 2 rfl (v_ldB1 1 ld_22 rfl rfl rfl) gn rfl <| wl_v 3 rfl (v_lenQ un_22 rfl h5.hq) gn rfl <| wl_v 4 rfl (v_bin rfl rfl rfl) gn rfl <| w_end 5 rfl ?_
    by_cases hp113 : x70 < (x1.nodes.length : Int)
    ·have h := if_pos' hp113 h
     refine g_true rfl _ rfl ((decide_eq_true hp113)) <| g_skip rfl <| g_seq rfl <| g_block rfl <| g_seq rfl ?_
     obtain ⟨hb114, h⟩ := h
     obtain ⟨hb116, h⟩ := h
     have hns : Region.noSelect (Code.ops q29c26) = true := by kernel_rfl
     refine g_drawG [] 11 rfl rfl mix rfl (.c 0 rfl (.c 1 rfl .n)) <| wfv 0 rfl (v_fldB fo_25_0 rfl) gn hns rfl <| wfv 1 rfl (v_ldB1 1 ld_22 rfl rfl rfl) gn hns rfl <| wfv 2 rfl (v_move rfl) gn hns rfl ?_
     have hr120 := Rw.readF (s := St w []) (hl := hl_api_PatNode) (h1 := h1_api_PatNode) h5 hb114
     refine wfv 3 rfl (v_idxR (s := St w []) slE_22 rfl rfl h5 hb114) gn hns rfl <| wfv 4 rfl (v_ldA (St w []) ld_45 rfl hr120 rfl (me 1 rfl)) gn hns rfl <| wfv 5 rfl (v_fldB fo_25_0 rfl) gn hns rfl <| wfv 6 rfl (v_ldB1 0 ld_22 rfl rfl rfl) gn hns rfl <| wfv 7 rfl (v_move rfl) gn hns rfl ?_
     have hr121 := Rw.readF (s := St w []) (hl := hl_api_PatNode) (h1 := h1_api_PatNode) h14 hb116
     refine wfv 8 rfl (v_idxR (s := St w []) slE_22 rfl rfl h14 hb116) gn hns rfl <| wfv 9 rfl (v_ldA (St w []) ld_45 rfl hr121 rfl (me 1 rfl)) gn hns rfl <| wfv 10 rfl (v_neSt eq_45 rfl rfl (eqd_api_PatNode (ix x1.nodes x70) (ix x10.nodes x70))) gn hns rfl <| wf_end (by kernel_rfl) ?_
     by_cases hp122 : ix x1.nodes x70 = ix x10.nodes x70
     ·have h := if_pos' hp122 h
      refine g_false rfl _ rfl ((nf (decide_eq_true hp122))) <| g_skip rfl <| g_inBlock <| g_region rfl rfl <| wl_v 0 rfl (v_move rfl) gn rfl <| wl_v 1 rfl (v_bin rfl rfl rfl) gn rfl <| wl_v 2 rfl (v_assign rfl) gn rfl <| w_end 3 rfl <| g_inLoop ?_
      have ih := Out.inl hO1 h
      exact g_go [0, 1] (ih ()) ⟨rfl, rfl, rfl, trivial⟩ (.cons_cons _ (.cons_cons _ (.slnil))) rfl
     ·have h := if_neg' hp122 h
      refine g_true rfl _ rfl ((nt (decide_eq_false hp122))) <| g_seq rfl <| g_region rfl rfl <| wl_v 0 rfl (v_assign rfl) gn rfl <| w_end 1 rfl ?_
      have h := Out.inr hO1 h
      refine g_retR [.bool false] rfl Tryd.func29 rfl (.tmp rfl (.nil)) fun wr hLr => ?_
      have hMr := hLr.pk0 (.c 1 rfl .n)
      show trellislaw20_same_R w F  r (.returned (packV [.bool false])) wr
      rw [h]
      exact ⟨rfl, hMr⟩
    ·have h := if_neg' hp113 h
     refine g_false rfl _ rfl ((decide_eq_false hp113)) <| g_exit [.code q29c12] rfl rfl <| g_seq rfl <| g_seq rfl <| g_region rfl rfl <| wl_v 0 rfl (v_assign rfl) gn rfl <| w_end 1 rfl <| g_block rfl <| g_loop rfl ?_
     have key3 : ∀ s, Rounds (fun (s : Int) o => trellislaw20_same_b3 x1 x10 s o) s o1 → (fun (s : Int) => ∀ (_ : Unit), G (trellislaw20_same_C w F r) [.code q29c37, .inLoop q29c37, .inBlock 2, .code q29c33] [(2, .pointer (some ⟨gb19, 0, none⟩)), (3, .pointer (some ⟨gb21, 0, none⟩)), (6, .int .i64 s)] [.box gb21 25 [.slice A11 n12 c13, .slice A15 n16 c17], .box gb19 25 [.slice A2 n3 c4, .slice A6 n7 c8]] [Sm w.heap.size F w [], St w []]) s := by
      intro s hs
      refine Rounds.ind (mot := (fun (s : Int) => ∀ (_ : Unit), G (trellislaw20_same_C w F r) [.code q29c37, .inLoop q29c37, .inBlock 2, .code q29c33] [(2, .pointer (some ⟨gb19, 0, none⟩)), (3, .pointer (some ⟨gb21, 0, none⟩)), (6, .int .i64 s)] [.box gb21 25 [.slice A11 n12 c13, .slice A15 n16 c17], .box gb19 25 [.slice A2 n3 c4, .slice A6 n7 c8]] [Sm w.heap.size F w [], St w []])) ?_ hs
      clear hs s
      intro x134 o2 h hO2
      show ∀ (_ : Unit), G (trellislaw20_same_C w F r) [.code q29c37, .inLoop q29c37, .inBlock 2, .code q29c33] [(2, .pointer (some ⟨gb19, 0, none⟩)), (3, .pointer (some ⟨gb21, 0, none⟩)), (6, .int .i64 x134)] [.box gb21 25 [.slice A11 n12 c13, .slice A15 n16 c17], .box gb19 25 [.slice A2 n3 c4, .slice A6 n7 c8]] [Sm w.heap.size F w [], St w []]
      intro _
      have h : trellislaw20_same_b3 x1 x10 x134 o2 := h
      unfold trellislaw20_same_b3 at h
      refine g_seq rfl <| g_seq rfl <| g_region rfl rfl <| wl_v 0 rfl (v_move rfl) gn rfl <| wl_v 1 rfl (v_fldB fo_25_1 rfl) gn rfl <| wl_v 2 rfl (v_ldB1 1 ld_23 rfl rfl rfl) gn rfl <| wl_v 3 rfl (v_lenQ un_23 rfl h9.hq) gn rfl <| wl_v 4 rfl (v_bin rfl rfl rfl) gn rfl <| w_end 5 rfl ?_
      by_cases hp145 : x134 < (x1.conds.length : Int)
      ·have h := if_pos' hp145 h
       refine g_true rfl _ rfl ((decide_eq_true hp145)) <| g_skip rfl <| g_seq rfl <| g_block rfl <| g_seq rfl ?_
       obtain ⟨hb146, h⟩ := h
       obtain ⟨hb148, h⟩ := h
       have hns : Region.noSelect (Code.ops q29c47) = true := by kernel_rfl
       refine g_drawG [] 11 rfl rfl mix rfl (.c 0 rfl (.c 1 rfl .n)) <| wfv 0 rfl (v_fldB fo_25_1 rfl) gn hns rfl <| wfv 1 rfl (v_ldB1 1 ld_23 rfl rfl rfl) gn hns rfl <| wfv 2 rfl (v_move rfl) gn hns rfl ?_
       have hr152 := Rw.readF (s := St w []) (hl := hl_api_Cond) (h1 := h1_api_Cond) h9 hb146
       refine wfv 3 rfl (v_idxR (s := St w []) slE_23 rfl rfl h9 hb146) gn hns rfl <| wfv 4 rfl (v_ldA (St w []) ld_47 rfl hr152 rfl (me 1 rfl)) gn hns rfl <| wfv 5 rfl (v_fldB fo_25_1 rfl) gn hns rfl <| wfv 6 rfl (v_ldB1 0 ld_23 rfl rfl rfl) gn hns rfl <| wfv 7 rfl (v_move rfl) gn hns rfl ?_
       have hr153 := Rw.readF (s := St w []) (hl := hl_api_Cond) (h1 := h1_api_Cond) h18 hb148
       refine wfv 8 rfl (v_idxR (s := St w []) slE_23 rfl rfl h18 hb148) gn hns rfl <| wfv 9 rfl (v_ldA (St w []) ld_47 rfl hr153 rfl (me 1 rfl)) gn hns rfl <| wfv 10 rfl (v_neSt eq_47 rfl rfl (eqd_api_Cond (ix x1.conds x134) (ix x10.conds x134))) gn hns rfl <| wf_end (by kernel_rfl) ?_
       by_cases hp154 : ix x1.conds x134 = ix x10.conds x134
       ·have h := if_pos' hp154 h
        refine g_false rfl _ rfl ((nf (decide_eq_true hp154))) <| g_skip rfl <| g_inBlock <| g_region rfl rfl <| wl_v 0 rfl (v_move rfl) gn rfl <| wl_v 1 rfl (v_bin rfl rfl rfl) gn rfl <| wl_v 2 rfl (v_assign rfl) gn rfl <| w_end 3 rfl <| g_inLoop ?_
        have ih := Out.inl hO2 h
        exact g_go [0, 1] (ih ()) ⟨rfl, rfl, rfl, trivial⟩ (.cons_cons _ (.cons_cons _ (.slnil))) rfl
       ·have h := if_neg' hp154 h
        refine g_true rfl _ rfl ((nt (decide_eq_false hp154))) <| g_seq rfl <| g_region rfl rfl <| wl_v 0 rfl (v_assign rfl) gn rfl <| w_end 1 rfl ?_
        have h := Out.inr hO2 h
        have h := Out.inr hO1 h
        refine g_retR [.bool false] rfl Tryd.func29 rfl (.tmp rfl (.nil)) fun wr hLr => ?_
        have hMr := hLr.pk0 (.c 1 rfl .n)
        show trellislaw20_same_R w F  r (.returned (packV [.bool false])) wr
        rw [h]
        exact ⟨rfl, hMr⟩
      ·have h := if_neg' hp145 h
       refine g_false rfl _ rfl ((decide_eq_false hp145)) <| g_exit [.code q29c33] rfl rfl <| g_seq rfl <| g_region rfl rfl <| wl_v 0 rfl (v_assign rfl) gn rfl <| w_end 1 rfl ?_
       have h := Out.inr hO2 h
       have h := Out.inr hO1 h
       refine g_retR [.bool true] rfl Tryd.func29 rfl (.tmp rfl (.nil)) fun wr hLr => ?_
       have hMr := hLr.pk0 (.c 1 rfl .n)
       show trellislaw20_same_R w F  r (.returned (packV [.bool true])) wr
       rw [h]
       exact ⟨rfl, hMr⟩
     exact g_go [0, 1] (key3 _ h ()) ⟨rfl, rfl, rfl, trivial⟩ (.cons_cons _ (.cons_cons _ (.slnil))) rfl
   exact g_go [0, 1] (key2 _ h ()) ⟨rfl, rfl, rfl, trivial⟩ (.cons_cons _ (.cons_cons _ (.slnil))) rfl
 refine g_region rfl rfl <| wl_v 0 rfl (v_fldB fo_25_0 rfl) gn rfl <| wl_v 1 rfl (v_ldB1 1 ld_22 rfl rfl rfl) gn rfl <| wl_v 2 rfl (v_lenQ un_22 rfl h5.hq) gn rfl <| wl_v 3 rfl (v_fldB fo_25_0 rfl) gn rfl <| wl_v 4 rfl (v_ldB1 0 ld_22 rfl rfl rfl) gn rfl <| wl_v 5 rfl (v_lenQ un_22 rfl h14.hq) gn rfl <| wl_v 6 rfl (v_bin rfl rfl rfl) gn rfl <| wl_v 7 rfl (v_move rfl) gn rfl ?_
 by_cases hp155 : (x1.nodes.length : Int) = (x10.nodes.length : Int)
 ·have h := if_pos' hp155 h
  refine w_bool 14 rfl ((eqib hp155)) <| wl_v 8 rfl (v_fldB fo_25_1 rfl) (gy 14 rfl rfl) rfl <| wl_v 9 rfl (v_ldB1 1 ld_23 rfl rfl rfl) (gy 14 rfl rfl) rfl <| wl_v 10 rfl (v_lenQ un_23 rfl h9.hq) (gy 14 rfl rfl) rfl <| wl_v 11 rfl (v_fldB fo_25_1 rfl) (gy 14 rfl rfl) rfl <| wl_v 12 rfl (v_ldB1 0 ld_23 rfl rfl rfl) (gy 14 rfl rfl) rfl <| wl_v 13 rfl (v_lenQ un_23 rfl h18.hq) (gy 14 rfl rfl) rfl <| wl_v 14 rfl (v_bin rfl rfl rfl) (gy 14 rfl rfl) rfl <| wl_v 15 rfl (v_pick (b := false) rfl rfl) gn rfl <| w_end 16 rfl ?_
  exact g_go [0, 1] (j1 ((x1.conds.length : Int) != (x10.conds.length : Int)) h) ⟨rfl, rfl, rfl, trivial⟩ (.cons_cons _ (.cons_cons _ (.slnil))) rfl
 ·have h := if_neg' hp155 h
  refine w_bool 14 rfl ((neib hp155)) <| wl_pass 8 rfl (ps 14 rfl rfl rfl) <| wl_pass 9 rfl (ps 14 rfl rfl rfl) <| wl_pass 10 rfl (ps 14 rfl rfl rfl) <| wl_pass 11 rfl (ps 14 rfl rfl rfl) <| wl_pass 12 rfl (ps 14 rfl rfl rfl) <| wl_pass 13 rfl (ps 14 rfl rfl rfl) <| wl_pass 14 rfl (ps 14 rfl rfl rfl) <| wl_v 15 rfl (v_pick (b := true) rfl rfl) gn rfl <| w_end 16 rfl ?_
  exact g_go [0, 1] (j1 true h) ⟨rfl, rfl, rfl, trivial⟩ (.cons_cons _ (.cons_cons _ (.slnil))) rfl
noncomputable abbrev q19c8 := Code.snd (Code.snd (Code.snd (Code.snd (bodyOf Tryd.f19))))
noncomputable abbrev q19c12 := Code.fst (Code.fst (Code.snd (Code.fst (Code.snd (Code.snd (Code.snd (bodyOf Tryd.f19)))))))
abbrev trellislaw20_still_R (w : World) (F : Nat → Prop) (r : Bool) : Ending → World → Prop := fun e w' => e = .returned (.bool r) ∧ B.Loc w w' [] [St w []]
noncomputable abbrev trellislaw20_still_C (w : World) (F : Nat → Prop) (r : Bool) : Cx := ⟨Tryd.prog, 19, Tryd.f19, 53, trellislaw20_still_R w F  r, w⟩
theorem trellislaw20_still_calls (w : World) (F : Nat → Prop) (x1 : api_Query) (k6 : Nat) (k13 : Nat) (x16 : api_Query) (A2 : Option Addr) (n3 : Nat) (c4 : Nat) (A9 : Option Addr) (n10 : Nat) (c11 : Nat) (A17 : Option Addr) (n18 : Nat) (c19 : Nat) (A21 : Option Addr) (n22 : Nat) (c23 : Nat) (h5 : Rw k_api_PatNode w (St w []).av A2 n3 c4 x1.nodes) (hk7 : k6 ≤ n3) (h12 : Rw k_api_Cond w (St w []).av A9 n10 c11 x1.conds) (hk14 : k13 ≤ n10) (h20 : Rw k_api_PatNode w (St w []).av A17 n18 c19 x16.nodes) (h24 : Rw k_api_Cond w (St w []).av A21 n22 c23 x16.conds) (hF : ∀ b, F b → b < w.heap.size ∧ ∀ o ∈ ([] : List (List Nat)), b ∉ o) (hL0 : B.Loc w w [] [Sm w.heap.size F w [], St w []]) (r : Bool) (h : trellislaw20_still x1 k6 k13 x16 r) : Calls Tryd.prog 19 #[.agg #[.slice A2 k6 c4, .slice A9 k13 c11], .agg #[.slice A17 n18 c19, .slice A21 n22 c23]] w (trellislaw20_still_R w F  r) := by
 unfold trellislaw20_still at h
 have h8 := Rw.pre h5 hk7
 have h15 := Rw.pre h12 hk14
 refine calls_of_Loc (vs := [.agg #[.slice A2 k6 c4, .slice A9 k13 c11], .agg #[.slice A17 n18 c19, .slice A21 n22 c23]]) 53 Tryd.func19 rfl Tryd.ntmps19 rfl hL0 ?_
 show G (trellislaw20_still_C w F r) _ _ _ _
 refine g_seq rfl <| g_region rfl rfl ?_
 refine wl_s 0 rfl (s_box [.slice A2 k6 c4, .slice A9 k13 c11] rfl rfl rfl fun gb25 => ?_) gn
 refine wl_s 1 rfl (s_box [.slice A17 n18 c19, .slice A21 n22 c23] rfl rfl rfl fun gb27 => ?_) gn
 refine wl_v 2 rfl (v_assign rfl) gn rfl <| w_end 3 rfl <| g_seq rfl <| g_region rfl rfl <| wl_v 0 rfl (v_fldB fo_25_0 rfl) gn rfl <| wl_v 1 rfl (v_ldB1 1 ld_22 rfl rfl rfl) gn rfl <| wl_v 2 rfl (v_fldB fo_25_0 rfl) gn rfl <| wl_v 3 rfl (v_ldB1 0 ld_22 rfl rfl rfl) gn rfl <| wl_v 4 rfl (v_lenQ un_22 rfl h20.hq) gn rfl <| wl_v 5 rfl (v_bin rfl rfl rfl) gn rfl ?_
 obtain ⟨hb29, h⟩ := h
 have hle30 : (w64 ((x16.nodes.length : Int) + 20) : Int).toNat ≤ n3 := by have q := hb29; have q1 := h5.hq; omega
 have h31 := Rw.pre h5 hle30
 refine wl_v 6 rfl (v_cutHi (i := w64 ((x16.nodes.length : Int) + 20)) slE_22 rfl rfl (by have q := hb29; have q1 := h5.hq; have q2 := h5.hn; omega) h8.hn rfl) gn rfl <| wl_v 7 rfl (v_assign rfl) gn rfl <| w_end 8 rfl <| g_seq rfl <| g_region rfl rfl <| wl_v 0 rfl (v_fldB fo_25_1 rfl) gn rfl <| wl_v 1 rfl (v_ldB1 1 ld_23 rfl rfl rfl) gn rfl <| wl_v 2 rfl (v_fldB fo_25_1 rfl) gn rfl <| wl_v 3 rfl (v_ldB1 0 ld_23 rfl rfl rfl) gn rfl <| wl_v 4 rfl (v_lenQ un_23 rfl h24.hq) gn rfl <| wl_v 5 rfl (v_bin rfl rfl rfl) gn rfl ?_
 obtain ⟨hb32, h⟩ := h
 have hle33 : (w64 ((x16.conds.length : Int) + 20) : Int).toNat ≤ n10 := by have q := hb32; have q1 := h12.hq; omega
 have h34 := Rw.pre h12 hle33
 refine wl_v 6 rfl (v_cutHi (i := w64 ((x16.conds.length : Int) + 20)) slE_23 rfl rfl (by have q := hb32; have q1 := h12.hq; have q2 := h12.hn; omega) h15.hn rfl) gn rfl <| wl_v 7 rfl (v_assign rfl) gn rfl <| w_end 8 rfl <| g_seq rfl <| g_seq rfl <| g_region rfl rfl <| wl_v 0 rfl (v_assign rfl) gn rfl <| w_end 1 rfl <| g_block rfl <| g_loop rfl ?_
 have key1 : ∀ s, Rounds (fun (s : Int) o => trellislaw20_still_b1 x16 x1 k6 k13 s o) s r → (fun (s : Int) => ∀ (_ : Unit), G (trellislaw20_still_C w F r) [.code q19c12, .inLoop q19c12, .inBlock 0, .code q19c8] [(2, .pointer (some ⟨gb25, 0, none⟩)), (3, .pointer (some ⟨gb27, 0, none⟩)), (5, .slice A2 ((w64 ((x16.nodes.length : Int) + 20) : Int).toNat) c4), (6, .slice A9 ((w64 ((x16.conds.length : Int) + 20) : Int).toNat) c11), (7, .int .i64 s)] [.box gb27 25 [.slice A17 n18 c19, .slice A21 n22 c23], .box gb25 25 [.slice A2 k6 c4, .slice A9 k13 c11]] [Sm w.heap.size F w [], St w []]) s := by
  intro s hs
  refine Rounds.ind (mot := (fun (s : Int) => ∀ (_ : Unit), G (trellislaw20_still_C w F r) [.code q19c12, .inLoop q19c12, .inBlock 0, .code q19c8] [(2, .pointer (some ⟨gb25, 0, none⟩)), (3, .pointer (some ⟨gb27, 0, none⟩)), (5, .slice A2 ((w64 ((x16.nodes.length : Int) + 20) : Int).toNat) c4), (6, .slice A9 ((w64 ((x16.conds.length : Int) + 20) : Int).toNat) c11), (7, .int .i64 s)] [.box gb27 25 [.slice A17 n18 c19, .slice A21 n22 c23], .box gb25 25 [.slice A2 k6 c4, .slice A9 k13 c11]] [Sm w.heap.size F w [], St w []])) ?_ hs
  clear hs s
  intro x42 o1 h hO1
  show ∀ (_ : Unit), G (trellislaw20_still_C w F r) [.code q19c12, .inLoop q19c12, .inBlock 0, .code q19c8] [(2, .pointer (some ⟨gb25, 0, none⟩)), (3, .pointer (some ⟨gb27, 0, none⟩)), (5, .slice A2 ((w64 ((x16.nodes.length : Int) + 20) : Int).toNat) c4), (6, .slice A9 ((w64 ((x16.conds.length : Int) + 20) : Int).toNat) c11), (7, .int .i64 x42)] [.box gb27 25 [.slice A17 n18 c19, .slice A21 n22 c23], .box gb25 25 [.slice A2 k6 c4, .slice A9 k13 c11]] [Sm w.heap.size F w [], St w []]
  intro _
  have h : trellislaw20_still_b1 x16 x1 k6 k13 x42 o1 := h
  unfold trellislaw20_still_b1 at h
  refine g_seq rfl <| g_seq rfl <| g_region rfl rfl <| wl_v 0 rfl (v_move rfl) gn rfl <| wl_v 1 rfl (v_bin rfl rfl rfl) gn rfl <| w_end 2 rfl ?_
  by_cases hp58 : x42 < 20
  ·have h := if_pos' hp58 h
   refine g_true rfl _ rfl ((decide_eq_true hp58)) <| g_skip rfl <| g_seq rfl <| g_block rfl <| g_seq rfl <| g_region rfl rfl <| wl_v 0 rfl (v_move rfl) gn rfl <| wl_v 1 rfl (v_fldB fo_25_0 rfl) gn rfl <| wl_v 2 rfl (v_ldB1 0 ld_22 rfl rfl rfl) gn rfl <| wl_v 3 rfl (v_lenQ un_22 rfl h20.hq) gn rfl <| wl_v 4 rfl (v_move rfl) gn rfl <| wl_v 5 rfl (v_bin rfl rfl rfl) gn rfl ?_
   obtain ⟨hb59, h⟩ := h
   have hr60 := Rw.readF (s := St w []) (hl := hl_api_PatNode) (h1 := h1_api_PatNode) h31 hb59
   refine wl_v 6 rfl (v_idxR (s := St w []) slE_22 rfl rfl h31 hb59) gn rfl <| wl_v 7 rfl (v_ldA (St w []) ld_45 rfl hr60 rfl (me 1 rfl)) gn rfl <| wl_v 8 rfl (v_move rfl) gn rfl <| wl_v 9 rfl (v_bin rfl rfl rfl) gn rfl <| wl_v 10 rfl (v_build #[.string (⟨#[]⟩ : ByteArray), .bool false, .string (⟨#[]⟩ : ByteArray), .string (⟨#[]⟩ : ByteArray), .int .i64 (w64 (900 + x42))] bd_45 rfl (by kernel_rfl)) gn rfl <| wl_v 11 rfl (v_neSt eq_45 rfl rfl (eqd_api_PatNode (ix (x1.nodes.take ((w64 ((x16.nodes.length : Int) + 20) : Int).toNat)) (w64 ((x16.nodes.length : Int) + x42))) (⟨(⟨#[]⟩ : ByteArray), false, (⟨#[]⟩ : ByteArray), (⟨#[]⟩ : ByteArray), w64 (900 + x42)⟩ : api_PatNode))) gn rfl <| wl_v 12 rfl (v_move rfl) gn rfl ?_
   by_cases hp61 : ix (x1.nodes.take ((w64 ((x16.nodes.length : Int) + 20) : Int).toNat)) (w64 ((x16.nodes.length : Int) + x42)) = (⟨(⟨#[]⟩ : ByteArray), false, (⟨#[]⟩ : ByteArray), (⟨#[]⟩ : ByteArray), w64 (900 + x42)⟩ : api_PatNode)
   ·have h := if_pos' hp61 h
    refine w_bool 38 rfl ((nf (decide_eq_true hp61))) <| wl_v 13 rfl (v_move rfl) (gy 38 rfl rfl) rfl <| wl_v 14 rfl (v_fldB fo_25_1 rfl) (gy 38 rfl rfl) rfl <| wl_v 15 rfl (v_ldB1 0 ld_23 rfl rfl rfl) (gy 38 rfl rfl) rfl <| wl_v 16 rfl (v_lenQ un_23 rfl h24.hq) (gy 38 rfl rfl) rfl <| wl_v 17 rfl (v_move rfl) (gy 38 rfl rfl) rfl <| wl_v 18 rfl (v_bin rfl rfl rfl) (gy 38 rfl rfl) rfl ?_
    obtain ⟨hb62, h⟩ := h
    have hr63 := Rw.readF (s := St w []) (hl := hl_api_Cond) (h1 := h1_api_Cond) h34 hb62
    refine wl_v 19 rfl (v_idxR (s := St w []) slE_23 rfl rfl h34 hb62) (gy 38 rfl rfl) rfl <| wl_v 20 rfl (v_ldA (St w []) ld_47 rfl hr63 rfl (me 1 rfl)) (gy 38 rfl rfl) rfl <| wl_v 21 rfl (v_build #[.bool false, .string (⟨#[]⟩ : ByteArray), .string (⟨#[]⟩ : ByteArray), .string (⟨#[109, 97, 114, 107]⟩ : ByteArray)] bd_47 rfl (by kernel_rfl)) (gy 38 rfl rfl) rfl <| wl_v 22 rfl (v_neSt eq_47 rfl rfl (eqd_api_Cond (ix (x1.conds.take ((w64 ((x16.conds.length : Int) + 20) : Int).toNat)) (w64 ((x16.conds.length : Int) + x42))) (⟨false, (⟨#[]⟩ : ByteArray), (⟨#[]⟩ : ByteArray), (⟨#[109, 97, 114, 107]⟩ : ByteArray)⟩ : api_Cond))) (gy 38 rfl rfl) rfl <| wl_v 23 rfl (v_pick (b := false) rfl rfl) gn rfl <| w_end 24 rfl ?_
    by_cases hp64 : ix (x1.conds.take ((w64 ((x16.conds.length : Int) + 20) : Int).toNat)) (w64 ((x16.conds.length : Int) + x42)) = (⟨false, (⟨#[]⟩ : ByteArray), (⟨#[]⟩ : ByteArray), (⟨#[109, 97, 114, 107]⟩ : ByteArray)⟩ : api_Cond)
    ·have h := if_pos' hp64 h
     refine g_false rfl _ rfl ((nf (decide_eq_true hp64))) <| g_skip rfl <| g_inBlock <| g_region rfl rfl <| wl_v 0 rfl (v_move rfl) gn rfl <| wl_v 1 rfl (v_bin rfl rfl rfl) gn rfl <| wl_v 2 rfl (v_assign rfl) gn rfl <| w_end 3 rfl <| g_inLoop ?_
     have ih := Out.inl hO1 h
     exact g_go [0, 1] (ih ()) ⟨rfl, rfl, rfl, rfl, rfl, trivial⟩ (.cons_cons _ (.cons_cons _ (.slnil))) rfl
    ·have h := if_neg' hp64 h
     refine g_true rfl _ rfl ((nt (decide_eq_false hp64))) <| g_seq rfl <| g_region rfl rfl <| wl_v 0 rfl (v_assign rfl) gn rfl <| w_end 1 rfl ?_
     have h := Out.inr hO1 h
     refine g_retR [.bool false] rfl Tryd.func19 rfl (.tmp rfl (.nil)) fun wr hLr => ?_
     have hMr := hLr.pk0 (.c 1 rfl .n)
     show trellislaw20_still_R w F  r (.returned (packV [.bool false])) wr
     rw [h]
     exact ⟨rfl, hMr⟩
   ·have h := if_neg' hp61 h
    refine w_bool 38 rfl ((nt (decide_eq_false hp61))) <| wl_pass 13 rfl (ps 38 rfl rfl rfl) <| wl_pass 14 rfl (ps 38 rfl rfl rfl) <| wl_pass 15 rfl (ps 38 rfl rfl rfl) <| wl_pass 16 rfl (ps 38 rfl rfl rfl) <| wl_pass 17 rfl (ps 38 rfl rfl rfl) <| wl_pass 18 rfl (ps 38 rfl rfl rfl) <| wl_pass 19 rfl (ps 38 rfl rfl rfl) <| wl_pass 20 rfl (ps 38 rfl rfl rfl) <| wl_pass 21 rfl (ps 38 rfl rfl rfl) <| wl_pass 22 rfl (ps 38 rfl rfl rfl) <| wl_v 23 rfl (v_pick (b := true) rfl rfl) gn rfl ?_
    refine w_end 24 rfl <| g_true rfl _ rfl (rfl) <| g_seq rfl <| g_region rfl rfl <| wl_v 0 rfl (v_assign rfl) gn rfl <| w_end 1 rfl ?_
    have h := Out.inr hO1 h
    refine g_retR [.bool false] rfl Tryd.func19 rfl (.tmp rfl (.nil)) fun wr hLr => ?_
    have hMr := hLr.pk0 (.c 1 rfl .n)
    show trellislaw20_still_R w F  r (.returned (packV [.bool false])) wr
    rw [h]
    exact ⟨rfl, hMr⟩
  ·have h := if_neg' hp58 h
   refine g_false rfl _ rfl ((decide_eq_false hp58)) <| g_exit [.code q19c8] rfl rfl <| g_seq rfl <| g_region rfl rfl <| wl_v 0 rfl (v_ldB [.slice A2 k6 c4, .slice A9 k13 c11] 1 ld_25 rfl rfl rfl rfl) gn rfl <| wl_v 1 rfl (v_ldB [.slice A17 n18 c19, .slice A21 n22 c23] 0 ld_25 rfl rfl rfl rfl) gn rfl ?_
   obtain ⟨r68, hv69, h⟩ := h
   refine wl_s 2 rfl (s_call [.agg #[.slice A2 k6 c4, .slice A9 k13 c11], .agg #[.slice A17 n18 c19, .slice A21 n22 c23]] rfl Tryd.func29 rfl rfl rfl fun w65 hL66 => ?_) gn
   have hp67 := pmI hL66 .n (.c 0 rfl (.c 1 rfl .n)) (by kernel_rfl)
   refine Calls.mono (trellislaw20_same_calls w65 (Fl ([] : List Snap)) (⟨(x1.nodes.take k6), (x1.conds.take k13)⟩ : api_Query) x16 A2 k6 c4 A9 k13 c11 A17 n18 c19 A21 n22 c23 (Rw.mono h8 (hL66.toSt hp67 (me 1 rfl))) (Rw.mono h15 (hL66.toSt hp67 (me 1 rfl))) (Rw.mono h20 (hL66.toSt hp67 (me 1 rfl))) (Rw.mono h24 (hL66.toSt hp67 (me 1 rfl))) (hL66.hFl hp67 (sels [] rfl)) (hL66.into hp67 _) r68 hv69) ?_
   rintro _ w70 ⟨rfl, hM71⟩
   have hL72 := hL66.call hp67 hM71
   refine ⟨_, _, _, rfl, hL72, ?_⟩
   refine wl_v 3 rfl (v_assign rfl) gn rfl <| w_end 4 rfl ?_
   have h := Out.inr hO1 h
   refine g_retR [.bool r68] rfl Tryd.func19 rfl (.tmp rfl (.nil)) fun wr hLr => ?_
   have hMr := hLr.pk0 (.c 1 rfl .n)
   show trellislaw20_still_R w F  r (.returned (packV [.bool r68])) wr
   rw [h]
   exact ⟨rfl, hMr⟩
 exact g_go [0, 1] (key1 _ h ()) ⟨rfl, rfl, rfl, rfl, rfl, trivial⟩ (.cons_cons _ (.cons_cons _ (.slnil))) rfl
abbrev trellisref20_word_R (w : World) (F : Nat → Prop) (r : List api_Word) : Ending → World → Prop := fun e w' => ∃ A0 : Option Addr, ∃ n0 : Nat, ∃ c0 : Nat, e = .returned (.slice A0 n0 c0) ∧ B.Loc w w' [.own (.slice A0 n0 c0) 84 4 n0 (r.flatMap enc_api_Word)] [St w []] ∧ Ow w.heap.size A0 n0 c0 r
noncomputable abbrev trellisref20_word_C (w : World) (F : Nat → Prop) (r : List api_Word) : Cx := ⟨Tryd.prog, 49, Tryd.f49, 9, trellisref20_word_R w F  r, w⟩
theorem trellisref20_word_calls (w : World) (F : Nat → Prop) (x1 : Int) (x2 : ByteArray) (hF : ∀ b, F b → b < w.heap.size ∧ ∀ o ∈ ([] : List (List Nat)), b ∉ o) (hL0 : B.Loc w w [] [Sm w.heap.size F w [], St w []]) (r : List api_Word) (h : trellisref20_word x1 x2 r) : Calls Tryd.prog 49 #[.int .i64 x1, .string x2] w (trellisref20_word_R w F  r) := by
 unfold trellisref20_word at h
 refine calls_of_Loc (vs := [.int .i64 x1, .string x2]) 9 Tryd.func49 rfl Tryd.ntmps49 rfl hL0 ?_
 show G (trellisref20_word_C w F r) _ _ _ _
 refine g_seq rfl <| g_region rfl rfl <| wl_v 0 rfl (v_assign rfl) gn rfl <| w_end 1 rfl <| g_seq rfl <| g_region rfl rfl <| wl_v 0 rfl (v_move rfl) gn rfl <| wl_v 1 rfl (v_move rfl) gn rfl <| wl_v 2 rfl (v_build #[.int .i64 x1, .string x2, .int .i64 0, .int .i64 0] bd_84 rfl (by kernel_rfl)) gn rfl ?_
 refine wl_s 3 rfl (s_litO (xs := ([(⟨x1, x2, 0, 0⟩ : api_Word)] : List api_Word)) [.int .i64 x1, .string x2, .int .i64 0, .int .i64 0] bs_75_1 rfl (by kernel_rfl) rfl rfl rfl rfl fun gb4 h5 => ?_) gn
 refine wl_v 4 rfl (v_assign rfl) gn rfl <| w_end 5 rfl ?_
 refine g_retR [.slice (some ⟨gb4, 0, none⟩) 1 1] rfl Tryd.func49 rfl (.tmp rfl (.nil)) fun wr hLr => ?_
 have hMr := hLr.pkI (.c 0 rfl .n) .n (by kernel_rfl) (.c 1 rfl .n)
 show trellisref20_word_R w F  r (.returned (packV [.slice (some ⟨gb4, 0, none⟩) 1 1])) wr
 rw [h]
 exact ⟨(some ⟨gb4, 0, none⟩), 1, 1, rfl, hMr, h5⟩
noncomputable abbrev q48c4 := Code.snd (Code.snd (bodyOf Tryd.f48))
noncomputable abbrev q48c8 := Code.fst (Code.fst (Code.snd (Code.fst (Code.snd (bodyOf Tryd.f48)))))
abbrev trellisref20_put_R (w : World) (F : Nat → Prop) (A2 : Option Addr) (n3 : Nat) (c4 : Nat) (z6 : Nat) (r : List api_Word) : Ending → World → Prop := fun e w' => ∃ A0 : Option Addr, ∃ n0 : Nat, ∃ c0 : Nat, e = .returned (.slice A0 n0 c0) ∧ B.Loc w w' [.own (.slice A0 n0 c0) 84 4 n0 (r.flatMap enc_api_Word)] [St w [(Value.slice A2 n3 c4).ownBlock.toList]] ∧ Ow z6 A0 n0 c0 r
noncomputable abbrev trellisref20_put_C (w : World) (F : Nat → Prop) (A2 : Option Addr) (n3 : Nat) (c4 : Nat) (z6 : Nat) (r : List api_Word) : Cx := ⟨Tryd.prog, 48, Tryd.f48, 20, trellisref20_put_R w F A2 n3 c4 z6 r, w⟩
theorem trellisref20_put_calls (w : World) (F : Nat → Prop) (x1 : List api_Word) (x8 : List api_Word) (z6 : Nat) (A2 : Option Addr) (n3 : Nat) (c4 : Nat) (A9 : Option Addr) (n10 : Nat) (c11 : Nat) (hz7 : z6 ≤ w.heap.size) (h5 : Ow z6 A2 n3 c4 x1) (h12 : Rw k_api_Word w (St w [(Value.slice A2 n3 c4).ownBlock.toList]).av A9 n10 c11 x8) (hF : ∀ b, F b → b < w.heap.size ∧ ∀ o ∈ ([(Value.slice A2 n3 c4).ownBlock.toList] : List (List Nat)), b ∉ o) (hL0 : B.Loc w w [.own (.slice A2 n3 c4) 84 4 n3 (x1.flatMap enc_api_Word)] [Sm w.heap.size F w [(Value.slice A2 n3 c4).ownBlock.toList], St w [(Value.slice A2 n3 c4).ownBlock.toList]]) (r : List api_Word) (h : trellisref20_put x1 x8 r) : Calls Tryd.prog 48 #[.slice A2 n3 c4, .slice A9 n10 c11] w (trellisref20_put_R w F A2 n3 c4 z6 r) := by
 unfold trellisref20_put at h
 refine calls_of_Loc (vs := [.slice A2 n3 c4, .slice A9 n10 c11]) 20 Tryd.func48 rfl Tryd.ntmps48 rfl hL0 ?_
 show G (trellisref20_put_C w F A2 n3 c4 z6 r) _ _ _ _
 refine g_seq rfl <| g_region rfl rfl <| wl_v 0 rfl (v_assign rfl) gn rfl <| w_end 1 rfl <| g_seq rfl <| g_seq rfl <| g_region rfl rfl <| wl_v 0 rfl (v_assign rfl) gn rfl <| w_end 1 rfl <| g_block rfl <| g_loop rfl ?_
 have key1 : ∀ s, Rounds (fun (s : (List api_Word) × Int) o => trellisref20_put_b1 x8 s.1 s.2 o) s r → (fun (s : (List api_Word) × Int) => ∀ (A27 : Option Addr) (n28 : Nat) (c29 : Nat) (h30 : Ow z6 A27 n28 c29 s.1), G (trellisref20_put_C w F A2 n3 c4 z6 r) [.code q48c8, .inLoop q48c8, .inBlock 0, .code q48c4] [(0, .slice A27 n28 c29), (1, .slice A9 n10 c11), (5, .int .i64 s.2)] [.own (.slice A27 n28 c29) 84 4 n28 (s.1.flatMap enc_api_Word)] [Sm w.heap.size F w [(Value.slice A2 n3 c4).ownBlock.toList], St w [(Value.slice A2 n3 c4).ownBlock.toList]]) s := by
  intro s hs
  refine Rounds.ind (mot := (fun (s : (List api_Word) × Int) => ∀ (A27 : Option Addr) (n28 : Nat) (c29 : Nat) (h30 : Ow z6 A27 n28 c29 s.1), G (trellisref20_put_C w F A2 n3 c4 z6 r) [.code q48c8, .inLoop q48c8, .inBlock 0, .code q48c4] [(0, .slice A27 n28 c29), (1, .slice A9 n10 c11), (5, .int .i64 s.2)] [.own (.slice A27 n28 c29) 84 4 n28 (s.1.flatMap enc_api_Word)] [Sm w.heap.size F w [(Value.slice A2 n3 c4).ownBlock.toList], St w [(Value.slice A2 n3 c4).ownBlock.toList]])) ?_ hs
  clear hs s
  intro s o1 h hO1
  obtain ⟨x26, x31⟩ := s
  show ∀ (A27 : Option Addr) (n28 : Nat) (c29 : Nat) (h30 : Ow z6 A27 n28 c29 x26), G (trellisref20_put_C w F A2 n3 c4 z6 r) [.code q48c8, .inLoop q48c8, .inBlock 0, .code q48c4] [(0, .slice A27 n28 c29), (1, .slice A9 n10 c11), (5, .int .i64 x31)] [.own (.slice A27 n28 c29) 84 4 n28 (x26.flatMap enc_api_Word)] [Sm w.heap.size F w [(Value.slice A2 n3 c4).ownBlock.toList], St w [(Value.slice A2 n3 c4).ownBlock.toList]]
  intro A27 n28 c29 h30
  have h : trellisref20_put_b1 x8 x26 x31 o1 := h
  unfold trellisref20_put_b1 at h
  refine g_seq rfl <| g_seq rfl <| g_region rfl rfl <| wl_v 0 rfl (v_move rfl) gn rfl <| wl_v 1 rfl (v_move rfl) gn rfl <| wl_v 2 rfl (v_lenQ un_75 rfl h12.hq) gn rfl <| wl_v 3 rfl (v_bin rfl rfl rfl) gn rfl <| w_end 4 rfl ?_
  by_cases hp44 : x31 < (x8.length : Int)
  ·have h := if_pos' hp44 h
   refine g_true rfl _ rfl ((decide_eq_true hp44)) <| g_skip rfl <| g_seq rfl <| g_block rfl <| g_region rfl rfl <| wl_v 0 rfl (v_move rfl) gn rfl <| wl_v 1 rfl (v_move rfl) gn rfl <| wl_v 2 rfl (v_move rfl) gn rfl ?_
   obtain ⟨hb45, h⟩ := h
   have hr46 := Rw.readF (s := St w [(Value.slice A2 n3 c4).ownBlock.toList]) (hl := hl_api_Word) (h1 := h1_api_Word) h12 hb45
   refine wl_v 3 rfl (v_idxR (s := St w [(Value.slice A2 n3 c4).ownBlock.toList]) slE_75 rfl rfl h12 hb45) gn rfl <| wl_v 4 rfl (v_ldA (St w [(Value.slice A2 n3 c4).ownBlock.toList]) ld_84 rfl hr46 rfl (me 1 rfl)) gn rfl ?_
   refine wl_s 5 rfl (s_litO (xs := ([ix x8 x31] : List api_Word)) [.int .i64 ((ix x8 x31).kind), .string ((ix x8 x31).text), .int .i64 ((ix x8 x31).n), .int .i64 ((ix x8 x31).at_)] bs_75_1 rfl (by kernel_rfl) rfl rfl rfl rfl fun gb48 h49 => ?_) gn
   obtain ⟨x53, hv54, h⟩ := h
   obtain ⟨hb55, h⟩ := h
   refine wl_s 6 rfl (s_app (zs := x53) (cells' := x53.flatMap enc_api_Word) 1 ap_75 rfl rfl rfl h30 hz7 (Src.ownF (hl := hl_api_Word) (h1 := h1_api_Word) 0 rfl h49) (by rw [hv54, List.flatMap_append] <;> rfl) (app_len hv54 h49.hq) hb55 rfl rfl fun A50 c51 h52 => ?_) gn
   refine wl_v 7 rfl (v_assign rfl) gn rfl <| w_end 8 rfl <| g_inBlock <| g_region rfl rfl <| wl_v 0 rfl (v_move rfl) gn rfl <| wl_v 1 rfl (v_bin rfl rfl rfl) gn rfl <| wl_v 2 rfl (v_assign rfl) gn rfl <| w_end 3 rfl <| g_inLoop ?_
   have ih := Out.inl hO1 h
   exact g_go [0, 1] (ih A50 (n28 + 1) c51 h52) ⟨rfl, rfl, rfl, trivial⟩ (.cons _ (.cons_cons _ (.slnil))) rfl
  ·have h := if_neg' hp44 h
   refine g_false rfl _ rfl ((decide_eq_false hp44)) <| g_exit [.code q48c4] rfl rfl <| g_seq rfl <| g_region rfl rfl <| wl_v 0 rfl (v_move rfl) gn rfl <| wl_v 1 rfl (v_assign rfl) gn rfl <| w_end 2 rfl ?_
   have h := Out.inr hO1 h
   refine g_retR [.slice A27 n28 c29] rfl Tryd.func48 rfl (.tmp rfl (.nil)) fun wr hLr => ?_
   have hMr := hLr.pkI (.c 0 rfl .n) .n (by kernel_rfl) (.c 1 rfl .n)
   show trellisref20_put_R w F A2 n3 c4 z6 r (.returned (packV [.slice A27 n28 c29])) wr
   rw [h]
   exact ⟨A27, n28, c29, rfl, hMr, h30⟩
 exact g_go [0, 1] (key1 _ h A2 n3 c4 h5) ⟨rfl, rfl, rfl, trivial⟩ (.cons_cons _ (.slnil)) rfl
noncomputable abbrev q47c8 := Code.snd (Code.snd (Code.snd (Code.snd (bodyOf Tryd.f47))))
noncomputable abbrev q47c14 := Code.snd q47c8
noncomputable abbrev q47c22 := Code.snd (Code.snd (Code.snd (Code.snd (Code.fst q47c8))))
noncomputable abbrev q47c32 := Code.snd (Code.snd (Code.snd q47c22))
noncomputable abbrev q47c36 := Code.fst (Code.fst (Code.snd (Code.fst (Code.snd (Code.snd q47c22)))))
noncomputable abbrev q47c52 := Code.fst (Code.snd (Code.fst q47c14))
abbrev trellisref20_spelt_R (w : World) (F : Nat → Prop) (r : List api_Word) : Ending → World → Prop := fun e w' => ∃ A0 : Option Addr, ∃ n0 : Nat, ∃ c0 : Nat, e = .returned (.slice A0 n0 c0) ∧ B.Loc w w' [.own (.slice A0 n0 c0) 84 4 n0 (r.flatMap enc_api_Word)] [St w []] ∧ Ow w.heap.size A0 n0 c0 r
noncomputable abbrev trellisref20_spelt_C (w : World) (F : Nat → Prop) (r : List api_Word) : Cx := ⟨Tryd.prog, 47, Tryd.f47, 69, trellisref20_spelt_R w F  r, w⟩
def trellisref20_spelt_st (rl : (List api_PatNode) → Int → (List api_Word) → Prop) : Prop := ∀ (w : World) (F : Nat → Prop) (x1 : List api_PatNode) (x6 : Int) (A2 : Option Addr) (n3 : Nat) (c4 : Nat) (h5 : Rw k_api_PatNode w (St w []).av A2 n3 c4 x1) (hF : ∀ b, F b → b < w.heap.size ∧ ∀ o ∈ ([] : List (List Nat)), b ∉ o) (hL0 : B.Loc w w [] [Sm w.heap.size F w [], St w []]) (r : List api_Word) (h : rl x1 x6 r), Calls Tryd.prog 47 #[.slice A2 n3 c4, .int .i64 x6] w (trellisref20_spelt_R w F  r)
theorem trellisref20_spelt_step (rc_trellisref20_spelt : (List api_PatNode) → Int → (List api_Word) → Prop) (ih_trellisref20_spelt : trellisref20_spelt_st rc_trellisref20_spelt) : trellisref20_spelt_st (trellisref20_spelt_body rc_trellisref20_spelt) := by
 intro w F x1 x6 A2 n3 c4 h5 hF hL0 r h
 unfold trellisref20_spelt_body at h
 refine calls_of_Loc (vs := [.slice A2 n3 c4, .int .i64 x6]) 69 Tryd.func47 rfl Tryd.ntmps47 rfl hL0 ?_
 show G (trellisref20_spelt_C w F r) _ _ _ _
 refine g_seq rfl <| g_region rfl rfl <| wl_v 0 rfl (v_assign rfl) gn rfl <| w_end 1 rfl <| g_seq rfl <| g_region rfl rfl <| wl_v 0 rfl (v_move rfl) gn rfl <| wl_v 1 rfl (v_move rfl) gn rfl ?_
 obtain ⟨hb7, h⟩ := h
 have hr8 := Rw.readF (s := St w []) (hl := hl_api_PatNode) (h1 := h1_api_PatNode) h5 hb7
 refine wl_v 2 rfl (v_idxR (s := St w []) slE_22 rfl rfl h5 hb7) gn rfl <| wl_v 3 rfl (v_ldA (St w []) ld_45 rfl hr8 rfl (me 1 rfl)) gn rfl ?_
 refine wl_s 4 rfl (s_alloc [.string (⟨#[]⟩ : ByteArray), .bool false, .string (⟨#[]⟩ : ByteArray), .string (⟨#[]⟩ : ByteArray), .int .i64 0] zr_45 rfl fun gb9 => ?_) gn
 refine wl_s 5 rfl (s_stB (vs := [.string ((ix x1 x6).name), .bool ((ix x1 x6).lit), .string ((ix x1 x6).field), .string ((ix x1 x6).capture), .int .i64 ((ix x1 x6).kids)]) (cs' := [.string ((ix x1 x6).name), .bool ((ix x1 x6).lit), .string ((ix x1 x6).field), .string ((ix x1 x6).capture), .int .i64 ((ix x1 x6).kids)]) (M' := [.box gb9 45 [.string ((ix x1 x6).name), .bool ((ix x1 x6).lit), .string ((ix x1 x6).field), .string ((ix x1 x6).capture), .int .i64 ((ix x1 x6).kids)]]) 0 sz_45 rfl rfl rfl rfl rfl rfl rfl rfl rfl ?_) gn
 refine w_end 6 rfl <| g_seq rfl <| g_region rfl rfl <| wl_v 0 rfl (v_assign rfl) gn rfl <| w_end 1 rfl <| g_seq rfl <| g_seq rfl <| g_region rfl rfl <| wl_v 0 rfl (v_fldB fo_45_2 rfl) gn rfl <| wl_v 1 rfl (v_ldB1 0 ld_9 rfl rfl rfl) gn rfl <| wl_v 2 rfl (v_neS rfl rfl) gn rfl <| w_end 3 rfl ?_
 have j1 : ∀ (x52 : List api_Word) (h : trellisref20_spelt_j1 x1 x6 rc_trellisref20_spelt x52 r) (A53 : Option Addr) (n54 : Nat) (c55 : Nat) (h56 : Ow w.heap.size A53 n54 c55 x52), G (trellisref20_spelt_C w F r) [.code q47c8] [(0, .slice A2 n3 c4), (1, .int .i64 x6), (5, .pointer (some ⟨gb9, 0, none⟩)), (6, .slice A53 n54 c55)] [.own (.slice A53 n54 c55) 84 4 n54 (x52.flatMap enc_api_Word), .box gb9 45 [.string ((ix x1 x6).name), .bool ((ix x1 x6).lit), .string ((ix x1 x6).field), .string ((ix x1 x6).capture), .int .i64 ((ix x1 x6).kids)]] [Sm w.heap.size F w [], St w []] := by
  intro x52 h A53 n54 c55 h56
  unfold trellisref20_spelt_j1 at h
  refine g_seq rfl <| g_seq rfl <| g_region rfl rfl <| wl_v 0 rfl (v_fldB fo_45_1 rfl) gn rfl <| wl_v 1 rfl (v_ldB1 1 ld_4 rfl rfl rfl) gn rfl <| w_end 2 rfl ?_
  have j2 : ∀ (x331 : List api_Word) (h : trellisref20_spelt_j2 x1 x6 x331 r) (A332 : Option Addr) (n333 : Nat) (c334 : Nat) (h335 : Ow w.heap.size A332 n333 c334 x331), G (trellisref20_spelt_C w F r) [.code q47c14] [(5, .pointer (some ⟨gb9, 0, none⟩)), (6, .slice A332 n333 c334)] [.own (.slice A332 n333 c334) 84 4 n333 (x331.flatMap enc_api_Word), .box gb9 45 [.string ((ix x1 x6).name), .bool ((ix x1 x6).lit), .string ((ix x1 x6).field), .string ((ix x1 x6).capture), .int .i64 ((ix x1 x6).kids)]] [Sm w.heap.size F w [], St w []] := by
   intro x331 h A332 n333 c334 h335
   unfold trellisref20_spelt_j2 at h
   refine g_seq rfl <| g_seq rfl <| g_region rfl rfl <| wl_v 0 rfl (v_fldB fo_45_3 rfl) gn rfl <| wl_v 1 rfl (v_ldB1 1 ld_9 rfl rfl rfl) gn rfl <| wl_v 2 rfl (v_neS rfl rfl) gn rfl <| w_end 3 rfl ?_
   by_cases hp336 : (ix x1 x6).capture = (⟨#[]⟩ : ByteArray)
   ·have h := if_pos' hp336 h
    refine g_false rfl _ rfl ((nf (seq_t hp336))) <| g_skip rfl <| g_seq rfl <| g_region rfl rfl <| wl_v 0 rfl (v_move rfl) gn rfl <| wl_v 1 rfl (v_assign rfl) gn rfl <| w_end 2 rfl ?_
    refine g_retR [.slice A332 n333 c334] rfl Tryd.func47 rfl (.tmp rfl (.nil)) fun wr hLr => ?_
    have hMr := hLr.pkI (.c 0 rfl .n) (.c 1 rfl .n) (by kernel_rfl) (.c 1 rfl .n)
    show trellisref20_spelt_R w F  r (.returned (packV [.slice A332 n333 c334])) wr
    rw [h]
    exact ⟨A332, n333, c334, rfl, hMr, h335⟩
   ·have h := if_neg' hp336 h
    refine g_true rfl _ rfl ((nt (seq_f hp336))) ?_
    obtain ⟨r340, hv341, h⟩ := h
    obtain ⟨r353, hv354, h⟩ := h
    obtain ⟨r366, hv367, h⟩ := h
    obtain ⟨r379, hv380, h⟩ := h
    have hns : Region.noSelect (Code.ops q47c52) = true := by kernel_rfl
    refine g_drawF [.box gb9 45 [.string ((ix x1 x6).name), .bool ((ix x1 x6).lit), .string ((ix x1 x6).field), .string ((ix x1 x6).capture), .int .i64 ((ix x1 x6).kids)]] [Sm w.heap.size F w [], St w []] [] 8 rfl rfl mix rfl (.cons _ (.cons_cons _ (.slnil))) (sels [0, 1] rfl) <| wfv 0 rfl (v_move rfl) gn hns rfl <| wfv 3 rfl (v_fldB fo_45_3 rfl) gn hns rfl <| wfv 4 rfl (v_ldB1 0 ld_9 rfl rfl rfl) gn hns rfl ?_
    refine wf_all [1] (by kernel_rfl) rfl ⟨on_s 1 rfl gn rfl (s_call [.int .i64 5, .string (⟨#[64]⟩ : ByteArray)] rfl Tryd.func49 rfl rfl rfl fun w519 hL520 => ?_), trivial⟩
    have hp521 := pmI hL520 .n (.c 0 rfl (.c 1 rfl .n)) (by kernel_rfl)
    refine Calls.mono (trellisref20_word_calls w519 (Fl ([] : List Snap)) 5 (⟨#[64]⟩ : ByteArray) (hL520.hFl hp521 (sels [] rfl)) (hL520.into hp521 _) r340 hv341) ?_
    rintro _ w526 ⟨A522, n523, c524, rfl, hM527, h525⟩
    have hL528 := hL520.call hp521 hM527
    refine ⟨_, _, _, rfl, hL528, ?_⟩
    refine ⟨sels [2] rfl, sels [0, 1] rfl, ?_⟩
    refine wf_all [2] (by kernel_rfl) rfl ⟨on_s 2 rfl gn rfl (s_call [.slice A332 n333 c334, .slice A522 n523 c524] rfl Tryd.func48 rfl rfl rfl fun w539 hL540 => ?_), trivial⟩
    have hp541 := pmI hL540 (.c 1 rfl .n) (.c 0 rfl (.c 2 rfl .n)) (by kernel_rfl)
    refine Calls.mono (trellisref20_put_calls w539 (Fl ([] : List Snap)) x331 r340 w.heap.size A332 n333 c334 A522 n523 c524 hL540.env.size h335 (hL540.argO (dk := k_api_Word) hp541 [1] rfl 0 rfl rfl (Ow.weak hL520.env.size h525) (me 0 rfl) (Cells.flat _)) (hL540.hFl hp541 (sels [] rfl)) (hL540.into hp541 _) r353 hv354) ?_
    rintro _ w546 ⟨A542, n543, c544, rfl, hM547, h545⟩
    have hL548 := hL540.call hp541 hM547
    refine ⟨_, _, _, rfl, hL548, ?_⟩
    refine ⟨sels [2] rfl, sels [0, 1] rfl, ?_⟩
    refine wf_all [5] (by kernel_rfl) rfl ⟨on_s 5 rfl gn rfl (s_call [.int .i64 1, .string ((ix x1 x6).capture)] rfl Tryd.func49 rfl rfl rfl fun w559 hL560 => ?_), trivial⟩
    have hp561 := pmI hL560 .n (.c 0 rfl (.c 1 rfl (.c 2 rfl .n))) (by kernel_rfl)
    refine Calls.mono (trellisref20_word_calls w559 (Fl ([] : List Snap)) 1 ((ix x1 x6).capture) (hL560.hFl hp561 (sels [] rfl)) (hL560.into hp561 _) r366 hv367) ?_
    rintro _ w566 ⟨A562, n563, c564, rfl, hM567, h565⟩
    have hL568 := hL560.call hp561 hM567
    refine ⟨_, _, _, rfl, hL568, ?_⟩
    refine ⟨sels [3] rfl, sels [0, 1] rfl, ?_⟩
    refine wf_all [6] (by kernel_rfl) rfl ⟨on_s 6 rfl gn rfl (s_call [.slice A542 n543 c544, .slice A562 n563 c564] rfl Tryd.func48 rfl rfl rfl fun w579 hL580 => ?_), trivial⟩
    have hp581 := pmI hL580 (.c 1 rfl .n) (.c 0 rfl (.c 2 rfl (.c 3 rfl .n))) (by kernel_rfl)
    refine Calls.mono (trellisref20_put_calls w579 (Fl ([] : List Snap)) r353 r366 w.heap.size A542 n543 c544 A562 n563 c564 hL580.env.size h545 (hL580.argO (dk := k_api_Word) hp581 [1] rfl 0 rfl rfl (Ow.weak hL560.env.size h565) (me 0 rfl) (Cells.flat _)) (hL580.hFl hp581 (sels [] rfl)) (hL580.into hp581 _) r379 hv380) ?_
    rintro _ w586 ⟨A582, n583, c584, rfl, hM587, h585⟩
    have hL588 := hL580.call hp581 hM587
    refine ⟨_, _, _, rfl, hL588, ?_⟩
    refine ⟨sels [3] rfl, sels [0, 1] rfl, ?_⟩
    refine wfv 7 rfl (v_assign rfl) gn hns rfl <| wf_end (by kernel_rfl) <| g_seq rfl <| g_region rfl rfl <| wl_v 0 rfl (v_move rfl) gn rfl <| wl_v 1 rfl (v_assign rfl) gn rfl <| w_end 2 rfl ?_
    refine g_retR [.slice A582 n583 c584] rfl Tryd.func47 rfl (.tmp rfl (.nil)) fun wr hLr => ?_
    have hMr := hLr.pkI (.c 0 rfl .n) (.c 1 rfl (.c 2 rfl (.c 3 rfl .n))) (by kernel_rfl) (.c 1 rfl .n)
    show trellisref20_spelt_R w F  r (.returned (packV [.slice A582 n583 c584])) wr
    rw [h]
    exact ⟨A582, n583, c584, rfl, hMr, h585⟩
  by_cases hp57 : ((ix x1 x6).lit) = true
  ·have h := if_pos' hp57 h
   refine g_true rfl _ rfl (hp57) <| g_region rfl rfl <| wl_v 0 rfl (v_move rfl) gn rfl <| wl_v 1 rfl (v_fldB fo_45_0 rfl) gn rfl <| wl_v 2 rfl (v_ldB1 1 ld_9 rfl rfl rfl) gn rfl ?_
   obtain ⟨r592, hv593, h⟩ := h
   refine wl_s 3 rfl (s_call [.int .i64 2, .string ((ix x1 x6).name)] rfl Tryd.func49 rfl rfl rfl fun w589 hL590 => ?_) gn
   have hp591 := pmI hL590 .n (.c 0 rfl (.c 1 rfl .n)) (by kernel_rfl)
   refine Calls.mono (trellisref20_word_calls w589 (Fl ([] : List Snap)) 2 ((ix x1 x6).name) (hL590.hFl hp591 (sels [] rfl)) (hL590.into hp591 _) r592 hv593) ?_
   rintro _ w599 ⟨A594, n595, c596, rfl, hM600, h597⟩
   have hL601 := hL590.call hp591 hM600
   refine ⟨_, _, _, rfl, hL601, ?_⟩
   obtain ⟨r605, hv606, h⟩ := h
   refine wl_s 4 rfl (s_call [.slice A53 n54 c55, .slice A594 n595 c596] rfl Tryd.func48 rfl rfl rfl fun w602 hL603 => ?_) gn
   have hp604 := pmI hL603 (.c 1 rfl .n) (.c 0 rfl (.c 2 rfl .n)) (by kernel_rfl)
   refine Calls.mono (trellisref20_put_calls w602 (Fl ([] : List Snap)) x52 r592 w.heap.size A53 n54 c55 A594 n595 c596 hL603.env.size h56 (hL603.argO (dk := k_api_Word) hp604 [1] rfl 0 rfl rfl (Ow.weak hL590.env.size h597) (me 0 rfl) (Cells.flat _)) (hL603.hFl hp604 (sels [] rfl)) (hL603.into hp604 _) r605 hv606) ?_
   rintro _ w612 ⟨A607, n608, c609, rfl, hM613, h610⟩
   have hL614 := hL603.call hp604 hM613
   refine ⟨_, _, _, rfl, hL614, ?_⟩
   refine wl_v 5 rfl (v_assign rfl) gn rfl <| w_end 6 rfl ?_
   exact g_go [0, 1] (j2 r605 h A607 n608 c609 h610) ⟨rfl, rfl, trivial⟩ (.cons_cons _ (.cons _ (.cons_cons _ (.slnil)))) rfl
  ·have h := if_neg' hp57 h
   refine g_false rfl _ rfl ((bf hp57)) <| g_seq rfl <| g_region rfl rfl <| wl_v 0 rfl (v_fldB fo_45_0 rfl) gn rfl <| wl_v 1 rfl (v_ldB1 1 ld_9 rfl rfl rfl) gn rfl <| wl_v 2 rfl (v_assign rfl) gn rfl <| w_end 3 rfl <| g_seq rfl <| g_seq rfl <| g_region rfl rfl <| wl_v 0 rfl (v_move rfl) gn rfl <| wl_v 1 rfl (v_eqS rfl rfl) gn rfl ?_
   refine w_end 2 rfl ?_
   have j3 : ∀ (x617 : ByteArray) (h : trellisref20_spelt_j3 x52 x1 x6 rc_trellisref20_spelt x617 r) , G (trellisref20_spelt_C w F r) [.code q47c22, .code q47c14] [(0, .slice A2 n3 c4), (1, .int .i64 x6), (5, .pointer (some ⟨gb9, 0, none⟩)), (6, .slice A53 n54 c55), (7, .string x617)] [.own (.slice A53 n54 c55) 84 4 n54 (x52.flatMap enc_api_Word), .box gb9 45 [.string ((ix x1 x6).name), .bool ((ix x1 x6).lit), .string ((ix x1 x6).field), .string ((ix x1 x6).capture), .int .i64 ((ix x1 x6).kids)]] [Sm w.heap.size F w [], St w []] := by
    intro x617 h
    unfold trellisref20_spelt_j3 at h
    refine g_seq rfl <| g_region rfl rfl <| wl_v 0 rfl (v_move rfl) gn rfl ?_
    obtain ⟨r621, hv622, h⟩ := h
    refine wl_s 1 rfl (s_call [.int .i64 5, .string (⟨#[40]⟩ : ByteArray)] rfl Tryd.func49 rfl rfl rfl fun w618 hL619 => ?_) gn
    have hp620 := pmI hL619 .n (.c 0 rfl (.c 1 rfl .n)) (by kernel_rfl)
    refine Calls.mono (trellisref20_word_calls w618 (Fl ([] : List Snap)) 5 (⟨#[40]⟩ : ByteArray) (hL619.hFl hp620 (sels [] rfl)) (hL619.into hp620 _) r621 hv622) ?_
    rintro _ w628 ⟨A623, n624, c625, rfl, hM629, h626⟩
    have hL630 := hL619.call hp620 hM629
    refine ⟨_, _, _, rfl, hL630, ?_⟩
    obtain ⟨r634, hv635, h⟩ := h
    refine wl_s 2 rfl (s_call [.slice A53 n54 c55, .slice A623 n624 c625] rfl Tryd.func48 rfl rfl rfl fun w631 hL632 => ?_) gn
    have hp633 := pmI hL632 (.c 1 rfl .n) (.c 0 rfl (.c 2 rfl .n)) (by kernel_rfl)
    refine Calls.mono (trellisref20_put_calls w631 (Fl ([] : List Snap)) x52 r621 w.heap.size A53 n54 c55 A623 n624 c625 hL632.env.size h56 (hL632.argO (dk := k_api_Word) hp633 [1] rfl 0 rfl rfl (Ow.weak hL619.env.size h626) (me 0 rfl) (Cells.flat _)) (hL632.hFl hp633 (sels [] rfl)) (hL632.into hp633 _) r634 hv635) ?_
    rintro _ w641 ⟨A636, n637, c638, rfl, hM642, h639⟩
    have hL643 := hL632.call hp633 hM642
    refine ⟨_, _, _, rfl, hL643, ?_⟩
    refine wl_v 3 rfl (v_move rfl) gn rfl ?_
    obtain ⟨r647, hv648, h⟩ := h
    refine wl_s 4 rfl (s_call [.int .i64 1, .string x617] rfl Tryd.func49 rfl rfl rfl fun w644 hL645 => ?_) gn
    have hp646 := pmI hL645 .n (.c 0 rfl (.c 1 rfl (.c 2 rfl .n))) (by kernel_rfl)
    refine Calls.mono (trellisref20_word_calls w644 (Fl ([] : List Snap)) 1 x617 (hL645.hFl hp646 (sels [] rfl)) (hL645.into hp646 _) r647 hv648) ?_
    rintro _ w654 ⟨A649, n650, c651, rfl, hM655, h652⟩
    have hL656 := hL645.call hp646 hM655
    refine ⟨_, _, _, rfl, hL656, ?_⟩
    obtain ⟨r660, hv661, h⟩ := h
    refine wl_s 5 rfl (s_call [.slice A636 n637 c638, .slice A649 n650 c651] rfl Tryd.func48 rfl rfl rfl fun w657 hL658 => ?_) gn
    have hp659 := pmI hL658 (.c 1 rfl .n) (.c 0 rfl (.c 2 rfl (.c 3 rfl .n))) (by kernel_rfl)
    refine Calls.mono (trellisref20_put_calls w657 (Fl ([] : List Snap)) r634 r647 w.heap.size A636 n637 c638 A649 n650 c651 hL658.env.size h639 (hL658.argO (dk := k_api_Word) hp659 [1] rfl 0 rfl rfl (Ow.weak hL645.env.size h652) (me 0 rfl) (Cells.flat _)) (hL658.hFl hp659 (sels [] rfl)) (hL658.into hp659 _) r660 hv661) ?_
    rintro _ w667 ⟨A662, n663, c664, rfl, hM668, h665⟩
    have hL669 := hL658.call hp659 hM668
    refine ⟨_, _, _, rfl, hL669, ?_⟩
    refine wl_v 6 rfl (v_assign rfl) gn rfl <| w_end 7 rfl <| g_seq rfl <| g_region rfl rfl <| wl_v 0 rfl (v_move rfl) gn rfl <| wl_v 1 rfl (v_bin rfl rfl rfl) gn rfl <| wl_v 2 rfl (v_assign rfl) gn rfl <| w_end 3 rfl <| g_seq rfl <| g_seq rfl <| g_region rfl rfl <| wl_v 0 rfl (v_assign rfl) gn rfl ?_
    refine w_end 1 rfl <| g_block rfl <| g_loop rfl ?_
    have key4 : ∀ s, Rounds (fun (s : (List api_Word) × Int × Int) o => trellisref20_spelt_b4 x1 x6 rc_trellisref20_spelt s.1 s.2.1 s.2.2 o) s r → (fun (s : (List api_Word) × Int × Int) => ∀ (A735 : Option Addr) (n736 : Nat) (c737 : Nat) (h738 : Ow w.heap.size A735 n736 c737 s.1), G (trellisref20_spelt_C w F r) [.code q47c36, .inLoop q47c36, .inBlock 0, .code q47c32, .code q47c14] [(0, .slice A2 n3 c4), (5, .pointer (some ⟨gb9, 0, none⟩)), (6, .slice A735 n736 c737), (8, .int .i64 s.2.1), (9, .int .i64 s.2.2)] [.own (.slice A735 n736 c737) 84 4 n736 (s.1.flatMap enc_api_Word), .box gb9 45 [.string ((ix x1 x6).name), .bool ((ix x1 x6).lit), .string ((ix x1 x6).field), .string ((ix x1 x6).capture), .int .i64 ((ix x1 x6).kids)]] [Sm w.heap.size F w [], St w []]) s := by
     intro s hs
     refine Rounds.ind (mot := (fun (s : (List api_Word) × Int × Int) => ∀ (A735 : Option Addr) (n736 : Nat) (c737 : Nat) (h738 : Ow w.heap.size A735 n736 c737 s.1), G (trellisref20_spelt_C w F r) [.code q47c36, .inLoop q47c36, .inBlock 0, .code q47c32, .code q47c14] [(0, .slice A2 n3 c4), (5, .pointer (some ⟨gb9, 0, none⟩)), (6, .slice A735 n736 c737), (8, .int .i64 s.2.1), (9, .int .i64 s.2.2)] [.own (.slice A735 n736 c737) 84 4 n736 (s.1.flatMap enc_api_Word), .box gb9 45 [.string ((ix x1 x6).name), .bool ((ix x1 x6).lit), .string ((ix x1 x6).field), .string ((ix x1 x6).capture), .int .i64 ((ix x1 x6).kids)]] [Sm w.heap.size F w [], St w []])) ?_ hs
     clear hs s
     intro s o1 h hO1
     obtain ⟨x734, x739, x740⟩ := s
     show ∀ (A735 : Option Addr) (n736 : Nat) (c737 : Nat) (h738 : Ow w.heap.size A735 n736 c737 x734), G (trellisref20_spelt_C w F r) [.code q47c36, .inLoop q47c36, .inBlock 0, .code q47c32, .code q47c14] [(0, .slice A2 n3 c4), (5, .pointer (some ⟨gb9, 0, none⟩)), (6, .slice A735 n736 c737), (8, .int .i64 x739), (9, .int .i64 x740)] [.own (.slice A735 n736 c737) 84 4 n736 (x734.flatMap enc_api_Word), .box gb9 45 [.string ((ix x1 x6).name), .bool ((ix x1 x6).lit), .string ((ix x1 x6).field), .string ((ix x1 x6).capture), .int .i64 ((ix x1 x6).kids)]] [Sm w.heap.size F w [], St w []]
     intro A735 n736 c737 h738
     have h : trellisref20_spelt_b4 x1 x6 rc_trellisref20_spelt x734 x739 x740 o1 := h
     unfold trellisref20_spelt_b4 at h
     refine g_seq rfl <| g_seq rfl <| g_region rfl rfl <| wl_v 0 rfl (v_move rfl) gn rfl <| wl_v 1 rfl (v_fldB fo_45_4 rfl) gn rfl <| wl_v 2 rfl (v_ldB1 1 ld_3 rfl rfl rfl) gn rfl <| wl_v 3 rfl (v_bin rfl rfl rfl) gn rfl <| w_end 4 rfl ?_
     by_cases hp804 : x740 < (ix x1 x6).kids
     ·have h := if_pos' hp804 h
      refine g_true rfl _ rfl ((decide_eq_true hp804)) <| g_skip rfl <| g_seq rfl <| g_block rfl <| g_seq rfl <| g_region rfl rfl <| wl_v 0 rfl (v_move rfl) gn rfl <| wl_v 1 rfl (v_move rfl) gn rfl <| wl_v 2 rfl (v_move rfl) gn rfl ?_
      obtain ⟨r808, hv809, h⟩ := h
      refine wl_s 3 rfl (s_call [.slice A2 n3 c4, .int .i64 x739] rfl Tryd.func47 rfl rfl rfl fun w805 hL806 => ?_) gn
      have hp807 := pmI hL806 .n (.c 0 rfl (.c 1 rfl .n)) (by kernel_rfl)
      refine Calls.mono (ih_trellisref20_spelt w805 (Fl ([] : List Snap)) x1 x739 A2 n3 c4 (Rw.mono h5 (hL806.toSt hp807 (me 1 rfl))) (hL806.hFl hp807 (sels [] rfl)) (hL806.into hp807 _) r808 hv809) ?_
      rintro _ w815 ⟨A810, n811, c812, rfl, hM816, h813⟩
      have hL817 := hL806.call hp807 hM816
      refine ⟨_, _, _, rfl, hL817, ?_⟩
      obtain ⟨r821, hv822, h⟩ := h
      refine wl_s 4 rfl (s_call [.slice A735 n736 c737, .slice A810 n811 c812] rfl Tryd.func48 rfl rfl rfl fun w818 hL819 => ?_) gn
      have hp820 := pmI hL819 (.c 1 rfl .n) (.c 0 rfl (.c 2 rfl .n)) (by kernel_rfl)
      refine Calls.mono (trellisref20_put_calls w818 (Fl ([] : List Snap)) x734 r808 w.heap.size A735 n736 c737 A810 n811 c812 hL819.env.size h738 (hL819.argO (dk := k_api_Word) hp820 [1] rfl 0 rfl rfl (Ow.weak hL806.env.size h813) (me 0 rfl) (Cells.flat _)) (hL819.hFl hp820 (sels [] rfl)) (hL819.into hp820 _) r821 hv822) ?_
      rintro _ w828 ⟨A823, n824, c825, rfl, hM829, h826⟩
      have hL830 := hL819.call hp820 hM829
      refine ⟨_, _, _, rfl, hL830, ?_⟩
      refine wl_v 5 rfl (v_assign rfl) gn rfl <| w_end 6 rfl <| g_region rfl rfl <| wl_v 0 rfl (v_move rfl) gn rfl <| wl_v 1 rfl (v_move rfl) gn rfl ?_
      obtain ⟨r834, hv835, h⟩ := h
      refine wl_s 2 rfl (s_call [.slice A2 n3 c4, .int .i64 x739] rfl Tryd.func51 rfl rfl rfl fun w831 hL832 => ?_) gn
      have hp833 := pmI hL832 .n (.c 0 rfl (.c 1 rfl (.c 2 rfl .n))) (by kernel_rfl)
      refine Calls.mono (trellisref20_behind_calls w831 (Fl ([] : List Snap)) x1 x739 A2 n3 c4 (Rw.mono h5 (hL832.toSt hp833 (me 1 rfl))) (hL832.hFl hp833 (sels [] rfl)) (hL832.into hp833 _) r834 hv835) ?_
      rintro _ w836 ⟨rfl, hM837⟩
      have hL838 := hL832.call hp833 hM837
      refine ⟨_, _, _, rfl, hL838, ?_⟩
      refine wl_v 3 rfl (v_assign rfl) gn rfl <| w_end 4 rfl <| g_inBlock <| g_region rfl rfl <| wl_v 0 rfl (v_move rfl) gn rfl <| wl_v 1 rfl (v_bin rfl rfl rfl) gn rfl <| wl_v 2 rfl (v_assign rfl) gn rfl <| w_end 3 rfl <| g_inLoop ?_
      have ih := Out.inl hO1 h
      exact g_go [0, 1] (ih A823 n824 c825 h826) ⟨rfl, rfl, rfl, rfl, rfl, trivial⟩ (.cons_cons _ (.cons _ (.cons_cons _ (.slnil)))) rfl
     ·have h := if_neg' hp804 h
      refine g_false rfl _ rfl ((decide_eq_false hp804)) <| g_exit [.code q47c32, .code q47c14] rfl rfl <| g_region rfl rfl <| wl_v 0 rfl (v_move rfl) gn rfl ?_
      obtain ⟨r842, hv843, h⟩ := h
      refine wl_s 1 rfl (s_call [.int .i64 5, .string (⟨#[41]⟩ : ByteArray)] rfl Tryd.func49 rfl rfl rfl fun w839 hL840 => ?_) gn
      have hp841 := pmI hL840 .n (.c 0 rfl (.c 1 rfl .n)) (by kernel_rfl)
      refine Calls.mono (trellisref20_word_calls w839 (Fl ([] : List Snap)) 5 (⟨#[41]⟩ : ByteArray) (hL840.hFl hp841 (sels [] rfl)) (hL840.into hp841 _) r842 hv843) ?_
      rintro _ w849 ⟨A844, n845, c846, rfl, hM850, h847⟩
      have hL851 := hL840.call hp841 hM850
      refine ⟨_, _, _, rfl, hL851, ?_⟩
      obtain ⟨r855, hv856, h⟩ := h
      refine wl_s 2 rfl (s_call [.slice A735 n736 c737, .slice A844 n845 c846] rfl Tryd.func48 rfl rfl rfl fun w852 hL853 => ?_) gn
      have hp854 := pmI hL853 (.c 1 rfl .n) (.c 0 rfl (.c 2 rfl .n)) (by kernel_rfl)
      refine Calls.mono (trellisref20_put_calls w852 (Fl ([] : List Snap)) x734 r842 w.heap.size A735 n736 c737 A844 n845 c846 hL853.env.size h738 (hL853.argO (dk := k_api_Word) hp854 [1] rfl 0 rfl rfl (Ow.weak hL840.env.size h847) (me 0 rfl) (Cells.flat _)) (hL853.hFl hp854 (sels [] rfl)) (hL853.into hp854 _) r855 hv856) ?_
      rintro _ w862 ⟨A857, n858, c859, rfl, hM863, h860⟩
      have hL864 := hL853.call hp854 hM863
      refine ⟨_, _, _, rfl, hL864, ?_⟩
      refine wl_v 3 rfl (v_assign rfl) gn rfl <| w_end 4 rfl ?_
      obtain ⟨q865, hq866, h⟩ := h
      have hq866 := Out.inr hO1 hq866
      rw [← hq866] at h
      exact g_go [0, 1] (j2 r855 h A857 n858 c859 h860) ⟨rfl, rfl, trivial⟩ (.cons_cons _ (.cons _ (.cons_cons _ (.slnil)))) rfl
    exact g_go [0, 1] (key4 _ h A662 n663 c664 h665) ⟨rfl, rfl, rfl, rfl, rfl, trivial⟩ (.cons_cons _ (.cons _ (.cons _ (.cons_cons _ (.slnil))))) rfl
   by_cases hp615 : (ix x1 x6).name = (⟨#[]⟩ : ByteArray)
   ·have h := if_pos' hp615 h
    refine g_true rfl _ rfl ((seq_t hp615)) <| g_region rfl rfl <| wl_v 0 rfl (v_assign rfl) gn rfl <| w_end 1 rfl ?_
    exact g_go [0, 1] (j3 (⟨#[95]⟩ : ByteArray) h) ⟨rfl, rfl, rfl, rfl, rfl, trivial⟩ (.cons_cons _ (.cons_cons _ (.slnil))) rfl
   ·have h := if_neg' hp615 h
    refine g_false rfl _ rfl ((seq_f hp615)) <| g_skip rfl ?_
    exact g_go [0, 1] (j3 ((ix x1 x6).name) h) ⟨rfl, rfl, rfl, rfl, rfl, trivial⟩ (.cons_cons _ (.cons_cons _ (.slnil))) rfl
 by_cases hp11 : (ix x1 x6).field = (⟨#[]⟩ : ByteArray)
 ·have h := if_pos' hp11 h
  refine g_false rfl _ rfl ((nf (seq_t hp11))) <| g_skip rfl <| g_nil 84 4 ?_
  exact g_go [0, 1] (j1 ([] : List api_Word) h none 0 0 (Ow.nil (z := w.heap.size))) ⟨rfl, rfl, rfl, rfl, trivial⟩ (.cons_cons _ (.cons_cons _ (.slnil))) rfl
 ·have h := if_neg' hp11 h
  refine g_true rfl _ rfl ((nt (seq_f hp11))) <| g_region rfl rfl <| wl_v 0 rfl (v_fldB fo_45_2 rfl) gn rfl <| wl_v 1 rfl (v_ldB1 0 ld_9 rfl rfl rfl) gn rfl ?_
  obtain ⟨r870, hv871, h⟩ := h
  refine wl_s 2 rfl (s_call [.int .i64 1, .string ((ix x1 x6).field)] rfl Tryd.func49 rfl rfl rfl fun w867 hL868 => ?_) gn
  have hp869 := pmI hL868 .n (.c 0 rfl .n) (by kernel_rfl)
  refine Calls.mono (trellisref20_word_calls w867 (Fl ([] : List Snap)) 1 ((ix x1 x6).field) (hL868.hFl hp869 (sels [] rfl)) (hL868.into hp869 _) r870 hv871) ?_
  rintro _ w877 ⟨A872, n873, c874, rfl, hM878, h875⟩
  have hL879 := hL868.call hp869 hM878
  refine ⟨_, _, _, rfl, hL879, ?_⟩
  obtain ⟨r883, hv884, h⟩ := h
  refine wl_s 3 rfl (s_call [.int .i64 5, .string (⟨#[58]⟩ : ByteArray)] rfl Tryd.func49 rfl rfl rfl fun w880 hL881 => ?_) gn
  have hp882 := pmI hL881 .n (.c 0 rfl (.c 1 rfl .n)) (by kernel_rfl)
  refine Calls.mono (trellisref20_word_calls w880 (Fl ([] : List Snap)) 5 (⟨#[58]⟩ : ByteArray) (hL881.hFl hp882 (sels [] rfl)) (hL881.into hp882 _) r883 hv884) ?_
  rintro _ w890 ⟨A885, n886, c887, rfl, hM891, h888⟩
  have hL892 := hL881.call hp882 hM891
  refine ⟨_, _, _, rfl, hL892, ?_⟩
  obtain ⟨r896, hv897, h⟩ := h
  refine wl_s 4 rfl (s_call [.slice A872 n873 c874, .slice A885 n886 c887] rfl Tryd.func48 rfl rfl rfl fun w893 hL894 => ?_) gn
  have hp895 := pmI hL894 (.c 1 rfl .n) (.c 0 rfl (.c 2 rfl .n)) (by kernel_rfl)
  refine Calls.mono (trellisref20_put_calls w893 (Fl ([] : List Snap)) r870 r883 w.heap.size A872 n873 c874 A885 n886 c887 hL894.env.size (Ow.weak hL868.env.size h875) (hL894.argO (dk := k_api_Word) hp895 [1] rfl 0 rfl rfl (Ow.weak hL881.env.size h888) (me 0 rfl) (Cells.flat _)) (hL894.hFl hp895 (sels [] rfl)) (hL894.into hp895 _) r896 hv897) ?_
  rintro _ w903 ⟨A898, n899, c900, rfl, hM904, h901⟩
  have hL905 := hL894.call hp895 hM904
  refine ⟨_, _, _, rfl, hL905, ?_⟩
  refine wl_v 5 rfl (v_assign rfl) gn rfl <| w_end 6 rfl ?_
  exact g_go [0, 1] (j1 r896 h A898 n899 c900 h901) ⟨rfl, rfl, rfl, rfl, trivial⟩ (.cons_cons _ (.cons _ (.cons_cons _ (.slnil)))) rfl
theorem trellisref20_spelt_ind : ∀ n, trellisref20_spelt_st (trellisref20_spelt_n n)
 | 0 => fun w F x1 x6 A2 n3 c4 h5 hF hL0 r h => h.elim
 | n + 1 => by
  have ih := trellisref20_spelt_ind n
  exact trellisref20_spelt_step _ ih
theorem trellisref20_spelt_calls (w : World) (F : Nat → Prop) (x1 : List api_PatNode) (x6 : Int) (A2 : Option Addr) (n3 : Nat) (c4 : Nat) (h5 : Rw k_api_PatNode w (St w []).av A2 n3 c4 x1) (hF : ∀ b, F b → b < w.heap.size ∧ ∀ o ∈ ([] : List (List Nat)), b ∉ o) (hL0 : B.Loc w w [] [Sm w.heap.size F w [], St w []]) (r : List api_Word) (h : trellisref20_spelt x1 x6 r) : Calls Tryd.prog 47 #[.slice A2 n3 c4, .int .i64 x6] w (trellisref20_spelt_R w F  r) := by
 obtain ⟨n, h⟩ := h
 exact (trellisref20_spelt_ind n) w F x1 x6 A2 n3 c4 h5 hF hL0 r h
noncomputable abbrev q98c39 := Code.snd (Code.snd (Code.snd (bodyOf Tryd.f98)))
noncomputable abbrev q98c41 := Code.snd (Code.fst (Code.snd (Code.snd (bodyOf Tryd.f98))))
noncomputable abbrev q98c44 := Code.fst (Code.fst q98c41)
abbrev trellisref8_byteOf_R (w : World) (F : Nat → Prop) (r : ByteArray) : Ending → World → Prop := fun e w' => e = .returned (.string r) ∧ B.Loc w w' [] [St w []]
noncomputable abbrev trellisref8_byteOf_C (w : World) (F : Nat → Prop) (r : ByteArray) : Cx := ⟨Tryd.prog, 98, Tryd.f98, 37, trellisref8_byteOf_R w F  r, w⟩
theorem trellisref8_byteOf_calls (w : World) (F : Nat → Prop) (x1 : Int) (hF : ∀ b, F b → b < w.heap.size ∧ ∀ o ∈ ([] : List (List Nat)), b ∉ o) (hL0 : B.Loc w w [] [Sm w.heap.size F w [], St w []]) (r : ByteArray) (h : trellisref8_byteOf x1 r) : Calls Tryd.prog 98 #[.int .u8 x1] w (trellisref8_byteOf_R w F  r) := by
 unfold trellisref8_byteOf at h
 refine calls_of_Loc (vs := [.int .u8 x1]) 37 Tryd.func98 rfl Tryd.ntmps98 rfl hL0 ?_
 show G (trellisref8_byteOf_C w F r) _ _ _ _
 refine g_seq rfl <| g_region rfl rfl <| wl_v 0 rfl (v_assign rfl) gn rfl <| w_end 1 rfl <| g_seq rfl <| g_seq rfl <| g_region rfl rfl <| wl_v 0 rfl (v_move rfl) gn rfl <| w_end 1 rfl <| g_block rfl <| g_seq rfl <| g_region rfl rfl ?_
 refine wl_v 0 rfl (v_bin rfl rfl rfl) gn rfl <| wl_v 1 rfl (v_assign rfl) gn rfl <| w_end 2 rfl ?_
 by_cases hp2 : x1 = 34
 ·have h := if_pos' hp2 h
  refine g_true rfl _ rfl ((eqi hp2)) <| g_seq rfl <| g_region rfl rfl <| wl_v 0 rfl (v_assign rfl) gn rfl <| w_end 1 rfl ?_
  refine g_retR [.string (⟨#[92, 34]⟩ : ByteArray)] rfl Tryd.func98 rfl (.tmp rfl (.nil)) fun wr hLr => ?_
  have hMr := hLr.pk0 (.c 1 rfl .n)
  show trellisref8_byteOf_R w F  r (.returned (packV [.string (⟨#[92, 34]⟩ : ByteArray)])) wr
  rw [h]
  exact ⟨rfl, hMr⟩
 ·have h := if_neg' hp2 h
  refine g_false rfl _ rfl ((nei hp2)) <| g_seq rfl <| g_region rfl rfl <| wl_v 0 rfl (v_bin rfl rfl rfl) gn rfl <| wl_v 1 rfl (v_assign rfl) gn rfl <| w_end 2 rfl ?_
  by_cases hp3 : x1 = 92
  ·have h := if_pos' hp3 h
   refine g_true rfl _ rfl ((eqi hp3)) <| g_seq rfl <| g_region rfl rfl <| wl_v 0 rfl (v_assign rfl) gn rfl <| w_end 1 rfl ?_
   refine g_retR [.string (⟨#[92, 92]⟩ : ByteArray)] rfl Tryd.func98 rfl (.tmp rfl (.nil)) fun wr hLr => ?_
   have hMr := hLr.pk0 (.c 1 rfl .n)
   show trellisref8_byteOf_R w F  r (.returned (packV [.string (⟨#[92, 92]⟩ : ByteArray)])) wr
   rw [h]
   exact ⟨rfl, hMr⟩
  ·have h := if_neg' hp3 h
   refine g_false rfl _ rfl ((nei hp3)) <| g_seq rfl <| g_region rfl rfl <| wl_v 0 rfl (v_bin rfl rfl rfl) gn rfl <| wl_v 1 rfl (v_assign rfl) gn rfl <| w_end 2 rfl ?_
   by_cases hp4 : x1 = 10
   ·have h := if_pos' hp4 h
    refine g_true rfl _ rfl ((eqi hp4)) <| g_seq rfl <| g_region rfl rfl <| wl_v 0 rfl (v_assign rfl) gn rfl <| w_end 1 rfl ?_
    refine g_retR [.string (⟨#[92, 110]⟩ : ByteArray)] rfl Tryd.func98 rfl (.tmp rfl (.nil)) fun wr hLr => ?_
    have hMr := hLr.pk0 (.c 1 rfl .n)
    show trellisref8_byteOf_R w F  r (.returned (packV [.string (⟨#[92, 110]⟩ : ByteArray)])) wr
    rw [h]
    exact ⟨rfl, hMr⟩
   ·have h := if_neg' hp4 h
    refine g_false rfl _ rfl ((nei hp4)) <| g_seq rfl <| g_region rfl rfl <| wl_v 0 rfl (v_bin rfl rfl rfl) gn rfl <| wl_v 1 rfl (v_assign rfl) gn rfl <| w_end 2 rfl ?_
    by_cases hp5 : x1 = 9
    ·have h := if_pos' hp5 h
     refine g_true rfl _ rfl ((eqi hp5)) <| g_seq rfl <| g_region rfl rfl <| wl_v 0 rfl (v_assign rfl) gn rfl <| w_end 1 rfl ?_
     refine g_retR [.string (⟨#[92, 116]⟩ : ByteArray)] rfl Tryd.func98 rfl (.tmp rfl (.nil)) fun wr hLr => ?_
     have hMr := hLr.pk0 (.c 1 rfl .n)
     show trellisref8_byteOf_R w F  r (.returned (packV [.string (⟨#[92, 116]⟩ : ByteArray)])) wr
     rw [h]
     exact ⟨rfl, hMr⟩
    ·have h := if_neg' hp5 h
     refine g_false rfl _ rfl ((nei hp5)) <| g_seq rfl <| g_region rfl rfl <| wl_v 0 rfl (v_bin rfl rfl rfl) gn rfl <| wl_v 1 rfl (v_assign rfl) gn rfl <| w_end 2 rfl ?_
     by_cases hp6 : x1 = 13
     ·have h := if_pos' hp6 h
      refine g_true rfl _ rfl ((eqi hp6)) <| g_seq rfl <| g_region rfl rfl <| wl_v 0 rfl (v_assign rfl) gn rfl <| w_end 1 rfl ?_
      refine g_retR [.string (⟨#[92, 114]⟩ : ByteArray)] rfl Tryd.func98 rfl (.tmp rfl (.nil)) fun wr hLr => ?_
      have hMr := hLr.pk0 (.c 1 rfl .n)
      show trellisref8_byteOf_R w F  r (.returned (packV [.string (⟨#[92, 114]⟩ : ByteArray)])) wr
      rw [h]
      exact ⟨rfl, hMr⟩
     ·have h := if_neg' hp6 h
      refine g_false rfl _ rfl ((nei hp6)) <| g_skip rfl <| g_inBlock <| g_seq rfl <| g_seq rfl ?_
      have j1 : ∀ (x9 : Bool) (h : trellisref8_byteOf_j1 x1 x9 r) , G (trellisref8_byteOf_C w F r) [.code q98c41, .code q98c39] [(0, .int .u8 x1), (19, .bool x9)] [] [Sm w.heap.size F w [], St w []] := by
       intro x9 h
       unfold trellisref8_byteOf_j1 at h
       by_cases hp10 : x9 = true
       ·have h := if_pos' hp10 h
        refine g_true rfl _ rfl (hp10) <| g_seq rfl ?_
        obtain ⟨hb11, h⟩ := h
        obtain ⟨hb12, h⟩ := h
        obtain ⟨hb13, h⟩ := h
        obtain ⟨hb14, h⟩ := h
        have hns : Region.noSelect (Code.ops q98c44) = true := by kernel_rfl
        refine g_drawG [] 15 rfl rfl mix rfl (.c 0 rfl (.c 1 rfl .n)) <| wfv 0 rfl (v_move rfl) gn hns rfl <| wfv 1 rfl (v_quo rfl rfl (by decide)) gn hns rfl <| wfv 2 rfl (v_move rfl) gn hns rfl <| wfv 3 rfl (v_quo rfl rfl (by decide)) gn hns rfl <| wfv 4 rfl (v_bin rfl rfl rfl) gn hns rfl <| wfv 5 rfl (v_cutS (IntKind.u8.wrap (Int.tdiv x1 16)) (IntKind.u8.wrap ((IntKind.u8.wrap (Int.tdiv x1 16)) + 1)) un_9 rfl (.inr ⟨_, _, rfl, rfl⟩) (.inr ⟨_, _, rfl, rfl⟩) ⟨hb11.1, hb11.2.1⟩ hb11.2.2) gn hns rfl <| wfv 6 rfl (v_catS rfl rfl hb12) gn hns rfl <| wfv 7 rfl (v_move rfl) gn hns rfl <| wfv 8 rfl (v_rem rfl rfl (by decide)) gn hns rfl <| wfv 9 rfl (v_move rfl) gn hns rfl <| wfv 10 rfl (v_rem rfl rfl (by decide)) gn hns rfl ?_
        refine wfv 11 rfl (v_bin rfl rfl rfl) gn hns rfl <| wfv 12 rfl (v_cutS (Int.tmod x1 16) (IntKind.u8.wrap ((Int.tmod x1 16) + 1)) un_9 rfl (.inr ⟨_, _, rfl, rfl⟩) (.inr ⟨_, _, rfl, rfl⟩) ⟨hb13.1, hb13.2.1⟩ hb13.2.2) gn hns rfl <| wfv 13 rfl (v_catS rfl rfl hb14) gn hns rfl <| wfv 14 rfl (v_assign rfl) gn hns rfl <| wf_end (by kernel_rfl) ?_
        refine g_retR [.string (((⟨#[92, 120]⟩ : ByteArray) ++ ((⟨#[48, 49, 50, 51, 52, 53, 54, 55, 56, 57, 97, 98, 99, 100, 101, 102, 65, 66, 67, 68, 69, 70]⟩ : ByteArray).extract (IntKind.u8.wrap (Int.tdiv x1 16) : Int).toNat (IntKind.u8.wrap ((IntKind.u8.wrap (Int.tdiv x1 16)) + 1) : Int).toNat)) ++ ((⟨#[48, 49, 50, 51, 52, 53, 54, 55, 56, 57, 97, 98, 99, 100, 101, 102, 65, 66, 67, 68, 69, 70]⟩ : ByteArray).extract (Int.tmod x1 16 : Int).toNat (IntKind.u8.wrap ((Int.tmod x1 16) + 1) : Int).toNat))] rfl Tryd.func98 rfl (.tmp rfl (.nil)) fun wr hLr => ?_
        have hMr := hLr.pk0 (.c 1 rfl .n)
        show trellisref8_byteOf_R w F  r (.returned (packV [.string (((⟨#[92, 120]⟩ : ByteArray) ++ ((⟨#[48, 49, 50, 51, 52, 53, 54, 55, 56, 57, 97, 98, 99, 100, 101, 102, 65, 66, 67, 68, 69, 70]⟩ : ByteArray).extract (IntKind.u8.wrap (Int.tdiv x1 16) : Int).toNat (IntKind.u8.wrap ((IntKind.u8.wrap (Int.tdiv x1 16)) + 1) : Int).toNat)) ++ ((⟨#[48, 49, 50, 51, 52, 53, 54, 55, 56, 57, 97, 98, 99, 100, 101, 102, 65, 66, 67, 68, 69, 70]⟩ : ByteArray).extract (Int.tmod x1 16 : Int).toNat (IntKind.u8.wrap ((Int.tmod x1 16) + 1) : Int).toNat))])) wr
        rw [h]
        exact ⟨rfl, hMr⟩
       ·have h := if_neg' hp10 h
        refine g_false rfl _ rfl ((bf hp10)) <| g_skip rfl <| g_seq rfl <| g_region rfl rfl <| wl_v 0 rfl (v_move rfl) gn rfl ?_
        refine wl_s 1 rfl (s_litO (xs := ([x1] : List Int)) [.int .u8 x1] bs_108_1 rfl (by kernel_rfl) rfl rfl rfl rfl fun gb16 h17 => ?_) gn
        refine wl_v 2 rfl (v_b2s u8_108 un_9 rfl (Src.ownF (hl := (hlI .u8)) (h1 := (hone_int .u8)) 0 rfl h17) h17.hq) gn rfl <| wl_v 3 rfl (v_assign rfl) gn rfl <| w_end 4 rfl ?_
        refine g_retR [.string (ofBs ([x1] : List Int))] rfl Tryd.func98 rfl (.tmp rfl (.nil)) fun wr hLr => ?_
        have hMr := hLr.pk0 (.c 1 rfl .n)
        show trellisref8_byteOf_R w F  r (.returned (packV [.string (ofBs ([x1] : List Int))])) wr
        rw [h]
        exact ⟨rfl, hMr⟩
      refine g_region rfl rfl <| wl_v 0 rfl (v_move rfl) gn rfl <| wl_v 1 rfl (v_bin rfl rfl rfl) gn rfl <| wl_v 2 rfl (v_move rfl) gn rfl ?_
      by_cases hp18 : x1 < 32
      ·have h := if_pos' hp18 h
       refine w_bool 16 rfl ((decide_eq_true hp18)) <| wl_pass 3 rfl (ps 16 rfl rfl rfl) <| wl_pass 4 rfl (ps 16 rfl rfl rfl) <| wl_v 5 rfl (v_pick (b := true) rfl rfl) gn rfl <| w_end 6 rfl ?_
       exact g_go [0, 1] (j1 true h) ⟨rfl, rfl, trivial⟩ (.slnil) rfl
      ·have h := if_neg' hp18 h
       refine w_bool 16 rfl ((decide_eq_false hp18)) <| wl_v 3 rfl (v_move rfl) (gy 16 rfl rfl) rfl <| wl_v 4 rfl (v_bin rfl rfl rfl) (gy 16 rfl rfl) rfl <| wl_v 5 rfl (v_pick (b := false) rfl rfl) gn rfl <| w_end 6 rfl ?_
       exact g_go [0, 1] (j1 (decide (x1 > 126)) h) ⟨rfl, rfl, trivial⟩ (.slnil) rfl
noncomputable abbrev q76c10 := Code.snd (Code.snd (Code.snd (bodyOf Tryd.f76)))
noncomputable abbrev q76c21 := Code.snd (Code.snd (Code.fst (Code.snd (Code.fst (Code.snd (Code.fst (Code.snd (Code.snd (bodyOf Tryd.f76)))))))))
noncomputable abbrev q76c25 := Code.fst (Code.fst (Code.snd (Code.fst (Code.snd (Code.fst (Code.snd (Code.fst (Code.snd (Code.fst (Code.snd (Code.snd (bodyOf Tryd.f76))))))))))))
abbrev trellisref8_Spell_R (w : World) (F : Nat → Prop) (r : ByteArray) : Ending → World → Prop := fun e w' => e = .returned (.string r) ∧ B.Loc w w' [] [St w []]
noncomputable abbrev trellisref8_Spell_C (w : World) (F : Nat → Prop) (r : ByteArray) : Cx := ⟨Tryd.prog, 76, Tryd.f76, 41, trellisref8_Spell_R w F  r, w⟩
theorem trellisref8_Spell_calls (w : World) (F : Nat → Prop) (x1 : api_Word) (hG : Tb Tryd.prog (St w [])) (hF : ∀ b, F b → b < w.heap.size ∧ ∀ o ∈ ([] : List (List Nat)), b ∉ o) (hL0 : B.Loc w w [] [Sm w.heap.size F w [], St w []]) (r : ByteArray) (h : trellisref8_Spell x1 r) : Calls Tryd.prog 76 #[.agg #[.int .i64 x1.kind, .string x1.text, .int .i64 x1.n, .int .i64 x1.at_]] w (trellisref8_Spell_R w F  r) := by
 unfold trellisref8_Spell at h
 refine calls_of_Loc (vs := [.agg #[.int .i64 x1.kind, .string x1.text, .int .i64 x1.n, .int .i64 x1.at_]]) 41 Tryd.func76 rfl Tryd.ntmps76 rfl hL0 ?_
 show G (trellisref8_Spell_C w F r) _ _ _ _
 refine g_seq rfl <| g_region rfl rfl ?_
 refine wl_s 0 rfl (s_box [.int .i64 x1.kind, .string x1.text, .int .i64 x1.n, .int .i64 x1.at_] rfl rfl rfl fun gb2 => ?_) gn
 refine wl_v 1 rfl (v_assign rfl) gn rfl <| w_end 2 rfl <| g_seq rfl <| g_seq rfl <| g_region rfl rfl <| wl_v 0 rfl (v_ldB [.int .i64 x1.kind, .string x1.text, .int .i64 x1.n, .int .i64 x1.at_] 0 ld_84 rfl rfl rfl rfl) gn rfl ?_
 obtain ⟨r7, hv8, h⟩ := h
 refine wl_s 1 rfl (s_call [.agg #[.int .i64 x1.kind, .string x1.text, .int .i64 x1.n, .int .i64 x1.at_]] rfl Tryd.func75 rfl rfl rfl fun w4 hL5 => ?_) gn
 have hp6 := pmI hL5 .n (.c 0 rfl .n) (by kernel_rfl)
 refine Calls.mono (trellisref8_Sound_calls w4 (Fl ([] : List Snap)) x1 (hL5.hFl hp6 (sels [] rfl)) (hL5.into hp6 _) r7 hv8) ?_
 rintro _ w9 ⟨rfl, hM10⟩
 have hL11 := hL5.call hp6 hM10
 refine ⟨_, _, _, rfl, hL11, ?_⟩
 refine wl_v 2 rfl (v_not rfl) gn rfl <| w_end 3 rfl ?_
 by_cases hp12 : r7 = true
 ·have h := if_pos' hp12 h
  refine g_false rfl _ rfl ((nf hp12)) <| g_skip rfl <| g_seq rfl <| g_seq rfl <| g_region rfl rfl <| wl_v 0 rfl (v_fldB fo_84_0 rfl) gn rfl <| wl_v 1 rfl (v_ldB1 0 ld_79 rfl rfl rfl) gn rfl <| w_end 2 rfl <| g_block rfl <| g_seq rfl <| g_region rfl rfl <| wl_v 0 rfl (v_bin rfl rfl rfl) gn rfl ?_
  refine wl_v 1 rfl (v_assign rfl) gn rfl <| w_end 2 rfl ?_
  by_cases hp13 : x1.kind = 2
  ·have h := if_pos' hp13 h
   refine g_true rfl _ rfl ((eqi hp13)) <| g_seq rfl <| g_region rfl rfl <| wl_v 0 rfl (v_assign rfl) gn rfl <| w_end 1 rfl <| g_seq rfl <| g_seq rfl <| g_region rfl rfl <| wl_v 0 rfl (v_assign rfl) gn rfl <| w_end 1 rfl <| g_block rfl <| g_loop rfl ?_
   have key1 : ∀ s, Rounds (fun (s : ByteArray × Int) o => trellisref8_Spell_b1 x1 s.1 s.2 o) s r → (fun (s : ByteArray × Int) => ∀ (_ : Unit), G (trellisref8_Spell_C w F r) [.code q76c25, .inLoop q76c25, .inBlock 1, .code q76c21, .inBlock 0, .code q76c10] [(1, .pointer (some ⟨gb2, 0, none⟩)), (3, .string s.1), (4, .int .i64 s.2)] [.box gb2 84 [.int .i64 x1.kind, .string x1.text, .int .i64 x1.n, .int .i64 x1.at_]] [Sm w.heap.size F w [], St w []]) s := by
    intro s hs
    refine Rounds.ind (mot := (fun (s : ByteArray × Int) => ∀ (_ : Unit), G (trellisref8_Spell_C w F r) [.code q76c25, .inLoop q76c25, .inBlock 1, .code q76c21, .inBlock 0, .code q76c10] [(1, .pointer (some ⟨gb2, 0, none⟩)), (3, .string s.1), (4, .int .i64 s.2)] [.box gb2 84 [.int .i64 x1.kind, .string x1.text, .int .i64 x1.n, .int .i64 x1.at_]] [Sm w.heap.size F w [], St w []])) ?_ hs
    clear hs s
    intro s o1 h hO1
    obtain ⟨x27, x28⟩ := s
    show ∀ (_ : Unit), G (trellisref8_Spell_C w F r) [.code q76c25, .inLoop q76c25, .inBlock 1, .code q76c21, .inBlock 0, .code q76c10] [(1, .pointer (some ⟨gb2, 0, none⟩)), (3, .string x27), (4, .int .i64 x28)] [.box gb2 84 [.int .i64 x1.kind, .string x1.text, .int .i64 x1.n, .int .i64 x1.at_]] [Sm w.heap.size F w [], St w []]
    intro _
    have h : trellisref8_Spell_b1 x1 x27 x28 o1 := h
    unfold trellisref8_Spell_b1 at h
    refine g_seq rfl <| g_seq rfl <| g_region rfl rfl <| wl_v 0 rfl (v_move rfl) gn rfl <| wl_v 1 rfl (v_fldB fo_84_1 rfl) gn rfl <| wl_v 2 rfl (v_ldB1 0 ld_9 rfl rfl rfl) gn rfl <| wl_v 3 rfl (v_lenS un_9 rfl) gn rfl <| wl_v 4 rfl (v_bin rfl rfl rfl) gn rfl <| w_end 5 rfl ?_
    by_cases hp41 : x28 < (x1.text.size : Int)
    ·have h := if_pos' hp41 h
     refine g_true rfl _ rfl ((decide_eq_true hp41)) <| g_skip rfl <| g_seq rfl <| g_block rfl <| g_region rfl rfl <| wl_v 0 rfl (v_move rfl) gn rfl <| wl_v 1 rfl (v_fldB fo_84_1 rfl) gn rfl <| wl_v 2 rfl (v_ldB1 0 ld_9 rfl rfl rfl) gn rfl <| wl_v 3 rfl (v_move rfl) gn rfl ?_
     obtain ⟨hb42, h⟩ := h
     refine wl_v 4 rfl (v_indexS un_9 rfl rfl hb42) gn rfl ?_
     obtain ⟨r46, hv47, h⟩ := h
     refine wl_s 5 rfl (s_call [.int .u8 (bt x1.text x28)] rfl Tryd.func98 rfl rfl rfl fun w43 hL44 => ?_) gn
     have hp45 := pmI hL44 .n (.c 0 rfl .n) (by kernel_rfl)
     refine Calls.mono (trellisref8_byteOf_calls w43 (Fl ([] : List Snap)) (bt x1.text x28) (hL44.hFl hp45 (sels [] rfl)) (hL44.into hp45 _) r46 hv47) ?_
     rintro _ w48 ⟨rfl, hM49⟩
     have hL50 := hL44.call hp45 hM49
     refine ⟨_, _, _, rfl, hL50, ?_⟩
     obtain ⟨hb51, h⟩ := h
     refine wl_v 6 rfl (v_catS rfl rfl hb51) gn rfl <| wl_v 7 rfl (v_assign rfl) gn rfl <| w_end 8 rfl <| g_inBlock <| g_region rfl rfl <| wl_v 0 rfl (v_move rfl) gn rfl <| wl_v 1 rfl (v_bin rfl rfl rfl) gn rfl <| wl_v 2 rfl (v_assign rfl) gn rfl <| w_end 3 rfl <| g_inLoop ?_
     have ih := Out.inl hO1 h
     exact g_go [0, 1] (ih ()) ⟨rfl, rfl, rfl, trivial⟩ (.cons_cons _ (.slnil)) rfl
    ·have h := if_neg' hp41 h
     refine g_false rfl _ rfl ((decide_eq_false hp41)) <| g_exit [.code q76c21, .inBlock 0, .code q76c10] rfl rfl <| g_seq rfl <| g_region rfl rfl <| wl_v 0 rfl (v_move rfl) gn rfl ?_
     obtain ⟨hb52, h⟩ := h
     refine wl_v 1 rfl (v_catS rfl rfl hb52) gn rfl <| wl_v 2 rfl (v_assign rfl) gn rfl <| w_end 3 rfl ?_
     have h := Out.inr hO1 h
     refine g_retR [.string (x27 ++ (⟨#[34]⟩ : ByteArray))] rfl Tryd.func76 rfl (.tmp rfl (.nil)) fun wr hLr => ?_
     have hMr := hLr.pk0 (.c 1 rfl .n)
     show trellisref8_Spell_R w F  r (.returned (packV [.string (x27 ++ (⟨#[34]⟩ : ByteArray))])) wr
     rw [h]
     exact ⟨rfl, hMr⟩
   exact g_go [0, 1] (key1 _ h ()) ⟨rfl, rfl, rfl, trivial⟩ (.cons_cons _ (.slnil)) rfl
  ·have h := if_neg' hp13 h
   refine g_false rfl _ rfl ((nei hp13)) <| g_seq rfl <| g_region rfl rfl <| wl_v 0 rfl (v_bin rfl rfl rfl) gn rfl <| wl_v 1 rfl (v_assign rfl) gn rfl <| w_end 2 rfl ?_
   by_cases hp53 : x1.kind = 3
   ·have h := if_pos' hp53 h
    refine g_true rfl _ rfl ((eqi hp53)) <| g_seq rfl <| g_region rfl rfl <| wl_v 0 rfl (v_fldB fo_84_1 rfl) gn rfl <| wl_v 1 rfl (v_ldB1 0 ld_9 rfl rfl rfl) gn rfl ?_
    obtain ⟨hb54, h⟩ := h
    refine wl_v 2 rfl (v_catS rfl rfl hb54) gn rfl ?_
    obtain ⟨hb55, h⟩ := h
    refine wl_v 3 rfl (v_catS rfl rfl hb55) gn rfl <| wl_v 4 rfl (v_assign rfl) gn rfl <| w_end 5 rfl ?_
    refine g_retR [.string (((⟨#[47]⟩ : ByteArray) ++ x1.text) ++ (⟨#[47]⟩ : ByteArray))] rfl Tryd.func76 rfl (.tmp rfl (.nil)) fun wr hLr => ?_
    have hMr := hLr.pk0 (.c 1 rfl .n)
    show trellisref8_Spell_R w F  r (.returned (packV [.string (((⟨#[47]⟩ : ByteArray) ++ x1.text) ++ (⟨#[47]⟩ : ByteArray))])) wr
    rw [h]
    exact ⟨rfl, hMr⟩
   ·have h := if_neg' hp53 h
    refine g_false rfl _ rfl ((nei hp53)) <| g_seq rfl <| g_region rfl rfl <| wl_v 0 rfl (v_bin rfl rfl rfl) gn rfl <| wl_v 1 rfl (v_assign rfl) gn rfl <| w_end 2 rfl ?_
    by_cases hp56 : x1.kind = 4
    ·have h := if_pos' hp56 h
     refine g_true rfl _ rfl ((eqi hp56)) <| g_seq rfl <| g_region rfl rfl <| wl_v 0 rfl (v_fldB fo_84_2 rfl) gn rfl <| wl_v 1 rfl (v_ldB1 0 ld_3 rfl rfl rfl) gn rfl ?_
     obtain ⟨r60, hv61, h⟩ := h
     refine wl_s 2 rfl (s_call [.int .i64 x1.n] rfl Tryd.func99 rfl rfl rfl fun w57 hL58 => ?_) gn
     have hp59 := pmI hL58 .n (.c 0 rfl .n) (by kernel_rfl)
     refine Calls.mono (strconv_Itoa_calls w57 (Fl ([] : List Snap)) x1.n (hL58.tb hp59 hG (me 1 rfl)) (hL58.hFl hp59 (sels [] rfl)) (hL58.into hp59 _) r60 hv61) ?_
     rintro _ w62 ⟨rfl, hM63⟩
     have hL64 := hL58.call hp59 hM63
     refine ⟨_, _, _, rfl, hL64, ?_⟩
     refine wl_v 3 rfl (v_assign rfl) gn rfl <| w_end 4 rfl ?_
     refine g_retR [.string r60] rfl Tryd.func76 rfl (.tmp rfl (.nil)) fun wr hLr => ?_
     have hMr := hLr.pk0 (.c 1 rfl .n)
     show trellisref8_Spell_R w F  r (.returned (packV [.string r60])) wr
     rw [h]
     exact ⟨rfl, hMr⟩
    ·have h := if_neg' hp56 h
     refine g_false rfl _ rfl ((nei hp56)) <| g_skip rfl <| g_inBlock <| g_seq rfl <| g_region rfl rfl <| wl_v 0 rfl (v_fldB fo_84_1 rfl) gn rfl <| wl_v 1 rfl (v_ldB1 0 ld_9 rfl rfl rfl) gn rfl <| wl_v 2 rfl (v_assign rfl) gn rfl <| w_end 3 rfl ?_
     refine g_retR [.string x1.text] rfl Tryd.func76 rfl (.tmp rfl (.nil)) fun wr hLr => ?_
     have hMr := hLr.pk0 (.c 1 rfl .n)
     show trellisref8_Spell_R w F  r (.returned (packV [.string x1.text])) wr
     rw [h]
     exact ⟨rfl, hMr⟩
 ·have h := if_neg' hp12 h
  refine g_true rfl _ rfl ((nt (bf hp12))) <| g_seq rfl <| g_region rfl rfl <| wl_v 0 rfl (v_assign rfl) gn rfl <| w_end 1 rfl ?_
  refine g_retR [.string (⟨#[]⟩ : ByteArray)] rfl Tryd.func76 rfl (.tmp rfl (.nil)) fun wr hLr => ?_
  have hMr := hLr.pk0 (.c 1 rfl .n)
  show trellisref8_Spell_R w F  r (.returned (packV [.string (⟨#[]⟩ : ByteArray)])) wr
  rw [h]
  exact ⟨rfl, hMr⟩
noncomputable abbrev q50c6 := Code.snd (Code.snd (Code.snd (bodyOf Tryd.f50)))
noncomputable abbrev q50c10 := Code.fst (Code.fst (Code.snd (Code.fst (Code.snd (Code.snd (bodyOf Tryd.f50))))))
abbrev trellisref8_Join_R (w : World) (F : Nat → Prop) (r : ByteArray) : Ending → World → Prop := fun e w' => e = .returned (.string r) ∧ B.Loc w w' [] [St w []]
noncomputable abbrev trellisref8_Join_C (w : World) (F : Nat → Prop) (r : ByteArray) : Cx := ⟨Tryd.prog, 50, Tryd.f50, 29, trellisref8_Join_R w F  r, w⟩
theorem trellisref8_Join_calls (w : World) (F : Nat → Prop) (x1 : List api_Word) (A2 : Option Addr) (n3 : Nat) (c4 : Nat) (h5 : Rw k_api_Word w (St w []).av A2 n3 c4 x1) (hG : Tb Tryd.prog (St w [])) (hF : ∀ b, F b → b < w.heap.size ∧ ∀ o ∈ ([] : List (List Nat)), b ∉ o) (hL0 : B.Loc w w [] [Sm w.heap.size F w [], St w []]) (r : ByteArray) (h : trellisref8_Join x1 r) : Calls Tryd.prog 50 #[.slice A2 n3 c4] w (trellisref8_Join_R w F  r) := by
 unfold trellisref8_Join at h
 refine calls_of_Loc (vs := [.slice A2 n3 c4]) 29 Tryd.func50 rfl Tryd.ntmps50 rfl hL0 ?_
 show G (trellisref8_Join_C w F r) _ _ _ _
 refine g_seq rfl <| g_region rfl rfl <| wl_v 0 rfl (v_assign rfl) gn rfl <| w_end 1 rfl <| g_seq rfl <| g_region rfl rfl <| wl_v 0 rfl (v_assign rfl) gn rfl <| w_end 1 rfl <| g_seq rfl <| g_seq rfl <| g_region rfl rfl <| wl_v 0 rfl (v_assign rfl) gn rfl ?_
 refine w_end 1 rfl <| g_block rfl <| g_loop rfl ?_
 have key1 : ∀ s, Rounds (fun (s : ByteArray × Int) o => trellisref8_Join_b1 x1 s.1 s.2 o) s r → (fun (s : ByteArray × Int) => ∀ (_ : Unit), G (trellisref8_Join_C w F r) [.code q50c10, .inLoop q50c10, .inBlock 0, .code q50c6] [(0, .slice A2 n3 c4), (3, .string s.1), (4, .int .i64 s.2)] [] [Sm w.heap.size F w [], St w []]) s := by
  intro s hs
  refine Rounds.ind (mot := (fun (s : ByteArray × Int) => ∀ (_ : Unit), G (trellisref8_Join_C w F r) [.code q50c10, .inLoop q50c10, .inBlock 0, .code q50c6] [(0, .slice A2 n3 c4), (3, .string s.1), (4, .int .i64 s.2)] [] [Sm w.heap.size F w [], St w []])) ?_ hs
  clear hs s
  intro s o1 h hO1
  obtain ⟨x29, x30⟩ := s
  show ∀ (_ : Unit), G (trellisref8_Join_C w F r) [.code q50c10, .inLoop q50c10, .inBlock 0, .code q50c6] [(0, .slice A2 n3 c4), (3, .string x29), (4, .int .i64 x30)] [] [Sm w.heap.size F w [], St w []]
  intro _
  have h : trellisref8_Join_b1 x1 x29 x30 o1 := h
  unfold trellisref8_Join_b1 at h
  refine g_seq rfl <| g_seq rfl <| g_region rfl rfl <| wl_v 0 rfl (v_move rfl) gn rfl <| wl_v 1 rfl (v_move rfl) gn rfl <| wl_v 2 rfl (v_lenQ un_75 rfl h5.hq) gn rfl <| wl_v 3 rfl (v_bin rfl rfl rfl) gn rfl <| w_end 4 rfl ?_
  by_cases hp65 : x30 < (x1.length : Int)
  ·have h := if_pos' hp65 h
   refine g_true rfl _ rfl ((decide_eq_true hp65)) <| g_skip rfl <| g_seq rfl <| g_block rfl <| g_seq rfl <| g_seq rfl <| g_region rfl rfl <| wl_v 0 rfl (v_move rfl) gn rfl <| wl_v 1 rfl (v_move rfl) gn rfl ?_
   obtain ⟨hb66, h⟩ := h
   have hr67 := Rw.readF (s := St w []) (hl := hl_api_Word) (h1 := h1_api_Word) h5 hb66
   refine wl_v 2 rfl (v_idxR (s := St w []) slE_75 rfl rfl h5 hb66) gn rfl <| wl_v 3 rfl (v_ldA (St w []) ld_84 rfl hr67 rfl (me 1 rfl)) gn rfl ?_
   obtain ⟨r71, hv72, h⟩ := h
   refine wl_s 4 rfl (s_call [.agg #[.int .i64 ((ix x1 x30).kind), .string ((ix x1 x30).text), .int .i64 ((ix x1 x30).n), .int .i64 ((ix x1 x30).at_)]] rfl Tryd.func75 rfl rfl rfl fun w68 hL69 => ?_) gn
   have hp70 := pmI hL69 .n .n (by kernel_rfl)
   refine Calls.mono (trellisref8_Sound_calls w68 (Fl ([] : List Snap)) (ix x1 x30) (hL69.hFl hp70 (sels [] rfl)) (hL69.into hp70 _) r71 hv72) ?_
   rintro _ w73 ⟨rfl, hM74⟩
   have hL75 := hL69.call hp70 hM74
   refine ⟨_, _, _, rfl, hL75, ?_⟩
   refine wl_v 5 rfl (v_not rfl) gn rfl <| w_end 6 rfl ?_
   by_cases hp76 : r71 = true
   ·have h := if_pos' hp76 h
    refine g_false rfl _ rfl ((nf hp76)) <| g_skip rfl <| g_seq rfl <| g_seq rfl <| g_region rfl rfl <| wl_v 0 rfl (v_move rfl) gn rfl <| wl_v 1 rfl (v_bin rfl rfl rfl) gn rfl <| w_end 2 rfl ?_
    by_cases hp77 : x30 > 0
    ·have h := if_pos' hp77 h
     refine g_true rfl _ rfl ((decide_eq_true hp77)) <| g_region rfl rfl <| wl_v 0 rfl (v_move rfl) gn rfl ?_
     obtain ⟨hb78, h⟩ := h
     refine wl_v 1 rfl (v_catS rfl rfl hb78) gn rfl <| wl_v 2 rfl (v_assign rfl) gn rfl <| w_end 3 rfl <| g_region rfl rfl <| wl_v 0 rfl (v_move rfl) gn rfl <| wl_v 1 rfl (v_move rfl) gn rfl <| wl_v 2 rfl (v_move rfl) gn rfl ?_
     have hr79 := Rw.readF (s := St w []) (hl := hl_api_Word) (h1 := h1_api_Word) h5 hb66
     refine wl_v 3 rfl (v_idxR (s := St w []) slE_75 rfl rfl h5 hb66) gn rfl <| wl_v 4 rfl (v_ldA (St w []) ld_84 rfl hr79 rfl (me 1 rfl)) gn rfl ?_
     obtain ⟨r83, hv84, h⟩ := h
     refine wl_s 5 rfl (s_call [.agg #[.int .i64 ((ix x1 x30).kind), .string ((ix x1 x30).text), .int .i64 ((ix x1 x30).n), .int .i64 ((ix x1 x30).at_)]] rfl Tryd.func76 rfl rfl rfl fun w80 hL81 => ?_) gn
     have hp82 := pmI hL81 .n .n (by kernel_rfl)
     refine Calls.mono (trellisref8_Spell_calls w80 (Fl ([] : List Snap)) (ix x1 x30) (hL81.tb hp82 hG (me 1 rfl)) (hL81.hFl hp82 (sels [] rfl)) (hL81.into hp82 _) r83 hv84) ?_
     rintro _ w85 ⟨rfl, hM86⟩
     have hL87 := hL81.call hp82 hM86
     refine ⟨_, _, _, rfl, hL87, ?_⟩
     obtain ⟨hb88, h⟩ := h
     refine wl_v 6 rfl (v_catS rfl rfl hb88) gn rfl <| wl_v 7 rfl (v_assign rfl) gn rfl <| w_end 8 rfl <| g_inBlock <| g_region rfl rfl <| wl_v 0 rfl (v_move rfl) gn rfl <| wl_v 1 rfl (v_bin rfl rfl rfl) gn rfl <| wl_v 2 rfl (v_assign rfl) gn rfl <| w_end 3 rfl <| g_inLoop ?_
     have ih := Out.inl hO1 h
     exact g_go [0, 1] (ih ()) ⟨rfl, rfl, rfl, trivial⟩ (.slnil) rfl
    ·have h := if_neg' hp77 h
     refine g_false rfl _ rfl ((decide_eq_false hp77)) <| g_skip rfl <| g_region rfl rfl <| wl_v 0 rfl (v_move rfl) gn rfl <| wl_v 1 rfl (v_move rfl) gn rfl <| wl_v 2 rfl (v_move rfl) gn rfl ?_
     have hr89 := Rw.readF (s := St w []) (hl := hl_api_Word) (h1 := h1_api_Word) h5 hb66
     refine wl_v 3 rfl (v_idxR (s := St w []) slE_75 rfl rfl h5 hb66) gn rfl <| wl_v 4 rfl (v_ldA (St w []) ld_84 rfl hr89 rfl (me 1 rfl)) gn rfl ?_
     obtain ⟨r93, hv94, h⟩ := h
     refine wl_s 5 rfl (s_call [.agg #[.int .i64 ((ix x1 x30).kind), .string ((ix x1 x30).text), .int .i64 ((ix x1 x30).n), .int .i64 ((ix x1 x30).at_)]] rfl Tryd.func76 rfl rfl rfl fun w90 hL91 => ?_) gn
     have hp92 := pmI hL91 .n .n (by kernel_rfl)
     refine Calls.mono (trellisref8_Spell_calls w90 (Fl ([] : List Snap)) (ix x1 x30) (hL91.tb hp92 hG (me 1 rfl)) (hL91.hFl hp92 (sels [] rfl)) (hL91.into hp92 _) r93 hv94) ?_
     rintro _ w95 ⟨rfl, hM96⟩
     have hL97 := hL91.call hp92 hM96
     refine ⟨_, _, _, rfl, hL97, ?_⟩
     obtain ⟨hb98, h⟩ := h
     refine wl_v 6 rfl (v_catS rfl rfl hb98) gn rfl <| wl_v 7 rfl (v_assign rfl) gn rfl <| w_end 8 rfl <| g_inBlock <| g_region rfl rfl <| wl_v 0 rfl (v_move rfl) gn rfl <| wl_v 1 rfl (v_bin rfl rfl rfl) gn rfl <| wl_v 2 rfl (v_assign rfl) gn rfl <| w_end 3 rfl <| g_inLoop ?_
     have ih := Out.inl hO1 h
     exact g_go [0, 1] (ih ()) ⟨rfl, rfl, rfl, trivial⟩ (.slnil) rfl
   ·have h := if_neg' hp76 h
    refine g_true rfl _ rfl ((nt (bf hp76))) <| g_seq rfl <| g_region rfl rfl <| wl_v 0 rfl (v_assign rfl) gn rfl <| w_end 1 rfl ?_
    have h := Out.inr hO1 h
    refine g_retR [.string (⟨#[]⟩ : ByteArray)] rfl Tryd.func50 rfl (.tmp rfl (.nil)) fun wr hLr => ?_
    have hMr := hLr.pk0 (.c 1 rfl .n)
    show trellisref8_Join_R w F  r (.returned (packV [.string (⟨#[]⟩ : ByteArray)])) wr
    rw [h]
    exact ⟨rfl, hMr⟩
  ·have h := if_neg' hp65 h
   refine g_false rfl _ rfl ((decide_eq_false hp65)) <| g_exit [.code q50c6] rfl rfl <| g_seq rfl <| g_region rfl rfl <| wl_v 0 rfl (v_move rfl) gn rfl <| wl_v 1 rfl (v_assign rfl) gn rfl <| w_end 2 rfl ?_
   have h := Out.inr hO1 h
   refine g_retR [.string x29] rfl Tryd.func50 rfl (.tmp rfl (.nil)) fun wr hLr => ?_
   have hMr := hLr.pk0 (.c 1 rfl .n)
   show trellisref8_Join_R w F  r (.returned (packV [.string x29])) wr
   rw [h]
   exact ⟨rfl, hMr⟩
 exact g_go [0, 1] (key1 _ h ()) ⟨rfl, rfl, rfl, trivial⟩ (.slnil) rfl
end Go.Proofs.YtjookebbmfiidaaDoor.K
