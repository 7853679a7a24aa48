/- What the machine's calls do, function by function, printed by my own tool. Condition of each: its relation holds of the answer, and what is handed in lies in memory as told. -/
import Derived.Test.YtjookebbmfiidaaDoorK4
set_option linter.unusedVariables false
set_option maxRecDepth 100000
set_option maxHeartbeats 4000000
namespace Go.Proofs.YtjookebbmfiidaaDoor.K
open Go.Proofs.YtjookebbmfiidaaDoor.B Go.Proofs.YtjookebbmfiidaaDoor.R Go.RowKit
noncomputable abbrev q4c24 := Code.snd (Code.snd (Code.snd (Code.snd (Code.snd (Code.snd (Code.snd (Code.snd (Code.snd (bodyOf Tryd.f4)))))))))
noncomputable abbrev q4c26 := Code.snd (Code.fst (Code.snd (Code.snd (Code.snd (Code.snd (Code.snd (Code.snd (Code.snd (Code.snd (bodyOf Tryd.f4))))))))))
noncomputable abbrev q4c32 := Code.snd q4c24
noncomputable abbrev q4c36 := Code.fst (Code.fst (Code.snd (Code.fst q4c24)))
noncomputable abbrev q4c49 := Code.snd q4c32
noncomputable abbrev q4c53 := Code.fst (Code.fst (Code.snd (Code.fst q4c32)))
noncomputable abbrev q4c62 := Code.fst (Code.fst (Code.snd q4c53))
noncomputable abbrev q4c70 := Code.snd (Code.snd q4c49)
noncomputable abbrev q4c74 := Code.fst (Code.fst (Code.snd (Code.fst (Code.snd q4c49))))
abbrev trellislaw20_QueryPrints_R (w : World) (F : Nat → Prop) (r : Bool) : Ending → World → Prop := fun e w' => e = .returned (.bool r) ∧ B.Loc w w' [] [St w []]
noncomputable abbrev trellislaw20_QueryPrints_C (w : World) (F : Nat → Prop) (r : Bool) : Cx := ⟨Tryd.prog, 4, Tryd.f4, 124, trellislaw20_QueryPrints_R w F  r, w⟩
theorem trellislaw20_QueryPrints_calls (w : World) (F : Nat → Prop) (x1 : api_Query) (A2 : Option Addr) (n3 : Nat) (c4 : Nat) (A6 : Option Addr) (n7 : Nat) (c8 : Nat) (h5 : Rw k_api_PatNode w (St w []).av A2 n3 c4 x1.nodes) (h9 : Rw k_api_Cond w (St w []).av A6 n7 c8 x1.conds) (hG : Tb Tryd.prog (St w [])) (hF : ∀ b, F b → b < w.heap.size ∧ ∀ o ∈ ([] : List (List Nat)), b ∉ o) (hL0 : B.Loc w w [] [Sm w.heap.size F w [], St w []]) (r : Bool) (h : trellislaw20_QueryPrints x1 r) : Calls Tryd.prog 4 #[.agg #[.slice A2 n3 c4, .slice A6 n7 c8]] w (trellislaw20_QueryPrints_R w F  r) := by
 unfold trellislaw20_QueryPrints at h
 refine calls_of_Loc (vs := [.agg #[.slice A2 n3 c4, .slice A6 n7 c8]]) 124 Tryd.func4 rfl Tryd.ntmps4 rfl hL0 ?_
 show G (trellislaw20_QueryPrints_C w F r) _ _ _ _
 refine g_seq rfl <| g_region rfl rfl ?_
 refine wl_s 0 rfl (s_box [.slice A2 n3 c4, .slice A6 n7 c8] rfl rfl rfl fun gb10 => ?_) gn
 refine wl_v 1 rfl (v_assign rfl) gn rfl <| w_end 2 rfl <| g_seq rfl <| g_seq rfl <| g_region rfl rfl <| wl_v 0 rfl (v_fldB fo_25_0 rfl) gn rfl <| wl_v 1 rfl (v_ldB1 0 ld_22 rfl rfl rfl) gn rfl ?_
 obtain ⟨r15, hv16, h⟩ := h
 refine wl_s 2 rfl (s_call [.slice A2 n3 c4] rfl Tryd.func10 rfl rfl rfl fun w12 hL13 => ?_) gn
 have hp14 := pmI hL13 .n (.c 0 rfl .n) (by kernel_rfl)
 refine Calls.mono (trellisref20_Beyond_calls w12 (Fl ([] : List Snap)) x1.nodes A2 n3 c4 (Rw.mono h5 (hL13.toSt hp14 (me 1 rfl))) (hL13.hFl hp14 (sels [] rfl)) (hL13.into hp14 _) r15 hv16) ?_
 rintro _ w17 ⟨rfl, hM18⟩
 have hL19 := hL13.call hp14 hM18
 refine ⟨_, _, _, rfl, hL19, ?_⟩
 refine w_end 3 rfl ?_
 by_cases hp20 : r15 = true
 ·have h := if_pos' hp20 h
  refine g_true rfl _ rfl (hp20) <| g_seq rfl <| g_region rfl rfl <| wl_v 0 rfl (v_assign rfl) gn rfl <| w_end 1 rfl ?_
  refine g_retR [.bool true] rfl Tryd.func4 rfl (.tmp rfl (.nil)) fun wr hLr => ?_
  have hMr := hLr.pk0 (.c 1 rfl .n)
  show trellislaw20_QueryPrints_R w F  r (.returned (packV [.bool true])) wr
  rw [h]
  exact ⟨rfl, hMr⟩
 ·have h := if_neg' hp20 h
  refine g_false rfl _ rfl ((bf hp20)) <| g_skip rfl <| g_seq rfl <| g_region rfl rfl <| wl_v 0 rfl (v_ldB [.slice A2 n3 c4, .slice A6 n7 c8] 0 ld_25 rfl rfl rfl rfl) gn rfl ?_
  obtain ⟨r24, hv25, h⟩ := h
  refine wl_s 1 rfl (s_call [.agg #[.slice A2 n3 c4, .slice A6 n7 c8]] rfl Tryd.func12 rfl rfl rfl fun w21 hL22 => ?_) gn
  have hp23 := pmI hL22 .n (.c 0 rfl .n) (by kernel_rfl)
  refine Calls.mono (trellislaw20_twin_calls w21 (Fl ([] : List Snap)) x1 A2 n3 c4 A6 n7 c8 (Rw.mono h5 (hL22.toSt hp23 (me 1 rfl))) (Rw.mono h9 (hL22.toSt hp23 (me 1 rfl))) (hL22.hFl hp23 (sels [] rfl)) (hL22.into hp23 _) r24 hv25) ?_
  rintro _ w36 ⟨A26, n27, c28, A31, n32, c33, rfl, hM37, h29, h34⟩
  have hL38 := hL22.call hp23 hM37
  refine ⟨_, _, _, rfl, hL38, ?_⟩
  refine wl_s 2 rfl (s_alloc [.slice none 0 0, .slice none 0 0] zr_25 rfl fun gb39 => ?_) gn
  refine wl_s 3 rfl (s_stB (vs := [.slice A26 n27 c28, .slice A31 n32 c33]) (cs' := [.slice A26 n27 c28, .slice A31 n32 c33]) (M' := [.box gb39 25 [.slice A26 n27 c28, .slice A31 n32 c33], .own (.slice A26 n27 c28) 45 5 n27 (r24.nodes.flatMap enc_api_PatNode), .own (.slice A31 n32 c33) 47 4 n32 (r24.conds.flatMap enc_api_Cond), .box gb10 25 [.slice A2 n3 c4, .slice A6 n7 c8]]) 0 sz_25 rfl rfl rfl rfl rfl rfl rfl rfl rfl ?_) gn
  refine w_end 4 rfl <| g_seq rfl <| g_region rfl rfl <| wl_v 0 rfl (v_ldB [.slice A26 n27 c28, .slice A31 n32 c33] 0 ld_25 rfl rfl rfl rfl) gn rfl ?_
  obtain ⟨r44, hv45, h⟩ := h
  refine wl_s 1 rfl (s_call [.agg #[.slice A26 n27 c28, .slice A31 n32 c33]] rfl Tryd.func22 rfl rfl rfl fun w41 hL42 => ?_) gn
  have hp43 := pmI hL42 .n (.c 0 rfl (.c 1 rfl (.c 2 rfl (.c 3 rfl .n)))) (by kernel_rfl)
  refine Calls.mono (trellisref20_Print_calls w41 (Fl ([] : List Snap)) r24 A26 n27 c28 A31 n32 c33 (hL42.argO (dk := k_api_PatNode) hp43 [] rfl 1 rfl rfl (Ow.weak hL22.env.size h29) (me 0 rfl) (Cells.flat _)) (hL42.argO (dk := k_api_Cond) hp43 [] rfl 2 rfl rfl (Ow.weak hL22.env.size h34) (me 0 rfl) (Cells.flat _)) (hL42.tb hp43 hG (me 1 rfl)) (hL42.hFl hp43 (sels [] rfl)) (hL42.into hp43 _) r44 hv45) ?_
  rintro _ w46 ⟨rfl, hM47⟩
  have hL48 := hL42.call hp43 hM47
  refine ⟨_, _, _, rfl, hL48, ?_⟩
  refine wl_v 2 rfl (v_move rfl) gn rfl <| wl_v 3 rfl (v_extract rfl rfl) gn rfl <| wl_v 4 rfl (v_extract rfl rfl) gn rfl <| wl_v 5 rfl (v_assign rfl) gn rfl <| wl_v 6 rfl (v_assign rfl) gn rfl <| w_end 7 rfl <| g_seq rfl <| g_region rfl rfl <| wl_v 0 rfl (v_ldB [.slice A26 n27 c28, .slice A31 n32 c33] 0 ld_25 rfl rfl rfl rfl) gn rfl ?_
  obtain ⟨r52, hv53, h⟩ := h
  refine wl_s 1 rfl (s_call [.agg #[.slice A26 n27 c28, .slice A31 n32 c33]] rfl Tryd.func23 rfl rfl rfl fun w49 hL50 => ?_) gn
  have hp51 := pmI hL50 .n (.c 0 rfl (.c 1 rfl (.c 2 rfl (.c 3 rfl .n)))) (by kernel_rfl)
  refine Calls.mono (trellisref20_Shaped_calls w49 (Fl ([] : List Snap)) r24 A26 n27 c28 A31 n32 c33 (hL50.argO (dk := k_api_PatNode) hp51 [] rfl 1 rfl rfl (Ow.weak hL22.env.size h29) (me 0 rfl) (Cells.flat _)) (hL50.argO (dk := k_api_Cond) hp51 [] rfl 2 rfl rfl (Ow.weak hL22.env.size h34) (me 0 rfl) (Cells.flat _)) (hL50.hFl hp51 (sels [] rfl)) (hL50.into hp51 _) r52 hv53) ?_
  rintro _ w54 ⟨rfl, hM55⟩
  have hL56 := hL50.call hp51 hM55
  refine ⟨_, _, _, rfl, hL56, ?_⟩
  refine wl_v 2 rfl (v_assign rfl) gn rfl <| w_end 3 rfl <| g_seq rfl <| g_region rfl rfl <| wl_v 0 rfl (v_ldB [.slice A2 n3 c4, .slice A6 n7 c8] 3 ld_25 rfl rfl rfl rfl) gn rfl ?_
  obtain ⟨r60, hv61, h⟩ := h
  refine wl_s 1 rfl (s_call [.agg #[.slice A2 n3 c4, .slice A6 n7 c8]] rfl Tryd.func15 rfl rfl rfl fun w57 hL58 => ?_) gn
  have hp59 := pmI hL58 .n (.c 0 rfl (.c 1 rfl (.c 2 rfl (.c 3 rfl .n)))) (by kernel_rfl)
  refine Calls.mono (trellislaw20_lent_calls w57 (Fl ([] : List Snap)) x1 A2 n3 c4 A6 n7 c8 (Rw.mono h5 (hL58.toSt hp59 (me 1 rfl))) (Rw.mono h9 (hL58.toSt hp59 (me 1 rfl))) (hL58.hFl hp59 (sels [] rfl)) (hL58.into hp59 _) r60 hv61) ?_
  rintro _ w74 ⟨A62, n63, c64, A68, n69, c70, rfl, hM75, h65, hk66, h71, hk72⟩
  have hL76 := hL58.call hp59 hM75
  refine ⟨_, _, _, rfl, hL76, ?_⟩
  refine wl_s 2 rfl (s_alloc [.slice none 0 0, .slice none 0 0] zr_25 rfl fun gb77 => ?_) gn
  refine wl_s 3 rfl (s_stB (vs := [.slice A62 r60.2.1 c64, .slice A68 r60.2.2 c70]) (cs' := [.slice A62 r60.2.1 c64, .slice A68 r60.2.2 c70]) (M' := [.box gb77 25 [.slice A62 r60.2.1 c64, .slice A68 r60.2.2 c70], .own (.slice A62 n63 c64) 45 5 n63 (r60.1.nodes.flatMap enc_api_PatNode), .own (.slice A68 n69 c70) 47 4 n69 (r60.1.conds.flatMap enc_api_Cond), .box gb39 25 [.slice A26 n27 c28, .slice A31 n32 c33], .own (.slice A26 n27 c28) 45 5 n27 (r24.nodes.flatMap enc_api_PatNode), .own (.slice A31 n32 c33) 47 4 n32 (r24.conds.flatMap enc_api_Cond), .box gb10 25 [.slice A2 n3 c4, .slice A6 n7 c8]]) 0 sz_25 rfl rfl rfl rfl rfl rfl rfl rfl rfl ?_) gn
  refine w_end 4 rfl <| g_seq rfl <| g_region rfl rfl <| wl_v 0 rfl (v_ldB [.slice A62 r60.2.1 c64, .slice A68 r60.2.2 c70] 0 ld_25 rfl rfl rfl rfl) gn rfl ?_
  obtain ⟨r82, hv83, h⟩ := h
  refine wl_s 1 rfl (s_call [.agg #[.slice A62 r60.2.1 c64, .slice A68 r60.2.2 c70]] rfl Tryd.func24 rfl rfl rfl fun w79 hL80 => ?_) gn
  have hp81 := pmI hL80 .n (.c 0 rfl (.c 1 rfl (.c 2 rfl (.c 3 rfl (.c 4 rfl (.c 5 rfl (.c 6 rfl .n))))))) (by kernel_rfl)
  refine Calls.mono (query_Shaped_calls w79 (Fl ([] : List Snap)) (⟨(r60.1.nodes.take r60.2.1), (r60.1.conds.take r60.2.2)⟩ : api_Query) A62 r60.2.1 c64 A68 r60.2.2 c70 (Rw.w (hL80.argV (dk := k_api_PatNode) hp81 [] rfl 1 rfl rfl (Ow.weak hL58.env.size h65) (me 0 rfl) (Cells.flat _) (Vw.prefix hk66) (Nat.le_trans hk66 (Ow.weak hL58.env.size h65).hn) (Ow.weak hL58.env.size h65).hm) (by rw [(Eq.refl (r60.1.nodes.take r60.2.1))]; rfl)) (Rw.w (hL80.argV (dk := k_api_Cond) hp81 [] rfl 2 rfl rfl (Ow.weak hL58.env.size h71) (me 0 rfl) (Cells.flat _) (Vw.prefix hk72) (Nat.le_trans hk72 (Ow.weak hL58.env.size h71).hn) (Ow.weak hL58.env.size h71).hm) (by rw [(Eq.refl (r60.1.conds.take r60.2.2))]; rfl)) (hL80.tb hp81 hG (me 1 rfl)) (hL80.hFl hp81 (sels [] rfl)) (hL80.into hp81 _) r82 hv83) ?_
  rintro _ w84 ⟨rfl, hM85⟩
  have hL86 := hL80.call hp81 hM85
  refine ⟨_, _, _, rfl, hL86, ?_⟩
  refine wl_v 2 rfl (v_assign rfl) gn rfl <| w_end 3 rfl <| g_seq rfl <| g_region rfl rfl <| wl_v 0 rfl (v_ldB [.slice A62 r60.2.1 c64, .slice A68 r60.2.2 c70] 0 ld_25 rfl rfl rfl rfl) gn rfl ?_
  obtain ⟨r90, hv91, h⟩ := h
  refine wl_s 1 rfl (s_call [.agg #[.slice A62 r60.2.1 c64, .slice A68 r60.2.2 c70]] rfl Tryd.func25 rfl rfl rfl fun w87 hL88 => ?_) gn
  have hp89 := pmI hL88 .n (.c 0 rfl (.c 1 rfl (.c 2 rfl (.c 3 rfl (.c 4 rfl (.c 5 rfl (.c 6 rfl .n))))))) (by kernel_rfl)
  refine Calls.mono (query_Print_calls w87 (Fl ([] : List Snap)) (⟨(r60.1.nodes.take r60.2.1), (r60.1.conds.take r60.2.2)⟩ : api_Query) A62 r60.2.1 c64 A68 r60.2.2 c70 (Rw.w (hL88.argV (dk := k_api_PatNode) hp89 [] rfl 1 rfl rfl (Ow.weak hL58.env.size h65) (me 0 rfl) (Cells.flat _) (Vw.prefix hk66) (Nat.le_trans hk66 (Ow.weak hL58.env.size h65).hn) (Ow.weak hL58.env.size h65).hm) (by rw [(Eq.refl (r60.1.nodes.take r60.2.1))]; rfl)) (Rw.w (hL88.argV (dk := k_api_Cond) hp89 [] rfl 2 rfl rfl (Ow.weak hL58.env.size h71) (me 0 rfl) (Cells.flat _) (Vw.prefix hk72) (Nat.le_trans hk72 (Ow.weak hL58.env.size h71).hn) (Ow.weak hL58.env.size h71).hm) (by rw [(Eq.refl (r60.1.conds.take r60.2.2))]; rfl)) (hL88.tb hp89 hG (me 1 rfl)) (hL88.hFl hp89 (sels [] rfl)) (hL88.into hp89 _) r90 hv91) ?_
  rintro _ w92 ⟨rfl, hM93⟩
  have hL94 := hL88.call hp89 hM93
  refine ⟨_, _, _, rfl, hL94, ?_⟩
  refine wl_v 2 rfl (v_move rfl) gn rfl <| wl_v 3 rfl (v_extract rfl rfl) gn rfl <| wl_v 4 rfl (v_extract rfl rfl) gn rfl <| wl_v 5 rfl (v_assign rfl) gn rfl <| wl_v 6 rfl (v_assign rfl) gn rfl <| w_end 7 rfl <| g_seq rfl <| g_seq rfl ?_
  have j1 : ∀ (x107 : Bool) (h : trellislaw20_QueryPrints_j1 r60 x107 r) (hl108 : r60.2.1 ≤ n63) (hl109 : r60.2.2 ≤ n69), G (trellislaw20_QueryPrints_C w F r) [.code q4c26, .code q4c24] [(7, .pointer (some ⟨gb77, 0, none⟩)), (53, .bool x107)] [.box gb77 25 [.slice A62 r60.2.1 c64, .slice A68 r60.2.2 c70], .own (.slice A62 n63 c64) 45 5 n63 (r60.1.nodes.flatMap enc_api_PatNode), .own (.slice A68 n69 c70) 47 4 n69 (r60.1.conds.flatMap enc_api_Cond)] [Sm w.heap.size F w [], St w []] := by
   intro x107 h hl108 hl109
   unfold trellislaw20_QueryPrints_j1 at h
   by_cases hp110 : x107 = true
   ·have h := if_pos' hp110 h
    refine g_true rfl _ rfl (hp110) <| g_seq rfl <| g_region rfl rfl <| wl_v 0 rfl (v_assign rfl) gn rfl <| w_end 1 rfl ?_
    refine g_retR [.bool false] rfl Tryd.func4 rfl (.tmp rfl (.nil)) fun wr hLr => ?_
    have hMr := hLr.pk0 (.c 1 rfl .n)
    show trellislaw20_QueryPrints_R w F  r (.returned (packV [.bool false])) wr
    rw [h]
    exact ⟨rfl, hMr⟩
   ·have h := if_neg' hp110 h
    refine g_false rfl _ rfl ((bf hp110)) <| g_skip rfl <| g_seq rfl <| g_seq rfl <| g_region rfl rfl <| wl_v 0 rfl (v_assign rfl) gn rfl <| w_end 1 rfl <| g_block rfl <| g_loop rfl ?_
    have key2 : ∀ s, Rounds (fun (s : Int × (List api_PatNode)) o => trellislaw20_QueryPrints_b2 r60 s.1 s.2 o) s r → (fun (s : Int × (List api_PatNode)) => ∀ (h451 : Ow w.heap.size A62 n63 c64 s.2) (hl112 : r60.2.1 ≤ n63) (hl113 : r60.2.2 ≤ n69), G (trellislaw20_QueryPrints_C w F r) [.code q4c36, .inLoop q4c36, .inBlock 0, .code q4c32] [(7, .pointer (some ⟨gb77, 0, none⟩)), (11, .int .i64 s.1)] [.box gb77 25 [.slice A62 r60.2.1 c64, .slice A68 r60.2.2 c70], .own (.slice A62 n63 c64) 45 5 n63 (s.2.flatMap enc_api_PatNode), .own (.slice A68 n69 c70) 47 4 n69 (r60.1.conds.flatMap enc_api_Cond)] [Sm w.heap.size F w [], St w []]) s := by
     intro s hs
     refine Rounds.ind (mot := (fun (s : Int × (List api_PatNode)) => ∀ (h451 : Ow w.heap.size A62 n63 c64 s.2) (hl112 : r60.2.1 ≤ n63) (hl113 : r60.2.2 ≤ n69), G (trellislaw20_QueryPrints_C w F r) [.code q4c36, .inLoop q4c36, .inBlock 0, .code q4c32] [(7, .pointer (some ⟨gb77, 0, none⟩)), (11, .int .i64 s.1)] [.box gb77 25 [.slice A62 r60.2.1 c64, .slice A68 r60.2.2 c70], .own (.slice A62 n63 c64) 45 5 n63 (s.2.flatMap enc_api_PatNode), .own (.slice A68 n69 c70) 47 4 n69 (r60.1.conds.flatMap enc_api_Cond)] [Sm w.heap.size F w [], St w []])) ?_ hs
     clear hs s
     intro s o1 h hO1
     obtain ⟨x449, x450⟩ := s
     show ∀ (h451 : Ow w.heap.size A62 n63 c64 x450) (hl112 : r60.2.1 ≤ n63) (hl113 : r60.2.2 ≤ n69), G (trellislaw20_QueryPrints_C w F r) [.code q4c36, .inLoop q4c36, .inBlock 0, .code q4c32] [(7, .pointer (some ⟨gb77, 0, none⟩)), (11, .int .i64 x449)] [.box gb77 25 [.slice A62 r60.2.1 c64, .slice A68 r60.2.2 c70], .own (.slice A62 n63 c64) 45 5 n63 (x450.flatMap enc_api_PatNode), .own (.slice A68 n69 c70) 47 4 n69 (r60.1.conds.flatMap enc_api_Cond)] [Sm w.heap.size F w [], St w []]
     intro h451 hl112 hl113
     have h : trellislaw20_QueryPrints_b2 r60 x449 x450 o1 := h
     unfold trellislaw20_QueryPrints_b2 at h
     refine g_seq rfl <| g_seq rfl <| g_region rfl rfl <| wl_v 0 rfl (v_move rfl) gn rfl <| wl_v 1 rfl (v_fldB fo_25_0 rfl) gn rfl <| wl_v 2 rfl (v_ldB1 0 ld_22 rfl rfl rfl) gn rfl <| wl_v 3 rfl (v_lenQ un_22 rfl (Ow.cut h451 hl112).hq) gn rfl <| wl_v 4 rfl (v_bin rfl rfl rfl) gn rfl <| w_end 5 rfl ?_
     by_cases hp970 : x449 < ((x450.take r60.2.1).length : Int)
     ·have h := if_pos' hp970 h
      refine g_true rfl _ rfl ((decide_eq_true hp970)) <| g_skip rfl <| g_seq rfl <| g_block rfl <| g_seq rfl <| g_region rfl rfl <| wl_v 0 rfl (v_fldB fo_25_0 rfl) gn rfl <| wl_v 1 rfl (v_ldB1 0 ld_22 rfl rfl rfl) gn rfl <| wl_v 2 rfl (v_move rfl) gn rfl ?_
      obtain ⟨hb971, h⟩ := h
      have hb972 : 0 ≤ x449 ∧ x449 < (x450.length : Int) := by have q := hb971; have q2 := List.length_take_le' r60.2.1 x450; omega
      refine wl_v 3 rfl (v_idxO slE_22 rfl rfl (Ow.cut h451 hl112) hb971) gn rfl <| wl_v 4 rfl (v_fldA fo_45_4 rfl) gn rfl ?_
      obtain ⟨x973, hv974, h⟩ := h
      refine wl_s 5 rfl (s_stF (enc := enc_api_PatNode) (o := 4) (z := ({ (ix x450 x449) with kids := 0 })) (vs := [.int .i64 0]) (i := x449) 1 hl_api_PatNode sz_3 rfl rfl rfl rfl rfl h451 hb972 rfl rfl rfl hv974 fun h975 => ?_) gn
      refine w_end 6 rfl <| g_region rfl rfl <| wl_v 0 rfl (v_fldB fo_25_0 rfl) gn rfl <| wl_v 1 rfl (v_ldB1 0 ld_22 rfl rfl rfl) gn rfl <| wl_v 2 rfl (v_move rfl) gn rfl ?_
      obtain ⟨hb976, h⟩ := h
      have hb977 : 0 ≤ x449 ∧ x449 < (x973.length : Int) := by have q := hb976; have q2 := List.length_take_le' r60.2.1 x973; omega
      refine wl_v 3 rfl (v_idxO slE_22 rfl rfl (Ow.cut h975 hl112) hb976) gn rfl <| wl_v 4 rfl (v_fldA fo_45_0 rfl) gn rfl ?_
      obtain ⟨x978, hv979, h⟩ := h
      refine wl_s 5 rfl (s_stF (enc := enc_api_PatNode) (o := 0) (z := ({ (ix x973 x449) with name := (⟨#[119]⟩ : ByteArray) })) (vs := [.string (⟨#[119]⟩ : ByteArray)]) (i := x449) 1 hl_api_PatNode sz_9 rfl rfl rfl rfl rfl h975 hb977 rfl rfl rfl hv979 fun h980 => ?_) gn
      refine w_end 6 rfl <| g_inBlock <| g_region rfl rfl <| wl_v 0 rfl (v_move rfl) gn rfl <| wl_v 1 rfl (v_bin rfl rfl rfl) gn rfl <| wl_v 2 rfl (v_assign rfl) gn rfl <| w_end 3 rfl <| g_inLoop ?_
      have ih := Out.inl hO1 h
      exact g_go [0, 1] (ih h980 hl112 hl113) ⟨rfl, rfl, trivial⟩ (.cons_cons _ (.cons_cons _ (.cons_cons _ (.slnil)))) rfl
     ·have h := if_neg' hp970 h
      refine g_false rfl _ rfl ((decide_eq_false hp970)) <| g_exit [.code q4c32] rfl rfl <| g_seq rfl <| g_seq rfl <| g_region rfl rfl <| wl_v 0 rfl (v_assign rfl) gn rfl <| w_end 1 rfl <| g_block rfl <| g_loop rfl ?_
      have key3 : ∀ s, Rounds (fun (s : Int × (List api_Cond)) o => trellislaw20_QueryPrints_b3 r60 x450 s.1 s.2 o) s o1 → (fun (s : Int × (List api_Cond)) => ∀ (hl982 : r60.2.1 ≤ n63) (h1153 : Ow w.heap.size A68 n69 c70 s.2) (hl983 : r60.2.2 ≤ n69), G (trellislaw20_QueryPrints_C w F r) [.code q4c53, .inLoop q4c53, .inBlock 2, .code q4c49] [(7, .pointer (some ⟨gb77, 0, none⟩)), (12, .int .i64 s.1)] [.box gb77 25 [.slice A62 r60.2.1 c64, .slice A68 r60.2.2 c70], .own (.slice A62 n63 c64) 45 5 n63 (x450.flatMap enc_api_PatNode), .own (.slice A68 n69 c70) 47 4 n69 (s.2.flatMap enc_api_Cond)] [Sm w.heap.size F w [], St w []]) s := by
       intro s hs
       refine Rounds.ind (mot := (fun (s : Int × (List api_Cond)) => ∀ (hl982 : r60.2.1 ≤ n63) (h1153 : Ow w.heap.size A68 n69 c70 s.2) (hl983 : r60.2.2 ≤ n69), G (trellislaw20_QueryPrints_C w F r) [.code q4c53, .inLoop q4c53, .inBlock 2, .code q4c49] [(7, .pointer (some ⟨gb77, 0, none⟩)), (12, .int .i64 s.1)] [.box gb77 25 [.slice A62 r60.2.1 c64, .slice A68 r60.2.2 c70], .own (.slice A62 n63 c64) 45 5 n63 (x450.flatMap enc_api_PatNode), .own (.slice A68 n69 c70) 47 4 n69 (s.2.flatMap enc_api_Cond)] [Sm w.heap.size F w [], St w []])) ?_ hs
       clear hs s
       intro s o2 h hO2
       obtain ⟨x1151, x1152⟩ := s
       show ∀ (hl982 : r60.2.1 ≤ n63) (h1153 : Ow w.heap.size A68 n69 c70 x1152) (hl983 : r60.2.2 ≤ n69), G (trellislaw20_QueryPrints_C w F r) [.code q4c53, .inLoop q4c53, .inBlock 2, .code q4c49] [(7, .pointer (some ⟨gb77, 0, none⟩)), (12, .int .i64 x1151)] [.box gb77 25 [.slice A62 r60.2.1 c64, .slice A68 r60.2.2 c70], .own (.slice A62 n63 c64) 45 5 n63 (x450.flatMap enc_api_PatNode), .own (.slice A68 n69 c70) 47 4 n69 (x1152.flatMap enc_api_Cond)] [Sm w.heap.size F w [], St w []]
       intro hl982 h1153 hl983
       have h : trellislaw20_QueryPrints_b3 r60 x450 x1151 x1152 o2 := h
       unfold trellislaw20_QueryPrints_b3 at h
       refine g_seq rfl <| g_seq rfl <| g_region rfl rfl <| wl_v 0 rfl (v_move rfl) gn rfl <| wl_v 1 rfl (v_fldB fo_25_1 rfl) gn rfl <| wl_v 2 rfl (v_ldB1 0 ld_23 rfl rfl rfl) gn rfl <| wl_v 3 rfl (v_lenQ un_23 rfl (Ow.cut h1153 hl983).hq) gn rfl <| wl_v 4 rfl (v_bin rfl rfl rfl) gn rfl <| w_end 5 rfl ?_
       by_cases hp1321 : x1151 < ((x1152.take r60.2.2).length : Int)
       ·have h := if_pos' hp1321 h
        refine g_true rfl _ rfl ((decide_eq_true hp1321)) <| g_skip rfl <| g_seq rfl <| g_block rfl ?_
        obtain ⟨hb1322, h⟩ := h
        obtain ⟨hb1324, h⟩ := h
        obtain ⟨x1326, hv1327, h⟩ := h
        have hns : Region.noSelect (Code.ops q4c62) = true := by kernel_rfl
        refine g_drawG [12] 13 rfl rfl mix rfl (.c 0 rfl (.c 1 rfl .n)) <| wfv 0 rfl (v_fldB fo_25_1 rfl) gn hns (by kernel_rfl) <| wfv 1 rfl (v_ldB1 0 ld_23 rfl rfl rfl) gn hns (by kernel_rfl) <| wfv 2 rfl (v_move rfl) gn hns (by kernel_rfl) <| wfv 3 rfl (v_fldB fo_25_1 rfl) gn hns (by kernel_rfl) <| wfv 4 rfl (v_ldB1 0 ld_23 rfl rfl rfl) gn hns (by kernel_rfl) <| wfv 5 rfl (v_fldB fo_25_1 rfl) gn hns (by kernel_rfl) <| wfv 6 rfl (v_ldB1 0 ld_23 rfl rfl rfl) gn hns (by kernel_rfl) <| wfv 7 rfl (v_lenQ un_23 rfl (Ow.cut h1153 hl983).hq) gn hns (by kernel_rfl) <| wfv 8 rfl (v_bin rfl rfl rfl) gn hns (by kernel_rfl) ?_
        have hb1332 : 0 ≤ w64 (((x1152.take r60.2.2).length : Int) - 1) ∧ w64 (((x1152.take r60.2.2).length : Int) - 1) < (x1152.length : Int) := by have q := hb1322; have q2 := List.length_take_le' r60.2.2 x1152; omega
        refine wfv 9 rfl (v_idxO slE_23 rfl rfl (Ow.cut h1153 hl983) hb1322) gn hns (by kernel_rfl) <| wfv 10 rfl (v_ldO [.bool ((ix x1152 (w64 (((x1152.take r60.2.2).length : Int) - 1))).not), .string ((ix x1152 (w64 (((x1152.take r60.2.2).length : Int) - 1))).a), .string ((ix x1152 (w64 (((x1152.take r60.2.2).length : Int) - 1))).b), .string ((ix x1152 (w64 (((x1152.take r60.2.2).length : Int) - 1))).text)] 2 ld_47 rfl rfl (fm_one hl_api_Cond hb1332) rfl) gn hns (by kernel_rfl) ?_
        have hb1333 : 0 ≤ x1151 ∧ x1151 < (x1152.length : Int) := by have q := hb1324; have q2 := List.length_take_le' r60.2.2 x1152; omega
        refine wfv 11 rfl (v_idxO slE_23 rfl rfl (Ow.cut h1153 hl983) hb1324) gn hns (by kernel_rfl) ?_
        refine wf_all [12] (by kernel_rfl) rfl ⟨on_l 12 rfl gn rfl (s_stF (enc := enc_api_Cond) (o := 0) (z := (ix x1152 (w64 (((x1152.take r60.2.2).length : Int) - 1)))) (vs := [.bool ((ix x1152 (w64 (((x1152.take r60.2.2).length : Int) - 1))).not), .string ((ix x1152 (w64 (((x1152.take r60.2.2).length : Int) - 1))).a), .string ((ix x1152 (w64 (((x1152.take r60.2.2).length : Int) - 1))).b), .string ((ix x1152 (w64 (((x1152.take r60.2.2).length : Int) - 1))).text)]) (i := x1151) 2 hl_api_Cond sz_47 rfl rfl rfl rfl rfl h1153 hb1333 rfl rfl rfl hv1327 fun h1334 => ?_), trivial⟩
        unfold NxL
        refine wf_end (by kernel_rfl) <| g_inBlock <| g_region rfl rfl <| wl_v 0 rfl (v_move rfl) gn rfl <| wl_v 1 rfl (v_bin rfl rfl rfl) gn rfl <| wl_v 2 rfl (v_assign rfl) gn rfl <| w_end 3 rfl <| g_inLoop ?_
        have ih := Out.inl hO2 h
        exact g_go [0, 1] (ih hl982 h1334 hl983) ⟨rfl, rfl, trivial⟩ (.cons_cons _ (.cons_cons _ (.cons_cons _ (.slnil)))) rfl
       ·have h := if_neg' hp1321 h
        refine g_false rfl _ rfl ((decide_eq_false hp1321)) <| g_exit [.code q4c49] rfl rfl <| g_seq rfl <| g_seq rfl <| g_region rfl rfl <| wl_v 0 rfl (v_ldB [.slice A62 r60.2.1 c64, .slice A68 r60.2.2 c70] 0 ld_25 rfl rfl rfl rfl) gn rfl ?_
        obtain ⟨r1338, hv1339, h⟩ := h
        refine wl_s 1 rfl (s_call [.agg #[.slice A62 r60.2.1 c64, .slice A68 r60.2.2 c70]] rfl Tryd.func26 rfl rfl rfl fun w1335 hL1336 => ?_) gn
        have hp1337 := pmI hL1336 .n (.c 0 rfl (.c 1 rfl (.c 2 rfl .n))) (by kernel_rfl)
        refine Calls.mono (trellislaw20_again_calls w1335 (Fl ([] : List Snap)) (⟨(x450.take r60.2.1), (x1152.take r60.2.2)⟩ : api_Query) A62 r60.2.1 c64 A68 r60.2.2 c70 (Rw.w (hL1336.argV (dk := k_api_PatNode) hp1337 [] rfl 1 rfl rfl h451 (me 0 rfl) (Cells.flat _) (Vw.prefix hl982) (Nat.le_trans hl982 h451.hn) h451.hm) (by rw [(Eq.refl (x450.take r60.2.1))]; rfl)) (Rw.w (hL1336.argV (dk := k_api_Cond) hp1337 [] rfl 2 rfl rfl h1153 (me 0 rfl) (Cells.flat _) (Vw.prefix hl983) (Nat.le_trans hl983 h1153.hn) h1153.hm) (by rw [(Eq.refl (x1152.take r60.2.2))]; rfl)) (hL1336.tb hp1337 hG (me 1 rfl)) (hL1336.hFl hp1337 (sels [] rfl)) (hL1336.into hp1337 _) r1338 hv1339) ?_
        rintro _ w1340 ⟨rfl, hM1341⟩
        have hL1342 := hL1336.call hp1337 hM1341
        refine ⟨_, _, _, rfl, hL1342, ?_⟩
        refine wl_v 2 rfl (v_not rfl) gn rfl <| w_end 3 rfl ?_
        by_cases hp1343 : r1338 = true
        ·have h := if_pos' hp1343 h
         refine g_false rfl _ rfl ((nf hp1343)) <| g_skip rfl <| g_seq rfl <| g_seq rfl <| g_region rfl rfl <| wl_v 0 rfl (v_assign rfl) gn rfl <| w_end 1 rfl <| g_block rfl <| g_loop rfl ?_
         have key4 : ∀ s, Rounds (fun (s : Int × (List api_PatNode)) o => trellislaw20_QueryPrints_b4 r60 x1152 s.1 s.2 o) s o2 → (fun (s : Int × (List api_PatNode)) => ∀ (h1395 : Ow w.heap.size A62 n63 c64 s.2) (hl1345 : r60.2.1 ≤ n63) (hl1346 : r60.2.2 ≤ n69), G (trellislaw20_QueryPrints_C w F r) [.code q4c74, .inLoop q4c74, .inBlock 4, .code q4c70] [(7, .pointer (some ⟨gb77, 0, none⟩)), (13, .int .i64 s.1)] [.box gb77 25 [.slice A62 r60.2.1 c64, .slice A68 r60.2.2 c70], .own (.slice A62 n63 c64) 45 5 n63 (s.2.flatMap enc_api_PatNode), .own (.slice A68 n69 c70) 47 4 n69 (x1152.flatMap enc_api_Cond)] [Sm w.heap.size F w [], St w []]) s := by
          intro s hs
          refine Rounds.ind (mot := (fun (s : Int × (List api_PatNode)) => ∀ (h1395 : Ow w.heap.size A62 n63 c64 s.2) (hl1345 : r60.2.1 ≤ n63) (hl1346 : r60.2.2 ≤ n69), G (trellislaw20_QueryPrints_C w F r) [.code q4c74, .inLoop q4c74, .inBlock 4, .code q4c70] [(7, .pointer (some ⟨gb77, 0, none⟩)), (13, .int .i64 s.1)] [.box gb77 25 [.slice A62 r60.2.1 c64, .slice A68 r60.2.2 c70], .own (.slice A62 n63 c64) 45 5 n63 (s.2.flatMap enc_api_PatNode), .own (.slice A68 n69 c70) 47 4 n69 (x1152.flatMap enc_api_Cond)] [Sm w.heap.size F w [], St w []])) ?_ hs
          clear hs s
          intro s o3 h hO3
          obtain ⟨x1393, x1394⟩ := s
          show ∀ (h1395 : Ow w.heap.size A62 n63 c64 x1394) (hl1345 : r60.2.1 ≤ n63) (hl1346 : r60.2.2 ≤ n69), G (trellislaw20_QueryPrints_C w F r) [.code q4c74, .inLoop q4c74, .inBlock 4, .code q4c70] [(7, .pointer (some ⟨gb77, 0, none⟩)), (13, .int .i64 x1393)] [.box gb77 25 [.slice A62 r60.2.1 c64, .slice A68 r60.2.2 c70], .own (.slice A62 n63 c64) 45 5 n63 (x1394.flatMap enc_api_PatNode), .own (.slice A68 n69 c70) 47 4 n69 (x1152.flatMap enc_api_Cond)] [Sm w.heap.size F w [], St w []]
          intro h1395 hl1345 hl1346
          have h : trellislaw20_QueryPrints_b4 r60 x1152 x1393 x1394 o3 := h
          unfold trellislaw20_QueryPrints_b4 at h
          refine g_seq rfl <| g_seq rfl <| g_region rfl rfl <| wl_v 0 rfl (v_move rfl) gn rfl <| wl_v 1 rfl (v_fldB fo_25_0 rfl) gn rfl <| wl_v 2 rfl (v_ldB1 0 ld_22 rfl rfl rfl) gn rfl <| wl_v 3 rfl (v_lenQ un_22 rfl (Ow.cut h1395 hl1345).hq) gn rfl <| wl_v 4 rfl (v_bin rfl rfl rfl) gn rfl <| w_end 5 rfl ?_
          by_cases hp1442 : x1393 < ((x1394.take r60.2.1).length : Int)
          ·have h := if_pos' hp1442 h
           refine g_true rfl _ rfl ((decide_eq_true hp1442)) <| g_skip rfl <| g_seq rfl <| g_block rfl <| g_region rfl rfl <| wl_v 0 rfl (v_fldB fo_25_0 rfl) gn rfl <| wl_v 1 rfl (v_ldB1 0 ld_22 rfl rfl rfl) gn rfl <| wl_v 2 rfl (v_move rfl) gn rfl <| wl_v 3 rfl (v_build #[.string (⟨#[118]⟩ : ByteArray), .bool false, .string (⟨#[]⟩ : ByteArray), .string (⟨#[]⟩ : ByteArray), .int .i64 1] bd_45 rfl (by kernel_rfl)) gn rfl ?_
           obtain ⟨hb1443, h⟩ := h
           have hb1444 : 0 ≤ x1393 ∧ x1393 < (x1394.length : Int) := by have q := hb1443; have q2 := List.length_take_le' r60.2.1 x1394; omega
           refine wl_v 4 rfl (v_idxO slE_22 rfl rfl (Ow.cut h1395 hl1345) hb1443) gn rfl ?_
           obtain ⟨x1445, hv1446, h⟩ := h
           refine wl_s 5 rfl (s_stF (enc := enc_api_PatNode) (o := 0) (z := (⟨(⟨#[118]⟩ : ByteArray), false, (⟨#[]⟩ : ByteArray), (⟨#[]⟩ : ByteArray), 1⟩ : api_PatNode)) (vs := [.string (⟨#[118]⟩ : ByteArray), .bool false, .string (⟨#[]⟩ : ByteArray), .string (⟨#[]⟩ : ByteArray), .int .i64 1]) (i := x1393) 1 hl_api_PatNode sz_45 rfl rfl rfl rfl rfl h1395 hb1444 rfl rfl rfl hv1446 fun h1447 => ?_) gn
           refine w_end 6 rfl <| g_inBlock <| g_region rfl rfl <| wl_v 0 rfl (v_move rfl) gn rfl <| wl_v 1 rfl (v_bin rfl rfl rfl) gn rfl <| wl_v 2 rfl (v_assign rfl) gn rfl <| w_end 3 rfl <| g_inLoop ?_
           have ih := Out.inl hO3 h
           exact g_go [0, 1] (ih h1447 hl1345 hl1346) ⟨rfl, rfl, trivial⟩ (.cons_cons _ (.cons_cons _ (.cons_cons _ (.slnil)))) rfl
          ·have h := if_neg' hp1442 h
           refine g_false rfl _ rfl ((decide_eq_false hp1442)) <| g_exit [.code q4c70] rfl rfl <| g_seq rfl <| g_seq rfl <| g_region rfl rfl <| wl_v 0 rfl (v_fldB fo_25_0 rfl) gn rfl <| wl_v 1 rfl (v_ldB1 0 ld_22 rfl rfl rfl) gn rfl <| wl_v 2 rfl (v_lenQ un_22 rfl (Ow.cut h1395 hl1345).hq) gn rfl <| wl_v 3 rfl (v_bin rfl rfl rfl) gn rfl <| w_end 4 rfl ?_
           by_cases hp1448 : ((x1394.take r60.2.1).length : Int) > 0
           ·have h := if_pos' hp1448 h
            refine g_true rfl _ rfl ((decide_eq_true hp1448)) <| g_region rfl rfl <| wl_v 0 rfl (v_fldB fo_25_0 rfl) gn rfl <| wl_v 1 rfl (v_ldB1 0 ld_22 rfl rfl rfl) gn rfl <| wl_v 2 rfl (v_fldB fo_25_0 rfl) gn rfl <| wl_v 3 rfl (v_ldB1 0 ld_22 rfl rfl rfl) gn rfl <| wl_v 4 rfl (v_lenQ un_22 rfl (Ow.cut h1395 hl1345).hq) gn rfl <| wl_v 5 rfl (v_bin rfl rfl rfl) gn rfl ?_
            obtain ⟨hb1449, h⟩ := h
            have hb1450 : 0 ≤ w64 (((x1394.take r60.2.1).length : Int) - 1) ∧ w64 (((x1394.take r60.2.1).length : Int) - 1) < (x1394.length : Int) := by have q := hb1449; have q2 := List.length_take_le' r60.2.1 x1394; omega
            refine wl_v 6 rfl (v_idxO slE_22 rfl rfl (Ow.cut h1395 hl1345) hb1449) gn rfl <| wl_v 7 rfl (v_fldA fo_45_4 rfl) gn rfl ?_
            obtain ⟨x1451, hv1452, h⟩ := h
            refine wl_s 8 rfl (s_stF (enc := enc_api_PatNode) (o := 4) (z := ({ (ix x1394 (w64 (((x1394.take r60.2.1).length : Int) - 1))) with kids := 0 })) (vs := [.int .i64 0]) (i := (w64 (((x1394.take r60.2.1).length : Int) - 1))) 1 hl_api_PatNode sz_3 rfl rfl rfl rfl rfl h1395 hb1450 rfl rfl rfl hv1452 fun h1453 => ?_) gn
            refine w_end 9 rfl <| g_seq rfl <| g_region rfl rfl <| wl_v 0 rfl (v_fldB fo_25_0 rfl) gn rfl <| wl_v 1 rfl (v_ldB1 0 ld_22 rfl rfl rfl) gn rfl ?_
            obtain ⟨r1457, hv1458, h⟩ := h
            refine wl_s 2 rfl (s_call [.slice A62 r60.2.1 c64] rfl Tryd.func10 rfl rfl rfl fun w1454 hL1455 => ?_) gn
            have hp1456 := pmI hL1455 .n (.c 0 rfl (.c 1 rfl (.c 2 rfl .n))) (by kernel_rfl)
            refine Calls.mono (trellisref20_Beyond_calls w1454 (Fl ([] : List Snap)) (x1451.take r60.2.1) A62 r60.2.1 c64 (Rw.w (hL1455.argV (dk := k_api_PatNode) hp1456 [] rfl 1 rfl rfl h1453 (me 0 rfl) (Cells.flat _) (Vw.prefix hl1345) (Nat.le_trans hl1345 h1453.hn) h1453.hm) (by rw [(Eq.refl (x1451.take r60.2.1))]; rfl)) (hL1455.hFl hp1456 (sels [] rfl)) (hL1455.into hp1456 _) r1457 hv1458) ?_
            rintro _ w1459 ⟨rfl, hM1460⟩
            have hL1461 := hL1455.call hp1456 hM1460
            refine ⟨_, _, _, rfl, hL1461, ?_⟩
            refine wl_v 3 rfl (v_move rfl) gn rfl ?_
            by_cases hp1462 : r1457 = true
            ·have h := if_pos' hp1462 h
             refine w_bool 120 rfl (hp1462) <| wl_pass 4 rfl (ps 120 rfl rfl rfl) <| wl_pass 5 rfl (ps 120 rfl rfl rfl) <| wl_v 6 rfl (v_pick (b := true) rfl rfl) gn rfl <| wl_v 7 rfl (v_assign rfl) gn rfl <| w_end 8 rfl ?_
             have h := Out.inr hO3 h
             have h := Out.inr hO2 h
             have h := Out.inr hO1 h
             refine g_retR [.bool true] rfl Tryd.func4 rfl (.tmp rfl (.nil)) fun wr hLr => ?_
             have hMr := hLr.pk0 (.c 1 rfl .n)
             show trellislaw20_QueryPrints_R w F  r (.returned (packV [.bool true])) wr
             rw [h]
             exact ⟨rfl, hMr⟩
            ·have h := if_neg' hp1462 h
             refine w_bool 120 rfl ((bf hp1462)) <| wl_v 4 rfl (v_ldB [.slice A62 r60.2.1 c64, .slice A68 r60.2.2 c70] 0 ld_25 rfl rfl rfl rfl) (gy 120 rfl rfl) rfl ?_
             obtain ⟨r1466, hv1467, h⟩ := h
             refine wl_s 5 rfl (s_call [.agg #[.slice A62 r60.2.1 c64, .slice A68 r60.2.2 c70]] rfl Tryd.func26 rfl rfl rfl fun w1463 hL1464 => ?_) (gy 120 rfl rfl)
             have hp1465 := pmI hL1464 .n (.c 0 rfl (.c 1 rfl (.c 2 rfl .n))) (by kernel_rfl)
             refine Calls.mono (trellislaw20_again_calls w1463 (Fl ([] : List Snap)) (⟨(x1451.take r60.2.1), (x1152.take r60.2.2)⟩ : api_Query) A62 r60.2.1 c64 A68 r60.2.2 c70 (Rw.w (hL1464.argV (dk := k_api_PatNode) hp1465 [] rfl 1 rfl rfl h1453 (me 0 rfl) (Cells.flat _) (Vw.prefix hl1345) (Nat.le_trans hl1345 h1453.hn) h1453.hm) (by rw [(Eq.refl (x1451.take r60.2.1))]; rfl)) (Rw.w (hL1464.argV (dk := k_api_Cond) hp1465 [] rfl 2 rfl rfl h1153 (me 0 rfl) (Cells.flat _) (Vw.prefix hl1346) (Nat.le_trans hl1346 h1153.hn) h1153.hm) (by rw [(Eq.refl (x1152.take r60.2.2))]; rfl)) (hL1464.tb hp1465 hG (me 1 rfl)) (hL1464.hFl hp1465 (sels [] rfl)) (hL1464.into hp1465 _) r1466 hv1467) ?_
             rintro _ w1468 ⟨rfl, hM1469⟩
             have hL1470 := hL1464.call hp1465 hM1469
             refine ⟨_, _, _, rfl, hL1470, ?_⟩
             refine wl_v 6 rfl (v_pick (b := false) rfl rfl) gn rfl <| wl_v 7 rfl (v_assign rfl) gn rfl <| w_end 8 rfl ?_
             have h := Out.inr hO3 h
             have h := Out.inr hO2 h
             have h := Out.inr hO1 h
             refine g_retR [.bool r1466] rfl Tryd.func4 rfl (.tmp rfl (.nil)) fun wr hLr => ?_
             have hMr := hLr.pk0 (.c 1 rfl .n)
             show trellislaw20_QueryPrints_R w F  r (.returned (packV [.bool r1466])) wr
             rw [h]
             exact ⟨rfl, hMr⟩
           ·have h := if_neg' hp1448 h
            refine g_false rfl _ rfl ((decide_eq_false hp1448)) <| g_skip rfl <| g_seq rfl <| g_region rfl rfl <| wl_v 0 rfl (v_fldB fo_25_0 rfl) gn rfl <| wl_v 1 rfl (v_ldB1 0 ld_22 rfl rfl rfl) gn rfl ?_
            obtain ⟨r1474, hv1475, h⟩ := h
            refine wl_s 2 rfl (s_call [.slice A62 r60.2.1 c64] rfl Tryd.func10 rfl rfl rfl fun w1471 hL1472 => ?_) gn
            have hp1473 := pmI hL1472 .n (.c 0 rfl (.c 1 rfl (.c 2 rfl .n))) (by kernel_rfl)
            refine Calls.mono (trellisref20_Beyond_calls w1471 (Fl ([] : List Snap)) (x1394.take r60.2.1) A62 r60.2.1 c64 (Rw.w (hL1472.argV (dk := k_api_PatNode) hp1473 [] rfl 1 rfl rfl h1395 (me 0 rfl) (Cells.flat _) (Vw.prefix hl1345) (Nat.le_trans hl1345 h1395.hn) h1395.hm) (by rw [(Eq.refl (x1394.take r60.2.1))]; rfl)) (hL1472.hFl hp1473 (sels [] rfl)) (hL1472.into hp1473 _) r1474 hv1475) ?_
            rintro _ w1476 ⟨rfl, hM1477⟩
            have hL1478 := hL1472.call hp1473 hM1477
            refine ⟨_, _, _, rfl, hL1478, ?_⟩
            refine wl_v 3 rfl (v_move rfl) gn rfl ?_
            by_cases hp1479 : r1474 = true
            ·have h := if_pos' hp1479 h
             refine w_bool 120 rfl (hp1479) <| wl_pass 4 rfl (ps 120 rfl rfl rfl) <| wl_pass 5 rfl (ps 120 rfl rfl rfl) <| wl_v 6 rfl (v_pick (b := true) rfl rfl) gn rfl <| wl_v 7 rfl (v_assign rfl) gn rfl <| w_end 8 rfl ?_
             have h := Out.inr hO3 h
             have h := Out.inr hO2 h
             have h := Out.inr hO1 h
             refine g_retR [.bool true] rfl Tryd.func4 rfl (.tmp rfl (.nil)) fun wr hLr => ?_
             have hMr := hLr.pk0 (.c 1 rfl .n)
             show trellislaw20_QueryPrints_R w F  r (.returned (packV [.bool true])) wr
             rw [h]
             exact ⟨rfl, hMr⟩
            ·have h := if_neg' hp1479 h
             refine w_bool 120 rfl ((bf hp1479)) <| wl_v 4 rfl (v_ldB [.slice A62 r60.2.1 c64, .slice A68 r60.2.2 c70] 0 ld_25 rfl rfl rfl rfl) (gy 120 rfl rfl) rfl ?_
             obtain ⟨r1483, hv1484, h⟩ := h
             refine wl_s 5 rfl (s_call [.agg #[.slice A62 r60.2.1 c64, .slice A68 r60.2.2 c70]] rfl Tryd.func26 rfl rfl rfl fun w1480 hL1481 => ?_) (gy 120 rfl rfl)
             have hp1482 := pmI hL1481 .n (.c 0 rfl (.c 1 rfl (.c 2 rfl .n))) (by kernel_rfl)
             refine Calls.mono (trellislaw20_again_calls w1480 (Fl ([] : List Snap)) (⟨(x1394.take r60.2.1), (x1152.take r60.2.2)⟩ : api_Query) A62 r60.2.1 c64 A68 r60.2.2 c70 (Rw.w (hL1481.argV (dk := k_api_PatNode) hp1482 [] rfl 1 rfl rfl h1395 (me 0 rfl) (Cells.flat _) (Vw.prefix hl1345) (Nat.le_trans hl1345 h1395.hn) h1395.hm) (by rw [(Eq.refl (x1394.take r60.2.1))]; rfl)) (Rw.w (hL1481.argV (dk := k_api_Cond) hp1482 [] rfl 2 rfl rfl h1153 (me 0 rfl) (Cells.flat _) (Vw.prefix hl1346) (Nat.le_trans hl1346 h1153.hn) h1153.hm) (by rw [(Eq.refl (x1152.take r60.2.2))]; rfl)) (hL1481.tb hp1482 hG (me 1 rfl)) (hL1481.hFl hp1482 (sels [] rfl)) (hL1481.into hp1482 _) r1483 hv1484) ?_
             rintro _ w1485 ⟨rfl, hM1486⟩
             have hL1487 := hL1481.call hp1482 hM1486
             refine ⟨_, _, _, rfl, hL1487, ?_⟩
             refine wl_v 6 rfl (v_pick (b := false) rfl rfl) gn rfl <| wl_v 7 rfl (v_assign rfl) gn rfl <| w_end 8 rfl ?_
             have h := Out.inr hO3 h
             have h := Out.inr hO2 h
             have h := Out.inr hO1 h
             refine g_retR [.bool r1483] rfl Tryd.func4 rfl (.tmp rfl (.nil)) fun wr hLr => ?_
             have hMr := hLr.pk0 (.c 1 rfl .n)
             show trellislaw20_QueryPrints_R w F  r (.returned (packV [.bool r1483])) wr
             rw [h]
             exact ⟨rfl, hMr⟩
         exact g_go [0, 1] (key4 _ h h451 hl982 hl983) ⟨rfl, rfl, trivial⟩ (.cons_cons _ (.cons_cons _ (.cons_cons _ (.slnil)))) rfl
        ·have h := if_neg' hp1343 h
         refine g_true rfl _ rfl ((nt (bf hp1343))) <| g_seq rfl <| g_region rfl rfl <| wl_v 0 rfl (v_assign rfl) gn rfl <| w_end 1 rfl ?_
         have h := Out.inr hO2 h
         have h := Out.inr hO1 h
         refine g_retR [.bool false] rfl Tryd.func4 rfl (.tmp rfl (.nil)) fun wr hLr => ?_
         have hMr := hLr.pk0 (.c 1 rfl .n)
         show trellislaw20_QueryPrints_R w F  r (.returned (packV [.bool false])) wr
         rw [h]
         exact ⟨rfl, hMr⟩
      exact g_go [0, 1] (key3 _ h hl112 (Ow.weak hL58.env.size h71) hl113) ⟨rfl, rfl, trivial⟩ (.cons_cons _ (.cons_cons _ (.cons_cons _ (.slnil)))) rfl
    exact g_go [0, 1] (key2 _ h (Ow.weak hL58.env.size h65) hl108 hl109) ⟨rfl, rfl, trivial⟩ (.cons_cons _ (.cons_cons _ (.cons_cons _ (.slnil)))) rfl
  refine g_region rfl rfl <| wl_v 0 rfl (v_move rfl) gn rfl <| wl_v 1 rfl (v_move rfl) gn rfl <| wl_v 2 rfl (v_neB un_4 rfl rfl) gn rfl <| wl_v 3 rfl (v_move rfl) gn rfl ?_
  by_cases hp1488 : (r82 != r52) = true
  ·have h := if_pos' hp1488 h
   refine w_bool 38 rfl (hp1488) <| wl_pass 4 rfl (ps 38 rfl rfl rfl) <| wl_pass 5 rfl (ps 38 rfl rfl rfl) <| wl_pass 6 rfl (ps 38 rfl rfl rfl) <| wl_v 7 rfl (v_pick (b := true) rfl rfl) gn rfl <| wl_v 8 rfl (v_move rfl) gn rfl <| wl_pass 9 rfl (ps 43 rfl rfl rfl) <| wl_pass 10 rfl (ps 43 rfl rfl rfl) <| wl_pass 11 rfl (ps 43 rfl rfl rfl) <| wl_v 12 rfl (v_pick (b := true) rfl rfl) gn rfl <| wl_v 13 rfl (v_move rfl) gn rfl <| wl_pass 14 rfl (ps 48 rfl rfl rfl) ?_
   refine wl_pass 15 rfl (ps 48 rfl rfl rfl) <| wl_pass 16 rfl (ps 48 rfl rfl rfl) <| wl_pass 17 rfl (ps 48 rfl rfl rfl) <| wl_v 18 rfl (v_pick (b := true) rfl rfl) gn rfl <| w_end 19 rfl ?_
   exact g_go [0, 1] (j1 true h hk66 hk72) ⟨rfl, rfl, trivial⟩ (.cons_cons _ (.cons_cons _ (.cons_cons _ (.cons _ (.cons _ (.cons _ (.cons _ (.slnil)))))))) rfl
  ·have h := if_neg' hp1488 h
   refine w_bool 38 rfl ((bf hp1488)) <| wl_v 4 rfl (v_move rfl) (gy 38 rfl rfl) rfl <| wl_v 5 rfl (v_move rfl) (gy 38 rfl rfl) rfl <| wl_v 6 rfl (v_neS rfl rfl) (gy 38 rfl rfl) rfl <| wl_v 7 rfl (v_pick (b := false) rfl rfl) gn rfl <| wl_v 8 rfl (v_move rfl) gn rfl ?_
   by_cases hp1489 : r90.1 = r44.1
   ·have h := if_pos' hp1489 h
    refine w_bool 43 rfl ((nf (seq_t hp1489))) <| wl_v 9 rfl (v_move rfl) (gy 43 rfl rfl) rfl <| wl_v 10 rfl (v_move rfl) (gy 43 rfl rfl) rfl <| wl_v 11 rfl (v_bin rfl rfl rfl) (gy 43 rfl rfl) rfl <| wl_v 12 rfl (v_pick (b := false) rfl rfl) gn rfl <| wl_v 13 rfl (v_move rfl) gn rfl ?_
    by_cases hp1490 : r90.2 = r44.2
    ·have h := if_pos' hp1490 h
     refine w_bool 48 rfl ((eqib hp1490)) <| wl_v 14 rfl (v_ldB [.slice A62 r60.2.1 c64, .slice A68 r60.2.2 c70] 0 ld_25 rfl rfl rfl rfl) (gy 48 rfl rfl) rfl <| wl_v 15 rfl (v_ldB [.slice A26 n27 c28, .slice A31 n32 c33] 3 ld_25 rfl rfl rfl rfl) (gy 48 rfl rfl) rfl ?_
     obtain ⟨r1494, hv1495, h⟩ := h
     refine wl_s 16 rfl (s_call [.agg #[.slice A62 r60.2.1 c64, .slice A68 r60.2.2 c70], .agg #[.slice A26 n27 c28, .slice A31 n32 c33]] rfl Tryd.func19 rfl rfl rfl fun w1491 hL1492 => ?_) (gy 48 rfl rfl)
     have hp1493 := pmI hL1492 .n (.c 0 rfl (.c 1 rfl (.c 2 rfl (.c 3 rfl (.c 4 rfl (.c 5 rfl (.c 6 rfl .n))))))) (by kernel_rfl)
     refine Calls.mono (trellislaw20_still_calls w1491 (Fl ([] : List Snap)) (⟨r60.1.nodes, r60.1.conds⟩ : api_Query) r60.2.1 r60.2.2 r24 A62 n63 c64 A68 n69 c70 A26 n27 c28 A31 n32 c33 (hL1492.argO (dk := k_api_PatNode) hp1493 [] rfl 1 rfl rfl (Ow.weak hL58.env.size h65) (me 0 rfl) (Cells.flat _)) hk66 (hL1492.argO (dk := k_api_Cond) hp1493 [] rfl 2 rfl rfl (Ow.weak hL58.env.size h71) (me 0 rfl) (Cells.flat _)) hk72 (hL1492.argO (dk := k_api_PatNode) hp1493 [] rfl 4 rfl rfl (Ow.weak hL22.env.size h29) (me 0 rfl) (Cells.flat _)) (hL1492.argO (dk := k_api_Cond) hp1493 [] rfl 5 rfl rfl (Ow.weak hL22.env.size h34) (me 0 rfl) (Cells.flat _)) (hL1492.hFl hp1493 (sels [] rfl)) (hL1492.into hp1493 _) r1494 hv1495) ?_
     rintro _ w1496 ⟨rfl, hM1497⟩
     have hL1498 := hL1492.call hp1493 hM1497
     refine ⟨_, _, _, rfl, hL1498, ?_⟩
     refine wl_v 17 rfl (v_not rfl) (gy 48 rfl rfl) rfl <| wl_v 18 rfl (v_pick (b := false) rfl rfl) gn rfl <| w_end 19 rfl ?_
     exact g_go [0, 1] (j1 (!r1494) h hk66 hk72) ⟨rfl, rfl, trivial⟩ (.cons_cons _ (.cons_cons _ (.cons_cons _ (.cons _ (.cons _ (.cons _ (.cons _ (.slnil)))))))) rfl
    ·have h := if_neg' hp1490 h
     refine w_bool 48 rfl ((neib hp1490)) <| wl_pass 14 rfl (ps 48 rfl rfl rfl) <| wl_pass 15 rfl (ps 48 rfl rfl rfl) <| wl_pass 16 rfl (ps 48 rfl rfl rfl) <| wl_pass 17 rfl (ps 48 rfl rfl rfl) <| wl_v 18 rfl (v_pick (b := true) rfl rfl) gn rfl <| w_end 19 rfl ?_
     exact g_go [0, 1] (j1 true h hk66 hk72) ⟨rfl, rfl, trivial⟩ (.cons_cons _ (.cons_cons _ (.cons_cons _ (.cons _ (.cons _ (.cons _ (.cons _ (.slnil)))))))) rfl
   ·have h := if_neg' hp1489 h
    refine w_bool 43 rfl ((nt (seq_f hp1489))) <| wl_pass 9 rfl (ps 43 rfl rfl rfl) <| wl_pass 10 rfl (ps 43 rfl rfl rfl) <| wl_pass 11 rfl (ps 43 rfl rfl rfl) <| wl_v 12 rfl (v_pick (b := true) rfl rfl) gn rfl <| wl_v 13 rfl (v_move rfl) gn rfl <| wl_pass 14 rfl (ps 48 rfl rfl rfl) <| wl_pass 15 rfl (ps 48 rfl rfl rfl) <| wl_pass 16 rfl (ps 48 rfl rfl rfl) <| wl_pass 17 rfl (ps 48 rfl rfl rfl) <| wl_v 18 rfl (v_pick (b := true) rfl rfl) gn rfl <| w_end 19 rfl ?_
    exact g_go [0, 1] (j1 true h hk66 hk72) ⟨rfl, rfl, trivial⟩ (.cons_cons _ (.cons_cons _ (.cons_cons _ (.cons _ (.cons _ (.cons _ (.cons _ (.slnil)))))))) rfl
end Go.Proofs.YtjookebbmfiidaaDoor.K
