/- What the machine's calls do, function by function, printed by my own tool. Condition of each: its relation holds of the answer, and what is handed in lies in memory as told. -/
import Derived.Test.YtjookebbmfiidaaDoorK0
set_option linter.unusedVariables false
set_option maxRecDepth 100000
set_option maxHeartbeats 4000000
namespace Go.Proofs.YtjookebbmfiidaaDoor.K
open Go.Proofs.YtjookebbmfiidaaDoor.B Go.Proofs.YtjookebbmfiidaaDoor.R Go.RowKit
noncomputable abbrev q10c6 := Code.snd (Code.snd (Code.snd (bodyOf Tryd.f10)))
noncomputable abbrev q10c10 := Code.fst (Code.fst (Code.snd (Code.fst (Code.snd (Code.snd (bodyOf Tryd.f10))))))
noncomputable abbrev q10c18 := Code.snd (Code.snd q10c10)
noncomputable abbrev q10c21 := Code.snd (Code.fst (Code.fst (Code.snd q10c10)))
noncomputable abbrev q10c23 := Code.fst (Code.fst (Code.fst (Code.fst (Code.fst (Code.snd q10c10)))))
abbrev trellisref20_Beyond_R (w : World) (F : Nat → Prop) (r : Bool) : Ending → World → Prop := fun e w' => e = .returned (.bool r) ∧ B.Loc w w' [] [St w []]
noncomputable abbrev trellisref20_Beyond_C (w : World) (F : Nat → Prop) (r : Bool) : Cx := ⟨Tryd.prog, 10, Tryd.f10, 54, trellisref20_Beyond_R w F  r, w⟩
theorem trellisref20_Beyond_calls (w : World) (F : Nat → Prop) (x1 : List api_PatNode) (A2 : Option Addr) (n3 : Nat) (c4 : Nat) (h5 : Rw k_api_PatNode w (St w []).av A2 n3 c4 x1) (hF : ∀ b, F b → b < w.heap.size ∧ ∀ o ∈ ([] : List (List Nat)), b ∉ o) (hL0 : B.Loc w w [] [Sm w.heap.size F w [], St w []]) (r : Bool) (h : trellisref20_Beyond x1 r) : Calls Tryd.prog 10 #[.slice A2 n3 c4] w (trellisref20_Beyond_R w F  r) := by
 unfold trellisref20_Beyond at h
 refine calls_of_Loc (vs := [.slice A2 n3 c4]) 54 Tryd.func10 rfl Tryd.ntmps10 rfl hL0 ?_
 show G (trellisref20_Beyond_C w F r) _ _ _ _
 refine g_seq rfl <| g_region rfl rfl <| wl_v 0 rfl (v_assign rfl) gn rfl <| w_end 1 rfl <| g_seq rfl <| g_region rfl rfl <| wl_v 0 rfl (v_assign rfl) gn rfl <| w_end 1 rfl <| g_seq rfl <| g_seq rfl <| g_region rfl rfl <| wl_v 0 rfl (v_assign rfl) gn rfl ?_
 refine w_end 1 rfl <| g_block rfl <| g_loop rfl ?_
 have key1 : ∀ s, Rounds (fun (s : (List Int) × Int) o => trellisref20_Beyond_b1 x1 s.1 s.2 o) s r → (fun (s : (List Int) × Int) => ∀ (A36 : Option Addr) (n37 : Nat) (c38 : Nat) (h39 : Ow w.heap.size A36 n37 c38 s.1), G (trellisref20_Beyond_C w F r) [.code q10c10, .inLoop q10c10, .inBlock 0, .code q10c6] [(0, .slice A2 n3 c4), (3, .slice A36 n37 c38), (4, .int .i64 s.2)] [.own (.slice A36 n37 c38) 3 1 n37 (s.1.flatMap (eI .i64))] [Sm w.heap.size F w [], St w []]) s := by
  intro s hs
  refine Rounds.ind (mot := (fun (s : (List Int) × Int) => ∀ (A36 : Option Addr) (n37 : Nat) (c38 : Nat) (h39 : Ow w.heap.size A36 n37 c38 s.1), G (trellisref20_Beyond_C w F r) [.code q10c10, .inLoop q10c10, .inBlock 0, .code q10c6] [(0, .slice A2 n3 c4), (3, .slice A36 n37 c38), (4, .int .i64 s.2)] [.own (.slice A36 n37 c38) 3 1 n37 (s.1.flatMap (eI .i64))] [Sm w.heap.size F w [], St w []])) ?_ hs
  clear hs s
  intro s o1 h hO1
  obtain ⟨x35, x40⟩ := s
  show ∀ (A36 : Option Addr) (n37 : Nat) (c38 : Nat) (h39 : Ow w.heap.size A36 n37 c38 x35), G (trellisref20_Beyond_C w F r) [.code q10c10, .inLoop q10c10, .inBlock 0, .code q10c6] [(0, .slice A2 n3 c4), (3, .slice A36 n37 c38), (4, .int .i64 x40)] [.own (.slice A36 n37 c38) 3 1 n37 (x35.flatMap (eI .i64))] [Sm w.heap.size F w [], St w []]
  intro A36 n37 c38 h39
  have h : trellisref20_Beyond_b1 x1 x35 x40 o1 := h
  unfold trellisref20_Beyond_b1 at h
  refine g_seq rfl <| g_seq rfl <| g_region rfl rfl <| wl_v 0 rfl (v_move rfl) gn rfl <| wl_v 1 rfl (v_move rfl) gn rfl <| wl_v 2 rfl (v_lenQ un_22 rfl h5.hq) gn rfl <| wl_v 3 rfl (v_bin rfl rfl rfl) gn rfl <| w_end 4 rfl ?_
  by_cases hp166 : x40 < (x1.length : Int)
  ·have h := if_pos' hp166 h
   refine g_true rfl _ rfl ((decide_eq_true hp166)) <| g_skip rfl <| g_seq rfl <| g_block rfl <| g_seq rfl <| g_block rfl <| g_loop rfl ?_
   have key2 : ∀ s, Rounds (fun (s : (List Int)) o => trellisref20_Beyond_b2 x40 x1 s o) s o1 → (fun (s : (List Int)) => ∀ (A208 : Option Addr) (n209 : Nat) (c210 : Nat) (h211 : Ow w.heap.size A208 n209 c210 s), G (trellisref20_Beyond_C w F r) [.code q10c23, .inLoop q10c23, .inBlock 2, .code q10c21, .inBlock 1, .code q10c18, .inLoop q10c10, .inBlock 0, .code q10c6] [(0, .slice A2 n3 c4), (3, .slice A208 n209 c210), (4, .int .i64 x40)] [.own (.slice A208 n209 c210) 3 1 n209 (s.flatMap (eI .i64))] [Sm w.heap.size F w [], St w []]) s := by
    intro s hs
    refine Rounds.ind (mot := (fun (s : (List Int)) => ∀ (A208 : Option Addr) (n209 : Nat) (c210 : Nat) (h211 : Ow w.heap.size A208 n209 c210 s), G (trellisref20_Beyond_C w F r) [.code q10c23, .inLoop q10c23, .inBlock 2, .code q10c21, .inBlock 1, .code q10c18, .inLoop q10c10, .inBlock 0, .code q10c6] [(0, .slice A2 n3 c4), (3, .slice A208 n209 c210), (4, .int .i64 x40)] [.own (.slice A208 n209 c210) 3 1 n209 (s.flatMap (eI .i64))] [Sm w.heap.size F w [], St w []])) ?_ hs
    clear hs s
    intro x207 o2 h hO2
    show ∀ (A208 : Option Addr) (n209 : Nat) (c210 : Nat) (h211 : Ow w.heap.size A208 n209 c210 x207), G (trellisref20_Beyond_C w F r) [.code q10c23, .inLoop q10c23, .inBlock 2, .code q10c21, .inBlock 1, .code q10c18, .inLoop q10c10, .inBlock 0, .code q10c6] [(0, .slice A2 n3 c4), (3, .slice A208 n209 c210), (4, .int .i64 x40)] [.own (.slice A208 n209 c210) 3 1 n209 (x207.flatMap (eI .i64))] [Sm w.heap.size F w [], St w []]
    intro A208 n209 c210 h211
    have h : trellisref20_Beyond_b2 x40 x1 x207 o2 := h
    unfold trellisref20_Beyond_b2 at h
    refine g_seq rfl <| g_seq rfl <| g_region rfl rfl <| wl_v 0 rfl (v_move rfl) gn rfl <| wl_v 1 rfl (v_lenQ un_36 rfl h211.hq) gn rfl <| wl_v 2 rfl (v_bin rfl rfl rfl) gn rfl <| wl_v 3 rfl (v_move rfl) gn rfl ?_
    by_cases hp251 : (x207.length : Int) > 0
    ·have h := if_pos' hp251 h
     refine w_bool 14 rfl ((decide_eq_true hp251)) <| wl_v 4 rfl (v_move rfl) (gy 14 rfl rfl) rfl <| wl_v 5 rfl (v_move rfl) (gy 14 rfl rfl) rfl <| wl_v 6 rfl (v_lenQ un_36 rfl h211.hq) (gy 14 rfl rfl) rfl <| wl_v 7 rfl (v_bin rfl rfl rfl) (gy 14 rfl rfl) rfl ?_
     obtain ⟨hb252, h⟩ := h
     refine wl_v 8 rfl (v_idxO slE_36 rfl rfl h211 hb252) (gy 14 rfl rfl) rfl <| wl_v 9 rfl (v_ldO1 (.int .i64 (ix x207 (w64 ((x207.length : Int) - 1)))) 0 ld_3 rfl rfl (fm_get0 (hlI .i64) hb252 rfl)) (gy 14 rfl rfl) rfl <| wl_v 10 rfl (v_bin rfl rfl rfl) (gy 14 rfl rfl) rfl <| wl_v 11 rfl (v_pick (b := true) rfl rfl) gn rfl <| w_end 12 rfl ?_
     by_cases hp253 : ix x207 (w64 ((x207.length : Int) - 1)) ≤ 0
     ·have h := if_pos' hp253 h
      refine g_true rfl _ rfl ((decide_eq_true hp253)) <| g_skip rfl <| g_block rfl <| g_region rfl rfl <| wl_v 0 rfl (v_move rfl) gn rfl <| wl_v 1 rfl (v_move rfl) gn rfl <| wl_v 2 rfl (v_lenQ un_36 rfl h211.hq) gn rfl <| wl_v 3 rfl (v_bin rfl rfl rfl) gn rfl ?_
      obtain ⟨hb254, h⟩ := h
      obtain ⟨x256, hv257, h⟩ := h
      have hle255 : (w64 ((x207.length : Int) - 1) : Int).toNat ≤ n209 := by have q := hb254; have q1 := h211.hq; omega
      have h258 : Ow w.heap.size A208 (w64 ((x207.length : Int) - 1) : Int).toNat c210 x256 := Ow.w (Ow.cut h211 hle255) (by rw [hv257])
      refine wl_v 4 rfl (v_cutHi (i := w64 ((x207.length : Int) - 1)) slE_36 rfl rfl (by have q := hb254; have q1 := h211.hq; have q2 := h211.hn; omega) h211.hn rfl) gn rfl <| wl_v 5 rfl (v_assign rfl) gn rfl <| w_end 6 rfl <| g_inBlock <| g_inLoop ?_
      have h259 : Ow w.heap.size A208 ((w64 ((x207.length : Int) - 1) : Int).toNat) c210 x256 := (Ow.w (Ow.cut h211 hle255) (by rw [hv257]))
      refine g_short (j := 0) (m := ((w64 ((x207.length : Int) - 1) : Int).toNat)) (cells' := x256.flatMap (eI .i64)) rfl hle255 (by rw [fm_take (hlI .i64), hv257]) ?_
      have ih := Out.inl hO2 h
      exact g_go [0, 1] (ih A208 ((w64 ((x207.length : Int) - 1) : Int).toNat) c210 h259) ⟨rfl, rfl, rfl, trivial⟩ (.cons_cons _ (.slnil)) rfl
     ·have h := if_neg' hp253 h
      refine g_false rfl _ rfl ((decide_eq_false hp253)) <| g_exit [.code q10c21, .inBlock 1, .code q10c18, .inLoop q10c10, .inBlock 0, .code q10c6] rfl rfl <| g_seq rfl <| g_seq rfl <| g_region rfl rfl <| wl_v 0 rfl (v_move rfl) gn rfl <| wl_v 1 rfl (v_lenQ un_36 rfl h211.hq) gn rfl <| wl_v 2 rfl (v_bin rfl rfl rfl) gn rfl <| w_end 3 rfl <| g_true rfl _ rfl ((decide_eq_true hp251)) <| g_region rfl rfl <| wl_v 0 rfl (v_move rfl) gn rfl ?_
      refine wl_v 1 rfl (v_move rfl) gn rfl <| wl_v 2 rfl (v_lenQ un_36 rfl h211.hq) gn rfl <| wl_v 3 rfl (v_bin rfl rfl rfl) gn rfl <| wl_v 4 rfl (v_move rfl) gn rfl <| wl_v 5 rfl (v_move rfl) gn rfl <| wl_v 6 rfl (v_lenQ un_36 rfl h211.hq) gn rfl <| wl_v 7 rfl (v_bin rfl rfl rfl) gn rfl <| wl_v 8 rfl (v_idxO slE_36 rfl rfl h211 hb252) gn rfl <| wl_v 9 rfl (v_ldO1 (.int .i64 (ix x207 (w64 ((x207.length : Int) - 1)))) 0 ld_3 rfl rfl (fm_get0 (hlI .i64) hb252 rfl)) gn rfl <| wl_v 10 rfl (v_bin rfl rfl rfl) gn rfl <| wl_v 11 rfl (v_idxO slE_36 rfl rfl h211 hb252) gn rfl ?_
      obtain ⟨x260, hv261, h⟩ := h
      refine wl_s 12 rfl (s_stF (enc := (eI .i64)) (o := 0) (z := (w64 ((ix x207 (w64 ((x207.length : Int) - 1))) - 1))) (vs := [.int .i64 (w64 ((ix x207 (w64 ((x207.length : Int) - 1))) - 1))]) (i := (w64 ((x207.length : Int) - 1))) 0 (hlI .i64) sz_3 rfl rfl rfl rfl rfl h211 hb252 rfl rfl rfl hv261 fun h262 => ?_) gn
      refine w_end 13 rfl <| g_seq rfl <| g_region rfl rfl <| wl_v 0 rfl (v_move rfl) gn rfl <| wl_v 1 rfl (v_move rfl) gn rfl <| wl_v 2 rfl (v_move rfl) gn rfl ?_
      obtain ⟨hb263, h⟩ := h
      have hr264 := Rw.readF (s := St w []) (hl := hl_api_PatNode) (h1 := h1_api_PatNode) h5 hb263
      refine wl_v 3 rfl (v_idxR (s := St w []) slE_22 rfl rfl h5 hb263) gn rfl <| wl_v 4 rfl (v_fldA fo_45_4 rfl) gn rfl <| wl_v 5 rfl (v_ldA1 (kk := (x40 : Int).toNat * 5) (j := 4) (St w []) ld_3 rfl hr264 rfl (me 1 rfl)) gn rfl ?_
      refine wl_s 6 rfl (s_litO (xs := ([(ix x1 x40).kids] : List Int)) [.int .i64 ((ix x1 x40).kids)] bs_36_1 rfl (by kernel_rfl) rfl rfl rfl rfl fun gb266 h267 => ?_) gn
      obtain ⟨x275, hv276, h⟩ := h
      obtain ⟨hb277, h⟩ := h
      refine w_deep0 ?_
      refine wl_s 7 rfl (s_appE (zs := x275) (cells' := x275.flatMap (eI .i64)) 2 0 rfl ap_36 rfl rfl rfl rfl Eld.self h262 (Nat.le_refl _) (Src.ownF (hl := (hlI .i64)) (h1 := (hone_int .i64)) 1 rfl h267) (by rw [hv276, List.flatMap_append] <;> rfl) (app_len hv276 h267.hq) hb277 rfl rfl fun A268 c269 bs272 p273 h270 hE274 => ?_) gn
      refine wl_v 8 rfl (v_assign rfl) gn rfl <| w_end 9 rfl <| g_seq rfl <| g_region rfl rfl <| wl_v 0 rfl (v_move rfl) gn rfl <| wl_v 1 rfl (v_lenQ un_36 rfl h270.hq) gn rfl <| wl_v 2 rfl (v_bin rfl rfl rfl) gn rfl <| w_end 3 rfl ?_
      by_cases hp278 : (x275.length : Int) > 65536
      ·have h := if_pos' hp278 h
       refine g_true rfl _ rfl ((decide_eq_true hp278)) <| g_seq rfl <| g_region rfl rfl <| wl_v 0 rfl (v_assign rfl) gn rfl <| w_end 1 rfl ?_
       have h := Out.inr hO2 h
       have h := Out.inr hO1 h
       refine g_retR [.bool true] rfl Tryd.func10 rfl (.tmp rfl (.nil)) fun wr hLr => ?_
       have hMr := hLr.pk0 (.c 1 rfl .n)
       show trellisref20_Beyond_R w F  r (.returned (packV [.bool true])) wr
       rw [h]
       exact ⟨rfl, hMr⟩
      ·have h := if_neg' hp278 h
       refine g_false rfl _ rfl ((decide_eq_false hp278)) <| g_skip rfl <| g_inBlock <| g_region rfl rfl <| wl_v 0 rfl (v_move rfl) gn rfl <| wl_v 1 rfl (v_bin rfl rfl rfl) gn rfl <| wl_v 2 rfl (v_assign rfl) gn rfl <| w_end 3 rfl <| g_inLoop ?_
       have h := Out.inr hO2 h
       have ih := Out.inl hO1 h
       exact g_go [0, 1] (ih A268 (n209 + 1) c269 h270) ⟨rfl, rfl, rfl, trivial⟩ (.cons _ (.cons _ (.cons_cons _ (.slnil)))) rfl
    ·have h := if_neg' hp251 h
     refine w_bool 14 rfl ((decide_eq_false hp251)) <| wl_pass 4 rfl (ps 14 rfl rfl rfl) <| wl_pass 5 rfl (ps 14 rfl rfl rfl) <| wl_pass 6 rfl (ps 14 rfl rfl rfl) <| wl_pass 7 rfl (ps 14 rfl rfl rfl) <| wl_pass 8 rfl (ps 14 rfl rfl rfl) <| wl_pass 9 rfl (ps 14 rfl rfl rfl) <| wl_pass 10 rfl (ps 14 rfl rfl rfl) <| wl_v 11 rfl (v_pick (b := false) rfl rfl) gn rfl <| w_end 12 rfl <| g_false rfl _ rfl (rfl) <| g_exit [.code q10c21, .inBlock 1, .code q10c18, .inLoop q10c10, .inBlock 0, .code q10c6] rfl rfl ?_
     refine g_seq rfl <| g_seq rfl <| g_region rfl rfl <| wl_v 0 rfl (v_move rfl) gn rfl <| wl_v 1 rfl (v_lenQ un_36 rfl h211.hq) gn rfl <| wl_v 2 rfl (v_bin rfl rfl rfl) gn rfl <| w_end 3 rfl <| g_false rfl _ rfl ((decide_eq_false hp251)) <| g_skip rfl <| g_seq rfl <| g_region rfl rfl <| wl_v 0 rfl (v_move rfl) gn rfl ?_
     refine wl_v 1 rfl (v_move rfl) gn rfl <| wl_v 2 rfl (v_move rfl) gn rfl ?_
     obtain ⟨hb279, h⟩ := h
     have hr280 := Rw.readF (s := St w []) (hl := hl_api_PatNode) (h1 := h1_api_PatNode) h5 hb279
     refine wl_v 3 rfl (v_idxR (s := St w []) slE_22 rfl rfl h5 hb279) gn rfl <| wl_v 4 rfl (v_fldA fo_45_4 rfl) gn rfl <| wl_v 5 rfl (v_ldA1 (kk := (x40 : Int).toNat * 5) (j := 4) (St w []) ld_3 rfl hr280 rfl (me 1 rfl)) gn rfl ?_
     refine wl_s 6 rfl (s_litO (xs := ([(ix x1 x40).kids] : List Int)) [.int .i64 ((ix x1 x40).kids)] bs_36_1 rfl (by kernel_rfl) rfl rfl rfl rfl fun gb282 h283 => ?_) gn
     obtain ⟨x287, hv288, h⟩ := h
     obtain ⟨hb289, h⟩ := h
     refine wl_s 7 rfl (s_app (zs := x287) (cells' := x287.flatMap (eI .i64)) 1 ap_36 rfl rfl rfl h211 (Nat.le_refl _) (Src.ownF (hl := (hlI .i64)) (h1 := (hone_int .i64)) 0 rfl h283) (by rw [hv288, List.flatMap_append] <;> rfl) (app_len hv288 h283.hq) hb289 rfl rfl fun A284 c285 h286 => ?_) gn
     refine wl_v 8 rfl (v_assign rfl) gn rfl <| w_end 9 rfl <| g_seq rfl <| g_region rfl rfl <| wl_v 0 rfl (v_move rfl) gn rfl <| wl_v 1 rfl (v_lenQ un_36 rfl h286.hq) gn rfl <| wl_v 2 rfl (v_bin rfl rfl rfl) gn rfl <| w_end 3 rfl ?_
     by_cases hp290 : (x287.length : Int) > 65536
     ·have h := if_pos' hp290 h
      refine g_true rfl _ rfl ((decide_eq_true hp290)) <| g_seq rfl <| g_region rfl rfl <| wl_v 0 rfl (v_assign rfl) gn rfl <| w_end 1 rfl ?_
      have h := Out.inr hO2 h
      have h := Out.inr hO1 h
      refine g_retR [.bool true] rfl Tryd.func10 rfl (.tmp rfl (.nil)) fun wr hLr => ?_
      have hMr := hLr.pk0 (.c 1 rfl .n)
      show trellisref20_Beyond_R w F  r (.returned (packV [.bool true])) wr
      rw [h]
      exact ⟨rfl, hMr⟩
     ·have h := if_neg' hp290 h
      refine g_false rfl _ rfl ((decide_eq_false hp290)) <| g_skip rfl <| g_inBlock <| g_region rfl rfl <| wl_v 0 rfl (v_move rfl) gn rfl <| wl_v 1 rfl (v_bin rfl rfl rfl) gn rfl <| wl_v 2 rfl (v_assign rfl) gn rfl <| w_end 3 rfl <| g_inLoop ?_
      have h := Out.inr hO2 h
      have ih := Out.inl hO1 h
      exact g_go [0, 1] (ih A284 (n209 + 1) c285 h286) ⟨rfl, rfl, rfl, trivial⟩ (.cons _ (.cons_cons _ (.slnil))) rfl
   exact g_go [0, 1] (key2 _ h A36 n37 c38 h39) ⟨rfl, rfl, rfl, trivial⟩ (.cons_cons _ (.slnil)) rfl
  ·have h := if_neg' hp166 h
   refine g_false rfl _ rfl ((decide_eq_false hp166)) <| g_exit [.code q10c6] rfl rfl <| g_seq rfl <| g_region rfl rfl <| wl_v 0 rfl (v_assign rfl) gn rfl <| w_end 1 rfl ?_
   have h := Out.inr hO1 h
   refine g_retR [.bool false] rfl Tryd.func10 rfl (.tmp rfl (.nil)) fun wr hLr => ?_
   have hMr := hLr.pk0 (.c 1 rfl .n)
   show trellisref20_Beyond_R w F  r (.returned (packV [.bool false])) wr
   rw [h]
   exact ⟨rfl, hMr⟩
 refine g_nil 3 1 ?_
 exact g_go [0, 1] (key1 _ h none 0 0 (Ow.nil (z := w.heap.size))) ⟨rfl, rfl, rfl, trivial⟩ (.cons_cons _ (.slnil)) rfl
noncomputable abbrev q12c6 := Code.snd (Code.snd (Code.snd (bodyOf Tryd.f12)))
noncomputable abbrev q12c10 := Code.fst (Code.fst (Code.snd (Code.fst (Code.snd (Code.snd (bodyOf Tryd.f12))))))
noncomputable abbrev q12c19 := Code.fst (Code.fst (Code.snd q12c10))
noncomputable abbrev q12c21 := Code.snd q12c6
noncomputable abbrev q12c25 := Code.fst (Code.fst (Code.snd (Code.fst q12c6)))
noncomputable abbrev q12c34 := Code.fst (Code.fst (Code.snd q12c25))
abbrev trellislaw20_twin_R (w : World) (F : Nat → Prop) (r : api_Query) : Ending → World → Prop := fun e w' => ∃ A0 : Option Addr, ∃ n0 : Nat, ∃ c0 : Nat, ∃ A1 : Option Addr, ∃ n1 : Nat, ∃ c1 : Nat, e = .returned (.agg #[.slice A0 n0 c0, .slice A1 n1 c1]) ∧ B.Loc w w' [.own (.slice A0 n0 c0) 45 5 n0 (r.nodes.flatMap enc_api_PatNode), .own (.slice A1 n1 c1) 47 4 n1 (r.conds.flatMap enc_api_Cond)] [St w []] ∧ Ow w.heap.size A0 n0 c0 r.nodes ∧ Ow w.heap.size A1 n1 c1 r.conds
noncomputable abbrev trellislaw20_twin_C (w : World) (F : Nat → Prop) (r : api_Query) : Cx := ⟨Tryd.prog, 12, Tryd.f12, 41, trellislaw20_twin_R w F  r, w⟩
theorem trellislaw20_twin_calls (w : World) (F : Nat → Prop) (x1 : api_Query) (A2 : Option Addr) (n3 : Nat) (c4 : Nat) (A6 : Option Addr) (n7 : Nat) (c8 : Nat) (h5 : Rw k_api_PatNode w (St w []).av A2 n3 c4 x1.nodes) (h9 : Rw k_api_Cond w (St w []).av A6 n7 c8 x1.conds) (hF : ∀ b, F b → b < w.heap.size ∧ ∀ o ∈ ([] : List (List Nat)), b ∉ o) (hL0 : B.Loc w w [] [Sm w.heap.size F w [], St w []]) (r : api_Query) (h : trellislaw20_twin x1 r) : Calls Tryd.prog 12 #[.agg #[.slice A2 n3 c4, .slice A6 n7 c8]] w (trellislaw20_twin_R w F  r) := by
 unfold trellislaw20_twin at h
 refine calls_of_Loc (vs := [.agg #[.slice A2 n3 c4, .slice A6 n7 c8]]) 41 Tryd.func12 rfl Tryd.ntmps12 rfl hL0 ?_
 show G (trellislaw20_twin_C w F r) _ _ _ _
 refine g_seq rfl <| g_region rfl rfl ?_
 refine wl_s 0 rfl (s_box [.slice A2 n3 c4, .slice A6 n7 c8] rfl rfl rfl fun gb10 => ?_) gn
 refine wl_s 1 rfl (s_alloc [.slice none 0 0, .slice none 0 0] zr_25 rfl fun gb12 => ?_) gn
 refine w_end 2 rfl <| g_seq rfl <| g_region rfl rfl ?_
 refine wl_s 0 rfl (s_alloc [.slice none 0 0, .slice none 0 0] zr_25 rfl fun gb14 => ?_) gn
 refine w_end 1 rfl <| g_seq rfl <| g_seq rfl <| g_region rfl rfl <| wl_v 0 rfl (v_assign rfl) gn rfl <| w_end 1 rfl <| g_block rfl <| g_loop rfl ?_
 have key1 : ∀ s, Rounds (fun (s : Int × (List api_PatNode)) o => trellislaw20_twin_b1 x1 s.1 s.2 o) s r → (fun (s : Int × (List api_PatNode)) => ∀ (A150 : Option Addr) (n151 : Nat) (c152 : Nat) (h153 : Ow w.heap.size A150 n151 c152 s.2), G (trellislaw20_twin_C w F r) [.code q12c10, .inLoop q12c10, .inBlock 0, .code q12c6] [(1, .pointer (some ⟨gb10, 0, none⟩)), (2, .pointer (some ⟨gb12, 0, none⟩)), (3, .pointer (some ⟨gb14, 0, none⟩)), (4, .int .i64 s.1)] [.own (.slice A150 n151 c152) 45 5 n151 (s.2.flatMap enc_api_PatNode), .box gb14 25 [.slice A150 n151 c152, .slice none 0 0], .box gb12 25 [.slice none 0 0, .slice none 0 0], .box gb10 25 [.slice A2 n3 c4, .slice A6 n7 c8]] [Sm w.heap.size F w [], St w []]) s := by
  intro s hs
  refine Rounds.ind (mot := (fun (s : Int × (List api_PatNode)) => ∀ (A150 : Option Addr) (n151 : Nat) (c152 : Nat) (h153 : Ow w.heap.size A150 n151 c152 s.2), G (trellislaw20_twin_C w F r) [.code q12c10, .inLoop q12c10, .inBlock 0, .code q12c6] [(1, .pointer (some ⟨gb10, 0, none⟩)), (2, .pointer (some ⟨gb12, 0, none⟩)), (3, .pointer (some ⟨gb14, 0, none⟩)), (4, .int .i64 s.1)] [.own (.slice A150 n151 c152) 45 5 n151 (s.2.flatMap enc_api_PatNode), .box gb14 25 [.slice A150 n151 c152, .slice none 0 0], .box gb12 25 [.slice none 0 0, .slice none 0 0], .box gb10 25 [.slice A2 n3 c4, .slice A6 n7 c8]] [Sm w.heap.size F w [], St w []])) ?_ hs
  clear hs s
  intro s o1 h hO1
  obtain ⟨x148, x149⟩ := s
  show ∀ (A150 : Option Addr) (n151 : Nat) (c152 : Nat) (h153 : Ow w.heap.size A150 n151 c152 x149), G (trellislaw20_twin_C w F r) [.code q12c10, .inLoop q12c10, .inBlock 0, .code q12c6] [(1, .pointer (some ⟨gb10, 0, none⟩)), (2, .pointer (some ⟨gb12, 0, none⟩)), (3, .pointer (some ⟨gb14, 0, none⟩)), (4, .int .i64 x148)] [.own (.slice A150 n151 c152) 45 5 n151 (x149.flatMap enc_api_PatNode), .box gb14 25 [.slice A150 n151 c152, .slice none 0 0], .box gb12 25 [.slice none 0 0, .slice none 0 0], .box gb10 25 [.slice A2 n3 c4, .slice A6 n7 c8]] [Sm w.heap.size F w [], St w []]
  intro A150 n151 c152 h153
  have h : trellislaw20_twin_b1 x1 x148 x149 o1 := h
  unfold trellislaw20_twin_b1 at h
  refine g_seq rfl <| g_seq rfl <| g_region rfl rfl <| wl_v 0 rfl (v_move rfl) gn rfl <| wl_v 1 rfl (v_fldB fo_25_0 rfl) gn rfl <| wl_v 2 rfl (v_ldB1 3 ld_22 rfl rfl rfl) gn rfl <| wl_v 3 rfl (v_lenQ un_22 rfl h5.hq) gn rfl <| wl_v 4 rfl (v_bin rfl rfl rfl) gn rfl <| w_end 5 rfl ?_
  by_cases hp279 : x148 < (x1.nodes.length : Int)
  ·have h := if_pos' hp279 h
   refine g_true rfl _ rfl ((decide_eq_true hp279)) <| g_skip rfl <| g_seq rfl <| g_block rfl ?_
   obtain ⟨hb280, h⟩ := h
   obtain ⟨x288, hv289, h⟩ := h
   obtain ⟨hb290, h⟩ := h
   have hns : Region.noSelect (Code.ops q12c19) = true := by kernel_rfl
   refine g_drawG [8, 9, 10] 11 rfl rfl mix rfl (.c 0 rfl (.c 1 rfl .n)) <| wfv 0 rfl (v_fldB fo_25_0 rfl) gn hns (by kernel_rfl) <| wfv 1 rfl (v_ldB1 1 ld_22 rfl rfl rfl) gn hns (by kernel_rfl) <| wfv 2 rfl (v_fldB fo_25_0 rfl) gn hns (by kernel_rfl) <| wfv 3 rfl (v_ldB1 3 ld_22 rfl rfl rfl) gn hns (by kernel_rfl) <| wfv 4 rfl (v_move rfl) gn hns (by kernel_rfl) ?_
   have hr299 := Rw.readF (s := St w []) (hl := hl_api_PatNode) (h1 := h1_api_PatNode) h5 hb280
   refine wfv 5 rfl (v_idxR (s := St w []) slE_22 rfl rfl h5 hb280) gn hns (by kernel_rfl) <| wfv 6 rfl (v_ldA (St w []) ld_45 rfl hr299 rfl (me 1 rfl)) gn hns (by kernel_rfl) ?_
   refine wf_all [7] (by kernel_rfl) rfl ⟨on_s 7 rfl gn rfl (s_litO (xs := ([ix x1.nodes x148] : List api_PatNode)) [.string ((ix x1.nodes x148).name), .bool ((ix x1.nodes x148).lit), .string ((ix x1.nodes x148).field), .string ((ix x1.nodes x148).capture), .int .i64 ((ix x1.nodes x148).kids)] bs_22_1 rfl (by kernel_rfl) rfl rfl rfl rfl fun gb302 h303 => ?_), trivial⟩
   refine ⟨sels [1, 2, 3, 4] rfl, sels [0, 1] rfl, ?_⟩
   refine wf_all [8] (by kernel_rfl) rfl ⟨on_l 8 rfl gn rfl (s_app (zs := x288) (cells' := x288.flatMap enc_api_PatNode) 1 ap_22 rfl rfl rfl h153 (Nat.le_refl _) (Src.ownF (hl := hl_api_PatNode) (h1 := h1_api_PatNode) 0 rfl h303) (by rw [hv289, List.flatMap_append] <;> rfl) (app_len hv289 h303.hq) hb290 rfl rfl fun A304 c305 h306 => ?_), trivial⟩
   unfold NxL
   refine wf_all [9] (by kernel_rfl) rfl ⟨on_l 9 rfl gn rfl (s_val (v_fldB fo_25_0 rfl) rfl ?_), trivial⟩
   unfold NxL
   refine wf_all [10] (by kernel_rfl) rfl ⟨on_l 10 rfl gn rfl (s_stB (vs := [.slice A304 (n151 + 1) c305]) (cs' := [.slice A304 (n151 + 1) c305, .slice none 0 0]) (M' := [.own (.slice (some ⟨gb302, 0, none⟩) 1 1) 45 5 1 (([ix x1.nodes x148] : List api_PatNode).flatMap enc_api_PatNode), .own (.slice A304 (n151 + 1) c305) 45 5 (n151 + 1) (x288.flatMap enc_api_PatNode), .box gb14 25 [.slice A304 (n151 + 1) c305, .slice none 0 0], .box gb12 25 [.slice none 0 0, .slice none 0 0], .box gb10 25 [.slice A2 n3 c4, .slice A6 n7 c8]]) 2 sz_22 rfl rfl rfl rfl rfl rfl rfl rfl rfl ?_), trivial⟩
   unfold NxL
   refine wf_end (by kernel_rfl) <| g_inBlock <| g_region rfl rfl <| wl_v 0 rfl (v_move rfl) gn rfl <| wl_v 1 rfl (v_bin rfl rfl rfl) gn rfl <| wl_v 2 rfl (v_assign rfl) gn rfl <| w_end 3 rfl <| g_inLoop ?_
   have ih := Out.inl hO1 h
   exact g_go [0, 1] (ih A304 (n151 + 1) c305 h306) ⟨rfl, rfl, rfl, rfl, trivial⟩ (.cons _ (.cons_cons _ (.cons_cons _ (.cons_cons _ (.cons_cons _ (.slnil)))))) rfl
  ·have h := if_neg' hp279 h
   refine g_false rfl _ rfl ((decide_eq_false hp279)) <| g_exit [.code q12c6] rfl rfl <| g_seq rfl <| g_seq rfl <| g_region rfl rfl <| wl_v 0 rfl (v_assign rfl) gn rfl <| w_end 1 rfl <| g_block rfl <| g_loop rfl ?_
   have key2 : ∀ s, Rounds (fun (s : Int × (List api_Cond)) o => trellislaw20_twin_b2 x1 x149 s.1 s.2 o) s o1 → (fun (s : Int × (List api_Cond)) => ∀ (A344 : Option Addr) (n345 : Nat) (c346 : Nat) (h347 : Ow w.heap.size A344 n345 c346 s.2), G (trellislaw20_twin_C w F r) [.code q12c25, .inLoop q12c25, .inBlock 2, .code q12c21] [(1, .pointer (some ⟨gb10, 0, none⟩)), (2, .pointer (some ⟨gb12, 0, none⟩)), (3, .pointer (some ⟨gb14, 0, none⟩)), (5, .int .i64 s.1)] [.own (.slice A344 n345 c346) 47 4 n345 (s.2.flatMap enc_api_Cond), .own (.slice A150 n151 c152) 45 5 n151 (x149.flatMap enc_api_PatNode), .box gb14 25 [.slice A150 n151 c152, .slice A344 n345 c346], .box gb12 25 [.slice none 0 0, .slice none 0 0], .box gb10 25 [.slice A2 n3 c4, .slice A6 n7 c8]] [Sm w.heap.size F w [], St w []]) s := by
    intro s hs
    refine Rounds.ind (mot := (fun (s : Int × (List api_Cond)) => ∀ (A344 : Option Addr) (n345 : Nat) (c346 : Nat) (h347 : Ow w.heap.size A344 n345 c346 s.2), G (trellislaw20_twin_C w F r) [.code q12c25, .inLoop q12c25, .inBlock 2, .code q12c21] [(1, .pointer (some ⟨gb10, 0, none⟩)), (2, .pointer (some ⟨gb12, 0, none⟩)), (3, .pointer (some ⟨gb14, 0, none⟩)), (5, .int .i64 s.1)] [.own (.slice A344 n345 c346) 47 4 n345 (s.2.flatMap enc_api_Cond), .own (.slice A150 n151 c152) 45 5 n151 (x149.flatMap enc_api_PatNode), .box gb14 25 [.slice A150 n151 c152, .slice A344 n345 c346], .box gb12 25 [.slice none 0 0, .slice none 0 0], .box gb10 25 [.slice A2 n3 c4, .slice A6 n7 c8]] [Sm w.heap.size F w [], St w []])) ?_ hs
    clear hs s
    intro s o2 h hO2
    obtain ⟨x342, x343⟩ := s
    show ∀ (A344 : Option Addr) (n345 : Nat) (c346 : Nat) (h347 : Ow w.heap.size A344 n345 c346 x343), G (trellislaw20_twin_C w F r) [.code q12c25, .inLoop q12c25, .inBlock 2, .code q12c21] [(1, .pointer (some ⟨gb10, 0, none⟩)), (2, .pointer (some ⟨gb12, 0, none⟩)), (3, .pointer (some ⟨gb14, 0, none⟩)), (5, .int .i64 x342)] [.own (.slice A344 n345 c346) 47 4 n345 (x343.flatMap enc_api_Cond), .own (.slice A150 n151 c152) 45 5 n151 (x149.flatMap enc_api_PatNode), .box gb14 25 [.slice A150 n151 c152, .slice A344 n345 c346], .box gb12 25 [.slice none 0 0, .slice none 0 0], .box gb10 25 [.slice A2 n3 c4, .slice A6 n7 c8]] [Sm w.heap.size F w [], St w []]
    intro A344 n345 c346 h347
    have h : trellislaw20_twin_b2 x1 x149 x342 x343 o2 := h
    unfold trellislaw20_twin_b2 at h
    refine g_seq rfl <| g_seq rfl <| g_region rfl rfl <| wl_v 0 rfl (v_move rfl) gn rfl <| wl_v 1 rfl (v_fldB fo_25_1 rfl) gn rfl <| wl_v 2 rfl (v_ldB1 4 ld_23 rfl rfl rfl) gn rfl <| wl_v 3 rfl (v_lenQ un_23 rfl h9.hq) gn rfl <| wl_v 4 rfl (v_bin rfl rfl rfl) gn rfl <| w_end 5 rfl ?_
    by_cases hp376 : x342 < (x1.conds.length : Int)
    ·have h := if_pos' hp376 h
     refine g_true rfl _ rfl ((decide_eq_true hp376)) <| g_skip rfl <| g_seq rfl <| g_block rfl ?_
     obtain ⟨hb377, h⟩ := h
     obtain ⟨x385, hv386, h⟩ := h
     obtain ⟨hb387, h⟩ := h
     have hns : Region.noSelect (Code.ops q12c34) = true := by kernel_rfl
     refine g_drawG [8, 9, 10] 11 rfl rfl mix rfl (.c 0 rfl (.c 1 rfl .n)) <| wfv 0 rfl (v_fldB fo_25_1 rfl) gn hns (by kernel_rfl) <| wfv 1 rfl (v_ldB1 2 ld_23 rfl rfl rfl) gn hns (by kernel_rfl) <| wfv 2 rfl (v_fldB fo_25_1 rfl) gn hns (by kernel_rfl) <| wfv 3 rfl (v_ldB1 4 ld_23 rfl rfl rfl) gn hns (by kernel_rfl) <| wfv 4 rfl (v_move rfl) gn hns (by kernel_rfl) ?_
     have hr396 := Rw.readF (s := St w []) (hl := hl_api_Cond) (h1 := h1_api_Cond) h9 hb377
     refine wfv 5 rfl (v_idxR (s := St w []) slE_23 rfl rfl h9 hb377) gn hns (by kernel_rfl) <| wfv 6 rfl (v_ldA (St w []) ld_47 rfl hr396 rfl (me 1 rfl)) gn hns (by kernel_rfl) ?_
     refine wf_all [7] (by kernel_rfl) rfl ⟨on_s 7 rfl gn rfl (s_litO (xs := ([ix x1.conds x342] : List api_Cond)) [.bool ((ix x1.conds x342).not), .string ((ix x1.conds x342).a), .string ((ix x1.conds x342).b), .string ((ix x1.conds x342).text)] bs_23_1 rfl (by kernel_rfl) rfl rfl rfl rfl fun gb399 h400 => ?_), trivial⟩
     refine ⟨sels [1, 2, 3, 4, 5] rfl, sels [0, 1] rfl, ?_⟩
     refine wf_all [8] (by kernel_rfl) rfl ⟨on_l 8 rfl gn rfl (s_app (zs := x385) (cells' := x385.flatMap enc_api_Cond) 1 ap_23 rfl rfl rfl h347 (Nat.le_refl _) (Src.ownF (hl := hl_api_Cond) (h1 := h1_api_Cond) 0 rfl h400) (by rw [hv386, List.flatMap_append] <;> rfl) (app_len hv386 h400.hq) hb387 rfl rfl fun A401 c402 h403 => ?_), trivial⟩
     unfold NxL
     refine wf_all [9] (by kernel_rfl) rfl ⟨on_l 9 rfl gn rfl (s_val (v_fldB fo_25_1 rfl) rfl ?_), trivial⟩
     unfold NxL
     refine wf_all [10] (by kernel_rfl) rfl ⟨on_l 10 rfl gn rfl (s_stB (vs := [.slice A401 (n345 + 1) c402]) (cs' := [.slice A150 n151 c152, .slice A401 (n345 + 1) c402]) (M' := [.own (.slice (some ⟨gb399, 0, none⟩) 1 1) 47 4 1 (([ix x1.conds x342] : List api_Cond).flatMap enc_api_Cond), .own (.slice A401 (n345 + 1) c402) 47 4 (n345 + 1) (x385.flatMap enc_api_Cond), .own (.slice A150 n151 c152) 45 5 n151 (x149.flatMap enc_api_PatNode), .box gb14 25 [.slice A150 n151 c152, .slice A401 (n345 + 1) c402], .box gb12 25 [.slice none 0 0, .slice none 0 0], .box gb10 25 [.slice A2 n3 c4, .slice A6 n7 c8]]) 3 sz_23 rfl rfl rfl rfl rfl rfl rfl rfl rfl ?_), trivial⟩
     unfold NxL
     refine wf_end (by kernel_rfl) <| g_inBlock <| g_region rfl rfl <| wl_v 0 rfl (v_move rfl) gn rfl <| wl_v 1 rfl (v_bin rfl rfl rfl) gn rfl <| wl_v 2 rfl (v_assign rfl) gn rfl <| w_end 3 rfl <| g_inLoop ?_
     have ih := Out.inl hO2 h
     exact g_go [0, 1] (ih A401 (n345 + 1) c402 h403) ⟨rfl, rfl, rfl, rfl, trivial⟩ (.cons _ (.cons_cons _ (.cons_cons _ (.cons_cons _ (.cons_cons _ (.cons_cons _ (.slnil))))))) rfl
    ·have h := if_neg' hp376 h
     refine g_false rfl _ rfl ((decide_eq_false hp376)) <| g_exit [.code q12c21] rfl rfl <| g_seq rfl <| g_region rfl rfl <| wl_v 0 rfl (v_ldB [.slice A150 n151 c152, .slice A344 n345 c346] 2 ld_25 rfl rfl rfl rfl) gn rfl ?_
     refine wl_s 1 rfl (s_stB (vs := [.slice A150 n151 c152, .slice A344 n345 c346]) (cs' := [.slice A150 n151 c152, .slice A344 n345 c346]) (M' := [.own (.slice A344 n345 c346) 47 4 n345 (x343.flatMap enc_api_Cond), .own (.slice A150 n151 c152) 45 5 n151 (x149.flatMap enc_api_PatNode), .box gb14 25 [.slice A150 n151 c152, .slice A344 n345 c346], .box gb12 25 [.slice A150 n151 c152, .slice A344 n345 c346], .box gb10 25 [.slice A2 n3 c4, .slice A6 n7 c8]]) 3 sz_25 rfl rfl rfl rfl rfl rfl rfl rfl rfl ?_) gn
     refine w_end 2 rfl ?_
     have h := Out.inr hO2 h
     have h := Out.inr hO1 h
     refine g_retR [.agg #[.slice A150 n151 c152, .slice A344 n345 c346]] rfl Tryd.func12 rfl (.cell (cs := [.slice A150 n151 c152, .slice A344 n345 c346]) (us := [.slice A150 n151 c152, .slice A344 n345 c346]) 3 rfl ld_25 rfl rfl rfl (.nil)) fun wr hLr => ?_
     have hMr := hLr.pkI (.c 1 rfl (.c 0 rfl .n)) (.c 2 rfl (.c 3 rfl (.c 4 rfl .n))) (by kernel_rfl) (.c 1 rfl .n)
     show trellislaw20_twin_R w F  r (.returned (packV [.agg #[.slice A150 n151 c152, .slice A344 n345 c346]])) wr
     rw [h]
     exact ⟨A150, n151, c152, A344, n345, c346, rfl, hMr, h153, h347⟩
   refine g_nil 47 4 ?_
   exact g_go [0, 1] (key2 _ h none 0 0 (Ow.nil (z := w.heap.size))) ⟨rfl, rfl, rfl, rfl, trivial⟩ (.cons_cons _ (.cons_cons _ (.cons_cons _ (.cons_cons _ (.cons_cons _ (.slnil)))))) rfl
 refine g_nil 45 5 ?_
 exact g_go [0, 1] (key1 _ h none 0 0 (Ow.nil (z := w.heap.size))) ⟨rfl, rfl, rfl, rfl, trivial⟩ (.cons_cons _ (.cons_cons _ (.cons_cons _ (.cons_cons _ (.slnil))))) rfl
noncomputable abbrev q51c6 := Code.snd (Code.snd (Code.snd (bodyOf Tryd.f51)))
noncomputable abbrev q51c8 := Code.fst (Code.fst (Code.fst (Code.snd (Code.snd (bodyOf Tryd.f51)))))
noncomputable abbrev q51c17 := Code.snd (Code.fst (Code.snd q51c8))
noncomputable abbrev q51c19 := Code.snd (Code.fst (Code.fst (Code.snd q51c8)))
abbrev trellisref20_behind_R (w : World) (F : Nat → Prop) (r : Int) : Ending → World → Prop := fun e w' => e = .returned (.int .i64 r) ∧ B.Loc w w' [] [St w []]
noncomputable abbrev trellisref20_behind_C (w : World) (F : Nat → Prop) (r : Int) : Cx := ⟨Tryd.prog, 51, Tryd.f51, 41, trellisref20_behind_R w F  r, w⟩
theorem trellisref20_behind_calls (w : World) (F : Nat → Prop) (x1 : List api_PatNode) (x6 : Int) (A2 : Option Addr) (n3 : Nat) (c4 : Nat) (h5 : Rw k_api_PatNode w (St w []).av A2 n3 c4 x1) (hF : ∀ b, F b → b < w.heap.size ∧ ∀ o ∈ ([] : List (List Nat)), b ∉ o) (hL0 : B.Loc w w [] [Sm w.heap.size F w [], St w []]) (r : Int) (h : trellisref20_behind x1 x6 r) : Calls Tryd.prog 51 #[.slice A2 n3 c4, .int .i64 x6] w (trellisref20_behind_R w F  r) := by
 unfold trellisref20_behind at h
 refine calls_of_Loc (vs := [.slice A2 n3 c4, .int .i64 x6]) 41 Tryd.func51 rfl Tryd.ntmps51 rfl hL0 ?_
 show G (trellisref20_behind_C w F r) _ _ _ _
 refine g_seq rfl <| g_region rfl rfl <| wl_v 0 rfl (v_assign rfl) gn rfl <| w_end 1 rfl <| g_seq rfl <| g_region rfl rfl <| wl_v 0 rfl (v_assign rfl) gn rfl <| w_end 1 rfl <| g_seq rfl <| g_block rfl <| g_loop rfl ?_
 have key1 : ∀ s, Rounds (fun (s : Int × Int) o => trellisref20_behind_b1 x1 s.1 s.2 o) s r → (fun (s : Int × Int) => ∀ (_ : Unit), G (trellisref20_behind_C w F r) [.code q51c8, .inLoop q51c8, .inBlock 0, .code q51c6] [(0, .slice A2 n3 c4), (1, .int .i64 s.1), (5, .int .i64 s.2)] [] [Sm w.heap.size F w [], St w []]) s := by
  intro s hs
  refine Rounds.ind (mot := (fun (s : Int × Int) => ∀ (_ : Unit), G (trellisref20_behind_C w F r) [.code q51c8, .inLoop q51c8, .inBlock 0, .code q51c6] [(0, .slice A2 n3 c4), (1, .int .i64 s.1), (5, .int .i64 s.2)] [] [Sm w.heap.size F w [], St w []])) ?_ hs
  clear hs s
  intro s o1 h hO1
  obtain ⟨x23, x24⟩ := s
  show ∀ (_ : Unit), G (trellisref20_behind_C w F r) [.code q51c8, .inLoop q51c8, .inBlock 0, .code q51c6] [(0, .slice A2 n3 c4), (1, .int .i64 x23), (5, .int .i64 x24)] [] [Sm w.heap.size F w [], St w []]
  intro _
  have h : trellisref20_behind_b1 x1 x23 x24 o1 := h
  unfold trellisref20_behind_b1 at h
  refine g_seq rfl <| g_seq rfl <| g_region rfl rfl <| wl_v 0 rfl (v_move rfl) gn rfl <| wl_v 1 rfl (v_bin rfl rfl rfl) gn rfl <| w_end 2 rfl ?_
  by_cases hp41 : x24 > 0
  ·have h := if_pos' hp41 h
   refine g_true rfl _ rfl ((decide_eq_true hp41)) <| g_skip rfl <| g_block rfl <| g_seq rfl <| g_seq rfl ?_
   have j2 : ∀ (x48 : Bool) (h : trellisref20_behind_j2 x23 x1 x24 x48 o1) , G (trellisref20_behind_C w F r) [.code q51c19, .code q51c17, .inBlock 1, .inLoop q51c8, .inBlock 0, .code q51c6] [(0, .slice A2 n3 c4), (1, .int .i64 x23), (5, .int .i64 x24), (29, .bool x48)] [] [Sm w.heap.size F w [], St w []] := by
    intro x48 h
    unfold trellisref20_behind_j2 at h
    by_cases hp49 : x48 = true
    ·have h := if_pos' hp49 h
     refine g_true rfl _ rfl (hp49) <| g_seq rfl <| g_region rfl rfl <| wl_v 0 rfl (v_assign rfl) gn rfl <| w_end 1 rfl ?_
     have h := Out.inr hO1 h
     refine g_retR [.int .i64 (-1)] rfl Tryd.func51 rfl (.tmp rfl (.nil)) fun wr hLr => ?_
     have hMr := hLr.pk0 (.c 1 rfl .n)
     show trellisref20_behind_R w F  r (.returned (packV [.int .i64 (-1)])) wr
     rw [h]
     exact ⟨rfl, hMr⟩
    ·have h := if_neg' hp49 h
     refine g_false rfl _ rfl ((bf hp49)) <| g_skip rfl <| g_seq rfl <| g_region rfl rfl <| wl_v 0 rfl (v_move rfl) gn rfl <| wl_v 1 rfl (v_bin rfl rfl rfl) gn rfl <| wl_v 2 rfl (v_move rfl) gn rfl <| wl_v 3 rfl (v_move rfl) gn rfl ?_
     obtain ⟨hb50, h⟩ := h
     have hr51 := Rw.readF (s := St w []) (hl := hl_api_PatNode) (h1 := h1_api_PatNode) h5 hb50
     refine wl_v 4 rfl (v_idxR (s := St w []) slE_22 rfl rfl h5 hb50) gn rfl <| wl_v 5 rfl (v_fldA fo_45_4 rfl) gn rfl <| wl_v 6 rfl (v_ldA1 (kk := (x23 : Int).toNat * 5) (j := 4) (St w []) ld_3 rfl hr51 rfl (me 1 rfl)) gn rfl <| wl_v 7 rfl (v_bin rfl rfl rfl) gn rfl <| wl_v 8 rfl (v_assign rfl) gn rfl <| w_end 9 rfl <| g_region rfl rfl <| wl_v 0 rfl (v_move rfl) gn rfl <| wl_v 1 rfl (v_bin rfl rfl rfl) gn rfl <| wl_v 2 rfl (v_assign rfl) gn rfl <| w_end 3 rfl <| g_inBlock ?_
     refine g_inLoop ?_
     have ih := Out.inl hO1 h
     exact g_go [0, 1] (ih ()) ⟨rfl, rfl, rfl, trivial⟩ (.slnil) rfl
   refine g_region rfl rfl <| wl_v 0 rfl (v_move rfl) gn rfl <| wl_v 1 rfl (v_move rfl) gn rfl <| wl_v 2 rfl (v_lenQ un_22 rfl h5.hq) gn rfl <| wl_v 3 rfl (v_bin rfl rfl rfl) gn rfl <| wl_v 4 rfl (v_move rfl) gn rfl ?_
   by_cases hp52 : x23 ≥ (x1.length : Int)
   ·have h := if_pos' hp52 h
    refine w_bool 12 rfl ((decide_eq_true hp52)) <| wl_pass 5 rfl (ps 12 rfl rfl rfl) <| wl_pass 6 rfl (ps 12 rfl rfl rfl) <| wl_pass 7 rfl (ps 12 rfl rfl rfl) <| wl_pass 8 rfl (ps 12 rfl rfl rfl) <| wl_pass 9 rfl (ps 12 rfl rfl rfl) <| wl_pass 10 rfl (ps 12 rfl rfl rfl) <| wl_v 11 rfl (v_pick (b := true) rfl rfl) gn rfl <| wl_v 12 rfl (v_move rfl) gn rfl <| wl_pass 13 rfl (ps 20 rfl rfl rfl) <| wl_pass 14 rfl (ps 20 rfl rfl rfl) <| wl_pass 15 rfl (ps 20 rfl rfl rfl) ?_
    refine wl_pass 16 rfl (ps 20 rfl rfl rfl) <| wl_pass 17 rfl (ps 20 rfl rfl rfl) <| wl_pass 18 rfl (ps 20 rfl rfl rfl) <| wl_pass 19 rfl (ps 20 rfl rfl rfl) <| wl_pass 20 rfl (ps 20 rfl rfl rfl) <| wl_v 21 rfl (v_pick (b := true) rfl rfl) gn rfl <| w_end 22 rfl ?_
    exact g_go [0, 1] (j2 true h) ⟨rfl, rfl, rfl, rfl, trivial⟩ (.slnil) rfl
   ·have h := if_neg' hp52 h
    refine w_bool 12 rfl ((decide_eq_false hp52)) <| wl_v 5 rfl (v_move rfl) (gy 12 rfl rfl) rfl <| wl_v 6 rfl (v_move rfl) (gy 12 rfl rfl) rfl ?_
    obtain ⟨hb53, h⟩ := h
    have hr54 := Rw.readF (s := St w []) (hl := hl_api_PatNode) (h1 := h1_api_PatNode) h5 hb53
    refine wl_v 7 rfl (v_idxR (s := St w []) slE_22 rfl rfl h5 hb53) (gy 12 rfl rfl) rfl <| wl_v 8 rfl (v_fldA fo_45_4 rfl) (gy 12 rfl rfl) rfl <| wl_v 9 rfl (v_ldA1 (kk := (x23 : Int).toNat * 5) (j := 4) (St w []) ld_3 rfl hr54 rfl (me 1 rfl)) (gy 12 rfl rfl) rfl <| wl_v 10 rfl (v_bin rfl rfl rfl) (gy 12 rfl rfl) rfl <| wl_v 11 rfl (v_pick (b := false) rfl rfl) gn rfl <| wl_v 12 rfl (v_move rfl) gn rfl ?_
    by_cases hp55 : (ix x1 x23).kids < 0
    ·have h := if_pos' hp55 h
     refine w_bool 20 rfl ((decide_eq_true hp55)) <| wl_pass 13 rfl (ps 20 rfl rfl rfl) <| wl_pass 14 rfl (ps 20 rfl rfl rfl) <| wl_pass 15 rfl (ps 20 rfl rfl rfl) <| wl_pass 16 rfl (ps 20 rfl rfl rfl) <| wl_pass 17 rfl (ps 20 rfl rfl rfl) <| wl_pass 18 rfl (ps 20 rfl rfl rfl) <| wl_pass 19 rfl (ps 20 rfl rfl rfl) <| wl_pass 20 rfl (ps 20 rfl rfl rfl) <| wl_v 21 rfl (v_pick (b := true) rfl rfl) gn rfl <| w_end 22 rfl ?_
     exact g_go [0, 1] (j2 true h) ⟨rfl, rfl, rfl, rfl, trivial⟩ (.slnil) rfl
    ·have h := if_neg' hp55 h
     refine w_bool 20 rfl ((decide_eq_false hp55)) <| wl_v 13 rfl (v_move rfl) (gy 20 rfl rfl) rfl <| wl_v 14 rfl (v_move rfl) (gy 20 rfl rfl) rfl ?_
     have hr56 := Rw.readF (s := St w []) (hl := hl_api_PatNode) (h1 := h1_api_PatNode) h5 hb53
     refine wl_v 15 rfl (v_idxR (s := St w []) slE_22 rfl rfl h5 hb53) (gy 20 rfl rfl) rfl <| wl_v 16 rfl (v_fldA fo_45_4 rfl) (gy 20 rfl rfl) rfl <| wl_v 17 rfl (v_ldA1 (kk := (x23 : Int).toNat * 5) (j := 4) (St w []) ld_3 rfl hr56 rfl (me 1 rfl)) (gy 20 rfl rfl) rfl <| wl_v 18 rfl (v_move rfl) (gy 20 rfl rfl) rfl <| wl_v 19 rfl (v_lenQ un_22 rfl h5.hq) (gy 20 rfl rfl) rfl <| wl_v 20 rfl (v_bin rfl rfl rfl) (gy 20 rfl rfl) rfl <| wl_v 21 rfl (v_pick (b := false) rfl rfl) gn rfl <| w_end 22 rfl ?_
     exact g_go [0, 1] (j2 (decide ((ix x1 x23).kids > (x1.length : Int))) h) ⟨rfl, rfl, rfl, rfl, trivial⟩ (.slnil) rfl
  ·have h := if_neg' hp41 h
   refine g_false rfl _ rfl ((decide_eq_false hp41)) <| g_exit [.code q51c6] rfl rfl <| g_seq rfl <| g_region rfl rfl <| wl_v 0 rfl (v_move rfl) gn rfl <| wl_v 1 rfl (v_assign rfl) gn rfl <| w_end 2 rfl ?_
   have h := Out.inr hO1 h
   refine g_retR [.int .i64 x23] rfl Tryd.func51 rfl (.tmp rfl (.nil)) fun wr hLr => ?_
   have hMr := hLr.pk0 (.c 1 rfl .n)
   show trellisref20_behind_R w F  r (.returned (packV [.int .i64 x23])) wr
   rw [h]
   exact ⟨rfl, hMr⟩
 exact g_go [0, 1] (key1 _ h ()) ⟨rfl, rfl, rfl, trivial⟩ (.slnil) rfl
noncomputable abbrev q95c4 := Code.snd (Code.snd (bodyOf Tryd.f95))
noncomputable abbrev q95c8 := Code.fst (Code.fst (Code.snd (Code.fst (Code.snd (bodyOf Tryd.f95)))))
abbrev trellisref8_in_R (w : World) (F : Nat → Prop) (r : Bool) : Ending → World → Prop := fun e w' => e = .returned (.bool r) ∧ B.Loc w w' [] [St w []]
noncomputable abbrev trellisref8_in_C (w : World) (F : Nat → Prop) (r : Bool) : Cx := ⟨Tryd.prog, 95, Tryd.f95, 17, trellisref8_in_R w F  r, w⟩
theorem trellisref8_in_calls (w : World) (F : Nat → Prop) (x1 : ByteArray) (x2 : Int) (hF : ∀ b, F b → b < w.heap.size ∧ ∀ o ∈ ([] : List (List Nat)), b ∉ o) (hL0 : B.Loc w w [] [Sm w.heap.size F w [], St w []]) (r : Bool) (h : trellisref8_in x1 x2 r) : Calls Tryd.prog 95 #[.string x1, .int .u8 x2] w (trellisref8_in_R w F  r) := by
 unfold trellisref8_in at h
 refine calls_of_Loc (vs := [.string x1, .int .u8 x2]) 17 Tryd.func95 rfl Tryd.ntmps95 rfl hL0 ?_
 show G (trellisref8_in_C w F r) _ _ _ _
 refine g_seq rfl <| g_region rfl rfl <| wl_v 0 rfl (v_assign rfl) gn rfl <| w_end 1 rfl <| g_seq rfl <| g_seq rfl <| g_region rfl rfl <| wl_v 0 rfl (v_assign rfl) gn rfl <| w_end 1 rfl <| g_block rfl <| g_loop rfl ?_
 have key1 : ∀ s, Rounds (fun (s : Int) o => trellisref8_in_b1 x1 x2 s o) s r → (fun (s : Int) => ∀ (_ : Unit), G (trellisref8_in_C w F r) [.code q95c8, .inLoop q95c8, .inBlock 0, .code q95c4] [(0, .string x1), (1, .int .u8 x2), (5, .int .i64 s)] [] [Sm w.heap.size F w [], St w []]) s := by
  intro s hs
  refine Rounds.ind (mot := (fun (s : Int) => ∀ (_ : Unit), G (trellisref8_in_C w F r) [.code q95c8, .inLoop q95c8, .inBlock 0, .code q95c4] [(0, .string x1), (1, .int .u8 x2), (5, .int .i64 s)] [] [Sm w.heap.size F w [], St w []])) ?_ hs
  clear hs s
  intro x7 o1 h hO1
  show ∀ (_ : Unit), G (trellisref8_in_C w F r) [.code q95c8, .inLoop q95c8, .inBlock 0, .code q95c4] [(0, .string x1), (1, .int .u8 x2), (5, .int .i64 x7)] [] [Sm w.heap.size F w [], St w []]
  intro _
  have h : trellisref8_in_b1 x1 x2 x7 o1 := h
  unfold trellisref8_in_b1 at h
  refine g_seq rfl <| g_seq rfl <| g_region rfl rfl <| wl_v 0 rfl (v_move rfl) gn rfl <| wl_v 1 rfl (v_move rfl) gn rfl <| wl_v 2 rfl (v_lenS un_9 rfl) gn rfl <| wl_v 3 rfl (v_bin rfl rfl rfl) gn rfl <| w_end 4 rfl ?_
  by_cases hp11 : x7 < (x1.size : Int)
  ·have h := if_pos' hp11 h
   refine g_true rfl _ rfl ((decide_eq_true hp11)) <| g_skip rfl <| g_seq rfl <| g_block rfl <| g_seq rfl <| g_region rfl rfl <| wl_v 0 rfl (v_move rfl) gn rfl <| wl_v 1 rfl (v_move rfl) gn rfl ?_
   obtain ⟨hb12, h⟩ := h
   refine wl_v 2 rfl (v_indexS un_9 rfl rfl hb12) gn rfl <| wl_v 3 rfl (v_move rfl) gn rfl <| wl_v 4 rfl (v_bin rfl rfl rfl) gn rfl <| w_end 5 rfl ?_
   by_cases hp13 : bt x1 x7 = x2
   ·have h := if_pos' hp13 h
    refine g_true rfl _ rfl ((eqi hp13)) <| g_seq rfl <| g_region rfl rfl <| wl_v 0 rfl (v_assign rfl) gn rfl <| w_end 1 rfl ?_
    have h := Out.inr hO1 h
    refine g_retR [.bool true] rfl Tryd.func95 rfl (.tmp rfl (.nil)) fun wr hLr => ?_
    have hMr := hLr.pk0 (.c 1 rfl .n)
    show trellisref8_in_R w F  r (.returned (packV [.bool true])) wr
    rw [h]
    exact ⟨rfl, hMr⟩
   ·have h := if_neg' hp13 h
    refine g_false rfl _ rfl ((nei hp13)) <| g_skip rfl <| g_inBlock <| g_region rfl rfl <| wl_v 0 rfl (v_move rfl) gn rfl <| wl_v 1 rfl (v_bin rfl rfl rfl) gn rfl <| wl_v 2 rfl (v_assign rfl) gn rfl <| w_end 3 rfl <| g_inLoop ?_
    have ih := Out.inl hO1 h
    exact g_go [0, 1] (ih ()) ⟨rfl, rfl, rfl, trivial⟩ (.slnil) rfl
  ·have h := if_neg' hp11 h
   refine g_false rfl _ rfl ((decide_eq_false hp11)) <| g_exit [.code q95c4] rfl rfl <| g_seq rfl <| g_region rfl rfl <| wl_v 0 rfl (v_assign rfl) gn rfl <| w_end 1 rfl ?_
   have h := Out.inr hO1 h
   refine g_retR [.bool false] rfl Tryd.func95 rfl (.tmp rfl (.nil)) fun wr hLr => ?_
   have hMr := hLr.pk0 (.c 1 rfl .n)
   show trellisref8_in_R w F  r (.returned (packV [.bool false])) wr
   rw [h]
   exact ⟨rfl, hMr⟩
 exact g_go [0, 1] (key1 _ h ()) ⟨rfl, rfl, rfl, trivial⟩ (.slnil) rfl
noncomputable abbrev q96c6 := Code.snd (Code.snd (Code.snd (bodyOf Tryd.f96)))
noncomputable abbrev q96c8 := Code.fst (Code.fst (Code.fst (Code.snd (Code.snd (bodyOf Tryd.f96)))))
abbrev trellisref8_run_R (w : World) (F : Nat → Prop) (r : Int) : Ending → World → Prop := fun e w' => e = .returned (.int .i64 r) ∧ B.Loc w w' [] [St w []]
noncomputable abbrev trellisref8_run_C (w : World) (F : Nat → Prop) (r : Int) : Cx := ⟨Tryd.prog, 96, Tryd.f96, 26, trellisref8_run_R w F  r, w⟩
theorem trellisref8_run_calls (w : World) (F : Nat → Prop) (x1 : ByteArray) (x2 : Int) (x3 : ByteArray) (hF : ∀ b, F b → b < w.heap.size ∧ ∀ o ∈ ([] : List (List Nat)), b ∉ o) (hL0 : B.Loc w w [] [Sm w.heap.size F w [], St w []]) (r : Int) (h : trellisref8_run x1 x2 x3 r) : Calls Tryd.prog 96 #[.string x1, .int .i64 x2, .string x3] w (trellisref8_run_R w F  r) := by
 unfold trellisref8_run at h
 refine calls_of_Loc (vs := [.string x1, .int .i64 x2, .string x3]) 26 Tryd.func96 rfl Tryd.ntmps96 rfl hL0 ?_
 show G (trellisref8_run_C w F r) _ _ _ _
 refine g_seq rfl <| g_region rfl rfl <| wl_v 0 rfl (v_assign rfl) gn rfl <| w_end 1 rfl <| g_seq rfl <| g_region rfl rfl <| wl_v 0 rfl (v_assign rfl) gn rfl <| w_end 1 rfl <| g_seq rfl <| g_block rfl <| g_loop rfl ?_
 have key1 : ∀ s, Rounds (fun (s : Int) o => trellisref8_run_b1 x2 x1 x3 s o) s r → (fun (s : Int) => ∀ (_ : Unit), G (trellisref8_run_C w F r) [.code q96c8, .inLoop q96c8, .inBlock 0, .code q96c6] [(0, .string x1), (1, .int .i64 x2), (2, .string x3), (7, .int .i64 s)] [] [Sm w.heap.size F w [], St w []]) s := by
  intro s hs
  refine Rounds.ind (mot := (fun (s : Int) => ∀ (_ : Unit), G (trellisref8_run_C w F r) [.code q96c8, .inLoop q96c8, .inBlock 0, .code q96c6] [(0, .string x1), (1, .int .i64 x2), (2, .string x3), (7, .int .i64 s)] [] [Sm w.heap.size F w [], St w []])) ?_ hs
  clear hs s
  intro x16 o1 h hO1
  show ∀ (_ : Unit), G (trellisref8_run_C w F r) [.code q96c8, .inLoop q96c8, .inBlock 0, .code q96c6] [(0, .string x1), (1, .int .i64 x2), (2, .string x3), (7, .int .i64 x16)] [] [Sm w.heap.size F w [], St w []]
  intro _
  have h : trellisref8_run_b1 x2 x1 x3 x16 o1 := h
  unfold trellisref8_run_b1 at h
  refine g_seq rfl <| g_seq rfl <| g_region rfl rfl <| wl_v 0 rfl (v_move rfl) gn rfl <| wl_v 1 rfl (v_move rfl) gn rfl <| wl_v 2 rfl (v_bin rfl rfl rfl) gn rfl <| wl_v 3 rfl (v_move rfl) gn rfl <| wl_v 4 rfl (v_lenS un_9 rfl) gn rfl <| wl_v 5 rfl (v_bin rfl rfl rfl) gn rfl <| wl_v 6 rfl (v_move rfl) gn rfl ?_
  by_cases hp28 : w64 (x2 + x16) < (x1.size : Int)
  ·have h := if_pos' hp28 h
   refine w_bool 14 rfl ((decide_eq_true hp28)) <| wl_v 7 rfl (v_move rfl) (gy 14 rfl rfl) rfl <| wl_v 8 rfl (v_move rfl) (gy 14 rfl rfl) rfl <| wl_v 9 rfl (v_move rfl) (gy 14 rfl rfl) rfl <| wl_v 10 rfl (v_move rfl) (gy 14 rfl rfl) rfl <| wl_v 11 rfl (v_bin rfl rfl rfl) (gy 14 rfl rfl) rfl ?_
   obtain ⟨hb29, h⟩ := h
   refine wl_v 12 rfl (v_indexS un_9 rfl rfl hb29) (gy 14 rfl rfl) rfl ?_
   obtain ⟨r33, hv34, h⟩ := h
   refine wl_s 13 rfl (s_call [.string x3, .int .u8 (bt x1 (w64 (x2 + x16)))] rfl Tryd.func95 rfl rfl rfl fun w30 hL31 => ?_) (gy 14 rfl rfl)
   have hp32 := pmI hL31 .n .n (by kernel_rfl)
   refine Calls.mono (trellisref8_in_calls w30 (Fl ([] : List Snap)) x3 (bt x1 (w64 (x2 + x16))) (hL31.hFl hp32 (sels [] rfl)) (hL31.into hp32 _) r33 hv34) ?_
   rintro _ w35 ⟨rfl, hM36⟩
   have hL37 := hL31.call hp32 hM36
   refine ⟨_, _, _, rfl, hL37, ?_⟩
   refine wl_v 14 rfl (v_pick (b := true) rfl rfl) gn rfl <| w_end 15 rfl ?_
   by_cases hp38 : r33 = true
   ·have h := if_pos' hp38 h
    refine g_true rfl _ rfl (hp38) <| g_skip rfl <| g_block rfl <| g_region rfl rfl <| wl_v 0 rfl (v_move rfl) gn rfl <| wl_v 1 rfl (v_bin rfl rfl rfl) gn rfl <| wl_v 2 rfl (v_assign rfl) gn rfl <| w_end 3 rfl <| g_inBlock <| g_inLoop ?_
    have ih := Out.inl hO1 h
    exact g_go [0, 1] (ih ()) ⟨rfl, rfl, rfl, rfl, trivial⟩ (.slnil) rfl
   ·have h := if_neg' hp38 h
    refine g_false rfl _ rfl ((bf hp38)) <| g_exit [.code q96c6] rfl rfl <| g_seq rfl <| g_region rfl rfl <| wl_v 0 rfl (v_move rfl) gn rfl <| wl_v 1 rfl (v_assign rfl) gn rfl <| w_end 2 rfl ?_
    have h := Out.inr hO1 h
    refine g_retR [.int .i64 x16] rfl Tryd.func96 rfl (.tmp rfl (.nil)) fun wr hLr => ?_
    have hMr := hLr.pk0 (.c 1 rfl .n)
    show trellisref8_run_R w F  r (.returned (packV [.int .i64 x16])) wr
    rw [h]
    exact ⟨rfl, hMr⟩
  ·have h := if_neg' hp28 h
   refine w_bool 14 rfl ((decide_eq_false hp28)) <| wl_pass 7 rfl (ps 14 rfl rfl rfl) <| wl_pass 8 rfl (ps 14 rfl rfl rfl) <| wl_pass 9 rfl (ps 14 rfl rfl rfl) <| wl_pass 10 rfl (ps 14 rfl rfl rfl) <| wl_pass 11 rfl (ps 14 rfl rfl rfl) <| wl_pass 12 rfl (ps 14 rfl rfl rfl) <| wl_pass 13 rfl (ps 14 rfl rfl rfl) <| wl_v 14 rfl (v_pick (b := false) rfl rfl) gn rfl <| w_end 15 rfl <| g_false rfl _ rfl (rfl) <| g_exit [.code q96c6] rfl rfl ?_
   refine g_seq rfl <| g_region rfl rfl <| wl_v 0 rfl (v_move rfl) gn rfl <| wl_v 1 rfl (v_assign rfl) gn rfl <| w_end 2 rfl ?_
   have h := Out.inr hO1 h
   refine g_retR [.int .i64 x16] rfl Tryd.func96 rfl (.tmp rfl (.nil)) fun wr hLr => ?_
   have hMr := hLr.pk0 (.c 1 rfl .n)
   show trellisref8_run_R w F  r (.returned (packV [.int .i64 x16])) wr
   rw [h]
   exact ⟨rfl, hMr⟩
 exact g_go [0, 1] (key1 _ h ()) ⟨rfl, rfl, rfl, rfl, trivial⟩ (.slnil) rfl
noncomputable abbrev q97c6 := Code.snd (Code.snd (Code.snd (bodyOf Tryd.f97)))
noncomputable abbrev q97c8 := Code.fst (Code.fst (Code.fst (Code.snd (Code.snd (bodyOf Tryd.f97)))))
noncomputable abbrev q97c10 := Code.snd q97c8
noncomputable abbrev q97c12 := Code.snd (Code.fst q97c8)
abbrev trellisref8_regex_R (w : World) (F : Nat → Prop) (r : Int) : Ending → World → Prop := fun e w' => e = .returned (.int .i64 r) ∧ B.Loc w w' [] [St w []]
noncomputable abbrev trellisref8_regex_C (w : World) (F : Nat → Prop) (r : Int) : Cx := ⟨Tryd.prog, 97, Tryd.f97, 46, trellisref8_regex_R w F  r, w⟩
theorem trellisref8_regex_calls (w : World) (F : Nat → Prop) (x1 : ByteArray) (x2 : Int) (hF : ∀ b, F b → b < w.heap.size ∧ ∀ o ∈ ([] : List (List Nat)), b ∉ o) (hL0 : B.Loc w w [] [Sm w.heap.size F w [], St w []]) (r : Int) (h : trellisref8_regex x1 x2 r) : Calls Tryd.prog 97 #[.string x1, .int .i64 x2] w (trellisref8_regex_R w F  r) := by
 unfold trellisref8_regex at h
 refine calls_of_Loc (vs := [.string x1, .int .i64 x2]) 46 Tryd.func97 rfl Tryd.ntmps97 rfl hL0 ?_
 show G (trellisref8_regex_C w F r) _ _ _ _
 refine g_seq rfl <| g_region rfl rfl <| wl_v 0 rfl (v_assign rfl) gn rfl <| w_end 1 rfl <| g_seq rfl <| g_region rfl rfl <| wl_v 0 rfl (v_move rfl) gn rfl <| wl_v 1 rfl (v_bin rfl rfl rfl) gn rfl <| wl_v 2 rfl (v_assign rfl) gn rfl <| w_end 3 rfl <| g_seq rfl <| g_block rfl ?_
 refine g_loop rfl ?_
 have key1 : ∀ s, Rounds (fun (s : Int) o => trellisref8_regex_b1 x1 s o) s r → (fun (s : Int) => ∀ (_ : Unit), G (trellisref8_regex_C w F r) [.code q97c8, .inLoop q97c8, .inBlock 0, .code q97c6] [(0, .string x1), (5, .int .i64 s)] [] [Sm w.heap.size F w [], St w []]) s := by
  intro s hs
  refine Rounds.ind (mot := (fun (s : Int) => ∀ (_ : Unit), G (trellisref8_regex_C w F r) [.code q97c8, .inLoop q97c8, .inBlock 0, .code q97c6] [(0, .string x1), (5, .int .i64 s)] [] [Sm w.heap.size F w [], St w []])) ?_ hs
  clear hs s
  intro x17 o1 h hO1
  show ∀ (_ : Unit), G (trellisref8_regex_C w F r) [.code q97c8, .inLoop q97c8, .inBlock 0, .code q97c6] [(0, .string x1), (5, .int .i64 x17)] [] [Sm w.heap.size F w [], St w []]
  intro _
  have h : trellisref8_regex_b1 x1 x17 o1 := h
  unfold trellisref8_regex_b1 at h
  refine g_seq rfl <| g_seq rfl ?_
  have j2 : ∀ (x34 : Bool) (h : trellisref8_regex_j2 x17 x1 x34 o1) , G (trellisref8_regex_C w F r) [.code q97c12, .code q97c10, .inLoop q97c8, .inBlock 0, .code q97c6] [(0, .string x1), (5, .int .i64 x17), (17, .bool x34)] [] [Sm w.heap.size F w [], St w []] := by
   intro x34 h
   unfold trellisref8_regex_j2 at h
   by_cases hp35 : x34 = true
   ·have h := if_pos' hp35 h
    refine g_true rfl _ rfl (hp35) <| g_skip rfl <| g_block rfl <| g_seq rfl <| g_seq rfl <| g_region rfl rfl <| wl_v 0 rfl (v_move rfl) gn rfl <| wl_v 1 rfl (v_move rfl) gn rfl ?_
    obtain ⟨hb36, h⟩ := h
    refine wl_v 2 rfl (v_indexS un_9 rfl rfl hb36) gn rfl <| wl_v 3 rfl (v_bin rfl rfl rfl) gn rfl <| w_end 4 rfl ?_
    by_cases hp37 : bt x1 x17 = 47
    ·have h := if_pos' hp37 h
     refine g_true rfl _ rfl ((eqi hp37)) <| g_seq rfl <| g_region rfl rfl <| wl_v 0 rfl (v_move rfl) gn rfl <| wl_v 1 rfl (v_bin rfl rfl rfl) gn rfl <| wl_v 2 rfl (v_assign rfl) gn rfl <| w_end 3 rfl ?_
     have h := Out.inr hO1 h
     refine g_retR [.int .i64 (w64 (x17 + 1))] rfl Tryd.func97 rfl (.tmp rfl (.nil)) fun wr hLr => ?_
     have hMr := hLr.pk0 (.c 1 rfl .n)
     show trellisref8_regex_R w F  r (.returned (packV [.int .i64 (w64 (x17 + 1))])) wr
     rw [h]
     exact ⟨rfl, hMr⟩
    ·have h := if_neg' hp37 h
     refine g_false rfl _ rfl ((nei hp37)) <| g_skip rfl <| g_seq rfl <| g_seq rfl <| g_region rfl rfl <| wl_v 0 rfl (v_move rfl) gn rfl <| wl_v 1 rfl (v_move rfl) gn rfl <| wl_v 2 rfl (v_indexS un_9 rfl rfl hb36) gn rfl <| wl_v 3 rfl (v_bin rfl rfl rfl) gn rfl <| wl_v 4 rfl (v_move rfl) gn rfl ?_
     by_cases hp38 : bt x1 x17 = 92
     ·have h := if_pos' hp38 h
      refine w_bool 28 rfl ((eqi hp38)) <| wl_v 5 rfl (v_move rfl) (gy 28 rfl rfl) rfl <| wl_v 6 rfl (v_bin rfl rfl rfl) (gy 28 rfl rfl) rfl <| wl_v 7 rfl (v_move rfl) (gy 28 rfl rfl) rfl <| wl_v 8 rfl (v_lenS un_9 rfl) (gy 28 rfl rfl) rfl <| wl_v 9 rfl (v_bin rfl rfl rfl) (gy 28 rfl rfl) rfl <| wl_v 10 rfl (v_pick (b := true) rfl rfl) gn rfl <| wl_v 11 rfl (v_move rfl) gn rfl ?_
      by_cases hp39 : w64 (x17 + 1) < (x1.size : Int)
      ·have h := if_pos' hp39 h
       refine w_bool 35 rfl ((decide_eq_true hp39)) <| wl_v 12 rfl (v_move rfl) (gy 35 rfl rfl) rfl <| wl_v 13 rfl (v_move rfl) (gy 35 rfl rfl) rfl <| wl_v 14 rfl (v_bin rfl rfl rfl) (gy 35 rfl rfl) rfl ?_
       obtain ⟨hb40, h⟩ := h
       refine wl_v 15 rfl (v_indexS un_9 rfl rfl hb40) (gy 35 rfl rfl) rfl <| wl_v 16 rfl (v_bin rfl rfl rfl) (gy 35 rfl rfl) rfl <| wl_v 17 rfl (v_pick (b := true) rfl rfl) gn rfl <| w_end 18 rfl ?_
       by_cases hp41 : bt x1 (w64 (x17 + 1)) = 10
       ·have h := if_pos' hp41 h
        refine g_false rfl _ rfl ((eqib hp41)) <| g_skip rfl <| g_region rfl rfl <| wl_v 0 rfl (v_move rfl) gn rfl <| wl_v 1 rfl (v_bin rfl rfl rfl) gn rfl <| wl_v 2 rfl (v_assign rfl) gn rfl <| w_end 3 rfl <| g_inBlock <| g_inLoop ?_
        have ih := Out.inl hO1 h
        exact g_go [0, 1] (ih ()) ⟨rfl, rfl, trivial⟩ (.slnil) rfl
       ·have h := if_neg' hp41 h
        refine g_true rfl _ rfl ((neib hp41)) <| g_region rfl rfl <| wl_v 0 rfl (v_move rfl) gn rfl <| wl_v 1 rfl (v_bin rfl rfl rfl) gn rfl <| wl_v 2 rfl (v_assign rfl) gn rfl <| w_end 3 rfl <| g_region rfl rfl <| wl_v 0 rfl (v_move rfl) gn rfl <| wl_v 1 rfl (v_bin rfl rfl rfl) gn rfl <| wl_v 2 rfl (v_assign rfl) gn rfl <| w_end 3 rfl <| g_inBlock ?_
        refine g_inLoop ?_
        have ih := Out.inl hO1 h
        exact g_go [0, 1] (ih ()) ⟨rfl, rfl, trivial⟩ (.slnil) rfl
      ·have h := if_neg' hp39 h
       refine w_bool 35 rfl ((decide_eq_false hp39)) <| wl_pass 12 rfl (ps 35 rfl rfl rfl) <| wl_pass 13 rfl (ps 35 rfl rfl rfl) <| wl_pass 14 rfl (ps 35 rfl rfl rfl) <| wl_pass 15 rfl (ps 35 rfl rfl rfl) <| wl_pass 16 rfl (ps 35 rfl rfl rfl) <| wl_v 17 rfl (v_pick (b := false) rfl rfl) gn rfl <| w_end 18 rfl <| g_false rfl _ rfl (rfl) <| g_skip rfl <| g_region rfl rfl <| wl_v 0 rfl (v_move rfl) gn rfl ?_
       refine wl_v 1 rfl (v_bin rfl rfl rfl) gn rfl <| wl_v 2 rfl (v_assign rfl) gn rfl <| w_end 3 rfl <| g_inBlock <| g_inLoop ?_
       have ih := Out.inl hO1 h
       exact g_go [0, 1] (ih ()) ⟨rfl, rfl, trivial⟩ (.slnil) rfl
     ·have h := if_neg' hp38 h
      refine w_bool 28 rfl ((nei hp38)) <| wl_pass 5 rfl (ps 28 rfl rfl rfl) <| wl_pass 6 rfl (ps 28 rfl rfl rfl) <| wl_pass 7 rfl (ps 28 rfl rfl rfl) <| wl_pass 8 rfl (ps 28 rfl rfl rfl) <| wl_pass 9 rfl (ps 28 rfl rfl rfl) <| wl_v 10 rfl (v_pick (b := false) rfl rfl) gn rfl <| wl_v 11 rfl (v_move rfl) gn rfl <| wl_pass 12 rfl (ps 35 rfl rfl rfl) <| wl_pass 13 rfl (ps 35 rfl rfl rfl) <| wl_pass 14 rfl (ps 35 rfl rfl rfl) <| wl_pass 15 rfl (ps 35 rfl rfl rfl) ?_
      refine wl_pass 16 rfl (ps 35 rfl rfl rfl) <| wl_v 17 rfl (v_pick (b := false) rfl rfl) gn rfl <| w_end 18 rfl <| g_false rfl _ rfl (rfl) <| g_skip rfl <| g_region rfl rfl <| wl_v 0 rfl (v_move rfl) gn rfl <| wl_v 1 rfl (v_bin rfl rfl rfl) gn rfl <| wl_v 2 rfl (v_assign rfl) gn rfl <| w_end 3 rfl <| g_inBlock <| g_inLoop ?_
      have ih := Out.inl hO1 h
      exact g_go [0, 1] (ih ()) ⟨rfl, rfl, trivial⟩ (.slnil) rfl
   ·have h := if_neg' hp35 h
    refine g_false rfl _ rfl ((bf hp35)) <| g_exit [.code q97c6] rfl rfl <| g_seq rfl <| g_region rfl rfl <| wl_v 0 rfl (v_assign rfl) gn rfl <| w_end 1 rfl ?_
    have h := Out.inr hO1 h
    refine g_retR [.int .i64 0] rfl Tryd.func97 rfl (.tmp rfl (.nil)) fun wr hLr => ?_
    have hMr := hLr.pk0 (.c 1 rfl .n)
    show trellisref8_regex_R w F  r (.returned (packV [.int .i64 0])) wr
    rw [h]
    exact ⟨rfl, hMr⟩
  refine g_region rfl rfl <| wl_v 0 rfl (v_move rfl) gn rfl <| wl_v 1 rfl (v_move rfl) gn rfl <| wl_v 2 rfl (v_lenS un_9 rfl) gn rfl <| wl_v 3 rfl (v_bin rfl rfl rfl) gn rfl <| wl_v 4 rfl (v_move rfl) gn rfl ?_
  by_cases hp42 : x17 < (x1.size : Int)
  ·have h := if_pos' hp42 h
   refine w_bool 12 rfl ((decide_eq_true hp42)) <| wl_v 5 rfl (v_move rfl) (gy 12 rfl rfl) rfl <| wl_v 6 rfl (v_move rfl) (gy 12 rfl rfl) rfl ?_
   obtain ⟨hb43, h⟩ := h
   refine wl_v 7 rfl (v_indexS un_9 rfl rfl hb43) (gy 12 rfl rfl) rfl <| wl_v 8 rfl (v_bin rfl rfl rfl) (gy 12 rfl rfl) rfl <| wl_v 9 rfl (v_pick (b := true) rfl rfl) gn rfl <| w_end 10 rfl ?_
   exact g_go [0, 1] (j2 ((bt x1 x17) != 10) h) ⟨rfl, rfl, rfl, trivial⟩ (.slnil) rfl
  ·have h := if_neg' hp42 h
   refine w_bool 12 rfl ((decide_eq_false hp42)) <| wl_pass 5 rfl (ps 12 rfl rfl rfl) <| wl_pass 6 rfl (ps 12 rfl rfl rfl) <| wl_pass 7 rfl (ps 12 rfl rfl rfl) <| wl_pass 8 rfl (ps 12 rfl rfl rfl) <| wl_v 9 rfl (v_pick (b := false) rfl rfl) gn rfl <| w_end 10 rfl ?_
   exact g_go [0, 1] (j2 false h) ⟨rfl, rfl, rfl, trivial⟩ (.slnil) rfl
 exact g_go [0, 1] (key1 _ h ()) ⟨rfl, rfl, trivial⟩ (.slnil) rfl
abbrev trellisref8_Sound_R (w : World) (F : Nat → Prop) (r : Bool) : Ending → World → Prop := fun e w' => e = .returned (.bool r) ∧ B.Loc w w' [] [St w []]
noncomputable abbrev trellisref8_Sound_C (w : World) (F : Nat → Prop) (r : Bool) : Cx := ⟨Tryd.prog, 75, Tryd.f75, 67, trellisref8_Sound_R w F  r, w⟩
theorem trellisref8_Sound_calls (w : World) (F : Nat → Prop) (x1 : api_Word) (hF : ∀ b, F b → b < w.heap.size ∧ ∀ o ∈ ([] : List (List Nat)), b ∉ o) (hL0 : B.Loc w w [] [Sm w.heap.size F w [], St w []]) (r : Bool) (h : trellisref8_Sound x1 r) : Calls Tryd.prog 75 #[.agg #[.int .i64 x1.kind, .string x1.text, .int .i64 x1.n, .int .i64 x1.at_]] w (trellisref8_Sound_R w F  r) := by
 unfold trellisref8_Sound at h
 refine calls_of_Loc (vs := [.agg #[.int .i64 x1.kind, .string x1.text, .int .i64 x1.n, .int .i64 x1.at_]]) 67 Tryd.func75 rfl Tryd.ntmps75 rfl hL0 ?_
 show G (trellisref8_Sound_C w F r) _ _ _ _
 refine g_seq rfl <| g_region rfl rfl ?_
 refine wl_s 0 rfl (s_box [.int .i64 x1.kind, .string x1.text, .int .i64 x1.n, .int .i64 x1.at_] rfl rfl rfl fun gb2 => ?_) gn
 refine wl_v 1 rfl (v_assign rfl) gn rfl <| w_end 2 rfl <| g_seq rfl <| g_seq rfl <| g_region rfl rfl <| wl_v 0 rfl (v_fldB fo_84_0 rfl) gn rfl <| wl_v 1 rfl (v_ldB1 0 ld_79 rfl rfl rfl) gn rfl <| w_end 2 rfl <| g_block rfl <| g_seq rfl <| g_region rfl rfl <| wl_v 0 rfl (v_bin rfl rfl rfl) gn rfl ?_
 refine wl_v 1 rfl (v_assign rfl) gn rfl <| w_end 2 rfl ?_
 by_cases hp4 : x1.kind = 1
 ·have h := if_pos' hp4 h
  refine g_true rfl _ rfl ((eqi hp4)) <| g_seq rfl <| g_region rfl rfl <| wl_v 0 rfl (v_fldB fo_84_1 rfl) gn rfl <| wl_v 1 rfl (v_ldB1 0 ld_9 rfl rfl rfl) gn rfl <| wl_v 2 rfl (v_lenS un_9 rfl) gn rfl <| wl_v 3 rfl (v_assign rfl) gn rfl <| w_end 4 rfl <| g_seq rfl <| g_region rfl rfl <| wl_v 0 rfl (v_move rfl) gn rfl <| wl_v 1 rfl (v_bin rfl rfl rfl) gn rfl ?_
  refine wl_v 2 rfl (v_move rfl) gn rfl ?_
  by_cases hp5 : (x1.text.size : Int) > 0
  ·have h := if_pos' hp5 h
   refine w_bool 14 rfl ((decide_eq_true hp5)) <| wl_v 3 rfl (v_move rfl) (gy 14 rfl rfl) rfl <| wl_v 4 rfl (v_bin rfl rfl rfl) (gy 14 rfl rfl) rfl <| wl_v 5 rfl (v_pick (b := true) rfl rfl) gn rfl <| wl_v 6 rfl (v_move rfl) gn rfl ?_
   by_cases hp6 : (x1.text.size : Int) ≤ 24
   ·have h := if_pos' hp6 h
    refine w_bool 18 rfl ((decide_eq_true hp6)) <| wl_v 7 rfl (v_fldB fo_84_1 rfl) (gy 18 rfl rfl) rfl <| wl_v 8 rfl (v_ldB1 0 ld_9 rfl rfl rfl) (gy 18 rfl rfl) rfl ?_
    obtain ⟨hb7, h⟩ := h
    refine wl_v 9 rfl (v_indexS un_9 rfl rfl hb7) (gy 18 rfl rfl) rfl ?_
    obtain ⟨r11, hv12, h⟩ := h
    refine wl_s 10 rfl (s_call [.string (⟨#[48, 49, 50, 51, 52, 53, 54, 55, 56, 57]⟩ : ByteArray), .int .u8 (bt x1.text 0)] rfl Tryd.func95 rfl rfl rfl fun w8 hL9 => ?_) (gy 18 rfl rfl)
    have hp10 := pmI hL9 .n (.c 0 rfl .n) (by kernel_rfl)
    refine Calls.mono (trellisref8_in_calls w8 (Fl ([] : List Snap)) (⟨#[48, 49, 50, 51, 52, 53, 54, 55, 56, 57]⟩ : ByteArray) (bt x1.text 0) (hL9.hFl hp10 (sels [] rfl)) (hL9.into hp10 _) r11 hv12) ?_
    rintro _ w13 ⟨rfl, hM14⟩
    have hL15 := hL9.call hp10 hM14
    refine ⟨_, _, _, rfl, hL15, ?_⟩
    refine wl_v 11 rfl (v_not rfl) (gy 18 rfl rfl) rfl <| wl_v 12 rfl (v_pick (b := true) rfl rfl) gn rfl <| wl_v 13 rfl (v_move rfl) gn rfl ?_
    by_cases hp16 : r11 = true
    ·have h := if_pos' hp16 h
     refine w_bool 25 rfl ((nf hp16)) <| wl_pass 14 rfl (ps 25 rfl rfl rfl) <| wl_pass 15 rfl (ps 25 rfl rfl rfl) <| wl_pass 16 rfl (ps 25 rfl rfl rfl) <| wl_pass 17 rfl (ps 25 rfl rfl rfl) <| wl_pass 18 rfl (ps 25 rfl rfl rfl) <| wl_v 19 rfl (v_pick (b := false) rfl rfl) gn rfl <| wl_v 20 rfl (v_assign rfl) gn rfl <| w_end 21 rfl ?_
     refine g_retR [.bool false] rfl Tryd.func75 rfl (.tmp rfl (.nil)) fun wr hLr => ?_
     have hMr := hLr.pk0 (.c 1 rfl .n)
     show trellisref8_Sound_R w F  r (.returned (packV [.bool false])) wr
     rw [h]
     exact ⟨rfl, hMr⟩
    ·have h := if_neg' hp16 h
     refine w_bool 25 rfl ((nt (bf hp16))) <| wl_v 14 rfl (v_fldB fo_84_1 rfl) (gy 25 rfl rfl) rfl <| wl_v 15 rfl (v_ldB1 0 ld_9 rfl rfl rfl) (gy 25 rfl rfl) rfl ?_
     obtain ⟨r20, hv21, h⟩ := h
     refine wl_s 16 rfl (s_call [.string x1.text, .int .i64 0, .string (⟨#[65, 66, 67, 68, 69, 70, 71, 72, 73, 74, 75, 76, 77, 78, 79, 80, 81, 82, 83, 84, 85, 86, 87, 88, 89, 90, 97, 98, 99, 100, 101, 102, 103, 104, 105, 106, 107, 108, 109, 110, 111, 112, 113, 114, 115, 116, 117, 118, 119, 120, 121, 122, 95, 48, 49, 50, 51, 52, 53, 54, 55, 56, 57]⟩ : ByteArray)] rfl Tryd.func96 rfl rfl rfl fun w17 hL18 => ?_) (gy 25 rfl rfl)
     have hp19 := pmI hL18 .n (.c 0 rfl .n) (by kernel_rfl)
     refine Calls.mono (trellisref8_run_calls w17 (Fl ([] : List Snap)) x1.text 0 (⟨#[65, 66, 67, 68, 69, 70, 71, 72, 73, 74, 75, 76, 77, 78, 79, 80, 81, 82, 83, 84, 85, 86, 87, 88, 89, 90, 97, 98, 99, 100, 101, 102, 103, 104, 105, 106, 107, 108, 109, 110, 111, 112, 113, 114, 115, 116, 117, 118, 119, 120, 121, 122, 95, 48, 49, 50, 51, 52, 53, 54, 55, 56, 57]⟩ : ByteArray) (hL18.hFl hp19 (sels [] rfl)) (hL18.into hp19 _) r20 hv21) ?_
     rintro _ w22 ⟨rfl, hM23⟩
     have hL24 := hL18.call hp19 hM23
     refine ⟨_, _, _, rfl, hL24, ?_⟩
     refine wl_v 17 rfl (v_move rfl) (gy 25 rfl rfl) rfl <| wl_v 18 rfl (v_bin rfl rfl rfl) (gy 25 rfl rfl) rfl <| wl_v 19 rfl (v_pick (b := true) rfl rfl) gn rfl <| wl_v 20 rfl (v_assign rfl) gn rfl <| w_end 21 rfl ?_
     refine g_retR [.bool (r20 == (x1.text.size : Int))] rfl Tryd.func75 rfl (.tmp rfl (.nil)) fun wr hLr => ?_
     have hMr := hLr.pk0 (.c 1 rfl .n)
     show trellisref8_Sound_R w F  r (.returned (packV [.bool (r20 == (x1.text.size : Int))])) wr
     rw [h]
     exact ⟨rfl, hMr⟩
   ·have h := if_neg' hp6 h
    refine w_bool 18 rfl ((decide_eq_false hp6)) <| wl_pass 7 rfl (ps 18 rfl rfl rfl) <| wl_pass 8 rfl (ps 18 rfl rfl rfl) <| wl_pass 9 rfl (ps 18 rfl rfl rfl) <| wl_pass 10 rfl (ps 18 rfl rfl rfl) <| wl_pass 11 rfl (ps 18 rfl rfl rfl) <| wl_v 12 rfl (v_pick (b := false) rfl rfl) gn rfl <| wl_v 13 rfl (v_move rfl) gn rfl <| wl_pass 14 rfl (ps 25 rfl rfl rfl) <| wl_pass 15 rfl (ps 25 rfl rfl rfl) <| wl_pass 16 rfl (ps 25 rfl rfl rfl) <| wl_pass 17 rfl (ps 25 rfl rfl rfl) ?_
    refine wl_pass 18 rfl (ps 25 rfl rfl rfl) <| wl_v 19 rfl (v_pick (b := false) rfl rfl) gn rfl <| wl_v 20 rfl (v_assign rfl) gn rfl <| w_end 21 rfl ?_
    refine g_retR [.bool false] rfl Tryd.func75 rfl (.tmp rfl (.nil)) fun wr hLr => ?_
    have hMr := hLr.pk0 (.c 1 rfl .n)
    show trellisref8_Sound_R w F  r (.returned (packV [.bool false])) wr
    rw [h]
    exact ⟨rfl, hMr⟩
  ·have h := if_neg' hp5 h
   refine w_bool 14 rfl ((decide_eq_false hp5)) <| wl_pass 3 rfl (ps 14 rfl rfl rfl) <| wl_pass 4 rfl (ps 14 rfl rfl rfl) <| wl_v 5 rfl (v_pick (b := false) rfl rfl) gn rfl <| wl_v 6 rfl (v_move rfl) gn rfl <| wl_pass 7 rfl (ps 18 rfl rfl rfl) <| wl_pass 8 rfl (ps 18 rfl rfl rfl) <| wl_pass 9 rfl (ps 18 rfl rfl rfl) <| wl_pass 10 rfl (ps 18 rfl rfl rfl) <| wl_pass 11 rfl (ps 18 rfl rfl rfl) <| wl_v 12 rfl (v_pick (b := false) rfl rfl) gn rfl <| wl_v 13 rfl (v_move rfl) gn rfl ?_
   refine wl_pass 14 rfl (ps 25 rfl rfl rfl) <| wl_pass 15 rfl (ps 25 rfl rfl rfl) <| wl_pass 16 rfl (ps 25 rfl rfl rfl) <| wl_pass 17 rfl (ps 25 rfl rfl rfl) <| wl_pass 18 rfl (ps 25 rfl rfl rfl) <| wl_v 19 rfl (v_pick (b := false) rfl rfl) gn rfl <| wl_v 20 rfl (v_assign rfl) gn rfl <| w_end 21 rfl ?_
   refine g_retR [.bool false] rfl Tryd.func75 rfl (.tmp rfl (.nil)) fun wr hLr => ?_
   have hMr := hLr.pk0 (.c 1 rfl .n)
   show trellisref8_Sound_R w F  r (.returned (packV [.bool false])) wr
   rw [h]
   exact ⟨rfl, hMr⟩
 ·have h := if_neg' hp4 h
  refine g_false rfl _ rfl ((nei hp4)) <| g_seq rfl <| g_region rfl rfl <| wl_v 0 rfl (v_bin rfl rfl rfl) gn rfl <| wl_v 1 rfl (v_assign rfl) gn rfl <| w_end 2 rfl ?_
  by_cases hp25 : x1.kind = 2
  ·have h := if_pos' hp25 h
   refine g_true rfl _ rfl ((eqi hp25)) <| g_seq rfl <| g_region rfl rfl <| wl_v 0 rfl (v_assign rfl) gn rfl <| w_end 1 rfl ?_
   refine g_retR [.bool true] rfl Tryd.func75 rfl (.tmp rfl (.nil)) fun wr hLr => ?_
   have hMr := hLr.pk0 (.c 1 rfl .n)
   show trellisref8_Sound_R w F  r (.returned (packV [.bool true])) wr
   rw [h]
   exact ⟨rfl, hMr⟩
  ·have h := if_neg' hp25 h
   refine g_false rfl _ rfl ((nei hp25)) <| g_seq rfl <| g_region rfl rfl <| wl_v 0 rfl (v_bin rfl rfl rfl) gn rfl <| wl_v 1 rfl (v_assign rfl) gn rfl <| w_end 2 rfl ?_
   by_cases hp26 : x1.kind = 3
   ·have h := if_pos' hp26 h
    refine g_true rfl _ rfl ((eqi hp26)) <| g_seq rfl <| g_region rfl rfl <| wl_v 0 rfl (v_fldB fo_84_1 rfl) gn rfl <| wl_v 1 rfl (v_ldB1 0 ld_9 rfl rfl rfl) gn rfl ?_
    obtain ⟨hb27, h⟩ := h
    refine wl_v 2 rfl (v_catS rfl rfl hb27) gn rfl ?_
    obtain ⟨hb28, h⟩ := h
    refine wl_v 3 rfl (v_catS rfl rfl hb28) gn rfl <| wl_v 4 rfl (v_assign rfl) gn rfl <| w_end 5 rfl <| g_seq rfl <| g_region rfl rfl <| wl_v 0 rfl (v_move rfl) gn rfl ?_
    obtain ⟨r32, hv33, h⟩ := h
    refine wl_s 1 rfl (s_call [.string (((⟨#[47]⟩ : ByteArray) ++ x1.text) ++ (⟨#[47]⟩ : ByteArray)), .int .i64 0] rfl Tryd.func97 rfl rfl rfl fun w29 hL30 => ?_) gn
    have hp31 := pmI hL30 .n (.c 0 rfl .n) (by kernel_rfl)
    refine Calls.mono (trellisref8_regex_calls w29 (Fl ([] : List Snap)) (((⟨#[47]⟩ : ByteArray) ++ x1.text) ++ (⟨#[47]⟩ : ByteArray)) 0 (hL30.hFl hp31 (sels [] rfl)) (hL30.into hp31 _) r32 hv33) ?_
    rintro _ w34 ⟨rfl, hM35⟩
    have hL36 := hL30.call hp31 hM35
    refine ⟨_, _, _, rfl, hL36, ?_⟩
    refine wl_v 2 rfl (v_move rfl) gn rfl <| wl_v 3 rfl (v_lenS un_9 rfl) gn rfl <| wl_v 4 rfl (v_bin rfl rfl rfl) gn rfl <| wl_v 5 rfl (v_assign rfl) gn rfl <| w_end 6 rfl ?_
    refine g_retR [.bool (r32 == ((((⟨#[47]⟩ : ByteArray) ++ x1.text) ++ (⟨#[47]⟩ : ByteArray)).size : Int))] rfl Tryd.func75 rfl (.tmp rfl (.nil)) fun wr hLr => ?_
    have hMr := hLr.pk0 (.c 1 rfl .n)
    show trellisref8_Sound_R w F  r (.returned (packV [.bool (r32 == ((((⟨#[47]⟩ : ByteArray) ++ x1.text) ++ (⟨#[47]⟩ : ByteArray)).size : Int))])) wr
    rw [h]
    exact ⟨rfl, hMr⟩
   ·have h := if_neg' hp26 h
    refine g_false rfl _ rfl ((nei hp26)) <| g_seq rfl <| g_region rfl rfl <| wl_v 0 rfl (v_bin rfl rfl rfl) gn rfl <| wl_v 1 rfl (v_assign rfl) gn rfl <| w_end 2 rfl ?_
    by_cases hp37 : x1.kind = 4
    ·have h := if_pos' hp37 h
     refine g_true rfl _ rfl ((eqi hp37)) <| g_seq rfl <| g_region rfl rfl <| wl_v 0 rfl (v_fldB fo_84_2 rfl) gn rfl <| wl_v 1 rfl (v_ldB1 0 ld_3 rfl rfl rfl) gn rfl <| wl_v 2 rfl (v_bin rfl rfl rfl) gn rfl <| wl_v 3 rfl (v_move rfl) gn rfl ?_
     by_cases hp38 : x1.n ≥ 0
     ·have h := if_pos' hp38 h
      refine w_bool 50 rfl ((decide_eq_true hp38)) <| wl_v 4 rfl (v_fldB fo_84_2 rfl) (gy 50 rfl rfl) rfl <| wl_v 5 rfl (v_ldB1 0 ld_3 rfl rfl rfl) (gy 50 rfl rfl) rfl <| wl_v 6 rfl (v_bin rfl rfl rfl) (gy 50 rfl rfl) rfl <| wl_v 7 rfl (v_pick (b := true) rfl rfl) gn rfl <| wl_v 8 rfl (v_assign rfl) gn rfl <| w_end 9 rfl ?_
      refine g_retR [.bool (decide (x1.n ≤ 65535))] rfl Tryd.func75 rfl (.tmp rfl (.nil)) fun wr hLr => ?_
      have hMr := hLr.pk0 (.c 1 rfl .n)
      show trellisref8_Sound_R w F  r (.returned (packV [.bool (decide (x1.n ≤ 65535))])) wr
      rw [h]
      exact ⟨rfl, hMr⟩
     ·have h := if_neg' hp38 h
      refine w_bool 50 rfl ((decide_eq_false hp38)) <| wl_pass 4 rfl (ps 50 rfl rfl rfl) <| wl_pass 5 rfl (ps 50 rfl rfl rfl) <| wl_pass 6 rfl (ps 50 rfl rfl rfl) <| wl_v 7 rfl (v_pick (b := false) rfl rfl) gn rfl <| wl_v 8 rfl (v_assign rfl) gn rfl <| w_end 9 rfl ?_
      refine g_retR [.bool false] rfl Tryd.func75 rfl (.tmp rfl (.nil)) fun wr hLr => ?_
      have hMr := hLr.pk0 (.c 1 rfl .n)
      show trellisref8_Sound_R w F  r (.returned (packV [.bool false])) wr
      rw [h]
      exact ⟨rfl, hMr⟩
    ·have h := if_neg' hp37 h
     refine g_false rfl _ rfl ((nei hp37)) <| g_seq rfl <| g_region rfl rfl <| wl_v 0 rfl (v_bin rfl rfl rfl) gn rfl <| wl_v 1 rfl (v_assign rfl) gn rfl <| w_end 2 rfl ?_
     by_cases hp39 : x1.kind = 5
     ·have h := if_pos' hp39 h
      refine g_true rfl _ rfl ((eqi hp39)) <| g_seq rfl <| g_region rfl rfl <| wl_v 0 rfl (v_fldB fo_84_1 rfl) gn rfl <| wl_v 1 rfl (v_ldB1 0 ld_9 rfl rfl rfl) gn rfl <| wl_v 2 rfl (v_lenS un_9 rfl) gn rfl <| wl_v 3 rfl (v_bin rfl rfl rfl) gn rfl <| wl_v 4 rfl (v_move rfl) gn rfl ?_
      by_cases hp40 : (x1.text.size : Int) = 1
      ·have h := if_pos' hp40 h
       refine w_bool 61 rfl ((eqi hp40)) <| wl_v 5 rfl (v_fldB fo_84_1 rfl) (gy 61 rfl rfl) rfl <| wl_v 6 rfl (v_ldB1 0 ld_9 rfl rfl rfl) (gy 61 rfl rfl) rfl ?_
       obtain ⟨hb41, h⟩ := h
       refine wl_v 7 rfl (v_indexS un_9 rfl rfl hb41) (gy 61 rfl rfl) rfl ?_
       obtain ⟨r45, hv46, h⟩ := h
       refine wl_s 8 rfl (s_call [.string (⟨#[123, 125, 40, 41, 124, 42, 43, 63, 58, 59, 44, 61, 64]⟩ : ByteArray), .int .u8 (bt x1.text 0)] rfl Tryd.func95 rfl rfl rfl fun w42 hL43 => ?_) (gy 61 rfl rfl)
       have hp44 := pmI hL43 .n (.c 0 rfl .n) (by kernel_rfl)
       refine Calls.mono (trellisref8_in_calls w42 (Fl ([] : List Snap)) (⟨#[123, 125, 40, 41, 124, 42, 43, 63, 58, 59, 44, 61, 64]⟩ : ByteArray) (bt x1.text 0) (hL43.hFl hp44 (sels [] rfl)) (hL43.into hp44 _) r45 hv46) ?_
       rintro _ w47 ⟨rfl, hM48⟩
       have hL49 := hL43.call hp44 hM48
       refine ⟨_, _, _, rfl, hL49, ?_⟩
       refine wl_v 9 rfl (v_pick (b := true) rfl rfl) gn rfl <| wl_v 10 rfl (v_assign rfl) gn rfl <| w_end 11 rfl ?_
       refine g_retR [.bool r45] rfl Tryd.func75 rfl (.tmp rfl (.nil)) fun wr hLr => ?_
       have hMr := hLr.pk0 (.c 1 rfl .n)
       show trellisref8_Sound_R w F  r (.returned (packV [.bool r45])) wr
       rw [h]
       exact ⟨rfl, hMr⟩
      ·have h := if_neg' hp40 h
       refine w_bool 61 rfl ((nei hp40)) <| wl_pass 5 rfl (ps 61 rfl rfl rfl) <| wl_pass 6 rfl (ps 61 rfl rfl rfl) <| wl_pass 7 rfl (ps 61 rfl rfl rfl) <| wl_pass 8 rfl (ps 61 rfl rfl rfl) <| wl_v 9 rfl (v_pick (b := false) rfl rfl) gn rfl <| wl_v 10 rfl (v_assign rfl) gn rfl <| w_end 11 rfl ?_
       refine g_retR [.bool false] rfl Tryd.func75 rfl (.tmp rfl (.nil)) fun wr hLr => ?_
       have hMr := hLr.pk0 (.c 1 rfl .n)
       show trellisref8_Sound_R w F  r (.returned (packV [.bool false])) wr
       rw [h]
       exact ⟨rfl, hMr⟩
     ·have h := if_neg' hp39 h
      refine g_false rfl _ rfl ((nei hp39)) <| g_skip rfl <| g_inBlock <| g_seq rfl <| g_region rfl rfl <| wl_v 0 rfl (v_assign rfl) gn rfl <| w_end 1 rfl ?_
      refine g_retR [.bool false] rfl Tryd.func75 rfl (.tmp rfl (.nil)) fun wr hLr => ?_
      have hMr := hLr.pk0 (.c 1 rfl .n)
      show trellisref8_Sound_R w F  r (.returned (packV [.bool false])) wr
      rw [h]
      exact ⟨rfl, hMr⟩
abbrev trellisref20_isName_R (w : World) (F : Nat → Prop) (r : Bool) : Ending → World → Prop := fun e w' => e = .returned (.bool r) ∧ B.Loc w w' [] [St w []]
noncomputable abbrev trellisref20_isName_C (w : World) (F : Nat → Prop) (r : Bool) : Cx := ⟨Tryd.prog, 52, Tryd.f52, 10, trellisref20_isName_R w F  r, w⟩
theorem trellisref20_isName_calls (w : World) (F : Nat → Prop) (x1 : ByteArray) (hF : ∀ b, F b → b < w.heap.size ∧ ∀ o ∈ ([] : List (List Nat)), b ∉ o) (hL0 : B.Loc w w [] [Sm w.heap.size F w [], St w []]) (r : Bool) (h : trellisref20_isName x1 r) : Calls Tryd.prog 52 #[.string x1] w (trellisref20_isName_R w F  r) := by
 unfold trellisref20_isName at h
 refine calls_of_Loc (vs := [.string x1]) 10 Tryd.func52 rfl Tryd.ntmps52 rfl hL0 ?_
 show G (trellisref20_isName_C w F r) _ _ _ _
 refine g_seq rfl <| g_region rfl rfl <| wl_v 0 rfl (v_assign rfl) gn rfl <| w_end 1 rfl <| g_seq rfl <| g_region rfl rfl <| wl_v 0 rfl (v_move rfl) gn rfl <| wl_v 1 rfl (v_neS rfl rfl) gn rfl <| wl_v 2 rfl (v_move rfl) gn rfl ?_
 by_cases hp2 : x1 = (⟨#[95]⟩ : ByteArray)
 ·have h := if_pos' hp2 h
  refine w_bool 5 rfl ((nf (seq_t hp2))) <| wl_pass 3 rfl (ps 5 rfl rfl rfl) <| wl_pass 4 rfl (ps 5 rfl rfl rfl) <| wl_pass 5 rfl (ps 5 rfl rfl rfl) <| wl_v 6 rfl (v_pick (b := false) rfl rfl) gn rfl <| wl_v 7 rfl (v_assign rfl) gn rfl <| w_end 8 rfl ?_
  refine g_retR [.bool false] rfl Tryd.func52 rfl (.tmp rfl (.nil)) fun wr hLr => ?_
  have hMr := hLr.pk0 (.c 1 rfl .n)
  show trellisref20_isName_R w F  r (.returned (packV [.bool false])) wr
  rw [h]
  exact ⟨rfl, hMr⟩
 ·have h := if_neg' hp2 h
  refine w_bool 5 rfl ((nt (seq_f hp2))) <| wl_v 3 rfl (v_move rfl) (gy 5 rfl rfl) rfl <| wl_v 4 rfl (v_build #[.int .i64 1, .string x1, .int .i64 0, .int .i64 0] bd_84 rfl (by kernel_rfl)) (gy 5 rfl rfl) rfl ?_
  obtain ⟨r6, hv7, h⟩ := h
  refine wl_s 5 rfl (s_call [.agg #[.int .i64 1, .string x1, .int .i64 0, .int .i64 0]] rfl Tryd.func75 rfl rfl rfl fun w3 hL4 => ?_) (gy 5 rfl rfl)
  have hp5 := pmI hL4 .n .n (by kernel_rfl)
  refine Calls.mono (trellisref8_Sound_calls w3 (Fl ([] : List Snap)) (⟨1, x1, 0, 0⟩ : api_Word) (hL4.hFl hp5 (sels [] rfl)) (hL4.into hp5 _) r6 hv7) ?_
  rintro _ w8 ⟨rfl, hM9⟩
  have hL10 := hL4.call hp5 hM9
  refine ⟨_, _, _, rfl, hL10, ?_⟩
  refine wl_v 6 rfl (v_pick (b := true) rfl rfl) gn rfl <| wl_v 7 rfl (v_assign rfl) gn rfl <| w_end 8 rfl ?_
  refine g_retR [.bool r6] rfl Tryd.func52 rfl (.tmp rfl (.nil)) fun wr hLr => ?_
  have hMr := hLr.pk0 (.c 1 rfl .n)
  show trellisref20_isName_R w F  r (.returned (packV [.bool r6])) wr
  rw [h]
  exact ⟨rfl, hMr⟩
noncomputable abbrev q53c4 := Code.snd (Code.snd (bodyOf Tryd.f53))
noncomputable abbrev q53c8 := Code.fst (Code.fst (Code.snd (Code.fst (Code.snd (bodyOf Tryd.f53)))))
abbrev trellisref20_Node_R (w : World) (F : Nat → Prop) (r : Int) : Ending → World → Prop := fun e w' => e = .returned (.int .i64 r) ∧ B.Loc w w' [] [St w []]
noncomputable abbrev trellisref20_Node_C (w : World) (F : Nat → Prop) (r : Int) : Cx := ⟨Tryd.prog, 53, Tryd.f53, 26, trellisref20_Node_R w F  r, w⟩
theorem trellisref20_Node_calls (w : World) (F : Nat → Prop) (x1 : api_Query) (x10 : ByteArray) (A2 : Option Addr) (n3 : Nat) (c4 : Nat) (A6 : Option Addr) (n7 : Nat) (c8 : Nat) (h5 : Rw k_api_PatNode w (St w []).av A2 n3 c4 x1.nodes) (h9 : Rw k_api_Cond w (St w []).av A6 n7 c8 x1.conds) (hF : ∀ b, F b → b < w.heap.size ∧ ∀ o ∈ ([] : List (List Nat)), b ∉ o) (hL0 : B.Loc w w [] [Sm w.heap.size F w [], St w []]) (r : Int) (h : trellisref20_Node x1 x10 r) : Calls Tryd.prog 53 #[.agg #[.slice A2 n3 c4, .slice A6 n7 c8], .string x10] w (trellisref20_Node_R w F  r) := by
 unfold trellisref20_Node at h
 refine calls_of_Loc (vs := [.agg #[.slice A2 n3 c4, .slice A6 n7 c8], .string x10]) 26 Tryd.func53 rfl Tryd.ntmps53 rfl hL0 ?_
 show G (trellisref20_Node_C w F r) _ _ _ _
 refine g_seq rfl <| g_region rfl rfl ?_
 refine wl_s 0 rfl (s_box [.slice A2 n3 c4, .slice A6 n7 c8] rfl rfl rfl fun gb11 => ?_) gn
 refine wl_v 1 rfl (v_assign rfl) gn rfl <| w_end 2 rfl <| g_seq rfl <| g_seq rfl <| g_region rfl rfl <| wl_v 0 rfl (v_assign rfl) gn rfl <| w_end 1 rfl <| g_block rfl <| g_loop rfl ?_
 have key1 : ∀ s, Rounds (fun (s : Int) o => trellisref20_Node_b1 x1 x10 s o) s r → (fun (s : Int) => ∀ (_ : Unit), G (trellisref20_Node_C w F r) [.code q53c8, .inLoop q53c8, .inBlock 0, .code q53c4] [(1, .string x10), (2, .pointer (some ⟨gb11, 0, none⟩)), (5, .int .i64 s)] [.box gb11 25 [.slice A2 n3 c4, .slice A6 n7 c8]] [Sm w.heap.size F w [], St w []]) s := by
  intro s hs
  refine Rounds.ind (mot := (fun (s : Int) => ∀ (_ : Unit), G (trellisref20_Node_C w F r) [.code q53c8, .inLoop q53c8, .inBlock 0, .code q53c4] [(1, .string x10), (2, .pointer (some ⟨gb11, 0, none⟩)), (5, .int .i64 s)] [.box gb11 25 [.slice A2 n3 c4, .slice A6 n7 c8]] [Sm w.heap.size F w [], St w []])) ?_ hs
  clear hs s
  intro x19 o1 h hO1
  show ∀ (_ : Unit), G (trellisref20_Node_C w F r) [.code q53c8, .inLoop q53c8, .inBlock 0, .code q53c4] [(1, .string x10), (2, .pointer (some ⟨gb11, 0, none⟩)), (5, .int .i64 x19)] [.box gb11 25 [.slice A2 n3 c4, .slice A6 n7 c8]] [Sm w.heap.size F w [], St w []]
  intro _
  have h : trellisref20_Node_b1 x1 x10 x19 o1 := h
  unfold trellisref20_Node_b1 at h
  refine g_seq rfl <| g_seq rfl <| g_region rfl rfl <| wl_v 0 rfl (v_move rfl) gn rfl <| wl_v 1 rfl (v_fldB fo_25_0 rfl) gn rfl <| wl_v 2 rfl (v_ldB1 0 ld_22 rfl rfl rfl) gn rfl <| wl_v 3 rfl (v_lenQ un_22 rfl h5.hq) gn rfl <| wl_v 4 rfl (v_bin rfl rfl rfl) gn rfl <| w_end 5 rfl ?_
  by_cases hp25 : x19 < (x1.nodes.length : Int)
  ·have h := if_pos' hp25 h
   refine g_true rfl _ rfl ((decide_eq_true hp25)) <| g_skip rfl <| g_seq rfl <| g_block rfl <| g_seq rfl <| g_region rfl rfl <| wl_v 0 rfl (v_move rfl) gn rfl <| wl_v 1 rfl (v_neS rfl rfl) gn rfl <| wl_v 2 rfl (v_move rfl) gn rfl ?_
   by_cases hp26 : x10 = (⟨#[]⟩ : ByteArray)
   ·have h := if_pos' hp26 h
    refine w_bool 15 rfl ((nf (seq_t hp26))) <| wl_pass 3 rfl (ps 15 rfl rfl rfl) <| wl_pass 4 rfl (ps 15 rfl rfl rfl) <| wl_pass 5 rfl (ps 15 rfl rfl rfl) <| wl_pass 6 rfl (ps 15 rfl rfl rfl) <| wl_pass 7 rfl (ps 15 rfl rfl rfl) <| wl_pass 8 rfl (ps 15 rfl rfl rfl) <| wl_pass 9 rfl (ps 15 rfl rfl rfl) <| wl_pass 10 rfl (ps 15 rfl rfl rfl) <| wl_v 11 rfl (v_pick (b := false) rfl rfl) gn rfl <| w_end 12 rfl <| g_false rfl _ rfl (rfl) ?_
    refine g_skip rfl <| g_inBlock <| g_region rfl rfl <| wl_v 0 rfl (v_move rfl) gn rfl <| wl_v 1 rfl (v_bin rfl rfl rfl) gn rfl <| wl_v 2 rfl (v_assign rfl) gn rfl <| w_end 3 rfl <| g_inLoop ?_
    have ih := Out.inl hO1 h
    exact g_go [0, 1] (ih ()) ⟨rfl, rfl, rfl, trivial⟩ (.cons_cons _ (.slnil)) rfl
   ·have h := if_neg' hp26 h
    refine w_bool 15 rfl ((nt (seq_f hp26))) <| wl_v 3 rfl (v_fldB fo_25_0 rfl) (gy 15 rfl rfl) rfl <| wl_v 4 rfl (v_ldB1 0 ld_22 rfl rfl rfl) (gy 15 rfl rfl) rfl <| wl_v 5 rfl (v_move rfl) (gy 15 rfl rfl) rfl ?_
    obtain ⟨hb27, h⟩ := h
    have hr28 := Rw.readF (s := St w []) (hl := hl_api_PatNode) (h1 := h1_api_PatNode) h5 hb27
    refine wl_v 6 rfl (v_idxR (s := St w []) slE_22 rfl rfl h5 hb27) (gy 15 rfl rfl) rfl <| wl_v 7 rfl (v_fldA fo_45_3 rfl) (gy 15 rfl rfl) rfl <| wl_v 8 rfl (v_ldA1 (kk := (x19 : Int).toNat * 5) (j := 3) (St w []) ld_9 rfl hr28 rfl (me 1 rfl)) (gy 15 rfl rfl) rfl <| wl_v 9 rfl (v_move rfl) (gy 15 rfl rfl) rfl <| wl_v 10 rfl (v_eqS rfl rfl) (gy 15 rfl rfl) rfl <| wl_v 11 rfl (v_pick (b := true) rfl rfl) gn rfl <| w_end 12 rfl ?_
    by_cases hp29 : (ix x1.nodes x19).capture = x10
    ·have h := if_pos' hp29 h
     refine g_true rfl _ rfl ((seq_t hp29)) <| g_seq rfl <| g_region rfl rfl <| wl_v 0 rfl (v_move rfl) gn rfl <| wl_v 1 rfl (v_assign rfl) gn rfl <| w_end 2 rfl ?_
     have h := Out.inr hO1 h
     refine g_retR [.int .i64 x19] rfl Tryd.func53 rfl (.tmp rfl (.nil)) fun wr hLr => ?_
     have hMr := hLr.pk0 (.c 1 rfl .n)
     show trellisref20_Node_R w F  r (.returned (packV [.int .i64 x19])) wr
     rw [h]
     exact ⟨rfl, hMr⟩
    ·have h := if_neg' hp29 h
     refine g_false rfl _ rfl ((seq_f hp29)) <| g_skip rfl <| g_inBlock <| g_region rfl rfl <| wl_v 0 rfl (v_move rfl) gn rfl <| wl_v 1 rfl (v_bin rfl rfl rfl) gn rfl <| wl_v 2 rfl (v_assign rfl) gn rfl <| w_end 3 rfl <| g_inLoop ?_
     have ih := Out.inl hO1 h
     exact g_go [0, 1] (ih ()) ⟨rfl, rfl, rfl, trivial⟩ (.cons_cons _ (.slnil)) rfl
  ·have h := if_neg' hp25 h
   refine g_false rfl _ rfl ((decide_eq_false hp25)) <| g_exit [.code q53c4] rfl rfl <| g_seq rfl <| g_region rfl rfl <| wl_v 0 rfl (v_assign rfl) gn rfl <| w_end 1 rfl ?_
   have h := Out.inr hO1 h
   refine g_retR [.int .i64 (-1)] rfl Tryd.func53 rfl (.tmp rfl (.nil)) fun wr hLr => ?_
   have hMr := hLr.pk0 (.c 1 rfl .n)
   show trellisref20_Node_R w F  r (.returned (packV [.int .i64 (-1)])) wr
   rw [h]
   exact ⟨rfl, hMr⟩
 exact g_go [0, 1] (key1 _ h ()) ⟨rfl, rfl, rfl, trivial⟩ (.cons_cons _ (.slnil)) rfl
noncomputable abbrev q23c4 := Code.snd (Code.snd (bodyOf Tryd.f23))
noncomputable abbrev q23c5 := Code.fst (Code.fst (Code.snd (bodyOf Tryd.f23)))
noncomputable abbrev q23c6 := Code.snd (Code.fst (Code.snd (bodyOf Tryd.f23)))
noncomputable abbrev q23c12 := Code.snd q23c4
noncomputable abbrev q23c16 := Code.fst (Code.fst (Code.snd (Code.fst q23c4)))
noncomputable abbrev q23c24 := Code.snd (Code.snd q23c16)
noncomputable abbrev q23c29 := Code.snd (Code.snd (Code.fst (Code.fst (Code.snd q23c16))))
noncomputable abbrev q23c31 := Code.snd (Code.fst (Code.snd (Code.fst (Code.fst (Code.snd q23c16)))))
noncomputable abbrev q23c37 := Code.snd q23c29
noncomputable abbrev q23c39 := Code.snd (Code.fst q23c29)
noncomputable abbrev q23c45 := Code.snd q23c37
noncomputable abbrev q23c47 := Code.snd (Code.fst q23c37)
noncomputable abbrev q23c59 := Code.snd q23c12
noncomputable abbrev q23c63 := Code.fst (Code.fst (Code.snd (Code.fst q23c12)))
abbrev trellisref20_Shaped_R (w : World) (F : Nat → Prop) (r : Bool) : Ending → World → Prop := fun e w' => e = .returned (.bool r) ∧ B.Loc w w' [] [St w []]
noncomputable abbrev trellisref20_Shaped_C (w : World) (F : Nat → Prop) (r : Bool) : Cx := ⟨Tryd.prog, 23, Tryd.f23, 124, trellisref20_Shaped_R w F  r, w⟩
theorem trellisref20_Shaped_calls (w : World) (F : Nat → Prop) (x1 : api_Query) (A2 : Option Addr) (n3 : Nat) (c4 : Nat) (A6 : Option Addr) (n7 : Nat) (c8 : Nat) (h5 : Rw k_api_PatNode w (St w []).av A2 n3 c4 x1.nodes) (h9 : Rw k_api_Cond w (St w []).av A6 n7 c8 x1.conds) (hF : ∀ b, F b → b < w.heap.size ∧ ∀ o ∈ ([] : List (List Nat)), b ∉ o) (hL0 : B.Loc w w [] [Sm w.heap.size F w [], St w []]) (r : Bool) (h : trellisref20_Shaped x1 r) : Calls Tryd.prog 23 #[.agg #[.slice A2 n3 c4, .slice A6 n7 c8]] w (trellisref20_Shaped_R w F  r) := by
 unfold trellisref20_Shaped at h
 refine calls_of_Loc (vs := [.agg #[.slice A2 n3 c4, .slice A6 n7 c8]]) 124 Tryd.func23 rfl Tryd.ntmps23 rfl hL0 ?_
 show G (trellisref20_Shaped_C w F r) _ _ _ _
 refine g_seq rfl <| g_region rfl rfl ?_
 refine wl_s 0 rfl (s_box [.slice A2 n3 c4, .slice A6 n7 c8] rfl rfl rfl fun gb10 => ?_) gn
 refine wl_v 1 rfl (v_assign rfl) gn rfl <| w_end 2 rfl <| g_seq rfl <| g_seq rfl ?_
 have j1 : ∀ (x84 : Bool) (h : trellisref20_Shaped_j1 x1 x84 r) , G (trellisref20_Shaped_C w F r) [.code q23c6, .code q23c4] [(1, .pointer (some ⟨gb10, 0, none⟩)), (25, .bool x84)] [.box gb10 25 [.slice A2 n3 c4, .slice A6 n7 c8]] [Sm w.heap.size F w [], St w []] := by
  intro x84 h
  unfold trellisref20_Shaped_j1 at h
  by_cases hp85 : x84 = true
  ·have h := if_pos' hp85 h
   refine g_true rfl _ rfl (hp85) <| g_seq rfl <| g_region rfl rfl <| wl_v 0 rfl (v_assign rfl) gn rfl <| w_end 1 rfl ?_
   refine g_retR [.bool false] rfl Tryd.func23 rfl (.tmp rfl (.nil)) fun wr hLr => ?_
   have hMr := hLr.pk0 (.c 1 rfl .n)
   show trellisref20_Shaped_R w F  r (.returned (packV [.bool false])) wr
   rw [h]
   exact ⟨rfl, hMr⟩
  ·have h := if_neg' hp85 h
   refine g_false rfl _ rfl ((bf hp85)) <| g_skip rfl <| g_seq rfl <| g_seq rfl <| g_region rfl rfl <| wl_v 0 rfl (v_assign rfl) gn rfl <| w_end 1 rfl <| g_block rfl <| g_loop rfl ?_
   have key2 : ∀ s, Rounds (fun (s : Int) o => trellisref20_Shaped_b2 x1 s o) s r → (fun (s : Int) => ∀ (_ : Unit), G (trellisref20_Shaped_C w F r) [.code q23c16, .inLoop q23c16, .inBlock 0, .code q23c12] [(1, .pointer (some ⟨gb10, 0, none⟩)), (3, .int .i64 s)] [.box gb10 25 [.slice A2 n3 c4, .slice A6 n7 c8]] [Sm w.heap.size F w [], St w []]) s := by
    intro s hs
    refine Rounds.ind (mot := (fun (s : Int) => ∀ (_ : Unit), G (trellisref20_Shaped_C w F r) [.code q23c16, .inLoop q23c16, .inBlock 0, .code q23c12] [(1, .pointer (some ⟨gb10, 0, none⟩)), (3, .int .i64 s)] [.box gb10 25 [.slice A2 n3 c4, .slice A6 n7 c8]] [Sm w.heap.size F w [], St w []])) ?_ hs
    clear hs s
    intro x239 o1 h hO1
    show ∀ (_ : Unit), G (trellisref20_Shaped_C w F r) [.code q23c16, .inLoop q23c16, .inBlock 0, .code q23c12] [(1, .pointer (some ⟨gb10, 0, none⟩)), (3, .int .i64 x239)] [.box gb10 25 [.slice A2 n3 c4, .slice A6 n7 c8]] [Sm w.heap.size F w [], St w []]
    intro _
    have h : trellisref20_Shaped_b2 x1 x239 o1 := h
    unfold trellisref20_Shaped_b2 at h
    refine g_seq rfl <| g_seq rfl <| g_region rfl rfl <| wl_v 0 rfl (v_move rfl) gn rfl <| wl_v 1 rfl (v_fldB fo_25_0 rfl) gn rfl <| wl_v 2 rfl (v_ldB1 0 ld_22 rfl rfl rfl) gn rfl <| wl_v 3 rfl (v_lenQ un_22 rfl h5.hq) gn rfl <| wl_v 4 rfl (v_bin rfl rfl rfl) gn rfl <| w_end 5 rfl ?_
    by_cases hp392 : x239 < (x1.nodes.length : Int)
    ·have h := if_pos' hp392 h
     refine g_true rfl _ rfl ((decide_eq_true hp392)) <| g_skip rfl <| g_seq rfl <| g_block rfl <| g_seq rfl <| g_region rfl rfl <| wl_v 0 rfl (v_fldB fo_25_0 rfl) gn rfl <| wl_v 1 rfl (v_ldB1 0 ld_22 rfl rfl rfl) gn rfl <| wl_v 2 rfl (v_move rfl) gn rfl ?_
     obtain ⟨hb393, h⟩ := h
     have hr394 := Rw.readF (s := St w []) (hl := hl_api_PatNode) (h1 := h1_api_PatNode) h5 hb393
     refine wl_v 3 rfl (v_idxR (s := St w []) slE_22 rfl rfl h5 hb393) gn rfl <| wl_v 4 rfl (v_ldA (St w []) ld_45 rfl hr394 rfl (me 1 rfl)) gn rfl ?_
     refine wl_s 5 rfl (s_alloc [.string (⟨#[]⟩ : ByteArray), .bool false, .string (⟨#[]⟩ : ByteArray), .string (⟨#[]⟩ : ByteArray), .int .i64 0] zr_45 rfl fun gb395 => ?_) gn
     refine wl_s 6 rfl (s_stB (vs := [.string ((ix x1.nodes x239).name), .bool ((ix x1.nodes x239).lit), .string ((ix x1.nodes x239).field), .string ((ix x1.nodes x239).capture), .int .i64 ((ix x1.nodes x239).kids)]) (cs' := [.string ((ix x1.nodes x239).name), .bool ((ix x1.nodes x239).lit), .string ((ix x1.nodes x239).field), .string ((ix x1.nodes x239).capture), .int .i64 ((ix x1.nodes x239).kids)]) (M' := [.box gb395 45 [.string ((ix x1.nodes x239).name), .bool ((ix x1.nodes x239).lit), .string ((ix x1.nodes x239).field), .string ((ix x1.nodes x239).capture), .int .i64 ((ix x1.nodes x239).kids)], .box gb10 25 [.slice A2 n3 c4, .slice A6 n7 c8]]) 0 sz_45 rfl rfl rfl rfl rfl rfl rfl rfl rfl ?_) gn
     refine w_end 7 rfl <| g_seq rfl <| g_seq rfl ?_
     have j3 : ∀ (x400 : Bool) (h : trellisref20_Shaped_j3 x1 x239 x400 o1) , G (trellisref20_Shaped_C w F r) [.code q23c31, .code q23c29, .inBlock 1, .code q23c24, .inLoop q23c16, .inBlock 0, .code q23c12] [(1, .pointer (some ⟨gb10, 0, none⟩)), (3, .int .i64 x239), (4, .pointer (some ⟨gb395, 0, none⟩)), (49, .bool x400)] [.box gb395 45 [.string ((ix x1.nodes x239).name), .bool ((ix x1.nodes x239).lit), .string ((ix x1.nodes x239).field), .string ((ix x1.nodes x239).capture), .int .i64 ((ix x1.nodes x239).kids)], .box gb10 25 [.slice A2 n3 c4, .slice A6 n7 c8]] [Sm w.heap.size F w [], St w []] := by
      intro x400 h
      unfold trellisref20_Shaped_j3 at h
      by_cases hp401 : x400 = true
      ·have h := if_pos' hp401 h
       refine g_true rfl _ rfl (hp401) <| g_seq rfl <| g_region rfl rfl <| wl_v 0 rfl (v_assign rfl) gn rfl <| w_end 1 rfl ?_
       have h := Out.inr hO1 h
       refine g_retR [.bool false] rfl Tryd.func23 rfl (.tmp rfl (.nil)) fun wr hLr => ?_
       have hMr := hLr.pk0 (.c 1 rfl .n)
       show trellisref20_Shaped_R w F  r (.returned (packV [.bool false])) wr
       rw [h]
       exact ⟨rfl, hMr⟩
      ·have h := if_neg' hp401 h
       refine g_false rfl _ rfl ((bf hp401)) <| g_skip rfl <| g_seq rfl <| g_seq rfl ?_
       have j4 : ∀ (x413 : Bool) (h : trellisref20_Shaped_j4 x1 x239 x413 o1) , G (trellisref20_Shaped_C w F r) [.code q23c39, .code q23c37, .inBlock 1, .code q23c24, .inLoop q23c16, .inBlock 0, .code q23c12] [(1, .pointer (some ⟨gb10, 0, none⟩)), (3, .int .i64 x239), (4, .pointer (some ⟨gb395, 0, none⟩)), (63, .bool x413)] [.box gb395 45 [.string ((ix x1.nodes x239).name), .bool ((ix x1.nodes x239).lit), .string ((ix x1.nodes x239).field), .string ((ix x1.nodes x239).capture), .int .i64 ((ix x1.nodes x239).kids)], .box gb10 25 [.slice A2 n3 c4, .slice A6 n7 c8]] [Sm w.heap.size F w [], St w []] := by
        intro x413 h
        unfold trellisref20_Shaped_j4 at h
        by_cases hp414 : x413 = true
        ·have h := if_pos' hp414 h
         refine g_true rfl _ rfl (hp414) <| g_seq rfl <| g_region rfl rfl <| wl_v 0 rfl (v_assign rfl) gn rfl <| w_end 1 rfl ?_
         have h := Out.inr hO1 h
         refine g_retR [.bool false] rfl Tryd.func23 rfl (.tmp rfl (.nil)) fun wr hLr => ?_
         have hMr := hLr.pk0 (.c 1 rfl .n)
         show trellisref20_Shaped_R w F  r (.returned (packV [.bool false])) wr
         rw [h]
         exact ⟨rfl, hMr⟩
        ·have h := if_neg' hp414 h
         refine g_false rfl _ rfl ((bf hp414)) <| g_skip rfl <| g_seq rfl <| g_seq rfl ?_
         have j5 : ∀ (x425 : Bool) (h : trellisref20_Shaped_j5 x1 x239 x425 o1) , G (trellisref20_Shaped_C w F r) [.code q23c47, .code q23c45, .inBlock 1, .code q23c24, .inLoop q23c16, .inBlock 0, .code q23c12] [(1, .pointer (some ⟨gb10, 0, none⟩)), (3, .int .i64 x239), (4, .pointer (some ⟨gb395, 0, none⟩)), (72, .bool x425)] [.box gb395 45 [.string ((ix x1.nodes x239).name), .bool ((ix x1.nodes x239).lit), .string ((ix x1.nodes x239).field), .string ((ix x1.nodes x239).capture), .int .i64 ((ix x1.nodes x239).kids)], .box gb10 25 [.slice A2 n3 c4, .slice A6 n7 c8]] [Sm w.heap.size F w [], St w []] := by
          intro x425 h
          unfold trellisref20_Shaped_j5 at h
          by_cases hp426 : x425 = true
          ·have h := if_pos' hp426 h
           refine g_true rfl _ rfl (hp426) <| g_seq rfl <| g_region rfl rfl <| wl_v 0 rfl (v_assign rfl) gn rfl <| w_end 1 rfl ?_
           have h := Out.inr hO1 h
           refine g_retR [.bool false] rfl Tryd.func23 rfl (.tmp rfl (.nil)) fun wr hLr => ?_
           have hMr := hLr.pk0 (.c 1 rfl .n)
           show trellisref20_Shaped_R w F  r (.returned (packV [.bool false])) wr
           rw [h]
           exact ⟨rfl, hMr⟩
          ·have h := if_neg' hp426 h
           refine g_false rfl _ rfl ((bf hp426)) <| g_skip rfl <| g_seq rfl <| g_region rfl rfl <| wl_v 0 rfl (v_fldB fo_45_3 rfl) gn rfl <| wl_v 1 rfl (v_ldB1 0 ld_9 rfl rfl rfl) gn rfl <| wl_v 2 rfl (v_neS rfl rfl) gn rfl <| wl_v 3 rfl (v_move rfl) gn rfl ?_
           by_cases hp427 : (ix x1.nodes x239).capture = (⟨#[]⟩ : ByteArray)
           ·have h := if_pos' hp427 h
            refine w_bool 76 rfl ((nf (seq_t hp427))) <| wl_pass 4 rfl (ps 76 rfl rfl rfl) <| wl_pass 5 rfl (ps 76 rfl rfl rfl) <| wl_pass 6 rfl (ps 76 rfl rfl rfl) <| wl_pass 7 rfl (ps 76 rfl rfl rfl) <| wl_pass 8 rfl (ps 76 rfl rfl rfl) <| wl_pass 9 rfl (pu 81 rfl rfl) <| wl_pass 10 rfl (pu 81 rfl rfl) <| wl_pass 11 rfl (pu 81 rfl rfl) <| wl_pass 12 rfl (pu 81 rfl rfl) <| wl_pass 13 rfl (pu 81 rfl rfl) <| wl_pass 14 rfl (pu 81 rfl rfl) ?_
            refine wl_pass 15 rfl (ps 76 rfl rfl rfl) <| wl_v 16 rfl (v_pick (b := false) rfl rfl) gn rfl <| w_end 17 rfl <| g_false rfl _ rfl (rfl) <| g_skip rfl <| g_inBlock <| g_region rfl rfl <| wl_v 0 rfl (v_move rfl) gn rfl <| wl_v 1 rfl (v_bin rfl rfl rfl) gn rfl <| wl_v 2 rfl (v_assign rfl) gn rfl <| w_end 3 rfl <| g_inLoop ?_
            have ih := Out.inl hO1 h
            exact g_go [0, 1] (ih ()) ⟨rfl, rfl, trivial⟩ (.cons _ (.cons_cons _ (.slnil))) rfl
           ·have h := if_neg' hp427 h
            refine w_bool 76 rfl ((nt (seq_f hp427))) <| wl_v 4 rfl (v_fldB fo_45_3 rfl) (gy 76 rfl rfl) rfl <| wl_v 5 rfl (v_ldB1 0 ld_9 rfl rfl rfl) (gy 76 rfl rfl) rfl ?_
            obtain ⟨r431, hv432, h⟩ := h
            refine wl_s 6 rfl (s_call [.string ((ix x1.nodes x239).capture)] rfl Tryd.func52 rfl rfl rfl fun w428 hL429 => ?_) (gy 76 rfl rfl)
            have hp430 := pmI hL429 .n (.c 0 rfl (.c 1 rfl .n)) (by kernel_rfl)
            refine Calls.mono (trellisref20_isName_calls w428 (Fl ([] : List Snap)) ((ix x1.nodes x239).capture) (hL429.hFl hp430 (sels [] rfl)) (hL429.into hp430 _) r431 hv432) ?_
            rintro _ w433 ⟨rfl, hM434⟩
            have hL435 := hL429.call hp430 hM434
            refine ⟨_, _, _, rfl, hL435, ?_⟩
            refine wl_v 7 rfl (v_not rfl) (gy 76 rfl rfl) rfl <| wl_v 8 rfl (v_move rfl) (gy 76 rfl rfl) rfl ?_
            by_cases hp436 : r431 = true
            ·have h := if_pos' hp436 h
             refine w_bool 81 rfl ((nf hp436)) <| wl_v 9 rfl (v_ldB [.slice A2 n3 c4, .slice A6 n7 c8] 1 ld_25 rfl rfl rfl rfl) (gy 81 rfl rfl) rfl <| wl_v 10 rfl (v_fldB fo_45_3 rfl) (gy 81 rfl rfl) rfl <| wl_v 11 rfl (v_ldB1 0 ld_9 rfl rfl rfl) (gy 81 rfl rfl) rfl ?_
             obtain ⟨r440, hv441, h⟩ := h
             refine wl_s 12 rfl (s_call [.agg #[.slice A2 n3 c4, .slice A6 n7 c8], .string ((ix x1.nodes x239).capture)] rfl Tryd.func53 rfl rfl rfl fun w437 hL438 => ?_) (gy 81 rfl rfl)
             have hp439 := pmI hL438 .n (.c 0 rfl (.c 1 rfl .n)) (by kernel_rfl)
             refine Calls.mono (trellisref20_Node_calls w437 (Fl ([] : List Snap)) x1 ((ix x1.nodes x239).capture) A2 n3 c4 A6 n7 c8 (Rw.mono h5 (hL438.toSt hp439 (me 1 rfl))) (Rw.mono h9 (hL438.toSt hp439 (me 1 rfl))) (hL438.hFl hp439 (sels [] rfl)) (hL438.into hp439 _) r440 hv441) ?_
             rintro _ w442 ⟨rfl, hM443⟩
             have hL444 := hL438.call hp439 hM443
             refine ⟨_, _, _, rfl, hL444, ?_⟩
             refine wl_v 13 rfl (v_move rfl) (gy 81 rfl rfl) rfl <| wl_v 14 rfl (v_bin rfl rfl rfl) (gy 81 rfl rfl) rfl <| wl_v 15 rfl (v_pick (b := false) rfl rfl) (gy 76 rfl rfl) rfl <| wl_v 16 rfl (v_pick (b := true) rfl rfl) gn rfl <| w_end 17 rfl ?_
             by_cases hp445 : r440 = x239
             ·have h := if_pos' hp445 h
              refine g_false rfl _ rfl ((eqib hp445)) <| g_skip rfl <| g_inBlock <| g_region rfl rfl <| wl_v 0 rfl (v_move rfl) gn rfl <| wl_v 1 rfl (v_bin rfl rfl rfl) gn rfl <| wl_v 2 rfl (v_assign rfl) gn rfl <| w_end 3 rfl <| g_inLoop ?_
              have ih := Out.inl hO1 h
              exact g_go [0, 1] (ih ()) ⟨rfl, rfl, trivial⟩ (.cons _ (.cons_cons _ (.slnil))) rfl
             ·have h := if_neg' hp445 h
              refine g_true rfl _ rfl ((neib hp445)) <| g_seq rfl <| g_region rfl rfl <| wl_v 0 rfl (v_assign rfl) gn rfl <| w_end 1 rfl ?_
              have h := Out.inr hO1 h
              refine g_retR [.bool false] rfl Tryd.func23 rfl (.tmp rfl (.nil)) fun wr hLr => ?_
              have hMr := hLr.pk0 (.c 1 rfl .n)
              show trellisref20_Shaped_R w F  r (.returned (packV [.bool false])) wr
              rw [h]
              exact ⟨rfl, hMr⟩
            ·have h := if_neg' hp436 h
             refine w_bool 81 rfl ((nt (bf hp436))) <| wl_pass 9 rfl (ps 81 rfl rfl rfl) <| wl_pass 10 rfl (ps 81 rfl rfl rfl) <| wl_pass 11 rfl (ps 81 rfl rfl rfl) <| wl_pass 12 rfl (ps 81 rfl rfl rfl) <| wl_pass 13 rfl (ps 81 rfl rfl rfl) <| wl_pass 14 rfl (ps 81 rfl rfl rfl) <| wl_v 15 rfl (v_pick (b := true) rfl rfl) (gy 76 rfl rfl) rfl <| wl_v 16 rfl (v_pick (b := true) rfl rfl) gn rfl <| w_end 17 rfl <| g_true rfl _ rfl (rfl) <| g_seq rfl ?_
             refine g_region rfl rfl <| wl_v 0 rfl (v_assign rfl) gn rfl <| w_end 1 rfl ?_
             have h := Out.inr hO1 h
             refine g_retR [.bool false] rfl Tryd.func23 rfl (.tmp rfl (.nil)) fun wr hLr => ?_
             have hMr := hLr.pk0 (.c 1 rfl .n)
             show trellisref20_Shaped_R w F  r (.returned (packV [.bool false])) wr
             rw [h]
             exact ⟨rfl, hMr⟩
         refine g_region rfl rfl <| wl_v 0 rfl (v_fldB fo_45_2 rfl) gn rfl <| wl_v 1 rfl (v_ldB1 0 ld_9 rfl rfl rfl) gn rfl <| wl_v 2 rfl (v_neS rfl rfl) gn rfl <| wl_v 3 rfl (v_move rfl) gn rfl ?_
         by_cases hp446 : (ix x1.nodes x239).field = (⟨#[]⟩ : ByteArray)
         ·have h := if_pos' hp446 h
          refine w_bool 67 rfl ((nf (seq_t hp446))) <| wl_pass 4 rfl (ps 67 rfl rfl rfl) <| wl_pass 5 rfl (ps 67 rfl rfl rfl) <| wl_pass 6 rfl (ps 67 rfl rfl rfl) <| wl_pass 7 rfl (ps 67 rfl rfl rfl) <| wl_v 8 rfl (v_pick (b := false) rfl rfl) gn rfl <| w_end 9 rfl ?_
          exact g_go [0, 1] (j5 false h) ⟨rfl, rfl, rfl, rfl, trivial⟩ (.cons_cons _ (.cons_cons _ (.slnil))) rfl
         ·have h := if_neg' hp446 h
          refine w_bool 67 rfl ((nt (seq_f hp446))) <| wl_v 4 rfl (v_fldB fo_45_2 rfl) (gy 67 rfl rfl) rfl <| wl_v 5 rfl (v_ldB1 0 ld_9 rfl rfl rfl) (gy 67 rfl rfl) rfl ?_
          obtain ⟨r450, hv451, h⟩ := h
          refine wl_s 6 rfl (s_call [.string ((ix x1.nodes x239).field)] rfl Tryd.func52 rfl rfl rfl fun w447 hL448 => ?_) (gy 67 rfl rfl)
          have hp449 := pmI hL448 .n (.c 0 rfl (.c 1 rfl .n)) (by kernel_rfl)
          refine Calls.mono (trellisref20_isName_calls w447 (Fl ([] : List Snap)) ((ix x1.nodes x239).field) (hL448.hFl hp449 (sels [] rfl)) (hL448.into hp449 _) r450 hv451) ?_
          rintro _ w452 ⟨rfl, hM453⟩
          have hL454 := hL448.call hp449 hM453
          refine ⟨_, _, _, rfl, hL454, ?_⟩
          refine wl_v 7 rfl (v_not rfl) (gy 67 rfl rfl) rfl <| wl_v 8 rfl (v_pick (b := true) rfl rfl) gn rfl <| w_end 9 rfl ?_
          exact g_go [0, 1] (j5 (!r450) h) ⟨rfl, rfl, rfl, rfl, trivial⟩ (.cons_cons _ (.cons_cons _ (.slnil))) rfl
       refine g_region rfl rfl <| wl_v 0 rfl (v_fldB fo_45_1 rfl) gn rfl <| wl_v 1 rfl (v_ldB1 0 ld_4 rfl rfl rfl) gn rfl <| wl_v 2 rfl (v_not rfl) gn rfl <| wl_v 3 rfl (v_move rfl) gn rfl ?_
       by_cases hp455 : ((ix x1.nodes x239).lit) = true
       ·have h := if_pos' hp455 h
        refine w_bool 53 rfl ((nf hp455)) <| wl_pass 4 rfl (ps 53 rfl rfl rfl) <| wl_pass 5 rfl (ps 53 rfl rfl rfl) <| wl_pass 6 rfl (ps 53 rfl rfl rfl) <| wl_v 7 rfl (v_pick (b := false) rfl rfl) gn rfl <| wl_v 8 rfl (v_move rfl) gn rfl <| wl_pass 9 rfl (ps 58 rfl rfl rfl) <| wl_pass 10 rfl (ps 58 rfl rfl rfl) <| wl_pass 11 rfl (ps 58 rfl rfl rfl) <| wl_pass 12 rfl (ps 58 rfl rfl rfl) <| wl_v 13 rfl (v_pick (b := false) rfl rfl) gn rfl <| w_end 14 rfl ?_
        exact g_go [0, 1] (j4 false h) ⟨rfl, rfl, rfl, rfl, trivial⟩ (.cons_cons _ (.cons_cons _ (.slnil))) rfl
       ·have h := if_neg' hp455 h
        refine w_bool 53 rfl ((nt (bf hp455))) <| wl_v 4 rfl (v_fldB fo_45_0 rfl) (gy 53 rfl rfl) rfl <| wl_v 5 rfl (v_ldB1 0 ld_9 rfl rfl rfl) (gy 53 rfl rfl) rfl <| wl_v 6 rfl (v_neS rfl rfl) (gy 53 rfl rfl) rfl <| wl_v 7 rfl (v_pick (b := true) rfl rfl) gn rfl <| wl_v 8 rfl (v_move rfl) gn rfl ?_
        by_cases hp456 : (ix x1.nodes x239).name = (⟨#[]⟩ : ByteArray)
        ·have h := if_pos' hp456 h
         refine w_bool 58 rfl ((nf (seq_t hp456))) <| wl_pass 9 rfl (ps 58 rfl rfl rfl) <| wl_pass 10 rfl (ps 58 rfl rfl rfl) <| wl_pass 11 rfl (ps 58 rfl rfl rfl) <| wl_pass 12 rfl (ps 58 rfl rfl rfl) <| wl_v 13 rfl (v_pick (b := false) rfl rfl) gn rfl <| w_end 14 rfl ?_
         exact g_go [0, 1] (j4 false h) ⟨rfl, rfl, rfl, rfl, trivial⟩ (.cons_cons _ (.cons_cons _ (.slnil))) rfl
        ·have h := if_neg' hp456 h
         refine w_bool 58 rfl ((nt (seq_f hp456))) <| wl_v 9 rfl (v_fldB fo_45_0 rfl) (gy 58 rfl rfl) rfl <| wl_v 10 rfl (v_ldB1 0 ld_9 rfl rfl rfl) (gy 58 rfl rfl) rfl ?_
         obtain ⟨r460, hv461, h⟩ := h
         refine wl_s 11 rfl (s_call [.string ((ix x1.nodes x239).name)] rfl Tryd.func52 rfl rfl rfl fun w457 hL458 => ?_) (gy 58 rfl rfl)
         have hp459 := pmI hL458 .n (.c 0 rfl (.c 1 rfl .n)) (by kernel_rfl)
         refine Calls.mono (trellisref20_isName_calls w457 (Fl ([] : List Snap)) ((ix x1.nodes x239).name) (hL458.hFl hp459 (sels [] rfl)) (hL458.into hp459 _) r460 hv461) ?_
         rintro _ w462 ⟨rfl, hM463⟩
         have hL464 := hL458.call hp459 hM463
         refine ⟨_, _, _, rfl, hL464, ?_⟩
         refine wl_v 12 rfl (v_not rfl) (gy 58 rfl rfl) rfl <| wl_v 13 rfl (v_pick (b := true) rfl rfl) gn rfl <| w_end 14 rfl ?_
         exact g_go [0, 1] (j4 (!r460) h) ⟨rfl, rfl, rfl, rfl, trivial⟩ (.cons_cons _ (.cons_cons _ (.slnil))) rfl
     refine g_region rfl rfl <| wl_v 0 rfl (v_fldB fo_45_1 rfl) gn rfl <| wl_v 1 rfl (v_ldB1 0 ld_4 rfl rfl rfl) gn rfl <| wl_v 2 rfl (v_move rfl) gn rfl ?_
     by_cases hp465 : ((ix x1.nodes x239).lit) = true
     ·have h := if_pos' hp465 h
      refine w_bool 40 rfl (hp465) <| wl_v 3 rfl (v_fldB fo_45_0 rfl) (gy 40 rfl rfl) rfl <| wl_v 4 rfl (v_ldB1 0 ld_9 rfl rfl rfl) (gy 40 rfl rfl) rfl <| wl_v 5 rfl (v_eqS rfl rfl) (gy 40 rfl rfl) rfl <| wl_v 6 rfl (v_move rfl) (gy 40 rfl rfl) rfl ?_
      by_cases hp466 : (ix x1.nodes x239).name = (⟨#[]⟩ : ByteArray)
      ·have h := if_pos' hp466 h
       refine w_bool 44 rfl ((seq_t hp466)) <| wl_pass 7 rfl (ps 44 rfl rfl rfl) <| wl_pass 8 rfl (ps 44 rfl rfl rfl) <| wl_pass 9 rfl (ps 44 rfl rfl rfl) <| wl_v 10 rfl (v_pick (b := true) rfl rfl) (gy 40 rfl rfl) rfl <| wl_v 11 rfl (v_pick (b := true) rfl rfl) gn rfl <| w_end 12 rfl ?_
       exact g_go [0, 1] (j3 true h) ⟨rfl, rfl, rfl, rfl, trivial⟩ (.cons_cons _ (.cons_cons _ (.slnil))) rfl
      ·have h := if_neg' hp466 h
       refine w_bool 44 rfl ((seq_f hp466)) <| wl_v 7 rfl (v_fldB fo_45_4 rfl) (gy 44 rfl rfl) rfl <| wl_v 8 rfl (v_ldB1 0 ld_3 rfl rfl rfl) (gy 44 rfl rfl) rfl <| wl_v 9 rfl (v_bin rfl rfl rfl) (gy 44 rfl rfl) rfl <| wl_v 10 rfl (v_pick (b := false) rfl rfl) (gy 40 rfl rfl) rfl <| wl_v 11 rfl (v_pick (b := true) rfl rfl) gn rfl <| w_end 12 rfl ?_
       exact g_go [0, 1] (j3 (((ix x1.nodes x239).kids) != 0) h) ⟨rfl, rfl, rfl, rfl, trivial⟩ (.cons_cons _ (.cons_cons _ (.slnil))) rfl
     ·have h := if_neg' hp465 h
      refine w_bool 40 rfl ((bf hp465)) <| wl_pass 3 rfl (ps 40 rfl rfl rfl) <| wl_pass 4 rfl (ps 40 rfl rfl rfl) <| wl_pass 5 rfl (ps 40 rfl rfl rfl) <| wl_pass 6 rfl (ps 40 rfl rfl rfl) <| wl_pass 7 rfl (pu 44 rfl rfl) <| wl_pass 8 rfl (pu 44 rfl rfl) <| wl_pass 9 rfl (pu 44 rfl rfl) <| wl_pass 10 rfl (ps 40 rfl rfl rfl) <| wl_v 11 rfl (v_pick (b := false) rfl rfl) gn rfl <| w_end 12 rfl ?_
      exact g_go [0, 1] (j3 false h) ⟨rfl, rfl, rfl, rfl, trivial⟩ (.cons_cons _ (.cons_cons _ (.slnil))) rfl
    ·have h := if_neg' hp392 h
     refine g_false rfl _ rfl ((decide_eq_false hp392)) <| g_exit [.code q23c12] rfl rfl <| g_seq rfl <| g_seq rfl <| g_region rfl rfl <| wl_v 0 rfl (v_assign rfl) gn rfl <| w_end 1 rfl <| g_block rfl <| g_loop rfl ?_
     have key6 : ∀ s, Rounds (fun (s : Int) o => trellisref20_Shaped_b6 x1 s o) s o1 → (fun (s : Int) => ∀ (_ : Unit), G (trellisref20_Shaped_C w F r) [.code q23c63, .inLoop q23c63, .inBlock 2, .code q23c59] [(1, .pointer (some ⟨gb10, 0, none⟩)), (5, .int .i64 s)] [.box gb10 25 [.slice A2 n3 c4, .slice A6 n7 c8]] [Sm w.heap.size F w [], St w []]) s := by
      intro s hs
      refine Rounds.ind (mot := (fun (s : Int) => ∀ (_ : Unit), G (trellisref20_Shaped_C w F r) [.code q23c63, .inLoop q23c63, .inBlock 2, .code q23c59] [(1, .pointer (some ⟨gb10, 0, none⟩)), (5, .int .i64 s)] [.box gb10 25 [.slice A2 n3 c4, .slice A6 n7 c8]] [Sm w.heap.size F w [], St w []])) ?_ hs
      clear hs s
      intro x493 o2 h hO2
      show ∀ (_ : Unit), G (trellisref20_Shaped_C w F r) [.code q23c63, .inLoop q23c63, .inBlock 2, .code q23c59] [(1, .pointer (some ⟨gb10, 0, none⟩)), (5, .int .i64 x493)] [.box gb10 25 [.slice A2 n3 c4, .slice A6 n7 c8]] [Sm w.heap.size F w [], St w []]
      intro _
      have h : trellisref20_Shaped_b6 x1 x493 o2 := h
      unfold trellisref20_Shaped_b6 at h
      refine g_seq rfl <| g_seq rfl <| g_region rfl rfl <| wl_v 0 rfl (v_move rfl) gn rfl <| wl_v 1 rfl (v_fldB fo_25_1 rfl) gn rfl <| wl_v 2 rfl (v_ldB1 0 ld_23 rfl rfl rfl) gn rfl <| wl_v 3 rfl (v_lenQ un_23 rfl h9.hq) gn rfl <| wl_v 4 rfl (v_bin rfl rfl rfl) gn rfl <| w_end 5 rfl ?_
      by_cases hp519 : x493 < (x1.conds.length : Int)
      ·have h := if_pos' hp519 h
       refine g_true rfl _ rfl ((decide_eq_true hp519)) <| g_skip rfl <| g_seq rfl <| g_block rfl <| g_seq rfl <| g_region rfl rfl <| wl_v 0 rfl (v_fldB fo_25_1 rfl) gn rfl <| wl_v 1 rfl (v_ldB1 0 ld_23 rfl rfl rfl) gn rfl <| wl_v 2 rfl (v_move rfl) gn rfl ?_
       obtain ⟨hb520, h⟩ := h
       have hr521 := Rw.readF (s := St w []) (hl := hl_api_Cond) (h1 := h1_api_Cond) h9 hb520
       refine wl_v 3 rfl (v_idxR (s := St w []) slE_23 rfl rfl h9 hb520) gn rfl <| wl_v 4 rfl (v_ldA (St w []) ld_47 rfl hr521 rfl (me 1 rfl)) gn rfl ?_
       refine wl_s 5 rfl (s_alloc [.bool false, .string (⟨#[]⟩ : ByteArray), .string (⟨#[]⟩ : ByteArray), .string (⟨#[]⟩ : ByteArray)] zr_47 rfl fun gb522 => ?_) gn
       refine wl_s 6 rfl (s_stB (vs := [.bool ((ix x1.conds x493).not), .string ((ix x1.conds x493).a), .string ((ix x1.conds x493).b), .string ((ix x1.conds x493).text)]) (cs' := [.bool ((ix x1.conds x493).not), .string ((ix x1.conds x493).a), .string ((ix x1.conds x493).b), .string ((ix x1.conds x493).text)]) (M' := [.box gb522 47 [.bool ((ix x1.conds x493).not), .string ((ix x1.conds x493).a), .string ((ix x1.conds x493).b), .string ((ix x1.conds x493).text)], .box gb10 25 [.slice A2 n3 c4, .slice A6 n7 c8]]) 0 sz_47 rfl rfl rfl rfl rfl rfl rfl rfl rfl ?_) gn
       refine w_end 7 rfl <| g_seq rfl <| g_region rfl rfl <| wl_v 0 rfl (v_ldB [.slice A2 n3 c4, .slice A6 n7 c8] 1 ld_25 rfl rfl rfl rfl) gn rfl <| wl_v 1 rfl (v_fldB fo_47_1 rfl) gn rfl <| wl_v 2 rfl (v_ldB1 0 ld_9 rfl rfl rfl) gn rfl ?_
       obtain ⟨r527, hv528, h⟩ := h
       refine wl_s 3 rfl (s_call [.agg #[.slice A2 n3 c4, .slice A6 n7 c8], .string ((ix x1.conds x493).a)] rfl Tryd.func53 rfl rfl rfl fun w524 hL525 => ?_) gn
       have hp526 := pmI hL525 .n (.c 0 rfl (.c 1 rfl .n)) (by kernel_rfl)
       refine Calls.mono (trellisref20_Node_calls w524 (Fl ([] : List Snap)) x1 ((ix x1.conds x493).a) A2 n3 c4 A6 n7 c8 (Rw.mono h5 (hL525.toSt hp526 (me 1 rfl))) (Rw.mono h9 (hL525.toSt hp526 (me 1 rfl))) (hL525.hFl hp526 (sels [] rfl)) (hL525.into hp526 _) r527 hv528) ?_
       rintro _ w529 ⟨rfl, hM530⟩
       have hL531 := hL525.call hp526 hM530
       refine ⟨_, _, _, rfl, hL531, ?_⟩
       refine wl_v 4 rfl (v_bin rfl rfl rfl) gn rfl <| wl_v 5 rfl (v_move rfl) gn rfl ?_
       by_cases hp532 : r527 < 0
       ·have h := if_pos' hp532 h
        refine w_bool 107 rfl ((decide_eq_true hp532)) <| wl_pass 6 rfl (ps 107 rfl rfl rfl) <| wl_pass 7 rfl (ps 107 rfl rfl rfl) <| wl_pass 8 rfl (ps 107 rfl rfl rfl) <| wl_pass 9 rfl (ps 107 rfl rfl rfl) <| wl_pass 10 rfl (pu 111 rfl rfl) <| wl_pass 11 rfl (pu 111 rfl rfl) <| wl_pass 12 rfl (pu 111 rfl rfl) <| wl_pass 13 rfl (pu 111 rfl rfl) <| wl_pass 14 rfl (pu 111 rfl rfl) <| wl_pass 15 rfl (pu 111 rfl rfl) <| wl_pass 16 rfl (pu 117 rfl rfl) ?_
        refine wl_pass 17 rfl (pu 117 rfl rfl) <| wl_pass 18 rfl (pu 117 rfl rfl) <| wl_pass 19 rfl (pu 111 rfl rfl) <| wl_pass 20 rfl (ps 107 rfl rfl rfl) <| wl_v 21 rfl (v_pick (b := true) rfl rfl) gn rfl <| w_end 22 rfl <| g_true rfl _ rfl (rfl) <| g_seq rfl <| g_region rfl rfl <| wl_v 0 rfl (v_assign rfl) gn rfl <| w_end 1 rfl ?_
        have h := Out.inr hO2 h
        have h := Out.inr hO1 h
        refine g_retR [.bool false] rfl Tryd.func23 rfl (.tmp rfl (.nil)) fun wr hLr => ?_
        have hMr := hLr.pk0 (.c 1 rfl .n)
        show trellisref20_Shaped_R w F  r (.returned (packV [.bool false])) wr
        rw [h]
        exact ⟨rfl, hMr⟩
       ·have h := if_neg' hp532 h
        refine w_bool 107 rfl ((decide_eq_false hp532)) <| wl_v 6 rfl (v_fldB fo_47_2 rfl) (gy 107 rfl rfl) rfl <| wl_v 7 rfl (v_ldB1 0 ld_9 rfl rfl rfl) (gy 107 rfl rfl) rfl <| wl_v 8 rfl (v_neS rfl rfl) (gy 107 rfl rfl) rfl <| wl_v 9 rfl (v_move rfl) (gy 107 rfl rfl) rfl ?_
        by_cases hp533 : (ix x1.conds x493).b = (⟨#[]⟩ : ByteArray)
        ·have h := if_pos' hp533 h
         refine w_bool 111 rfl ((nf (seq_t hp533))) <| wl_pass 10 rfl (ps 111 rfl rfl rfl) <| wl_pass 11 rfl (ps 111 rfl rfl rfl) <| wl_pass 12 rfl (ps 111 rfl rfl rfl) <| wl_pass 13 rfl (ps 111 rfl rfl rfl) <| wl_pass 14 rfl (ps 111 rfl rfl rfl) <| wl_pass 15 rfl (ps 111 rfl rfl rfl) <| wl_pass 16 rfl (pu 117 rfl rfl) <| wl_pass 17 rfl (pu 117 rfl rfl) <| wl_pass 18 rfl (pu 117 rfl rfl) <| wl_pass 19 rfl (ps 111 rfl rfl rfl) <| wl_v 20 rfl (v_pick (b := false) rfl rfl) (gy 107 rfl rfl) rfl ?_
         refine wl_v 21 rfl (v_pick (b := false) rfl rfl) gn rfl <| w_end 22 rfl <| g_false rfl _ rfl (rfl) <| g_skip rfl <| g_inBlock <| g_region rfl rfl <| wl_v 0 rfl (v_move rfl) gn rfl <| wl_v 1 rfl (v_bin rfl rfl rfl) gn rfl <| wl_v 2 rfl (v_assign rfl) gn rfl <| w_end 3 rfl <| g_inLoop ?_
         have ih := Out.inl hO2 h
         exact g_go [0, 1] (ih ()) ⟨rfl, rfl, trivial⟩ (.cons _ (.cons_cons _ (.slnil))) rfl
        ·have h := if_neg' hp533 h
         refine w_bool 111 rfl ((nt (seq_f hp533))) <| wl_v 10 rfl (v_ldB [.slice A2 n3 c4, .slice A6 n7 c8] 1 ld_25 rfl rfl rfl rfl) (gy 111 rfl rfl) rfl <| wl_v 11 rfl (v_fldB fo_47_2 rfl) (gy 111 rfl rfl) rfl <| wl_v 12 rfl (v_ldB1 0 ld_9 rfl rfl rfl) (gy 111 rfl rfl) rfl ?_
         obtain ⟨r537, hv538, h⟩ := h
         refine wl_s 13 rfl (s_call [.agg #[.slice A2 n3 c4, .slice A6 n7 c8], .string ((ix x1.conds x493).b)] rfl Tryd.func53 rfl rfl rfl fun w534 hL535 => ?_) (gy 111 rfl rfl)
         have hp536 := pmI hL535 .n (.c 0 rfl (.c 1 rfl .n)) (by kernel_rfl)
         refine Calls.mono (trellisref20_Node_calls w534 (Fl ([] : List Snap)) x1 ((ix x1.conds x493).b) A2 n3 c4 A6 n7 c8 (Rw.mono h5 (hL535.toSt hp536 (me 1 rfl))) (Rw.mono h9 (hL535.toSt hp536 (me 1 rfl))) (hL535.hFl hp536 (sels [] rfl)) (hL535.into hp536 _) r537 hv538) ?_
         rintro _ w539 ⟨rfl, hM540⟩
         have hL541 := hL535.call hp536 hM540
         refine ⟨_, _, _, rfl, hL541, ?_⟩
         refine wl_v 14 rfl (v_bin rfl rfl rfl) (gy 111 rfl rfl) rfl <| wl_v 15 rfl (v_move rfl) (gy 111 rfl rfl) rfl ?_
         by_cases hp542 : r537 < 0
         ·have h := if_pos' hp542 h
          refine w_bool 117 rfl ((decide_eq_true hp542)) <| wl_pass 16 rfl (ps 117 rfl rfl rfl) <| wl_pass 17 rfl (ps 117 rfl rfl rfl) <| wl_pass 18 rfl (ps 117 rfl rfl rfl) <| wl_v 19 rfl (v_pick (b := true) rfl rfl) (gy 111 rfl rfl) rfl <| wl_v 20 rfl (v_pick (b := true) rfl rfl) (gy 107 rfl rfl) rfl <| wl_v 21 rfl (v_pick (b := false) rfl rfl) gn rfl <| w_end 22 rfl <| g_true rfl _ rfl (rfl) <| g_seq rfl <| g_region rfl rfl <| wl_v 0 rfl (v_assign rfl) gn rfl ?_
          refine w_end 1 rfl ?_
          have h := Out.inr hO2 h
          have h := Out.inr hO1 h
          refine g_retR [.bool false] rfl Tryd.func23 rfl (.tmp rfl (.nil)) fun wr hLr => ?_
          have hMr := hLr.pk0 (.c 1 rfl .n)
          show trellisref20_Shaped_R w F  r (.returned (packV [.bool false])) wr
          rw [h]
          exact ⟨rfl, hMr⟩
         ·have h := if_neg' hp542 h
          refine w_bool 117 rfl ((decide_eq_false hp542)) <| wl_v 16 rfl (v_fldB fo_47_3 rfl) (gy 117 rfl rfl) rfl <| wl_v 17 rfl (v_ldB1 0 ld_9 rfl rfl rfl) (gy 117 rfl rfl) rfl <| wl_v 18 rfl (v_neS rfl rfl) (gy 117 rfl rfl) rfl <| wl_v 19 rfl (v_pick (b := false) rfl rfl) (gy 111 rfl rfl) rfl <| wl_v 20 rfl (v_pick (b := true) rfl rfl) (gy 107 rfl rfl) rfl <| wl_v 21 rfl (v_pick (b := false) rfl rfl) gn rfl <| w_end 22 rfl ?_
          by_cases hp543 : (ix x1.conds x493).text = (⟨#[]⟩ : ByteArray)
          ·have h := if_pos' hp543 h
           refine g_false rfl _ rfl ((nf (seq_t hp543))) <| g_skip rfl <| g_inBlock <| g_region rfl rfl <| wl_v 0 rfl (v_move rfl) gn rfl <| wl_v 1 rfl (v_bin rfl rfl rfl) gn rfl <| wl_v 2 rfl (v_assign rfl) gn rfl <| w_end 3 rfl <| g_inLoop ?_
           have ih := Out.inl hO2 h
           exact g_go [0, 1] (ih ()) ⟨rfl, rfl, trivial⟩ (.cons _ (.cons_cons _ (.slnil))) rfl
          ·have h := if_neg' hp543 h
           refine g_true rfl _ rfl ((nt (seq_f hp543))) <| g_seq rfl <| g_region rfl rfl <| wl_v 0 rfl (v_assign rfl) gn rfl <| w_end 1 rfl ?_
           have h := Out.inr hO2 h
           have h := Out.inr hO1 h
           refine g_retR [.bool false] rfl Tryd.func23 rfl (.tmp rfl (.nil)) fun wr hLr => ?_
           have hMr := hLr.pk0 (.c 1 rfl .n)
           show trellisref20_Shaped_R w F  r (.returned (packV [.bool false])) wr
           rw [h]
           exact ⟨rfl, hMr⟩
      ·have h := if_neg' hp519 h
       refine g_false rfl _ rfl ((decide_eq_false hp519)) <| g_exit [.code q23c59] rfl rfl <| g_seq rfl <| g_region rfl rfl <| wl_v 0 rfl (v_assign rfl) gn rfl <| w_end 1 rfl ?_
       have h := Out.inr hO2 h
       have h := Out.inr hO1 h
       refine g_retR [.bool true] rfl Tryd.func23 rfl (.tmp rfl (.nil)) fun wr hLr => ?_
       have hMr := hLr.pk0 (.c 1 rfl .n)
       show trellisref20_Shaped_R w F  r (.returned (packV [.bool true])) wr
       rw [h]
       exact ⟨rfl, hMr⟩
     exact g_go [0, 1] (key6 _ h ()) ⟨rfl, rfl, trivial⟩ (.cons_cons _ (.slnil)) rfl
   exact g_go [0, 1] (key2 _ h ()) ⟨rfl, rfl, trivial⟩ (.cons_cons _ (.slnil)) rfl
 by_cases hp544 : (x1.nodes.length : Int) > 32
 ·have h := if_pos' hp544 h
  have hns : Region.noSelect (Code.ops q23c5) = true := by kernel_rfl
  refine g_drawG [] 19 rfl rfl mix rfl (.c 0 rfl (.c 1 rfl .n)) <| wfv 0 rfl (v_fldB fo_25_0 rfl) gn hns rfl <| wfv 1 rfl (v_ldB1 0 ld_22 rfl rfl rfl) gn hns rfl <| wfv 2 rfl (v_lenQ un_22 rfl h5.hq) gn hns rfl <| wfv 3 rfl (v_bin rfl rfl rfl) gn hns rfl <| wfv 4 rfl (v_move rfl) gn hns rfl <| wf_bool 11 rfl ((decide_eq_true hp544)) <| wfp 5 rfl (ps 11 rfl rfl rfl) hns rfl <| wfp 6 rfl (ps 11 rfl rfl rfl) hns rfl <| wfp 7 rfl (ps 11 rfl rfl rfl) hns rfl <| wfp 8 rfl (ps 11 rfl rfl rfl) hns rfl <| wfv 9 rfl (v_pick (b := true) rfl rfl) gn hns rfl ?_
  refine wfv 10 rfl (v_move rfl) gn hns rfl <| wfp 11 rfl (ps 17 rfl rfl rfl) hns rfl <| wfp 12 rfl (ps 17 rfl rfl rfl) hns rfl <| wfp 13 rfl (ps 17 rfl rfl rfl) hns rfl <| wfp 14 rfl (ps 17 rfl rfl rfl) hns rfl <| wfp 15 rfl (ps 17 rfl rfl rfl) hns rfl <| wfp 16 rfl (ps 17 rfl rfl rfl) hns rfl <| wfp 17 rfl (ps 17 rfl rfl rfl) hns rfl <| wfv 18 rfl (v_pick (b := true) rfl rfl) gn hns rfl <| wf_end (by kernel_rfl) ?_
  exact g_go [0, 1] (j1 true h) ⟨rfl, rfl, trivial⟩ (.cons_cons _ (.slnil)) rfl
 ·have h := if_neg' hp544 h
  by_cases hp545 : (x1.conds.length : Int) > 16
  ·have h := if_pos' hp545 h
   have hns : Region.noSelect (Code.ops q23c5) = true := by kernel_rfl
   refine g_drawG [] 19 rfl rfl mix rfl (.c 0 rfl (.c 1 rfl .n)) <| wfv 0 rfl (v_fldB fo_25_0 rfl) gn hns rfl <| wfv 1 rfl (v_ldB1 0 ld_22 rfl rfl rfl) gn hns rfl <| wfv 2 rfl (v_lenQ un_22 rfl h5.hq) gn hns rfl <| wfv 3 rfl (v_bin rfl rfl rfl) gn hns rfl <| wfv 4 rfl (v_move rfl) gn hns rfl <| wf_bool 11 rfl ((decide_eq_false hp544)) <| wfv 5 rfl (v_fldB fo_25_1 rfl) (gy 11 rfl rfl) hns rfl <| wfv 6 rfl (v_ldB1 0 ld_23 rfl rfl rfl) (gy 11 rfl rfl) hns rfl <| wfv 7 rfl (v_lenQ un_23 rfl h9.hq) (gy 11 rfl rfl) hns rfl <| wfv 8 rfl (v_bin rfl rfl rfl) (gy 11 rfl rfl) hns rfl <| wfv 9 rfl (v_pick (b := false) rfl rfl) gn hns rfl ?_
   refine wfv 10 rfl (v_move rfl) gn hns rfl <| wf_bool 17 rfl ((decide_eq_true hp545)) <| wfp 11 rfl (ps 17 rfl rfl rfl) hns rfl <| wfp 12 rfl (ps 17 rfl rfl rfl) hns rfl <| wfp 13 rfl (ps 17 rfl rfl rfl) hns rfl <| wfp 14 rfl (ps 17 rfl rfl rfl) hns rfl <| wfp 15 rfl (ps 17 rfl rfl rfl) hns rfl <| wfp 16 rfl (ps 17 rfl rfl rfl) hns rfl <| wfp 17 rfl (ps 17 rfl rfl rfl) hns rfl <| wfv 18 rfl (v_pick (b := true) rfl rfl) gn hns rfl <| wf_end (by kernel_rfl) ?_
   exact g_go [0, 1] (j1 true h) ⟨rfl, rfl, trivial⟩ (.cons_cons _ (.slnil)) rfl
  ·have h := if_neg' hp545 h
   obtain ⟨r549, hv550, h⟩ := h
   have hns : Region.noSelect (Code.ops q23c5) = true := by kernel_rfl
   refine g_drawG [] 19 rfl rfl mix rfl (.c 0 rfl (.c 1 rfl .n)) <| wfv 0 rfl (v_fldB fo_25_0 rfl) gn hns rfl <| wfv 1 rfl (v_ldB1 0 ld_22 rfl rfl rfl) gn hns rfl <| wfv 2 rfl (v_lenQ un_22 rfl h5.hq) gn hns rfl <| wfv 3 rfl (v_bin rfl rfl rfl) gn hns rfl <| wfv 4 rfl (v_move rfl) gn hns rfl <| wf_bool 11 rfl ((decide_eq_false hp544)) <| wfv 5 rfl (v_fldB fo_25_1 rfl) (gy 11 rfl rfl) hns rfl <| wfv 6 rfl (v_ldB1 0 ld_23 rfl rfl rfl) (gy 11 rfl rfl) hns rfl <| wfv 7 rfl (v_lenQ un_23 rfl h9.hq) (gy 11 rfl rfl) hns rfl <| wfv 8 rfl (v_bin rfl rfl rfl) (gy 11 rfl rfl) hns rfl <| wfv 9 rfl (v_pick (b := false) rfl rfl) gn hns rfl ?_
   refine wfv 10 rfl (v_move rfl) gn hns rfl <| wf_bool 17 rfl ((decide_eq_false hp545)) <| wfv 11 rfl (v_fldB fo_25_0 rfl) (gy 17 rfl rfl) hns rfl <| wfv 12 rfl (v_ldB1 0 ld_22 rfl rfl rfl) (gy 17 rfl rfl) hns rfl <| wfv 14 rfl (v_fldB fo_25_0 rfl) (gy 17 rfl rfl) hns rfl <| wfv 15 rfl (v_ldB1 0 ld_22 rfl rfl rfl) (gy 17 rfl rfl) hns rfl <| wfv 16 rfl (v_lenQ un_22 rfl h5.hq) (gy 17 rfl rfl) hns rfl ?_
   refine wf_all [13] (by kernel_rfl) rfl ⟨on_s 13 rfl (gy 17 rfl rfl) rfl (s_call [.slice A2 n3 c4, .int .i64 0] rfl Tryd.func51 rfl rfl rfl fun w608 hL609 => ?_), trivial⟩
   have hp610 := pmI hL609 .n (.c 0 rfl .n) (by kernel_rfl)
   refine Calls.mono (trellisref20_behind_calls w608 (Fl ([] : List Snap)) x1.nodes 0 A2 n3 c4 (Rw.mono h5 (hL609.toSt hp610 (me 1 rfl))) (hL609.hFl hp610 (sels [] rfl)) (hL609.into hp610 _) r549 hv550) ?_
   rintro _ w611 ⟨rfl, hM612⟩
   have hL613 := hL609.call hp610 hM612
   refine ⟨_, _, _, rfl, hL613, ?_⟩
   refine ⟨sels [0] rfl, sels [0, 1] rfl, ?_⟩
   refine wfv 17 rfl (v_bin rfl rfl rfl) (gy 17 rfl rfl) hns rfl <| wfv 18 rfl (v_pick (b := false) rfl rfl) gn hns rfl <| wf_end (by kernel_rfl) ?_
   exact g_go [0, 1] (j1 (r549 != (x1.nodes.length : Int)) h) ⟨rfl, rfl, trivial⟩ (.cons_cons _ (.slnil)) rfl
end Go.Proofs.YtjookebbmfiidaaDoor.K
