/- What the machine's calls do, function by function, printed by my own tool. Condition of each: its relation holds of the answer, and what is handed in lies in memory as told. -/
import Derived.Test.YtjookebbmfiidaaK0
set_option linter.unusedVariables false
set_option maxRecDepth 100000
set_option maxHeartbeats 4000000
namespace Go.Proofs.Ytjookebbmfiidaa.K
open Go.Proofs.Ytjookebbmfiidaa.B Go.Proofs.Ytjookebbmfiidaa.R Go.RowKit
noncomputable abbrev q15c4 := Code.snd (Code.snd (bodyOf Try.f15))
noncomputable abbrev q15c8 := Code.fst (Code.fst (Code.snd (Code.fst (Code.snd (bodyOf Try.f15)))))
abbrev trellisref8_in_R (w : World) (F : Nat → Prop) (r : Bool) : Ending → World → Prop := fun e w' => e = .returned (.bool r) ∧ B.Loc w w' [] [St w []]
noncomputable abbrev trellisref8_in_C (w : World) (F : Nat → Prop) (r : Bool) : Cx := ⟨Try.prog, 15, Try.f15, 17, trellisref8_in_R w F  r, w⟩
theorem trellisref8_in_calls (w : World) (F : Nat → Prop) (x1 : ByteArray) (x2 : Int) (hF : ∀ b, F b → b < w.heap.size ∧ ∀ o ∈ ([] : List (List Nat)), b ∉ o) (hL0 : B.Loc w w [] [Sm w.heap.size F w [], St w []]) (r : Bool) (h : trellisref8_in x1 x2 r) : Calls Try.prog 15 #[.string x1, .int .u8 x2] w (trellisref8_in_R w F  r) := by
 unfold trellisref8_in at h
 refine calls_of_Loc (vs := [.string x1, .int .u8 x2]) 17 Try.func15 rfl Try.ntmps15 rfl hL0 ?_
 show G (trellisref8_in_C w F r) _ _ _ _
 refine g_seq rfl <| g_region rfl rfl <| wl_v 0 rfl (v_assign rfl) gn rfl <| w_end 1 rfl <| g_seq rfl <| g_seq rfl <| g_region rfl rfl <| wl_v 0 rfl (v_assign rfl) gn rfl <| w_end 1 rfl <| g_block rfl <| g_loop rfl ?_
 have key1 : ∀ s, Rounds (fun (s : Int) o => trellisref8_in_b1 x1 x2 s o) s r → (fun (s : Int) => ∀ (_ : Unit), G (trellisref8_in_C w F r) [.code q15c8, .inLoop q15c8, .inBlock 0, .code q15c4] [(0, .string x1), (1, .int .u8 x2), (5, .int .i64 s)] [] [Sm w.heap.size F w [], St w []]) s := by
  intro s hs
  refine Rounds.ind (mot := (fun (s : Int) => ∀ (_ : Unit), G (trellisref8_in_C w F r) [.code q15c8, .inLoop q15c8, .inBlock 0, .code q15c4] [(0, .string x1), (1, .int .u8 x2), (5, .int .i64 s)] [] [Sm w.heap.size F w [], St w []])) ?_ hs
  clear hs s
  intro x7 o1 h hO1
  show ∀ (_ : Unit), G (trellisref8_in_C w F r) [.code q15c8, .inLoop q15c8, .inBlock 0, .code q15c4] [(0, .string x1), (1, .int .u8 x2), (5, .int .i64 x7)] [] [Sm w.heap.size F w [], St w []]
  intro _
  have h : trellisref8_in_b1 x1 x2 x7 o1 := h
  unfold trellisref8_in_b1 at h
  refine g_seq rfl <| g_seq rfl <| g_region rfl rfl <| wl_v 0 rfl (v_move rfl) gn rfl <| wl_v 1 rfl (v_move rfl) gn rfl <| wl_v 2 rfl (v_lenS un_9 rfl) gn rfl <| wl_v 3 rfl (v_bin rfl rfl rfl) gn rfl <| w_end 4 rfl ?_
  by_cases hp11 : x7 < (x1.size : Int)
  ·have h := if_pos' hp11 h
   refine g_true rfl _ rfl ((decide_eq_true hp11)) <| g_skip rfl <| g_seq rfl <| g_block rfl <| g_seq rfl <| g_region rfl rfl <| wl_v 0 rfl (v_move rfl) gn rfl <| wl_v 1 rfl (v_move rfl) gn rfl ?_
   obtain ⟨hb12, h⟩ := h
   refine wl_v 2 rfl (v_indexS un_9 rfl rfl hb12) gn rfl <| wl_v 3 rfl (v_move rfl) gn rfl <| wl_v 4 rfl (v_bin rfl rfl rfl) gn rfl <| w_end 5 rfl ?_
   by_cases hp13 : bt x1 x7 = x2
   ·have h := if_pos' hp13 h
    refine g_true rfl _ rfl ((eqi hp13)) <| g_seq rfl <| g_region rfl rfl <| wl_v 0 rfl (v_assign rfl) gn rfl <| w_end 1 rfl ?_
    have h := Out.inr hO1 h
    refine g_retR [.bool true] rfl Try.func15 rfl (.tmp rfl (.nil)) fun wr hLr => ?_
    have hMr := hLr.pk0 (.c 1 rfl .n)
    show trellisref8_in_R w F  r (.returned (packV [.bool true])) wr
    rw [h]
    exact ⟨rfl, hMr⟩
   ·have h := if_neg' hp13 h
    refine g_false rfl _ rfl ((nei hp13)) <| g_skip rfl <| g_inBlock <| g_region rfl rfl <| wl_v 0 rfl (v_move rfl) gn rfl <| wl_v 1 rfl (v_bin rfl rfl rfl) gn rfl <| wl_v 2 rfl (v_assign rfl) gn rfl <| w_end 3 rfl <| g_inLoop ?_
    have ih := Out.inl hO1 h
    exact g_go [0, 1] (ih ()) ⟨rfl, rfl, rfl, trivial⟩ (.slnil) rfl
  ·have h := if_neg' hp11 h
   refine g_false rfl _ rfl ((decide_eq_false hp11)) <| g_exit [.code q15c4] rfl rfl <| g_seq rfl <| g_region rfl rfl <| wl_v 0 rfl (v_assign rfl) gn rfl <| w_end 1 rfl ?_
   have h := Out.inr hO1 h
   refine g_retR [.bool false] rfl Try.func15 rfl (.tmp rfl (.nil)) fun wr hLr => ?_
   have hMr := hLr.pk0 (.c 1 rfl .n)
   show trellisref8_in_R w F  r (.returned (packV [.bool false])) wr
   rw [h]
   exact ⟨rfl, hMr⟩
 exact g_go [0, 1] (key1 _ h ()) ⟨rfl, rfl, rfl, trivial⟩ (.slnil) rfl
noncomputable abbrev q38c6 := Code.snd (Code.snd (Code.snd (bodyOf Try.f38)))
noncomputable abbrev q38c8 := Code.fst (Code.fst (Code.fst (Code.snd (Code.snd (bodyOf Try.f38)))))
abbrev trellisref8_run_R (w : World) (F : Nat → Prop) (r : Int) : Ending → World → Prop := fun e w' => e = .returned (.int .i64 r) ∧ B.Loc w w' [] [St w []]
noncomputable abbrev trellisref8_run_C (w : World) (F : Nat → Prop) (r : Int) : Cx := ⟨Try.prog, 38, Try.f38, 26, trellisref8_run_R w F  r, w⟩
theorem trellisref8_run_calls (w : World) (F : Nat → Prop) (x1 : ByteArray) (x2 : Int) (x3 : ByteArray) (hF : ∀ b, F b → b < w.heap.size ∧ ∀ o ∈ ([] : List (List Nat)), b ∉ o) (hL0 : B.Loc w w [] [Sm w.heap.size F w [], St w []]) (r : Int) (h : trellisref8_run x1 x2 x3 r) : Calls Try.prog 38 #[.string x1, .int .i64 x2, .string x3] w (trellisref8_run_R w F  r) := by
 unfold trellisref8_run at h
 refine calls_of_Loc (vs := [.string x1, .int .i64 x2, .string x3]) 26 Try.func38 rfl Try.ntmps38 rfl hL0 ?_
 show G (trellisref8_run_C w F r) _ _ _ _
 refine g_seq rfl <| g_region rfl rfl <| wl_v 0 rfl (v_assign rfl) gn rfl <| w_end 1 rfl <| g_seq rfl <| g_region rfl rfl <| wl_v 0 rfl (v_assign rfl) gn rfl <| w_end 1 rfl <| g_seq rfl <| g_block rfl <| g_loop rfl ?_
 have key1 : ∀ s, Rounds (fun (s : Int) o => trellisref8_run_b1 x2 x1 x3 s o) s r → (fun (s : Int) => ∀ (_ : Unit), G (trellisref8_run_C w F r) [.code q38c8, .inLoop q38c8, .inBlock 0, .code q38c6] [(0, .string x1), (1, .int .i64 x2), (2, .string x3), (7, .int .i64 s)] [] [Sm w.heap.size F w [], St w []]) s := by
  intro s hs
  refine Rounds.ind (mot := (fun (s : Int) => ∀ (_ : Unit), G (trellisref8_run_C w F r) [.code q38c8, .inLoop q38c8, .inBlock 0, .code q38c6] [(0, .string x1), (1, .int .i64 x2), (2, .string x3), (7, .int .i64 s)] [] [Sm w.heap.size F w [], St w []])) ?_ hs
  clear hs s
  intro x16 o1 h hO1
  show ∀ (_ : Unit), G (trellisref8_run_C w F r) [.code q38c8, .inLoop q38c8, .inBlock 0, .code q38c6] [(0, .string x1), (1, .int .i64 x2), (2, .string x3), (7, .int .i64 x16)] [] [Sm w.heap.size F w [], St w []]
  intro _
  have h : trellisref8_run_b1 x2 x1 x3 x16 o1 := h
  unfold trellisref8_run_b1 at h
  refine g_seq rfl <| g_seq rfl <| g_region rfl rfl <| wl_v 0 rfl (v_move rfl) gn rfl <| wl_v 1 rfl (v_move rfl) gn rfl <| wl_v 2 rfl (v_bin rfl rfl rfl) gn rfl <| wl_v 3 rfl (v_move rfl) gn rfl <| wl_v 4 rfl (v_lenS un_9 rfl) gn rfl <| wl_v 5 rfl (v_bin rfl rfl rfl) gn rfl <| wl_v 6 rfl (v_move rfl) gn rfl ?_
  by_cases hp28 : w64 (x2 + x16) < (x1.size : Int)
  ·have h := if_pos' hp28 h
   refine w_bool 14 rfl ((decide_eq_true hp28)) <| wl_v 7 rfl (v_move rfl) (gy 14 rfl rfl) rfl <| wl_v 8 rfl (v_move rfl) (gy 14 rfl rfl) rfl <| wl_v 9 rfl (v_move rfl) (gy 14 rfl rfl) rfl <| wl_v 10 rfl (v_move rfl) (gy 14 rfl rfl) rfl <| wl_v 11 rfl (v_bin rfl rfl rfl) (gy 14 rfl rfl) rfl ?_
   obtain ⟨hb29, h⟩ := h
   refine wl_v 12 rfl (v_indexS un_9 rfl rfl hb29) (gy 14 rfl rfl) rfl ?_
   obtain ⟨r33, hv34, h⟩ := h
   refine wl_s 13 rfl (s_call [.string x3, .int .u8 (bt x1 (w64 (x2 + x16)))] rfl Try.func15 rfl rfl rfl fun w30 hL31 => ?_) (gy 14 rfl rfl)
   have hp32 := pmI hL31 .n .n (by kernel_rfl)
   refine Calls.mono (trellisref8_in_calls w30 (Fl ([] : List Snap)) x3 (bt x1 (w64 (x2 + x16))) (hL31.hFl hp32 (sels [] rfl)) (hL31.into hp32 _) r33 hv34) ?_
   rintro _ w35 ⟨rfl, hM36⟩
   have hL37 := hL31.call hp32 hM36
   refine ⟨_, _, _, rfl, hL37, ?_⟩
   refine wl_v 14 rfl (v_pick (b := true) rfl rfl) gn rfl <| w_end 15 rfl ?_
   by_cases hp38 : r33 = true
   ·have h := if_pos' hp38 h
    refine g_true rfl _ rfl (hp38) <| g_skip rfl <| g_block rfl <| g_region rfl rfl <| wl_v 0 rfl (v_move rfl) gn rfl <| wl_v 1 rfl (v_bin rfl rfl rfl) gn rfl <| wl_v 2 rfl (v_assign rfl) gn rfl <| w_end 3 rfl <| g_inBlock <| g_inLoop ?_
    have ih := Out.inl hO1 h
    exact g_go [0, 1] (ih ()) ⟨rfl, rfl, rfl, rfl, trivial⟩ (.slnil) rfl
   ·have h := if_neg' hp38 h
    refine g_false rfl _ rfl ((bf hp38)) <| g_exit [.code q38c6] rfl rfl <| g_seq rfl <| g_region rfl rfl <| wl_v 0 rfl (v_move rfl) gn rfl <| wl_v 1 rfl (v_assign rfl) gn rfl <| w_end 2 rfl ?_
    have h := Out.inr hO1 h
    refine g_retR [.int .i64 x16] rfl Try.func38 rfl (.tmp rfl (.nil)) fun wr hLr => ?_
    have hMr := hLr.pk0 (.c 1 rfl .n)
    show trellisref8_run_R w F  r (.returned (packV [.int .i64 x16])) wr
    rw [h]
    exact ⟨rfl, hMr⟩
  ·have h := if_neg' hp28 h
   refine w_bool 14 rfl ((decide_eq_false hp28)) <| wl_pass 7 rfl (ps 14 rfl rfl rfl) <| wl_pass 8 rfl (ps 14 rfl rfl rfl) <| wl_pass 9 rfl (ps 14 rfl rfl rfl) <| wl_pass 10 rfl (ps 14 rfl rfl rfl) <| wl_pass 11 rfl (ps 14 rfl rfl rfl) <| wl_pass 12 rfl (ps 14 rfl rfl rfl) <| wl_pass 13 rfl (ps 14 rfl rfl rfl) <| wl_v 14 rfl (v_pick (b := false) rfl rfl) gn rfl <| w_end 15 rfl <| g_false rfl _ rfl (rfl) <| g_exit [.code q38c6] rfl rfl ?_
   refine g_seq rfl <| g_region rfl rfl <| wl_v 0 rfl (v_move rfl) gn rfl <| wl_v 1 rfl (v_assign rfl) gn rfl <| w_end 2 rfl ?_
   have h := Out.inr hO1 h
   refine g_retR [.int .i64 x16] rfl Try.func38 rfl (.tmp rfl (.nil)) fun wr hLr => ?_
   have hMr := hLr.pk0 (.c 1 rfl .n)
   show trellisref8_run_R w F  r (.returned (packV [.int .i64 x16])) wr
   rw [h]
   exact ⟨rfl, hMr⟩
 exact g_go [0, 1] (key1 _ h ()) ⟨rfl, rfl, rfl, rfl, trivial⟩ (.slnil) rfl
noncomputable abbrev q39c6 := Code.snd (Code.snd (Code.snd (bodyOf Try.f39)))
noncomputable abbrev q39c10 := Code.fst (Code.fst (Code.snd (Code.fst (Code.snd (Code.snd (bodyOf Try.f39))))))
abbrev trellisref8_number_R (w : World) (F : Nat → Prop) (r : Int) : Ending → World → Prop := fun e w' => e = .returned (.int .i64 r) ∧ B.Loc w w' [] [St w []]
noncomputable abbrev trellisref8_number_C (w : World) (F : Nat → Prop) (r : Int) : Cx := ⟨Try.prog, 39, Try.f39, 22, trellisref8_number_R w F  r, w⟩
theorem trellisref8_number_calls (w : World) (F : Nat → Prop) (x1 : ByteArray) (hF : ∀ b, F b → b < w.heap.size ∧ ∀ o ∈ ([] : List (List Nat)), b ∉ o) (hL0 : B.Loc w w [] [Sm w.heap.size F w [], St w []]) (r : Int) (h : trellisref8_number x1 r) : Calls Try.prog 39 #[.string x1] w (trellisref8_number_R w F  r) := by
 unfold trellisref8_number at h
 refine calls_of_Loc (vs := [.string x1]) 22 Try.func39 rfl Try.ntmps39 rfl hL0 ?_
 show G (trellisref8_number_C w F r) _ _ _ _
 refine g_seq rfl <| g_region rfl rfl <| wl_v 0 rfl (v_assign rfl) gn rfl <| w_end 1 rfl <| g_seq rfl <| g_region rfl rfl <| wl_v 0 rfl (v_assign rfl) gn rfl <| w_end 1 rfl <| g_seq rfl <| g_seq rfl <| g_region rfl rfl <| wl_v 0 rfl (v_assign rfl) gn rfl ?_
 refine w_end 1 rfl <| g_block rfl <| g_loop rfl ?_
 have key1 : ∀ s, Rounds (fun (s : Int × Int) o => trellisref8_number_b1 x1 s.1 s.2 o) s r → (fun (s : Int × Int) => ∀ (_ : Unit), G (trellisref8_number_C w F r) [.code q39c10, .inLoop q39c10, .inBlock 0, .code q39c6] [(0, .string x1), (3, .int .i64 s.1), (4, .int .i64 s.2)] [] [Sm w.heap.size F w [], St w []]) s := by
  intro s hs
  refine Rounds.ind (mot := (fun (s : Int × Int) => ∀ (_ : Unit), G (trellisref8_number_C w F r) [.code q39c10, .inLoop q39c10, .inBlock 0, .code q39c6] [(0, .string x1), (3, .int .i64 s.1), (4, .int .i64 s.2)] [] [Sm w.heap.size F w [], St w []])) ?_ hs
  clear hs s
  intro s o1 h hO1
  obtain ⟨x6, x7⟩ := s
  show ∀ (_ : Unit), G (trellisref8_number_C w F r) [.code q39c10, .inLoop q39c10, .inBlock 0, .code q39c6] [(0, .string x1), (3, .int .i64 x6), (4, .int .i64 x7)] [] [Sm w.heap.size F w [], St w []]
  intro _
  have h : trellisref8_number_b1 x1 x6 x7 o1 := h
  unfold trellisref8_number_b1 at h
  refine g_seq rfl <| g_seq rfl <| g_region rfl rfl <| wl_v 0 rfl (v_move rfl) gn rfl <| wl_v 1 rfl (v_move rfl) gn rfl <| wl_v 2 rfl (v_lenS un_9 rfl) gn rfl <| wl_v 3 rfl (v_bin rfl rfl rfl) gn rfl <| w_end 4 rfl ?_
  by_cases hp11 : x7 < (x1.size : Int)
  ·have h := if_pos' hp11 h
   refine g_true rfl _ rfl ((decide_eq_true hp11)) <| g_skip rfl <| g_seq rfl <| g_block rfl <| g_seq rfl <| g_region rfl rfl <| wl_v 0 rfl (v_move rfl) gn rfl <| wl_v 1 rfl (v_bin rfl rfl rfl) gn rfl <| wl_v 2 rfl (v_move rfl) gn rfl <| wl_v 3 rfl (v_move rfl) gn rfl ?_
   obtain ⟨hb12, h⟩ := h
   refine wl_v 4 rfl (v_indexS un_9 rfl rfl hb12) gn rfl <| wl_v 5 rfl (v_bin rfl rfl rfl) gn rfl <| wl_v 6 rfl (v_conv ⟨_, un_5⟩ un_3 rfl) gn rfl <| wl_v 7 rfl (v_bin rfl rfl rfl) gn rfl <| wl_v 8 rfl (v_assign rfl) gn rfl <| w_end 9 rfl <| g_seq rfl <| g_region rfl rfl <| wl_v 0 rfl (v_move rfl) gn rfl <| wl_v 1 rfl (v_bin rfl rfl rfl) gn rfl <| w_end 2 rfl ?_
   by_cases hp13 : w64 ((w64 (10 * x6)) + (w64 (IntKind.u8.wrap ((bt x1 x7) - 48)))) > 65535
   ·have h := if_pos' hp13 h
    refine g_true rfl _ rfl ((decide_eq_true hp13)) <| g_region rfl rfl <| wl_v 0 rfl (v_assign rfl) gn rfl <| w_end 1 rfl <| g_inBlock <| g_region rfl rfl <| wl_v 0 rfl (v_move rfl) gn rfl <| wl_v 1 rfl (v_bin rfl rfl rfl) gn rfl <| wl_v 2 rfl (v_assign rfl) gn rfl <| w_end 3 rfl <| g_inLoop ?_
    have ih := Out.inl hO1 h
    exact g_go [0, 1] (ih ()) ⟨rfl, rfl, rfl, trivial⟩ (.slnil) rfl
   ·have h := if_neg' hp13 h
    refine g_false rfl _ rfl ((decide_eq_false hp13)) <| g_skip rfl <| g_inBlock <| g_region rfl rfl <| wl_v 0 rfl (v_move rfl) gn rfl <| wl_v 1 rfl (v_bin rfl rfl rfl) gn rfl <| wl_v 2 rfl (v_assign rfl) gn rfl <| w_end 3 rfl <| g_inLoop ?_
    have ih := Out.inl hO1 h
    exact g_go [0, 1] (ih ()) ⟨rfl, rfl, rfl, trivial⟩ (.slnil) rfl
  ·have h := if_neg' hp11 h
   refine g_false rfl _ rfl ((decide_eq_false hp11)) <| g_exit [.code q39c6] rfl rfl <| g_seq rfl <| g_region rfl rfl <| wl_v 0 rfl (v_move rfl) gn rfl <| wl_v 1 rfl (v_assign rfl) gn rfl <| w_end 2 rfl ?_
   have h := Out.inr hO1 h
   refine g_retR [.int .i64 x6] rfl Try.func39 rfl (.tmp rfl (.nil)) fun wr hLr => ?_
   have hMr := hLr.pk0 (.c 1 rfl .n)
   show trellisref8_number_R w F  r (.returned (packV [.int .i64 x6])) wr
   rw [h]
   exact ⟨rfl, hMr⟩
 exact g_go [0, 1] (key1 _ h ()) ⟨rfl, rfl, rfl, trivial⟩ (.slnil) rfl
noncomputable abbrev q49c4 := Code.snd (Code.snd (bodyOf Try.f49))
noncomputable abbrev q49c8 := Code.fst (Code.fst (Code.snd (Code.fst (Code.snd (bodyOf Try.f49)))))
abbrev trellisref8_hex_R (w : World) (F : Nat → Prop) (r : Int) : Ending → World → Prop := fun e w' => e = .returned (.int .i64 r) ∧ B.Loc w w' [] [St w []]
noncomputable abbrev trellisref8_hex_C (w : World) (F : Nat → Prop) (r : Int) : Cx := ⟨Try.prog, 49, Try.f49, 17, trellisref8_hex_R w F  r, w⟩
theorem trellisref8_hex_calls (w : World) (F : Nat → Prop) (x1 : Int) (hF : ∀ b, F b → b < w.heap.size ∧ ∀ o ∈ ([] : List (List Nat)), b ∉ o) (hL0 : B.Loc w w [] [Sm w.heap.size F w [], St w []]) (r : Int) (h : trellisref8_hex x1 r) : Calls Try.prog 49 #[.int .u8 x1] w (trellisref8_hex_R w F  r) := by
 unfold trellisref8_hex at h
 refine calls_of_Loc (vs := [.int .u8 x1]) 17 Try.func49 rfl Try.ntmps49 rfl hL0 ?_
 show G (trellisref8_hex_C w F r) _ _ _ _
 refine g_seq rfl <| g_region rfl rfl <| wl_v 0 rfl (v_assign rfl) gn rfl <| w_end 1 rfl <| g_seq rfl <| g_seq rfl <| g_region rfl rfl <| wl_v 0 rfl (v_assign rfl) gn rfl <| w_end 1 rfl <| g_block rfl <| g_loop rfl ?_
 have key1 : ∀ s, Rounds (fun (s : Int) o => trellisref8_hex_b1 x1 s o) s r → (fun (s : Int) => ∀ (_ : Unit), G (trellisref8_hex_C w F r) [.code q49c8, .inLoop q49c8, .inBlock 0, .code q49c4] [(0, .int .u8 x1), (3, .int .i64 s)] [] [Sm w.heap.size F w [], St w []]) s := by
  intro s hs
  refine Rounds.ind (mot := (fun (s : Int) => ∀ (_ : Unit), G (trellisref8_hex_C w F r) [.code q49c8, .inLoop q49c8, .inBlock 0, .code q49c4] [(0, .int .u8 x1), (3, .int .i64 s)] [] [Sm w.heap.size F w [], St w []])) ?_ hs
  clear hs s
  intro x5 o1 h hO1
  show ∀ (_ : Unit), G (trellisref8_hex_C w F r) [.code q49c8, .inLoop q49c8, .inBlock 0, .code q49c4] [(0, .int .u8 x1), (3, .int .i64 x5)] [] [Sm w.heap.size F w [], St w []]
  intro _
  have h : trellisref8_hex_b1 x1 x5 o1 := h
  unfold trellisref8_hex_b1 at h
  refine g_seq rfl <| g_seq rfl <| g_region rfl rfl <| wl_v 0 rfl (v_move rfl) gn rfl <| wl_v 1 rfl (v_bin rfl rfl rfl) gn rfl <| w_end 2 rfl ?_
  by_cases hp9 : x5 < 16
  ·have h := if_pos' hp9 h
   refine g_true rfl _ rfl ((decide_eq_true hp9)) <| g_skip rfl <| g_seq rfl <| g_block rfl <| g_seq rfl <| g_region rfl rfl <| wl_v 0 rfl (v_move rfl) gn rfl ?_
   obtain ⟨hb10, h⟩ := h
   refine wl_v 1 rfl (v_indexS un_9 rfl rfl hb10) gn rfl <| wl_v 2 rfl (v_move rfl) gn rfl <| wl_v 3 rfl (v_bin rfl rfl rfl) gn rfl <| w_end 4 rfl ?_
   by_cases hp11 : bt (⟨#[48, 49, 50, 51, 52, 53, 54, 55, 56, 57, 97, 98, 99, 100, 101, 102, 65, 66, 67, 68, 69, 70]⟩ : ByteArray) x5 = x1
   ·have h := if_pos' hp11 h
    refine g_true rfl _ rfl ((eqi hp11)) <| g_seq rfl <| g_region rfl rfl <| wl_v 0 rfl (v_move rfl) gn rfl <| wl_v 1 rfl (v_assign rfl) gn rfl <| w_end 2 rfl ?_
    have h := Out.inr hO1 h
    refine g_retR [.int .i64 x5] rfl Try.func49 rfl (.tmp rfl (.nil)) fun wr hLr => ?_
    have hMr := hLr.pk0 (.c 1 rfl .n)
    show trellisref8_hex_R w F  r (.returned (packV [.int .i64 x5])) wr
    rw [h]
    exact ⟨rfl, hMr⟩
   ·have h := if_neg' hp11 h
    refine g_false rfl _ rfl ((nei hp11)) <| g_skip rfl <| g_inBlock <| g_region rfl rfl <| wl_v 0 rfl (v_move rfl) gn rfl <| wl_v 1 rfl (v_bin rfl rfl rfl) gn rfl <| wl_v 2 rfl (v_assign rfl) gn rfl <| w_end 3 rfl <| g_inLoop ?_
    have ih := Out.inl hO1 h
    exact g_go [0, 1] (ih ()) ⟨rfl, rfl, trivial⟩ (.slnil) rfl
  ·have h := if_neg' hp9 h
   refine g_false rfl _ rfl ((decide_eq_false hp9)) <| g_exit [.code q49c4] rfl rfl <| g_seq rfl <| g_region rfl rfl <| wl_v 0 rfl (v_move rfl) gn rfl <| wl_v 1 rfl (v_bin rfl rfl rfl) gn rfl <| wl_v 2 rfl (v_conv ⟨_, un_5⟩ un_3 rfl) gn rfl <| wl_v 3 rfl (v_bin rfl rfl rfl) gn rfl <| wl_v 4 rfl (v_assign rfl) gn rfl <| w_end 5 rfl ?_
   have h := Out.inr hO1 h
   refine g_retR [.int .i64 (w64 ((w64 (IntKind.u8.wrap (x1 - 65))) + 10))] rfl Try.func49 rfl (.tmp rfl (.nil)) fun wr hLr => ?_
   have hMr := hLr.pk0 (.c 1 rfl .n)
   show trellisref8_hex_R w F  r (.returned (packV [.int .i64 (w64 ((w64 (IntKind.u8.wrap (x1 - 65))) + 10))])) wr
   rw [h]
   exact ⟨rfl, hMr⟩
 exact g_go [0, 1] (key1 _ h ()) ⟨rfl, rfl, trivial⟩ (.slnil) rfl
noncomputable abbrev q46c54 := Code.fst (Code.fst (Code.snd (Code.fst (Code.snd (Code.snd (Code.snd (Code.snd (Code.snd (Code.snd (Code.snd (Code.snd (Code.snd (Code.snd (Code.snd (Code.fst (Code.snd (Code.fst (Code.snd (Code.snd (bodyOf Try.f46))))))))))))))))))))
abbrev trellisref8_Escape_R (w : World) (F : Nat → Prop) (r : Int × Int) : Ending → World → Prop := fun e w' => e = .returned (.tuple #[.int .i64 r.1, .int .u8 r.2]) ∧ B.Loc w w' [] [St w []]
noncomputable abbrev trellisref8_Escape_C (w : World) (F : Nat → Prop) (r : Int × Int) : Cx := ⟨Try.prog, 46, Try.f46, 45, trellisref8_Escape_R w F  r, w⟩
theorem trellisref8_Escape_calls (w : World) (F : Nat → Prop) (x1 : ByteArray) (x2 : Int) (hF : ∀ b, F b → b < w.heap.size ∧ ∀ o ∈ ([] : List (List Nat)), b ∉ o) (hL0 : B.Loc w w [] [Sm w.heap.size F w [], St w []]) (r : Int × Int) (h : trellisref8_Escape x1 x2 r) : Calls Try.prog 46 #[.string x1, .int .i64 x2] w (trellisref8_Escape_R w F  r) := by
 unfold trellisref8_Escape at h
 refine calls_of_Loc (vs := [.string x1, .int .i64 x2]) 45 Try.func46 rfl Try.ntmps46 rfl hL0 ?_
 show G (trellisref8_Escape_C w F r) _ _ _ _
 refine g_seq rfl <| g_region rfl rfl <| wl_v 0 rfl (v_assign rfl) gn rfl <| wl_v 1 rfl (v_assign rfl) gn rfl <| w_end 2 rfl <| g_seq rfl <| g_seq rfl <| g_region rfl rfl <| wl_v 0 rfl (v_move rfl) gn rfl <| wl_v 1 rfl (v_bin rfl rfl rfl) gn rfl <| wl_v 2 rfl (v_move rfl) gn rfl <| wl_v 3 rfl (v_lenS un_9 rfl) gn rfl ?_
 refine wl_v 4 rfl (v_bin rfl rfl rfl) gn rfl <| w_end 5 rfl ?_
 by_cases hp3 : w64 (x2 + 1) ≥ (x1.size : Int)
 ·have h := if_pos' hp3 h
  refine g_true rfl _ rfl ((decide_eq_true hp3)) <| g_seq rfl <| g_region rfl rfl <| wl_v 0 rfl (v_assign rfl) gn rfl <| wl_v 1 rfl (v_assign rfl) gn rfl <| w_end 2 rfl ?_
  refine g_retR [.int .i64 0, .int .u8 0] rfl Try.func46 rfl (.tmp rfl (.tmp rfl (.nil))) fun wr hLr => ?_
  have hMr := hLr.pk0 (.c 1 rfl .n)
  show trellisref8_Escape_R w F  r (.returned (packV [.int .i64 0, .int .u8 0])) wr
  rw [h]
  exact ⟨rfl, hMr⟩
 ·have h := if_neg' hp3 h
  refine g_false rfl _ rfl ((decide_eq_false hp3)) <| g_skip rfl <| g_seq rfl <| g_seq rfl <| g_region rfl rfl <| wl_v 0 rfl (v_move rfl) gn rfl <| wl_v 1 rfl (v_move rfl) gn rfl <| wl_v 2 rfl (v_bin rfl rfl rfl) gn rfl ?_
  obtain ⟨hb4, h⟩ := h
  refine wl_v 3 rfl (v_indexS un_9 rfl rfl hb4) gn rfl <| w_end 4 rfl <| g_block rfl <| g_seq rfl <| g_region rfl rfl <| wl_v 0 rfl (v_bin rfl rfl rfl) gn rfl <| wl_v 1 rfl (v_assign rfl) gn rfl <| w_end 2 rfl ?_
  by_cases hp5 : bt x1 (w64 (x2 + 1)) = 34
  ·have h := if_pos' hp5 h
   refine g_true rfl _ rfl ((eqi hp5)) <| g_seq rfl <| g_region rfl rfl <| wl_v 0 rfl (v_assign rfl) gn rfl <| wl_v 1 rfl (v_assign rfl) gn rfl <| w_end 2 rfl ?_
   refine g_retR [.int .i64 2, .int .u8 34] rfl Try.func46 rfl (.tmp rfl (.tmp rfl (.nil))) fun wr hLr => ?_
   have hMr := hLr.pk0 (.c 1 rfl .n)
   show trellisref8_Escape_R w F  r (.returned (packV [.int .i64 2, .int .u8 34])) wr
   rw [h]
   exact ⟨rfl, hMr⟩
  ·have h := if_neg' hp5 h
   refine g_false rfl _ rfl ((nei hp5)) <| g_seq rfl <| g_region rfl rfl <| wl_v 0 rfl (v_bin rfl rfl rfl) gn rfl <| wl_v 1 rfl (v_assign rfl) gn rfl <| w_end 2 rfl ?_
   by_cases hp6 : bt x1 (w64 (x2 + 1)) = 92
   ·have h := if_pos' hp6 h
    refine g_true rfl _ rfl ((eqi hp6)) <| g_seq rfl <| g_region rfl rfl <| wl_v 0 rfl (v_assign rfl) gn rfl <| wl_v 1 rfl (v_assign rfl) gn rfl <| w_end 2 rfl ?_
    refine g_retR [.int .i64 2, .int .u8 92] rfl Try.func46 rfl (.tmp rfl (.tmp rfl (.nil))) fun wr hLr => ?_
    have hMr := hLr.pk0 (.c 1 rfl .n)
    show trellisref8_Escape_R w F  r (.returned (packV [.int .i64 2, .int .u8 92])) wr
    rw [h]
    exact ⟨rfl, hMr⟩
   ·have h := if_neg' hp6 h
    refine g_false rfl _ rfl ((nei hp6)) <| g_seq rfl <| g_region rfl rfl <| wl_v 0 rfl (v_bin rfl rfl rfl) gn rfl <| wl_v 1 rfl (v_assign rfl) gn rfl <| w_end 2 rfl ?_
    by_cases hp7 : bt x1 (w64 (x2 + 1)) = 110
    ·have h := if_pos' hp7 h
     refine g_true rfl _ rfl ((eqi hp7)) <| g_seq rfl <| g_region rfl rfl <| wl_v 0 rfl (v_assign rfl) gn rfl <| wl_v 1 rfl (v_assign rfl) gn rfl <| w_end 2 rfl ?_
     refine g_retR [.int .i64 2, .int .u8 10] rfl Try.func46 rfl (.tmp rfl (.tmp rfl (.nil))) fun wr hLr => ?_
     have hMr := hLr.pk0 (.c 1 rfl .n)
     show trellisref8_Escape_R w F  r (.returned (packV [.int .i64 2, .int .u8 10])) wr
     rw [h]
     exact ⟨rfl, hMr⟩
    ·have h := if_neg' hp7 h
     refine g_false rfl _ rfl ((nei hp7)) <| g_seq rfl <| g_region rfl rfl <| wl_v 0 rfl (v_bin rfl rfl rfl) gn rfl <| wl_v 1 rfl (v_assign rfl) gn rfl <| w_end 2 rfl ?_
     by_cases hp8 : bt x1 (w64 (x2 + 1)) = 116
     ·have h := if_pos' hp8 h
      refine g_true rfl _ rfl ((eqi hp8)) <| g_seq rfl <| g_region rfl rfl <| wl_v 0 rfl (v_assign rfl) gn rfl <| wl_v 1 rfl (v_assign rfl) gn rfl <| w_end 2 rfl ?_
      refine g_retR [.int .i64 2, .int .u8 9] rfl Try.func46 rfl (.tmp rfl (.tmp rfl (.nil))) fun wr hLr => ?_
      have hMr := hLr.pk0 (.c 1 rfl .n)
      show trellisref8_Escape_R w F  r (.returned (packV [.int .i64 2, .int .u8 9])) wr
      rw [h]
      exact ⟨rfl, hMr⟩
     ·have h := if_neg' hp8 h
      refine g_false rfl _ rfl ((nei hp8)) <| g_seq rfl <| g_region rfl rfl <| wl_v 0 rfl (v_bin rfl rfl rfl) gn rfl <| wl_v 1 rfl (v_assign rfl) gn rfl <| w_end 2 rfl ?_
      by_cases hp9 : bt x1 (w64 (x2 + 1)) = 114
      ·have h := if_pos' hp9 h
       refine g_true rfl _ rfl ((eqi hp9)) <| g_seq rfl <| g_region rfl rfl <| wl_v 0 rfl (v_assign rfl) gn rfl <| wl_v 1 rfl (v_assign rfl) gn rfl <| w_end 2 rfl ?_
       refine g_retR [.int .i64 2, .int .u8 13] rfl Try.func46 rfl (.tmp rfl (.tmp rfl (.nil))) fun wr hLr => ?_
       have hMr := hLr.pk0 (.c 1 rfl .n)
       show trellisref8_Escape_R w F  r (.returned (packV [.int .i64 2, .int .u8 13])) wr
       rw [h]
       exact ⟨rfl, hMr⟩
      ·have h := if_neg' hp9 h
       refine g_false rfl _ rfl ((nei hp9)) <| g_seq rfl <| g_region rfl rfl <| wl_v 0 rfl (v_bin rfl rfl rfl) gn rfl <| wl_v 1 rfl (v_assign rfl) gn rfl <| w_end 2 rfl ?_
       by_cases hp10 : bt x1 (w64 (x2 + 1)) = 120
       ·have h := if_pos' hp10 h
        refine g_true rfl _ rfl ((eqi hp10)) <| g_seq rfl <| g_region rfl rfl <| wl_v 0 rfl (v_move rfl) gn rfl <| wl_v 1 rfl (v_move rfl) gn rfl <| wl_v 2 rfl (v_bin rfl rfl rfl) gn rfl ?_
        obtain ⟨r14, hv15, h⟩ := h
        refine wl_s 3 rfl (s_call [.string x1, .int .i64 (w64 (x2 + 2)), .string (⟨#[48, 49, 50, 51, 52, 53, 54, 55, 56, 57, 97, 98, 99, 100, 101, 102, 65, 66, 67, 68, 69, 70]⟩ : ByteArray)] rfl Try.func38 rfl rfl rfl fun w11 hL12 => ?_) gn
        have hp13 := pmI hL12 .n .n (by kernel_rfl)
        refine Calls.mono (trellisref8_run_calls w11 (Fl ([] : List Snap)) x1 (w64 (x2 + 2)) (⟨#[48, 49, 50, 51, 52, 53, 54, 55, 56, 57, 97, 98, 99, 100, 101, 102, 65, 66, 67, 68, 69, 70]⟩ : ByteArray) (hL12.hFl hp13 (sels [] rfl)) (hL12.into hp13 _) r14 hv15) ?_
        rintro _ w16 ⟨rfl, hM17⟩
        have hL18 := hL12.call hp13 hM17
        refine ⟨_, _, _, rfl, hL18, ?_⟩
        refine wl_v 4 rfl (v_bin rfl rfl rfl) gn rfl <| w_end 5 rfl ?_
        by_cases hp19 : r14 ≥ 2
        ·have h := if_pos' hp19 h
         refine g_true rfl _ rfl ((decide_eq_true hp19)) <| g_seq rfl ?_
         obtain ⟨hb20, h⟩ := h
         obtain ⟨r24, hv25, h⟩ := h
         obtain ⟨hb29, h⟩ := h
         obtain ⟨r33, hv34, h⟩ := h
         have hns : Region.noSelect (Code.ops q46c54) = true := by kernel_rfl
         refine g_drawG [] 15 rfl rfl mix rfl (.c 0 rfl (.c 1 rfl .n)) <| wfv 0 rfl (v_move rfl) gn hns rfl <| wfv 1 rfl (v_move rfl) gn hns rfl <| wfv 2 rfl (v_bin rfl rfl rfl) gn hns rfl <| wfv 3 rfl (v_indexS un_9 rfl rfl hb20) gn hns rfl <| wfv 6 rfl (v_move rfl) gn hns rfl <| wfv 7 rfl (v_move rfl) gn hns rfl <| wfv 8 rfl (v_bin rfl rfl rfl) gn hns rfl <| wfv 9 rfl (v_indexS un_9 rfl rfl hb29) gn hns rfl ?_
         refine wf_all [4] (by kernel_rfl) rfl ⟨on_s 4 rfl gn rfl (s_call [.int .u8 (bt x1 (w64 (x2 + 2)))] rfl Try.func49 rfl rfl rfl fun w116 hL117 => ?_), trivial⟩
         have hp118 := pmI hL117 .n .n (by kernel_rfl)
         refine Calls.mono (trellisref8_hex_calls w116 (Fl ([] : List Snap)) (bt x1 (w64 (x2 + 2))) (hL117.hFl hp118 (sels [] rfl)) (hL117.into hp118 _) r24 hv25) ?_
         rintro _ w119 ⟨rfl, hM120⟩
         have hL121 := hL117.call hp118 hM120
         refine ⟨_, _, _, rfl, hL121, ?_⟩
         refine ⟨sels [] rfl, sels [0, 1] rfl, ?_⟩
         refine wfv 5 rfl (v_bin rfl rfl rfl) gn hns rfl ?_
         refine wf_all [10] (by kernel_rfl) rfl ⟨on_s 10 rfl gn rfl (s_call [.int .u8 (bt x1 (w64 (x2 + 3)))] rfl Try.func49 rfl rfl rfl fun w128 hL129 => ?_), trivial⟩
         have hp130 := pmI hL129 .n .n (by kernel_rfl)
         refine Calls.mono (trellisref8_hex_calls w128 (Fl ([] : List Snap)) (bt x1 (w64 (x2 + 3))) (hL129.hFl hp130 (sels [] rfl)) (hL129.into hp130 _) r33 hv34) ?_
         rintro _ w131 ⟨rfl, hM132⟩
         have hL133 := hL129.call hp130 hM132
         refine ⟨_, _, _, rfl, hL133, ?_⟩
         refine ⟨sels [] rfl, sels [0, 1] rfl, ?_⟩
         refine wfv 11 rfl (v_bin rfl rfl rfl) gn hns rfl <| wfv 12 rfl (v_conv ⟨_, un_3⟩ un_5 rfl) gn hns rfl <| wfv 13 rfl (v_assign rfl) gn hns rfl <| wfv 14 rfl (v_assign rfl) gn hns rfl <| wf_end (by kernel_rfl) ?_
         refine g_retR [.int .i64 4, .int .u8 (IntKind.u8.wrap (w64 ((w64 (16 * r24)) + r33)))] rfl Try.func46 rfl (.tmp rfl (.tmp rfl (.nil))) fun wr hLr => ?_
         have hMr := hLr.pk0 (.c 1 rfl .n)
         show trellisref8_Escape_R w F  r (.returned (packV [.int .i64 4, .int .u8 (IntKind.u8.wrap (w64 ((w64 (16 * r24)) + r33)))])) wr
         rw [h]
         exact ⟨rfl, hMr⟩
        ·have h := if_neg' hp19 h
         refine g_false rfl _ rfl ((decide_eq_false hp19)) <| g_skip rfl <| g_inBlock <| g_seq rfl <| g_region rfl rfl <| wl_v 0 rfl (v_assign rfl) gn rfl <| wl_v 1 rfl (v_assign rfl) gn rfl <| w_end 2 rfl ?_
         refine g_retR [.int .i64 0, .int .u8 0] rfl Try.func46 rfl (.tmp rfl (.tmp rfl (.nil))) fun wr hLr => ?_
         have hMr := hLr.pk0 (.c 1 rfl .n)
         show trellisref8_Escape_R w F  r (.returned (packV [.int .i64 0, .int .u8 0])) wr
         rw [h]
         exact ⟨rfl, hMr⟩
       ·have h := if_neg' hp10 h
        refine g_false rfl _ rfl ((nei hp10)) <| g_skip rfl <| g_inBlock <| g_seq rfl <| g_region rfl rfl <| wl_v 0 rfl (v_assign rfl) gn rfl <| wl_v 1 rfl (v_assign rfl) gn rfl <| w_end 2 rfl ?_
        refine g_retR [.int .i64 0, .int .u8 0] rfl Try.func46 rfl (.tmp rfl (.tmp rfl (.nil))) fun wr hLr => ?_
        have hMr := hLr.pk0 (.c 1 rfl .n)
        show trellisref8_Escape_R w F  r (.returned (packV [.int .i64 0, .int .u8 0])) wr
        rw [h]
        exact ⟨rfl, hMr⟩
noncomputable abbrev q40c8 := Code.snd (Code.snd (Code.snd (Code.snd (bodyOf Try.f40))))
noncomputable abbrev q40c10 := Code.fst (Code.fst (Code.fst (Code.snd (Code.snd (Code.snd (bodyOf Try.f40))))))
noncomputable abbrev q40c12 := Code.snd q40c10
noncomputable abbrev q40c14 := Code.snd (Code.fst q40c10)
noncomputable abbrev q40c24 := Code.fst (Code.fst (Code.snd (Code.fst (Code.fst q40c12))))
abbrev trellisref8_str_R (w : World) (F : Nat → Prop) (r : Int × ByteArray × Int × Int) : Ending → World → Prop := fun e w' => e = .returned (.tuple #[.int .i64 r.1, .string r.2.1, .int .i64 r.2.2.1, .int .i64 r.2.2.2]) ∧ B.Loc w w' [] [St w []]
noncomputable abbrev trellisref8_str_C (w : World) (F : Nat → Prop) (r : Int × ByteArray × Int × Int) : Cx := ⟨Try.prog, 40, Try.f40, 61, trellisref8_str_R w F  r, w⟩
theorem trellisref8_str_calls (w : World) (F : Nat → Prop) (x1 : ByteArray) (x2 : Int) (hF : ∀ b, F b → b < w.heap.size ∧ ∀ o ∈ ([] : List (List Nat)), b ∉ o) (hL0 : B.Loc w w [] [Sm w.heap.size F w [], St w []]) (r : Int × ByteArray × Int × Int) (h : trellisref8_str x1 x2 r) : Calls Try.prog 40 #[.string x1, .int .i64 x2] w (trellisref8_str_R w F  r) := by
 unfold trellisref8_str at h
 refine calls_of_Loc (vs := [.string x1, .int .i64 x2]) 61 Try.func40 rfl Try.ntmps40 rfl hL0 ?_
 show G (trellisref8_str_C w F r) _ _ _ _
 refine g_seq rfl <| g_region rfl rfl <| wl_v 0 rfl (v_assign rfl) gn rfl <| wl_v 1 rfl (v_assign rfl) gn rfl <| wl_v 2 rfl (v_assign rfl) gn rfl <| wl_v 3 rfl (v_assign rfl) gn rfl <| w_end 4 rfl <| g_seq rfl <| g_region rfl rfl <| wl_v 0 rfl (v_assign rfl) gn rfl <| w_end 1 rfl <| g_seq rfl ?_
 refine g_region rfl rfl <| wl_v 0 rfl (v_move rfl) gn rfl <| wl_v 1 rfl (v_bin rfl rfl rfl) gn rfl <| wl_v 2 rfl (v_assign rfl) gn rfl <| w_end 3 rfl <| g_seq rfl <| g_block rfl <| g_loop rfl ?_
 have key1 : ∀ s, Rounds (fun (s : (List Int) × Int) o => trellisref8_str_b1 x1 x2 s.1 s.2 o) s r → (fun (s : (List Int) × Int) => ∀ (A44 : Option Addr) (n45 : Nat) (c46 : Nat) (h47 : Ow w.heap.size A44 n45 c46 s.1), G (trellisref8_str_C w F r) [.code q40c10, .inLoop q40c10, .inBlock 0, .code q40c8] [(0, .string x1), (1, .int .i64 x2), (8, .slice A44 n45 c46), (9, .int .i64 s.2)] [.own (.slice A44 n45 c46) 5 1 n45 (s.1.flatMap (eI .u8))] [Sm w.heap.size F w [], St w []]) s := by
  intro s hs
  refine Rounds.ind (mot := (fun (s : (List Int) × Int) => ∀ (A44 : Option Addr) (n45 : Nat) (c46 : Nat) (h47 : Ow w.heap.size A44 n45 c46 s.1), G (trellisref8_str_C w F r) [.code q40c10, .inLoop q40c10, .inBlock 0, .code q40c8] [(0, .string x1), (1, .int .i64 x2), (8, .slice A44 n45 c46), (9, .int .i64 s.2)] [.own (.slice A44 n45 c46) 5 1 n45 (s.1.flatMap (eI .u8))] [Sm w.heap.size F w [], St w []])) ?_ hs
  clear hs s
  intro s o1 h hO1
  obtain ⟨x43, x48⟩ := s
  show ∀ (A44 : Option Addr) (n45 : Nat) (c46 : Nat) (h47 : Ow w.heap.size A44 n45 c46 x43), G (trellisref8_str_C w F r) [.code q40c10, .inLoop q40c10, .inBlock 0, .code q40c8] [(0, .string x1), (1, .int .i64 x2), (8, .slice A44 n45 c46), (9, .int .i64 x48)] [.own (.slice A44 n45 c46) 5 1 n45 (x43.flatMap (eI .u8))] [Sm w.heap.size F w [], St w []]
  intro A44 n45 c46 h47
  have h : trellisref8_str_b1 x1 x2 x43 x48 o1 := h
  unfold trellisref8_str_b1 at h
  refine g_seq rfl <| g_seq rfl ?_
  have j2 : ∀ (x89 : Bool) (h : trellisref8_str_j2 x48 x1 x43 x2 x89 o1) , G (trellisref8_str_C w F r) [.code q40c14, .code q40c12, .inLoop q40c10, .inBlock 0, .code q40c8] [(0, .string x1), (1, .int .i64 x2), (8, .slice A44 n45 c46), (9, .int .i64 x48), (23, .bool x89)] [.own (.slice A44 n45 c46) 5 1 n45 (x43.flatMap (eI .u8))] [Sm w.heap.size F w [], St w []] := by
   intro x89 h
   unfold trellisref8_str_j2 at h
   by_cases hp90 : x89 = true
   ·have h := if_pos' hp90 h
    refine g_true rfl _ rfl (hp90) <| g_skip rfl <| g_block rfl <| g_seq rfl <| g_seq rfl <| g_region rfl rfl <| wl_v 0 rfl (v_move rfl) gn rfl <| wl_v 1 rfl (v_move rfl) gn rfl ?_
    obtain ⟨hb91, h⟩ := h
    refine wl_v 2 rfl (v_indexS un_9 rfl rfl hb91) gn rfl <| wl_v 3 rfl (v_bin rfl rfl rfl) gn rfl <| w_end 4 rfl ?_
    by_cases hp92 : bt x1 x48 = 34
    ·have h := if_pos' hp92 h
     refine g_true rfl _ rfl ((eqi hp92)) <| g_seq rfl ?_
     have hns : Region.noSelect (Code.ops q40c24) = true := by kernel_rfl
     refine g_drawG [] 8 rfl rfl mix rfl (.c 0 rfl (.c 1 rfl .n)) <| wfv 0 rfl (v_move rfl) gn hns rfl <| wfv 1 rfl (v_bin rfl rfl rfl) gn hns rfl <| wfv 2 rfl (v_move rfl) gn hns rfl <| wfv 3 rfl (v_b2s u8_58 un_9 rfl (Src.ownF (hl := (hlI .u8)) (h1 := (hone_int .u8)) 0 rfl h47) h47.hq) gn hns rfl <| wfv 4 rfl (v_assign rfl) gn hns rfl <| wfv 5 rfl (v_assign rfl) gn hns rfl <| wfv 6 rfl (v_assign rfl) gn hns rfl <| wfv 7 rfl (v_assign rfl) gn hns rfl <| wf_end (by kernel_rfl) ?_
     have h := Out.inr hO1 h
     refine g_retR [.int .i64 (w64 (x48 + 1)), .string (ofBs x43), .int .i64 0, .int .i64 0] rfl Try.func40 rfl (.tmp rfl (.tmp rfl (.tmp rfl (.tmp rfl (.nil))))) fun wr hLr => ?_
     have hMr := hLr.pk0 (.c 1 rfl .n)
     show trellisref8_str_R w F  r (.returned (packV [.int .i64 (w64 (x48 + 1)), .string (ofBs x43), .int .i64 0, .int .i64 0])) wr
     rw [h]
     exact ⟨rfl, hMr⟩
    ·have h := if_neg' hp92 h
     refine g_false rfl _ rfl ((nei hp92)) <| g_skip rfl <| g_seq rfl <| g_seq rfl <| g_region rfl rfl <| wl_v 0 rfl (v_move rfl) gn rfl <| wl_v 1 rfl (v_move rfl) gn rfl <| wl_v 2 rfl (v_indexS un_9 rfl rfl hb91) gn rfl <| wl_v 3 rfl (v_bin rfl rfl rfl) gn rfl <| w_end 4 rfl ?_
     by_cases hp93 : bt x1 x48 = 92
     ·have h := if_pos' hp93 h
      refine g_false rfl _ rfl ((eqib hp93)) <| g_skip rfl <| g_seq rfl <| g_region rfl rfl <| wl_v 0 rfl (v_move rfl) gn rfl <| wl_v 1 rfl (v_move rfl) gn rfl ?_
      obtain ⟨r97, hv98, h⟩ := h
      refine wl_s 2 rfl (s_call [.string x1, .int .i64 x48] rfl Try.func46 rfl rfl rfl fun w94 hL95 => ?_) gn
      have hp96 := pmI hL95 .n (.c 0 rfl .n) (by kernel_rfl)
      refine Calls.mono (trellisref8_Escape_calls w94 (Fl ([] : List Snap)) x1 x48 (hL95.hFl hp96 (sels [] rfl)) (hL95.into hp96 _) r97 hv98) ?_
      rintro _ w99 ⟨rfl, hM100⟩
      have hL101 := hL95.call hp96 hM100
      refine ⟨_, _, _, rfl, hL101, ?_⟩
      refine wl_v 3 rfl (v_move rfl) gn rfl <| wl_v 4 rfl (v_extract rfl rfl) gn rfl <| wl_v 5 rfl (v_extract rfl rfl) gn rfl <| wl_v 6 rfl (v_assign rfl) gn rfl <| wl_v 7 rfl (v_assign rfl) gn rfl <| w_end 8 rfl <| g_seq rfl <| g_seq rfl <| g_region rfl rfl <| wl_v 0 rfl (v_move rfl) gn rfl <| wl_v 1 rfl (v_bin rfl rfl rfl) gn rfl <| w_end 2 rfl ?_
      by_cases hp102 : r97.1 = 0
      ·have h := if_pos' hp102 h
       refine g_true rfl _ rfl ((eqi hp102)) <| g_seq rfl <| g_region rfl rfl <| wl_v 0 rfl (v_move rfl) gn rfl <| wl_v 1 rfl (v_assign rfl) gn rfl <| wl_v 2 rfl (v_assign rfl) gn rfl <| wl_v 3 rfl (v_assign rfl) gn rfl <| wl_v 4 rfl (v_assign rfl) gn rfl <| w_end 5 rfl ?_
       have h := Out.inr hO1 h
       refine g_retR [.int .i64 0, .string (⟨#[]⟩ : ByteArray), .int .i64 82, .int .i64 x48] rfl Try.func40 rfl (.tmp rfl (.tmp rfl (.tmp rfl (.tmp rfl (.nil))))) fun wr hLr => ?_
       have hMr := hLr.pk0 (.c 1 rfl .n)
       show trellisref8_str_R w F  r (.returned (packV [.int .i64 0, .string (⟨#[]⟩ : ByteArray), .int .i64 82, .int .i64 x48])) wr
       rw [h]
       exact ⟨rfl, hMr⟩
      ·have h := if_neg' hp102 h
       refine g_false rfl _ rfl ((nei hp102)) <| g_skip rfl <| g_seq rfl <| g_region rfl rfl <| wl_v 0 rfl (v_move rfl) gn rfl <| wl_v 1 rfl (v_move rfl) gn rfl ?_
       refine wl_s 2 rfl (s_litO (xs := ([r97.2] : List Int)) [.int .u8 r97.2] bs_58_1 rfl (by kernel_rfl) rfl rfl rfl rfl fun gb104 h105 => ?_) gn
       obtain ⟨x109, hv110, h⟩ := h
       obtain ⟨hb111, h⟩ := h
       refine wl_s 3 rfl (s_app (zs := x109) (cells' := x109.flatMap (eI .u8)) 1 ap_58 rfl rfl rfl h47 (Nat.le_refl _) (Src.ownF (hl := (hlI .u8)) (h1 := (hone_int .u8)) 0 rfl h105) (by rw [hv110, List.flatMap_append] <;> rfl) (app_len hv110 h105.hq) hb111 rfl rfl fun A106 c107 h108 => ?_) gn
       refine wl_v 4 rfl (v_assign rfl) gn rfl <| w_end 5 rfl <| g_region rfl rfl <| wl_v 0 rfl (v_move rfl) gn rfl <| wl_v 1 rfl (v_move rfl) gn rfl <| wl_v 2 rfl (v_bin rfl rfl rfl) gn rfl <| wl_v 3 rfl (v_assign rfl) gn rfl <| w_end 4 rfl <| g_inBlock <| g_inLoop ?_
       have ih := Out.inl hO1 h
       exact g_go [0, 1] (ih A106 (n45 + 1) c107 h108) ⟨rfl, rfl, rfl, rfl, trivial⟩ (.cons _ (.cons_cons _ (.slnil))) rfl
     ·have h := if_neg' hp93 h
      refine g_true rfl _ rfl ((neib hp93)) <| g_seq rfl <| g_region rfl rfl <| wl_v 0 rfl (v_move rfl) gn rfl <| wl_v 1 rfl (v_move rfl) gn rfl <| wl_v 2 rfl (v_move rfl) gn rfl <| wl_v 3 rfl (v_indexS un_9 rfl rfl hb91) gn rfl ?_
      refine wl_s 4 rfl (s_litO (xs := ([bt x1 x48] : List Int)) [.int .u8 (bt x1 x48)] bs_58_1 rfl (by kernel_rfl) rfl rfl rfl rfl fun gb113 h114 => ?_) gn
      obtain ⟨x118, hv119, h⟩ := h
      obtain ⟨hb120, h⟩ := h
      refine wl_s 5 rfl (s_app (zs := x118) (cells' := x118.flatMap (eI .u8)) 1 ap_58 rfl rfl rfl h47 (Nat.le_refl _) (Src.ownF (hl := (hlI .u8)) (h1 := (hone_int .u8)) 0 rfl h114) (by rw [hv119, List.flatMap_append] <;> rfl) (app_len hv119 h114.hq) hb120 rfl rfl fun A115 c116 h117 => ?_) gn
      refine wl_v 6 rfl (v_assign rfl) gn rfl <| w_end 7 rfl <| g_seq rfl <| g_region rfl rfl <| wl_v 0 rfl (v_move rfl) gn rfl <| wl_v 1 rfl (v_bin rfl rfl rfl) gn rfl <| wl_v 2 rfl (v_assign rfl) gn rfl <| w_end 3 rfl <| g_exit [.inLoop q40c10, .inBlock 0, .code q40c8] rfl rfl <| g_inLoop ?_
      have ih := Out.inl hO1 h
      exact g_go [0, 1] (ih A115 (n45 + 1) c116 h117) ⟨rfl, rfl, rfl, rfl, trivial⟩ (.cons _ (.cons_cons _ (.slnil))) rfl
   ·have h := if_neg' hp90 h
    refine g_false rfl _ rfl ((bf hp90)) <| g_exit [.code q40c8] rfl rfl <| g_seq rfl <| g_region rfl rfl <| wl_v 0 rfl (v_move rfl) gn rfl <| wl_v 1 rfl (v_assign rfl) gn rfl <| wl_v 2 rfl (v_assign rfl) gn rfl <| wl_v 3 rfl (v_assign rfl) gn rfl <| wl_v 4 rfl (v_assign rfl) gn rfl <| w_end 5 rfl ?_
    have h := Out.inr hO1 h
    refine g_retR [.int .i64 0, .string (⟨#[]⟩ : ByteArray), .int .i64 82, .int .i64 x2] rfl Try.func40 rfl (.tmp rfl (.tmp rfl (.tmp rfl (.tmp rfl (.nil))))) fun wr hLr => ?_
    have hMr := hLr.pk0 (.c 1 rfl .n)
    show trellisref8_str_R w F  r (.returned (packV [.int .i64 0, .string (⟨#[]⟩ : ByteArray), .int .i64 82, .int .i64 x2])) wr
    rw [h]
    exact ⟨rfl, hMr⟩
  refine g_region rfl rfl <| wl_v 0 rfl (v_move rfl) gn rfl <| wl_v 1 rfl (v_move rfl) gn rfl <| wl_v 2 rfl (v_lenS un_9 rfl) gn rfl <| wl_v 3 rfl (v_bin rfl rfl rfl) gn rfl <| wl_v 4 rfl (v_move rfl) gn rfl ?_
  by_cases hp121 : x48 < (x1.size : Int)
  ·have h := if_pos' hp121 h
   refine w_bool 18 rfl ((decide_eq_true hp121)) <| wl_v 5 rfl (v_move rfl) (gy 18 rfl rfl) rfl <| wl_v 6 rfl (v_move rfl) (gy 18 rfl rfl) rfl ?_
   obtain ⟨hb122, h⟩ := h
   refine wl_v 7 rfl (v_indexS un_9 rfl rfl hb122) (gy 18 rfl rfl) rfl <| wl_v 8 rfl (v_bin rfl rfl rfl) (gy 18 rfl rfl) rfl <| wl_v 9 rfl (v_pick (b := true) rfl rfl) gn rfl <| w_end 10 rfl ?_
   exact g_go [0, 1] (j2 ((bt x1 x48) != 10) h) ⟨rfl, rfl, rfl, rfl, rfl, trivial⟩ (.cons_cons _ (.slnil)) rfl
  ·have h := if_neg' hp121 h
   refine w_bool 18 rfl ((decide_eq_false hp121)) <| wl_pass 5 rfl (ps 18 rfl rfl rfl) <| wl_pass 6 rfl (ps 18 rfl rfl rfl) <| wl_pass 7 rfl (ps 18 rfl rfl rfl) <| wl_pass 8 rfl (ps 18 rfl rfl rfl) <| wl_v 9 rfl (v_pick (b := false) rfl rfl) gn rfl <| w_end 10 rfl ?_
   exact g_go [0, 1] (j2 false h) ⟨rfl, rfl, rfl, rfl, rfl, trivial⟩ (.cons_cons _ (.slnil)) rfl
 refine g_nil 5 1 ?_
 exact g_go [0, 1] (key1 _ h none 0 0 (Ow.nil (z := w.heap.size))) ⟨rfl, rfl, rfl, rfl, trivial⟩ (.cons_cons _ (.slnil)) rfl
noncomputable abbrev q41c6 := Code.snd (Code.snd (Code.snd (bodyOf Try.f41)))
noncomputable abbrev q41c8 := Code.fst (Code.fst (Code.fst (Code.snd (Code.snd (bodyOf Try.f41)))))
noncomputable abbrev q41c10 := Code.snd q41c8
noncomputable abbrev q41c12 := Code.snd (Code.fst q41c8)
abbrev trellisref8_regex_R (w : World) (F : Nat → Prop) (r : Int) : Ending → World → Prop := fun e w' => e = .returned (.int .i64 r) ∧ B.Loc w w' [] [St w []]
noncomputable abbrev trellisref8_regex_C (w : World) (F : Nat → Prop) (r : Int) : Cx := ⟨Try.prog, 41, Try.f41, 46, trellisref8_regex_R w F  r, w⟩
theorem trellisref8_regex_calls (w : World) (F : Nat → Prop) (x1 : ByteArray) (x2 : Int) (hF : ∀ b, F b → b < w.heap.size ∧ ∀ o ∈ ([] : List (List Nat)), b ∉ o) (hL0 : B.Loc w w [] [Sm w.heap.size F w [], St w []]) (r : Int) (h : trellisref8_regex x1 x2 r) : Calls Try.prog 41 #[.string x1, .int .i64 x2] w (trellisref8_regex_R w F  r) := by
 unfold trellisref8_regex at h
 refine calls_of_Loc (vs := [.string x1, .int .i64 x2]) 46 Try.func41 rfl Try.ntmps41 rfl hL0 ?_
 show G (trellisref8_regex_C w F r) _ _ _ _
 refine g_seq rfl <| g_region rfl rfl <| wl_v 0 rfl (v_assign rfl) gn rfl <| w_end 1 rfl <| g_seq rfl <| g_region rfl rfl <| wl_v 0 rfl (v_move rfl) gn rfl <| wl_v 1 rfl (v_bin rfl rfl rfl) gn rfl <| wl_v 2 rfl (v_assign rfl) gn rfl <| w_end 3 rfl <| g_seq rfl <| g_block rfl ?_
 refine g_loop rfl ?_
 have key1 : ∀ s, Rounds (fun (s : Int) o => trellisref8_regex_b1 x1 s o) s r → (fun (s : Int) => ∀ (_ : Unit), G (trellisref8_regex_C w F r) [.code q41c8, .inLoop q41c8, .inBlock 0, .code q41c6] [(0, .string x1), (5, .int .i64 s)] [] [Sm w.heap.size F w [], St w []]) s := by
  intro s hs
  refine Rounds.ind (mot := (fun (s : Int) => ∀ (_ : Unit), G (trellisref8_regex_C w F r) [.code q41c8, .inLoop q41c8, .inBlock 0, .code q41c6] [(0, .string x1), (5, .int .i64 s)] [] [Sm w.heap.size F w [], St w []])) ?_ hs
  clear hs s
  intro x17 o1 h hO1
  show ∀ (_ : Unit), G (trellisref8_regex_C w F r) [.code q41c8, .inLoop q41c8, .inBlock 0, .code q41c6] [(0, .string x1), (5, .int .i64 x17)] [] [Sm w.heap.size F w [], St w []]
  intro _
  have h : trellisref8_regex_b1 x1 x17 o1 := h
  unfold trellisref8_regex_b1 at h
  refine g_seq rfl <| g_seq rfl ?_
  have j2 : ∀ (x34 : Bool) (h : trellisref8_regex_j2 x17 x1 x34 o1) , G (trellisref8_regex_C w F r) [.code q41c12, .code q41c10, .inLoop q41c8, .inBlock 0, .code q41c6] [(0, .string x1), (5, .int .i64 x17), (17, .bool x34)] [] [Sm w.heap.size F w [], St w []] := by
   intro x34 h
   unfold trellisref8_regex_j2 at h
   by_cases hp35 : x34 = true
   ·have h := if_pos' hp35 h
    refine g_true rfl _ rfl (hp35) <| g_skip rfl <| g_block rfl <| g_seq rfl <| g_seq rfl <| g_region rfl rfl <| wl_v 0 rfl (v_move rfl) gn rfl <| wl_v 1 rfl (v_move rfl) gn rfl ?_
    obtain ⟨hb36, h⟩ := h
    refine wl_v 2 rfl (v_indexS un_9 rfl rfl hb36) gn rfl <| wl_v 3 rfl (v_bin rfl rfl rfl) gn rfl <| w_end 4 rfl ?_
    by_cases hp37 : bt x1 x17 = 47
    ·have h := if_pos' hp37 h
     refine g_true rfl _ rfl ((eqi hp37)) <| g_seq rfl <| g_region rfl rfl <| wl_v 0 rfl (v_move rfl) gn rfl <| wl_v 1 rfl (v_bin rfl rfl rfl) gn rfl <| wl_v 2 rfl (v_assign rfl) gn rfl <| w_end 3 rfl ?_
     have h := Out.inr hO1 h
     refine g_retR [.int .i64 (w64 (x17 + 1))] rfl Try.func41 rfl (.tmp rfl (.nil)) fun wr hLr => ?_
     have hMr := hLr.pk0 (.c 1 rfl .n)
     show trellisref8_regex_R w F  r (.returned (packV [.int .i64 (w64 (x17 + 1))])) wr
     rw [h]
     exact ⟨rfl, hMr⟩
    ·have h := if_neg' hp37 h
     refine g_false rfl _ rfl ((nei hp37)) <| g_skip rfl <| g_seq rfl <| g_seq rfl <| g_region rfl rfl <| wl_v 0 rfl (v_move rfl) gn rfl <| wl_v 1 rfl (v_move rfl) gn rfl <| wl_v 2 rfl (v_indexS un_9 rfl rfl hb36) gn rfl <| wl_v 3 rfl (v_bin rfl rfl rfl) gn rfl <| wl_v 4 rfl (v_move rfl) gn rfl ?_
     by_cases hp38 : bt x1 x17 = 92
     ·have h := if_pos' hp38 h
      refine w_bool 28 rfl ((eqi hp38)) <| wl_v 5 rfl (v_move rfl) (gy 28 rfl rfl) rfl <| wl_v 6 rfl (v_bin rfl rfl rfl) (gy 28 rfl rfl) rfl <| wl_v 7 rfl (v_move rfl) (gy 28 rfl rfl) rfl <| wl_v 8 rfl (v_lenS un_9 rfl) (gy 28 rfl rfl) rfl <| wl_v 9 rfl (v_bin rfl rfl rfl) (gy 28 rfl rfl) rfl <| wl_v 10 rfl (v_pick (b := true) rfl rfl) gn rfl <| wl_v 11 rfl (v_move rfl) gn rfl ?_
      by_cases hp39 : w64 (x17 + 1) < (x1.size : Int)
      ·have h := if_pos' hp39 h
       refine w_bool 35 rfl ((decide_eq_true hp39)) <| wl_v 12 rfl (v_move rfl) (gy 35 rfl rfl) rfl <| wl_v 13 rfl (v_move rfl) (gy 35 rfl rfl) rfl <| wl_v 14 rfl (v_bin rfl rfl rfl) (gy 35 rfl rfl) rfl ?_
       obtain ⟨hb40, h⟩ := h
       refine wl_v 15 rfl (v_indexS un_9 rfl rfl hb40) (gy 35 rfl rfl) rfl <| wl_v 16 rfl (v_bin rfl rfl rfl) (gy 35 rfl rfl) rfl <| wl_v 17 rfl (v_pick (b := true) rfl rfl) gn rfl <| w_end 18 rfl ?_
       by_cases hp41 : bt x1 (w64 (x17 + 1)) = 10
       ·have h := if_pos' hp41 h
        refine g_false rfl _ rfl ((eqib hp41)) <| g_skip rfl <| g_region rfl rfl <| wl_v 0 rfl (v_move rfl) gn rfl <| wl_v 1 rfl (v_bin rfl rfl rfl) gn rfl <| wl_v 2 rfl (v_assign rfl) gn rfl <| w_end 3 rfl <| g_inBlock <| g_inLoop ?_
        have ih := Out.inl hO1 h
        exact g_go [0, 1] (ih ()) ⟨rfl, rfl, trivial⟩ (.slnil) rfl
       ·have h := if_neg' hp41 h
        refine g_true rfl _ rfl ((neib hp41)) <| g_region rfl rfl <| wl_v 0 rfl (v_move rfl) gn rfl <| wl_v 1 rfl (v_bin rfl rfl rfl) gn rfl <| wl_v 2 rfl (v_assign rfl) gn rfl <| w_end 3 rfl <| g_region rfl rfl <| wl_v 0 rfl (v_move rfl) gn rfl <| wl_v 1 rfl (v_bin rfl rfl rfl) gn rfl <| wl_v 2 rfl (v_assign rfl) gn rfl <| w_end 3 rfl <| g_inBlock ?_
        refine g_inLoop ?_
        have ih := Out.inl hO1 h
        exact g_go [0, 1] (ih ()) ⟨rfl, rfl, trivial⟩ (.slnil) rfl
      ·have h := if_neg' hp39 h
       refine w_bool 35 rfl ((decide_eq_false hp39)) <| wl_pass 12 rfl (ps 35 rfl rfl rfl) <| wl_pass 13 rfl (ps 35 rfl rfl rfl) <| wl_pass 14 rfl (ps 35 rfl rfl rfl) <| wl_pass 15 rfl (ps 35 rfl rfl rfl) <| wl_pass 16 rfl (ps 35 rfl rfl rfl) <| wl_v 17 rfl (v_pick (b := false) rfl rfl) gn rfl <| w_end 18 rfl <| g_false rfl _ rfl (rfl) <| g_skip rfl <| g_region rfl rfl <| wl_v 0 rfl (v_move rfl) gn rfl ?_
       refine wl_v 1 rfl (v_bin rfl rfl rfl) gn rfl <| wl_v 2 rfl (v_assign rfl) gn rfl <| w_end 3 rfl <| g_inBlock <| g_inLoop ?_
       have ih := Out.inl hO1 h
       exact g_go [0, 1] (ih ()) ⟨rfl, rfl, trivial⟩ (.slnil) rfl
     ·have h := if_neg' hp38 h
      refine w_bool 28 rfl ((nei hp38)) <| wl_pass 5 rfl (ps 28 rfl rfl rfl) <| wl_pass 6 rfl (ps 28 rfl rfl rfl) <| wl_pass 7 rfl (ps 28 rfl rfl rfl) <| wl_pass 8 rfl (ps 28 rfl rfl rfl) <| wl_pass 9 rfl (ps 28 rfl rfl rfl) <| wl_v 10 rfl (v_pick (b := false) rfl rfl) gn rfl <| wl_v 11 rfl (v_move rfl) gn rfl <| wl_pass 12 rfl (ps 35 rfl rfl rfl) <| wl_pass 13 rfl (ps 35 rfl rfl rfl) <| wl_pass 14 rfl (ps 35 rfl rfl rfl) <| wl_pass 15 rfl (ps 35 rfl rfl rfl) ?_
      refine wl_pass 16 rfl (ps 35 rfl rfl rfl) <| wl_v 17 rfl (v_pick (b := false) rfl rfl) gn rfl <| w_end 18 rfl <| g_false rfl _ rfl (rfl) <| g_skip rfl <| g_region rfl rfl <| wl_v 0 rfl (v_move rfl) gn rfl <| wl_v 1 rfl (v_bin rfl rfl rfl) gn rfl <| wl_v 2 rfl (v_assign rfl) gn rfl <| w_end 3 rfl <| g_inBlock <| g_inLoop ?_
      have ih := Out.inl hO1 h
      exact g_go [0, 1] (ih ()) ⟨rfl, rfl, trivial⟩ (.slnil) rfl
   ·have h := if_neg' hp35 h
    refine g_false rfl _ rfl ((bf hp35)) <| g_exit [.code q41c6] rfl rfl <| g_seq rfl <| g_region rfl rfl <| wl_v 0 rfl (v_assign rfl) gn rfl <| w_end 1 rfl ?_
    have h := Out.inr hO1 h
    refine g_retR [.int .i64 0] rfl Try.func41 rfl (.tmp rfl (.nil)) fun wr hLr => ?_
    have hMr := hLr.pk0 (.c 1 rfl .n)
    show trellisref8_regex_R w F  r (.returned (packV [.int .i64 0])) wr
    rw [h]
    exact ⟨rfl, hMr⟩
  refine g_region rfl rfl <| wl_v 0 rfl (v_move rfl) gn rfl <| wl_v 1 rfl (v_move rfl) gn rfl <| wl_v 2 rfl (v_lenS un_9 rfl) gn rfl <| wl_v 3 rfl (v_bin rfl rfl rfl) gn rfl <| wl_v 4 rfl (v_move rfl) gn rfl ?_
  by_cases hp42 : x17 < (x1.size : Int)
  ·have h := if_pos' hp42 h
   refine w_bool 12 rfl ((decide_eq_true hp42)) <| wl_v 5 rfl (v_move rfl) (gy 12 rfl rfl) rfl <| wl_v 6 rfl (v_move rfl) (gy 12 rfl rfl) rfl ?_
   obtain ⟨hb43, h⟩ := h
   refine wl_v 7 rfl (v_indexS un_9 rfl rfl hb43) (gy 12 rfl rfl) rfl <| wl_v 8 rfl (v_bin rfl rfl rfl) (gy 12 rfl rfl) rfl <| wl_v 9 rfl (v_pick (b := true) rfl rfl) gn rfl <| w_end 10 rfl ?_
   exact g_go [0, 1] (j2 ((bt x1 x17) != 10) h) ⟨rfl, rfl, rfl, trivial⟩ (.slnil) rfl
  ·have h := if_neg' hp42 h
   refine w_bool 12 rfl ((decide_eq_false hp42)) <| wl_pass 5 rfl (ps 12 rfl rfl rfl) <| wl_pass 6 rfl (ps 12 rfl rfl rfl) <| wl_pass 7 rfl (ps 12 rfl rfl rfl) <| wl_pass 8 rfl (ps 12 rfl rfl rfl) <| wl_v 9 rfl (v_pick (b := false) rfl rfl) gn rfl <| w_end 10 rfl ?_
   exact g_go [0, 1] (j2 false h) ⟨rfl, rfl, rfl, trivial⟩ (.slnil) rfl
 exact g_go [0, 1] (key1 _ h ()) ⟨rfl, rfl, trivial⟩ (.slnil) rfl
abbrev trellisref8_Word_R (w : World) (F : Nat → Prop) (r : api_Word × Int × Int × Int) : Ending → World → Prop := fun e w' => e = .returned (.tuple #[.agg #[.int .i64 r.1.kind, .string r.1.text, .int .i64 r.1.n, .int .i64 r.1.at_], .int .i64 r.2.1, .int .i64 r.2.2.1, .int .i64 r.2.2.2]) ∧ B.Loc w w' [] [St w []]
noncomputable abbrev trellisref8_Word_C (w : World) (F : Nat → Prop) (r : api_Word × Int × Int × Int) : Cx := ⟨Try.prog, 16, Try.f16, 117, trellisref8_Word_R w F  r, w⟩
theorem trellisref8_Word_calls (w : World) (F : Nat → Prop) (x1 : ByteArray) (x2 : Int) (hF : ∀ b, F b → b < w.heap.size ∧ ∀ o ∈ ([] : List (List Nat)), b ∉ o) (hL0 : B.Loc w w [] [Sm w.heap.size F w [], St w []]) (r : api_Word × Int × Int × Int) (h : trellisref8_Word x1 x2 r) : Calls Try.prog 16 #[.string x1, .int .i64 x2] w (trellisref8_Word_R w F  r) := by
 unfold trellisref8_Word at h
 refine calls_of_Loc (vs := [.string x1, .int .i64 x2]) 117 Try.func16 rfl Try.ntmps16 rfl hL0 ?_
 show G (trellisref8_Word_C w F r) _ _ _ _
 refine g_seq rfl <| g_region rfl rfl ?_
 refine wl_s 0 rfl (s_alloc [.int .i64 0, .string (⟨#[]⟩ : ByteArray), .int .i64 0, .int .i64 0] zr_41 rfl fun gb3 => ?_) gn
 refine wl_v 1 rfl (v_assign rfl) gn rfl <| wl_v 2 rfl (v_assign rfl) gn rfl <| wl_v 3 rfl (v_assign rfl) gn rfl <| w_end 4 rfl <| g_seq rfl <| g_region rfl rfl <| wl_v 0 rfl (v_move rfl) gn rfl <| wl_v 1 rfl (v_move rfl) gn rfl ?_
 obtain ⟨hb5, h⟩ := h
 refine wl_v 2 rfl (v_indexS un_9 rfl rfl hb5) gn rfl <| wl_v 3 rfl (v_assign rfl) gn rfl <| w_end 4 rfl <| g_seq rfl <| g_block rfl <| g_seq rfl <| g_region rfl rfl <| wl_v 0 rfl (v_move rfl) gn rfl ?_
 obtain ⟨r9, hv10, h⟩ := h
 refine wl_s 1 rfl (s_call [.string (⟨#[65, 66, 67, 68, 69, 70, 71, 72, 73, 74, 75, 76, 77, 78, 79, 80, 81, 82, 83, 84, 85, 86, 87, 88, 89, 90, 97, 98, 99, 100, 101, 102, 103, 104, 105, 106, 107, 108, 109, 110, 111, 112, 113, 114, 115, 116, 117, 118, 119, 120, 121, 122, 95]⟩ : ByteArray), .int .u8 (bt x1 x2)] rfl Try.func15 rfl rfl rfl fun w6 hL7 => ?_) gn
 have hp8 := pmI hL7 .n (.c 0 rfl .n) (by kernel_rfl)
 refine Calls.mono (trellisref8_in_calls w6 (Fl ([] : List Snap)) (⟨#[65, 66, 67, 68, 69, 70, 71, 72, 73, 74, 75, 76, 77, 78, 79, 80, 81, 82, 83, 84, 85, 86, 87, 88, 89, 90, 97, 98, 99, 100, 101, 102, 103, 104, 105, 106, 107, 108, 109, 110, 111, 112, 113, 114, 115, 116, 117, 118, 119, 120, 121, 122, 95]⟩ : ByteArray) (bt x1 x2) (hL7.hFl hp8 (sels [] rfl)) (hL7.into hp8 _) r9 hv10) ?_
 rintro _ w11 ⟨rfl, hM12⟩
 have hL13 := hL7.call hp8 hM12
 refine ⟨_, _, _, rfl, hL13, ?_⟩
 refine wl_v 2 rfl (v_assign rfl) gn rfl <| w_end 3 rfl ?_
 by_cases hp14 : r9 = true
 ·have h := if_pos' hp14 h
  refine g_true rfl _ rfl (hp14) <| g_seq rfl <| g_region rfl rfl <| wl_v 0 rfl (v_move rfl) gn rfl <| wl_v 1 rfl (v_move rfl) gn rfl ?_
  obtain ⟨r18, hv19, h⟩ := h
  refine wl_s 2 rfl (s_call [.string x1, .int .i64 x2, .string (⟨#[65, 66, 67, 68, 69, 70, 71, 72, 73, 74, 75, 76, 77, 78, 79, 80, 81, 82, 83, 84, 85, 86, 87, 88, 89, 90, 97, 98, 99, 100, 101, 102, 103, 104, 105, 106, 107, 108, 109, 110, 111, 112, 113, 114, 115, 116, 117, 118, 119, 120, 121, 122, 95, 48, 49, 50, 51, 52, 53, 54, 55, 56, 57]⟩ : ByteArray)] rfl Try.func38 rfl rfl rfl fun w15 hL16 => ?_) gn
  have hp17 := pmI hL16 .n (.c 0 rfl .n) (by kernel_rfl)
  refine Calls.mono (trellisref8_run_calls w15 (Fl ([] : List Snap)) x1 x2 (⟨#[65, 66, 67, 68, 69, 70, 71, 72, 73, 74, 75, 76, 77, 78, 79, 80, 81, 82, 83, 84, 85, 86, 87, 88, 89, 90, 97, 98, 99, 100, 101, 102, 103, 104, 105, 106, 107, 108, 109, 110, 111, 112, 113, 114, 115, 116, 117, 118, 119, 120, 121, 122, 95, 48, 49, 50, 51, 52, 53, 54, 55, 56, 57]⟩ : ByteArray) (hL16.hFl hp17 (sels [] rfl)) (hL16.into hp17 _) r18 hv19) ?_
  rintro _ w20 ⟨rfl, hM21⟩
  have hL22 := hL16.call hp17 hM21
  refine ⟨_, _, _, rfl, hL22, ?_⟩
  refine wl_v 3 rfl (v_assign rfl) gn rfl <| w_end 4 rfl <| g_seq rfl <| g_seq rfl <| g_region rfl rfl <| wl_v 0 rfl (v_move rfl) gn rfl <| wl_v 1 rfl (v_bin rfl rfl rfl) gn rfl <| w_end 2 rfl ?_
  by_cases hp23 : r18 > 24
  ·have h := if_pos' hp23 h
   refine g_true rfl _ rfl ((decide_eq_true hp23)) <| g_seq rfl <| g_region rfl rfl <| wl_v 0 rfl (v_build #[.int .i64 0, .string (⟨#[]⟩ : ByteArray), .int .i64 0, .int .i64 0] bd_41 rfl (by kernel_rfl)) gn rfl <| wl_v 1 rfl (v_move rfl) gn rfl ?_
   refine wl_s 2 rfl (s_stB (vs := [.int .i64 0, .string (⟨#[]⟩ : ByteArray), .int .i64 0, .int .i64 0]) (cs' := [.int .i64 0, .string (⟨#[]⟩ : ByteArray), .int .i64 0, .int .i64 0]) (M' := [.box gb3 41 [.int .i64 0, .string (⟨#[]⟩ : ByteArray), .int .i64 0, .int .i64 0]]) 0 sz_41 rfl rfl rfl rfl rfl rfl rfl rfl rfl ?_) gn
   refine wl_v 3 rfl (v_assign rfl) gn rfl <| wl_v 4 rfl (v_assign rfl) gn rfl <| wl_v 5 rfl (v_assign rfl) gn rfl <| w_end 6 rfl ?_
   refine g_retR [.agg #[.int .i64 0, .string (⟨#[]⟩ : ByteArray), .int .i64 0, .int .i64 0], .int .i64 0, .int .i64 83, .int .i64 x2] rfl Try.func16 rfl (.cell (cs := [.int .i64 0, .string (⟨#[]⟩ : ByteArray), .int .i64 0, .int .i64 0]) (us := [.int .i64 0, .string (⟨#[]⟩ : ByteArray), .int .i64 0, .int .i64 0]) 0 rfl ld_41 rfl rfl rfl (.tmp rfl (.tmp rfl (.tmp rfl (.nil))))) fun wr hLr => ?_
   have hMr := hLr.pk0 (.c 1 rfl .n)
   show trellisref8_Word_R w F  r (.returned (packV [.agg #[.int .i64 0, .string (⟨#[]⟩ : ByteArray), .int .i64 0, .int .i64 0], .int .i64 0, .int .i64 83, .int .i64 x2])) wr
   rw [h]
   exact ⟨rfl, hMr⟩
  ·have h := if_neg' hp23 h
   refine g_false rfl _ rfl ((decide_eq_false hp23)) <| g_skip rfl <| g_seq rfl <| g_region rfl rfl <| wl_v 0 rfl (v_move rfl) gn rfl <| wl_v 1 rfl (v_move rfl) gn rfl <| wl_v 2 rfl (v_move rfl) gn rfl <| wl_v 3 rfl (v_move rfl) gn rfl <| wl_v 4 rfl (v_bin rfl rfl rfl) gn rfl ?_
   obtain ⟨hb24, h⟩ := h
   refine wl_v 5 rfl (v_cutS x2 (w64 (x2 + r18)) un_9 rfl (.inr ⟨_, _, rfl, rfl⟩) (.inr ⟨_, _, rfl, rfl⟩) ⟨hb24.1, hb24.2.1⟩ hb24.2.2) gn rfl <| wl_v 6 rfl (v_move rfl) gn rfl <| wl_v 7 rfl (v_build #[.int .i64 1, .string (x1.extract (x2 : Int).toNat (w64 (x2 + r18) : Int).toNat), .int .i64 0, .int .i64 x2] bd_41 rfl (by kernel_rfl)) gn rfl <| wl_v 8 rfl (v_move rfl) gn rfl <| wl_v 9 rfl (v_move rfl) gn rfl <| wl_v 10 rfl (v_bin rfl rfl rfl) gn rfl ?_
   refine wl_s 11 rfl (s_stB (vs := [.int .i64 1, .string (x1.extract (x2 : Int).toNat (w64 (x2 + r18) : Int).toNat), .int .i64 0, .int .i64 x2]) (cs' := [.int .i64 1, .string (x1.extract (x2 : Int).toNat (w64 (x2 + r18) : Int).toNat), .int .i64 0, .int .i64 x2]) (M' := [.box gb3 41 [.int .i64 1, .string (x1.extract (x2 : Int).toNat (w64 (x2 + r18) : Int).toNat), .int .i64 0, .int .i64 x2]]) 0 sz_41 rfl rfl rfl rfl rfl rfl rfl rfl rfl ?_) gn
   refine wl_v 12 rfl (v_assign rfl) gn rfl <| wl_v 13 rfl (v_assign rfl) gn rfl <| wl_v 14 rfl (v_assign rfl) gn rfl <| w_end 15 rfl ?_
   refine g_retR [.agg #[.int .i64 1, .string (x1.extract (x2 : Int).toNat (w64 (x2 + r18) : Int).toNat), .int .i64 0, .int .i64 x2], .int .i64 (w64 (x2 + r18)), .int .i64 0, .int .i64 0] rfl Try.func16 rfl (.cell (cs := [.int .i64 1, .string (x1.extract (x2 : Int).toNat (w64 (x2 + r18) : Int).toNat), .int .i64 0, .int .i64 x2]) (us := [.int .i64 1, .string (x1.extract (x2 : Int).toNat (w64 (x2 + r18) : Int).toNat), .int .i64 0, .int .i64 x2]) 0 rfl ld_41 rfl rfl rfl (.tmp rfl (.tmp rfl (.tmp rfl (.nil))))) fun wr hLr => ?_
   have hMr := hLr.pk0 (.c 1 rfl .n)
   show trellisref8_Word_R w F  r (.returned (packV [.agg #[.int .i64 1, .string (x1.extract (x2 : Int).toNat (w64 (x2 + r18) : Int).toNat), .int .i64 0, .int .i64 x2], .int .i64 (w64 (x2 + r18)), .int .i64 0, .int .i64 0])) wr
   rw [h]
   exact ⟨rfl, hMr⟩
 ·have h := if_neg' hp14 h
  refine g_false rfl _ rfl ((bf hp14)) <| g_seq rfl <| g_region rfl rfl <| wl_v 0 rfl (v_move rfl) gn rfl ?_
  obtain ⟨r28, hv29, h⟩ := h
  refine wl_s 1 rfl (s_call [.string (⟨#[48, 49, 50, 51, 52, 53, 54, 55, 56, 57]⟩ : ByteArray), .int .u8 (bt x1 x2)] rfl Try.func15 rfl rfl rfl fun w25 hL26 => ?_) gn
  have hp27 := pmI hL26 .n (.c 0 rfl .n) (by kernel_rfl)
  refine Calls.mono (trellisref8_in_calls w25 (Fl ([] : List Snap)) (⟨#[48, 49, 50, 51, 52, 53, 54, 55, 56, 57]⟩ : ByteArray) (bt x1 x2) (hL26.hFl hp27 (sels [] rfl)) (hL26.into hp27 _) r28 hv29) ?_
  rintro _ w30 ⟨rfl, hM31⟩
  have hL32 := hL26.call hp27 hM31
  refine ⟨_, _, _, rfl, hL32, ?_⟩
  refine wl_v 2 rfl (v_assign rfl) gn rfl <| w_end 3 rfl ?_
  by_cases hp33 : r28 = true
  ·have h := if_pos' hp33 h
   refine g_true rfl _ rfl (hp33) <| g_seq rfl <| g_region rfl rfl <| wl_v 0 rfl (v_move rfl) gn rfl <| wl_v 1 rfl (v_move rfl) gn rfl ?_
   obtain ⟨r37, hv38, h⟩ := h
   refine wl_s 2 rfl (s_call [.string x1, .int .i64 x2, .string (⟨#[48, 49, 50, 51, 52, 53, 54, 55, 56, 57]⟩ : ByteArray)] rfl Try.func38 rfl rfl rfl fun w34 hL35 => ?_) gn
   have hp36 := pmI hL35 .n (.c 0 rfl .n) (by kernel_rfl)
   refine Calls.mono (trellisref8_run_calls w34 (Fl ([] : List Snap)) x1 x2 (⟨#[48, 49, 50, 51, 52, 53, 54, 55, 56, 57]⟩ : ByteArray) (hL35.hFl hp36 (sels [] rfl)) (hL35.into hp36 _) r37 hv38) ?_
   rintro _ w39 ⟨rfl, hM40⟩
   have hL41 := hL35.call hp36 hM40
   refine ⟨_, _, _, rfl, hL41, ?_⟩
   refine wl_v 3 rfl (v_assign rfl) gn rfl <| w_end 4 rfl <| g_seq rfl <| g_region rfl rfl <| wl_v 0 rfl (v_move rfl) gn rfl <| wl_v 1 rfl (v_move rfl) gn rfl <| wl_v 2 rfl (v_move rfl) gn rfl <| wl_v 3 rfl (v_move rfl) gn rfl <| wl_v 4 rfl (v_bin rfl rfl rfl) gn rfl ?_
   obtain ⟨hb42, h⟩ := h
   refine wl_v 5 rfl (v_cutS x2 (w64 (x2 + r37)) un_9 rfl (.inr ⟨_, _, rfl, rfl⟩) (.inr ⟨_, _, rfl, rfl⟩) ⟨hb42.1, hb42.2.1⟩ hb42.2.2) gn rfl ?_
   obtain ⟨r46, hv47, h⟩ := h
   refine wl_s 6 rfl (s_call [.string (x1.extract (x2 : Int).toNat (w64 (x2 + r37) : Int).toNat)] rfl Try.func39 rfl rfl rfl fun w43 hL44 => ?_) gn
   have hp45 := pmI hL44 .n (.c 0 rfl .n) (by kernel_rfl)
   refine Calls.mono (trellisref8_number_calls w43 (Fl ([] : List Snap)) (x1.extract (x2 : Int).toNat (w64 (x2 + r37) : Int).toNat) (hL44.hFl hp45 (sels [] rfl)) (hL44.into hp45 _) r46 hv47) ?_
   rintro _ w48 ⟨rfl, hM49⟩
   have hL50 := hL44.call hp45 hM49
   refine ⟨_, _, _, rfl, hL50, ?_⟩
   refine wl_v 7 rfl (v_assign rfl) gn rfl <| w_end 8 rfl <| g_seq rfl <| g_seq rfl <| g_region rfl rfl <| wl_v 0 rfl (v_move rfl) gn rfl <| wl_v 1 rfl (v_bin rfl rfl rfl) gn rfl <| w_end 2 rfl ?_
   by_cases hp51 : r46 > 65535
   ·have h := if_pos' hp51 h
    refine g_true rfl _ rfl ((decide_eq_true hp51)) <| g_seq rfl <| g_region rfl rfl <| wl_v 0 rfl (v_build #[.int .i64 0, .string (⟨#[]⟩ : ByteArray), .int .i64 0, .int .i64 0] bd_41 rfl (by kernel_rfl)) gn rfl <| wl_v 1 rfl (v_move rfl) gn rfl ?_
    refine wl_s 2 rfl (s_stB (vs := [.int .i64 0, .string (⟨#[]⟩ : ByteArray), .int .i64 0, .int .i64 0]) (cs' := [.int .i64 0, .string (⟨#[]⟩ : ByteArray), .int .i64 0, .int .i64 0]) (M' := [.box gb3 41 [.int .i64 0, .string (⟨#[]⟩ : ByteArray), .int .i64 0, .int .i64 0]]) 0 sz_41 rfl rfl rfl rfl rfl rfl rfl rfl rfl ?_) gn
    refine wl_v 3 rfl (v_assign rfl) gn rfl <| wl_v 4 rfl (v_assign rfl) gn rfl <| wl_v 5 rfl (v_assign rfl) gn rfl <| w_end 6 rfl ?_
    refine g_retR [.agg #[.int .i64 0, .string (⟨#[]⟩ : ByteArray), .int .i64 0, .int .i64 0], .int .i64 0, .int .i64 84, .int .i64 x2] rfl Try.func16 rfl (.cell (cs := [.int .i64 0, .string (⟨#[]⟩ : ByteArray), .int .i64 0, .int .i64 0]) (us := [.int .i64 0, .string (⟨#[]⟩ : ByteArray), .int .i64 0, .int .i64 0]) 0 rfl ld_41 rfl rfl rfl (.tmp rfl (.tmp rfl (.tmp rfl (.nil))))) fun wr hLr => ?_
    have hMr := hLr.pk0 (.c 1 rfl .n)
    show trellisref8_Word_R w F  r (.returned (packV [.agg #[.int .i64 0, .string (⟨#[]⟩ : ByteArray), .int .i64 0, .int .i64 0], .int .i64 0, .int .i64 84, .int .i64 x2])) wr
    rw [h]
    exact ⟨rfl, hMr⟩
   ·have h := if_neg' hp51 h
    refine g_false rfl _ rfl ((decide_eq_false hp51)) <| g_skip rfl <| g_seq rfl <| g_region rfl rfl <| wl_v 0 rfl (v_move rfl) gn rfl <| wl_v 1 rfl (v_move rfl) gn rfl <| wl_v 2 rfl (v_build #[.int .i64 4, .string (⟨#[]⟩ : ByteArray), .int .i64 r46, .int .i64 x2] bd_41 rfl (by kernel_rfl)) gn rfl <| wl_v 3 rfl (v_move rfl) gn rfl <| wl_v 4 rfl (v_move rfl) gn rfl <| wl_v 5 rfl (v_bin rfl rfl rfl) gn rfl ?_
    refine wl_s 6 rfl (s_stB (vs := [.int .i64 4, .string (⟨#[]⟩ : ByteArray), .int .i64 r46, .int .i64 x2]) (cs' := [.int .i64 4, .string (⟨#[]⟩ : ByteArray), .int .i64 r46, .int .i64 x2]) (M' := [.box gb3 41 [.int .i64 4, .string (⟨#[]⟩ : ByteArray), .int .i64 r46, .int .i64 x2]]) 0 sz_41 rfl rfl rfl rfl rfl rfl rfl rfl rfl ?_) gn
    refine wl_v 7 rfl (v_assign rfl) gn rfl <| wl_v 8 rfl (v_assign rfl) gn rfl <| wl_v 9 rfl (v_assign rfl) gn rfl <| w_end 10 rfl ?_
    refine g_retR [.agg #[.int .i64 4, .string (⟨#[]⟩ : ByteArray), .int .i64 r46, .int .i64 x2], .int .i64 (w64 (x2 + r37)), .int .i64 0, .int .i64 0] rfl Try.func16 rfl (.cell (cs := [.int .i64 4, .string (⟨#[]⟩ : ByteArray), .int .i64 r46, .int .i64 x2]) (us := [.int .i64 4, .string (⟨#[]⟩ : ByteArray), .int .i64 r46, .int .i64 x2]) 0 rfl ld_41 rfl rfl rfl (.tmp rfl (.tmp rfl (.tmp rfl (.nil))))) fun wr hLr => ?_
    have hMr := hLr.pk0 (.c 1 rfl .n)
    show trellisref8_Word_R w F  r (.returned (packV [.agg #[.int .i64 4, .string (⟨#[]⟩ : ByteArray), .int .i64 r46, .int .i64 x2], .int .i64 (w64 (x2 + r37)), .int .i64 0, .int .i64 0])) wr
    rw [h]
    exact ⟨rfl, hMr⟩
  ·have h := if_neg' hp33 h
   refine g_false rfl _ rfl ((bf hp33)) <| g_seq rfl <| g_region rfl rfl <| wl_v 0 rfl (v_move rfl) gn rfl <| wl_v 1 rfl (v_bin rfl rfl rfl) gn rfl <| wl_v 2 rfl (v_assign rfl) gn rfl <| w_end 3 rfl ?_
   by_cases hp52 : bt x1 x2 = 34
   ·have h := if_pos' hp52 h
    refine g_true rfl _ rfl ((eqi hp52)) <| g_seq rfl <| g_region rfl rfl <| wl_v 0 rfl (v_move rfl) gn rfl <| wl_v 1 rfl (v_move rfl) gn rfl ?_
    obtain ⟨r56, hv57, h⟩ := h
    refine wl_s 2 rfl (s_call [.string x1, .int .i64 x2] rfl Try.func40 rfl rfl rfl fun w53 hL54 => ?_) gn
    have hp55 := pmI hL54 .n (.c 0 rfl .n) (by kernel_rfl)
    refine Calls.mono (trellisref8_str_calls w53 (Fl ([] : List Snap)) x1 x2 (hL54.hFl hp55 (sels [] rfl)) (hL54.into hp55 _) r56 hv57) ?_
    rintro _ w58 ⟨rfl, hM59⟩
    have hL60 := hL54.call hp55 hM59
    refine ⟨_, _, _, rfl, hL60, ?_⟩
    refine wl_v 3 rfl (v_move rfl) gn rfl <| wl_v 4 rfl (v_extract rfl rfl) gn rfl <| wl_v 5 rfl (v_extract rfl rfl) gn rfl <| wl_v 6 rfl (v_extract rfl rfl) gn rfl <| wl_v 7 rfl (v_extract rfl rfl) gn rfl <| wl_v 8 rfl (v_assign rfl) gn rfl <| wl_v 9 rfl (v_assign rfl) gn rfl <| wl_v 10 rfl (v_assign rfl) gn rfl <| wl_v 11 rfl (v_assign rfl) gn rfl <| w_end 12 rfl <| g_seq rfl <| g_seq rfl ?_
    refine g_region rfl rfl <| wl_v 0 rfl (v_move rfl) gn rfl <| wl_v 1 rfl (v_bin rfl rfl rfl) gn rfl <| w_end 2 rfl ?_
    by_cases hp61 : r56.2.2.1 = 0
    ·have h := if_pos' hp61 h
     refine g_false rfl _ rfl ((eqib hp61)) <| g_skip rfl <| g_seq rfl <| g_region rfl rfl <| wl_v 0 rfl (v_move rfl) gn rfl <| wl_v 1 rfl (v_move rfl) gn rfl <| wl_v 2 rfl (v_build #[.int .i64 2, .string r56.2.1, .int .i64 0, .int .i64 x2] bd_41 rfl (by kernel_rfl)) gn rfl <| wl_v 3 rfl (v_move rfl) gn rfl ?_
     refine wl_s 4 rfl (s_stB (vs := [.int .i64 2, .string r56.2.1, .int .i64 0, .int .i64 x2]) (cs' := [.int .i64 2, .string r56.2.1, .int .i64 0, .int .i64 x2]) (M' := [.box gb3 41 [.int .i64 2, .string r56.2.1, .int .i64 0, .int .i64 x2]]) 0 sz_41 rfl rfl rfl rfl rfl rfl rfl rfl rfl ?_) gn
     refine wl_v 5 rfl (v_assign rfl) gn rfl <| wl_v 6 rfl (v_assign rfl) gn rfl <| wl_v 7 rfl (v_assign rfl) gn rfl <| w_end 8 rfl ?_
     refine g_retR [.agg #[.int .i64 2, .string r56.2.1, .int .i64 0, .int .i64 x2], .int .i64 r56.1, .int .i64 0, .int .i64 0] rfl Try.func16 rfl (.cell (cs := [.int .i64 2, .string r56.2.1, .int .i64 0, .int .i64 x2]) (us := [.int .i64 2, .string r56.2.1, .int .i64 0, .int .i64 x2]) 0 rfl ld_41 rfl rfl rfl (.tmp rfl (.tmp rfl (.tmp rfl (.nil))))) fun wr hLr => ?_
     have hMr := hLr.pk0 (.c 1 rfl .n)
     show trellisref8_Word_R w F  r (.returned (packV [.agg #[.int .i64 2, .string r56.2.1, .int .i64 0, .int .i64 x2], .int .i64 r56.1, .int .i64 0, .int .i64 0])) wr
     rw [h]
     exact ⟨rfl, hMr⟩
    ·have h := if_neg' hp61 h
     refine g_true rfl _ rfl ((neib hp61)) <| g_seq rfl <| g_region rfl rfl <| wl_v 0 rfl (v_build #[.int .i64 0, .string (⟨#[]⟩ : ByteArray), .int .i64 0, .int .i64 0] bd_41 rfl (by kernel_rfl)) gn rfl <| wl_v 1 rfl (v_move rfl) gn rfl <| wl_v 2 rfl (v_move rfl) gn rfl ?_
     refine wl_s 3 rfl (s_stB (vs := [.int .i64 0, .string (⟨#[]⟩ : ByteArray), .int .i64 0, .int .i64 0]) (cs' := [.int .i64 0, .string (⟨#[]⟩ : ByteArray), .int .i64 0, .int .i64 0]) (M' := [.box gb3 41 [.int .i64 0, .string (⟨#[]⟩ : ByteArray), .int .i64 0, .int .i64 0]]) 0 sz_41 rfl rfl rfl rfl rfl rfl rfl rfl rfl ?_) gn
     refine wl_v 4 rfl (v_assign rfl) gn rfl <| wl_v 5 rfl (v_assign rfl) gn rfl <| wl_v 6 rfl (v_assign rfl) gn rfl <| w_end 7 rfl ?_
     refine g_retR [.agg #[.int .i64 0, .string (⟨#[]⟩ : ByteArray), .int .i64 0, .int .i64 0], .int .i64 0, .int .i64 r56.2.2.1, .int .i64 r56.2.2.2] rfl Try.func16 rfl (.cell (cs := [.int .i64 0, .string (⟨#[]⟩ : ByteArray), .int .i64 0, .int .i64 0]) (us := [.int .i64 0, .string (⟨#[]⟩ : ByteArray), .int .i64 0, .int .i64 0]) 0 rfl ld_41 rfl rfl rfl (.tmp rfl (.tmp rfl (.tmp rfl (.nil))))) fun wr hLr => ?_
     have hMr := hLr.pk0 (.c 1 rfl .n)
     show trellisref8_Word_R w F  r (.returned (packV [.agg #[.int .i64 0, .string (⟨#[]⟩ : ByteArray), .int .i64 0, .int .i64 0], .int .i64 0, .int .i64 r56.2.2.1, .int .i64 r56.2.2.2])) wr
     rw [h]
     exact ⟨rfl, hMr⟩
   ·have h := if_neg' hp52 h
    refine g_false rfl _ rfl ((nei hp52)) <| g_seq rfl <| g_region rfl rfl <| wl_v 0 rfl (v_move rfl) gn rfl <| wl_v 1 rfl (v_bin rfl rfl rfl) gn rfl <| wl_v 2 rfl (v_assign rfl) gn rfl <| w_end 3 rfl ?_
    by_cases hp62 : bt x1 x2 = 47
    ·have h := if_pos' hp62 h
     refine g_true rfl _ rfl ((eqi hp62)) <| g_seq rfl <| g_region rfl rfl <| wl_v 0 rfl (v_move rfl) gn rfl <| wl_v 1 rfl (v_move rfl) gn rfl ?_
     obtain ⟨r66, hv67, h⟩ := h
     refine wl_s 2 rfl (s_call [.string x1, .int .i64 x2] rfl Try.func41 rfl rfl rfl fun w63 hL64 => ?_) gn
     have hp65 := pmI hL64 .n (.c 0 rfl .n) (by kernel_rfl)
     refine Calls.mono (trellisref8_regex_calls w63 (Fl ([] : List Snap)) x1 x2 (hL64.hFl hp65 (sels [] rfl)) (hL64.into hp65 _) r66 hv67) ?_
     rintro _ w68 ⟨rfl, hM69⟩
     have hL70 := hL64.call hp65 hM69
     refine ⟨_, _, _, rfl, hL70, ?_⟩
     refine wl_v 3 rfl (v_assign rfl) gn rfl <| w_end 4 rfl <| g_seq rfl <| g_seq rfl <| g_region rfl rfl <| wl_v 0 rfl (v_move rfl) gn rfl <| wl_v 1 rfl (v_bin rfl rfl rfl) gn rfl <| w_end 2 rfl ?_
     by_cases hp71 : r66 = 0
     ·have h := if_pos' hp71 h
      refine g_true rfl _ rfl ((eqi hp71)) <| g_seq rfl <| g_region rfl rfl <| wl_v 0 rfl (v_build #[.int .i64 0, .string (⟨#[]⟩ : ByteArray), .int .i64 0, .int .i64 0] bd_41 rfl (by kernel_rfl)) gn rfl <| wl_v 1 rfl (v_move rfl) gn rfl ?_
      refine wl_s 2 rfl (s_stB (vs := [.int .i64 0, .string (⟨#[]⟩ : ByteArray), .int .i64 0, .int .i64 0]) (cs' := [.int .i64 0, .string (⟨#[]⟩ : ByteArray), .int .i64 0, .int .i64 0]) (M' := [.box gb3 41 [.int .i64 0, .string (⟨#[]⟩ : ByteArray), .int .i64 0, .int .i64 0]]) 0 sz_41 rfl rfl rfl rfl rfl rfl rfl rfl rfl ?_) gn
      refine wl_v 3 rfl (v_assign rfl) gn rfl <| wl_v 4 rfl (v_assign rfl) gn rfl <| wl_v 5 rfl (v_assign rfl) gn rfl <| w_end 6 rfl ?_
      refine g_retR [.agg #[.int .i64 0, .string (⟨#[]⟩ : ByteArray), .int .i64 0, .int .i64 0], .int .i64 0, .int .i64 82, .int .i64 x2] rfl Try.func16 rfl (.cell (cs := [.int .i64 0, .string (⟨#[]⟩ : ByteArray), .int .i64 0, .int .i64 0]) (us := [.int .i64 0, .string (⟨#[]⟩ : ByteArray), .int .i64 0, .int .i64 0]) 0 rfl ld_41 rfl rfl rfl (.tmp rfl (.tmp rfl (.tmp rfl (.nil))))) fun wr hLr => ?_
      have hMr := hLr.pk0 (.c 1 rfl .n)
      show trellisref8_Word_R w F  r (.returned (packV [.agg #[.int .i64 0, .string (⟨#[]⟩ : ByteArray), .int .i64 0, .int .i64 0], .int .i64 0, .int .i64 82, .int .i64 x2])) wr
      rw [h]
      exact ⟨rfl, hMr⟩
     ·have h := if_neg' hp71 h
      refine g_false rfl _ rfl ((nei hp71)) <| g_skip rfl <| g_seq rfl <| g_region rfl rfl <| wl_v 0 rfl (v_move rfl) gn rfl <| wl_v 1 rfl (v_move rfl) gn rfl <| wl_v 2 rfl (v_bin rfl rfl rfl) gn rfl <| wl_v 3 rfl (v_move rfl) gn rfl <| wl_v 4 rfl (v_bin rfl rfl rfl) gn rfl ?_
      obtain ⟨hb72, h⟩ := h
      refine wl_v 5 rfl (v_cutS (w64 (x2 + 1)) (w64 (r66 - 1)) un_9 rfl (.inr ⟨_, _, rfl, rfl⟩) (.inr ⟨_, _, rfl, rfl⟩) ⟨hb72.1, hb72.2.1⟩ hb72.2.2) gn rfl <| wl_v 6 rfl (v_move rfl) gn rfl <| wl_v 7 rfl (v_build #[.int .i64 3, .string (x1.extract (w64 (x2 + 1) : Int).toNat (w64 (r66 - 1) : Int).toNat), .int .i64 0, .int .i64 x2] bd_41 rfl (by kernel_rfl)) gn rfl <| wl_v 8 rfl (v_move rfl) gn rfl ?_
      refine wl_s 9 rfl (s_stB (vs := [.int .i64 3, .string (x1.extract (w64 (x2 + 1) : Int).toNat (w64 (r66 - 1) : Int).toNat), .int .i64 0, .int .i64 x2]) (cs' := [.int .i64 3, .string (x1.extract (w64 (x2 + 1) : Int).toNat (w64 (r66 - 1) : Int).toNat), .int .i64 0, .int .i64 x2]) (M' := [.box gb3 41 [.int .i64 3, .string (x1.extract (w64 (x2 + 1) : Int).toNat (w64 (r66 - 1) : Int).toNat), .int .i64 0, .int .i64 x2]]) 0 sz_41 rfl rfl rfl rfl rfl rfl rfl rfl rfl ?_) gn
      refine wl_v 10 rfl (v_assign rfl) gn rfl <| wl_v 11 rfl (v_assign rfl) gn rfl <| wl_v 12 rfl (v_assign rfl) gn rfl <| w_end 13 rfl ?_
      refine g_retR [.agg #[.int .i64 3, .string (x1.extract (w64 (x2 + 1) : Int).toNat (w64 (r66 - 1) : Int).toNat), .int .i64 0, .int .i64 x2], .int .i64 r66, .int .i64 0, .int .i64 0] rfl Try.func16 rfl (.cell (cs := [.int .i64 3, .string (x1.extract (w64 (x2 + 1) : Int).toNat (w64 (r66 - 1) : Int).toNat), .int .i64 0, .int .i64 x2]) (us := [.int .i64 3, .string (x1.extract (w64 (x2 + 1) : Int).toNat (w64 (r66 - 1) : Int).toNat), .int .i64 0, .int .i64 x2]) 0 rfl ld_41 rfl rfl rfl (.tmp rfl (.tmp rfl (.tmp rfl (.nil))))) fun wr hLr => ?_
      have hMr := hLr.pk0 (.c 1 rfl .n)
      show trellisref8_Word_R w F  r (.returned (packV [.agg #[.int .i64 3, .string (x1.extract (w64 (x2 + 1) : Int).toNat (w64 (r66 - 1) : Int).toNat), .int .i64 0, .int .i64 x2], .int .i64 r66, .int .i64 0, .int .i64 0])) wr
      rw [h]
      exact ⟨rfl, hMr⟩
    ·have h := if_neg' hp62 h
     refine g_false rfl _ rfl ((nei hp62)) <| g_seq rfl <| g_region rfl rfl <| wl_v 0 rfl (v_move rfl) gn rfl ?_
     obtain ⟨r76, hv77, h⟩ := h
     refine wl_s 1 rfl (s_call [.string (⟨#[123, 125, 40, 41, 124, 42, 43, 63, 58, 59, 44, 61, 64]⟩ : ByteArray), .int .u8 (bt x1 x2)] rfl Try.func15 rfl rfl rfl fun w73 hL74 => ?_) gn
     have hp75 := pmI hL74 .n (.c 0 rfl .n) (by kernel_rfl)
     refine Calls.mono (trellisref8_in_calls w73 (Fl ([] : List Snap)) (⟨#[123, 125, 40, 41, 124, 42, 43, 63, 58, 59, 44, 61, 64]⟩ : ByteArray) (bt x1 x2) (hL74.hFl hp75 (sels [] rfl)) (hL74.into hp75 _) r76 hv77) ?_
     rintro _ w78 ⟨rfl, hM79⟩
     have hL80 := hL74.call hp75 hM79
     refine ⟨_, _, _, rfl, hL80, ?_⟩
     refine wl_v 2 rfl (v_assign rfl) gn rfl <| w_end 3 rfl ?_
     by_cases hp81 : r76 = true
     ·have h := if_pos' hp81 h
      refine g_true rfl _ rfl (hp81) <| g_seq rfl <| g_region rfl rfl <| wl_v 0 rfl (v_move rfl) gn rfl <| wl_v 1 rfl (v_move rfl) gn rfl <| wl_v 2 rfl (v_move rfl) gn rfl <| wl_v 3 rfl (v_bin rfl rfl rfl) gn rfl ?_
      obtain ⟨hb82, h⟩ := h
      refine wl_v 4 rfl (v_cutS x2 (w64 (x2 + 1)) un_9 rfl (.inr ⟨_, _, rfl, rfl⟩) (.inr ⟨_, _, rfl, rfl⟩) ⟨hb82.1, hb82.2.1⟩ hb82.2.2) gn rfl <| wl_v 5 rfl (v_move rfl) gn rfl <| wl_v 6 rfl (v_build #[.int .i64 5, .string (x1.extract (x2 : Int).toNat (w64 (x2 + 1) : Int).toNat), .int .i64 0, .int .i64 x2] bd_41 rfl (by kernel_rfl)) gn rfl <| wl_v 7 rfl (v_move rfl) gn rfl <| wl_v 8 rfl (v_bin rfl rfl rfl) gn rfl ?_
      refine wl_s 9 rfl (s_stB (vs := [.int .i64 5, .string (x1.extract (x2 : Int).toNat (w64 (x2 + 1) : Int).toNat), .int .i64 0, .int .i64 x2]) (cs' := [.int .i64 5, .string (x1.extract (x2 : Int).toNat (w64 (x2 + 1) : Int).toNat), .int .i64 0, .int .i64 x2]) (M' := [.box gb3 41 [.int .i64 5, .string (x1.extract (x2 : Int).toNat (w64 (x2 + 1) : Int).toNat), .int .i64 0, .int .i64 x2]]) 0 sz_41 rfl rfl rfl rfl rfl rfl rfl rfl rfl ?_) gn
      refine wl_v 10 rfl (v_assign rfl) gn rfl <| wl_v 11 rfl (v_assign rfl) gn rfl <| wl_v 12 rfl (v_assign rfl) gn rfl <| w_end 13 rfl ?_
      refine g_retR [.agg #[.int .i64 5, .string (x1.extract (x2 : Int).toNat (w64 (x2 + 1) : Int).toNat), .int .i64 0, .int .i64 x2], .int .i64 (w64 (x2 + 1)), .int .i64 0, .int .i64 0] rfl Try.func16 rfl (.cell (cs := [.int .i64 5, .string (x1.extract (x2 : Int).toNat (w64 (x2 + 1) : Int).toNat), .int .i64 0, .int .i64 x2]) (us := [.int .i64 5, .string (x1.extract (x2 : Int).toNat (w64 (x2 + 1) : Int).toNat), .int .i64 0, .int .i64 x2]) 0 rfl ld_41 rfl rfl rfl (.tmp rfl (.tmp rfl (.tmp rfl (.nil))))) fun wr hLr => ?_
      have hMr := hLr.pk0 (.c 1 rfl .n)
      show trellisref8_Word_R w F  r (.returned (packV [.agg #[.int .i64 5, .string (x1.extract (x2 : Int).toNat (w64 (x2 + 1) : Int).toNat), .int .i64 0, .int .i64 x2], .int .i64 (w64 (x2 + 1)), .int .i64 0, .int .i64 0])) wr
      rw [h]
      exact ⟨rfl, hMr⟩
     ·have h := if_neg' hp81 h
      refine g_false rfl _ rfl ((bf hp81)) <| g_skip rfl <| g_inBlock <| g_seq rfl <| g_region rfl rfl <| wl_v 0 rfl (v_build #[.int .i64 0, .string (⟨#[]⟩ : ByteArray), .int .i64 0, .int .i64 0] bd_41 rfl (by kernel_rfl)) gn rfl <| wl_v 1 rfl (v_move rfl) gn rfl ?_
      refine wl_s 2 rfl (s_stB (vs := [.int .i64 0, .string (⟨#[]⟩ : ByteArray), .int .i64 0, .int .i64 0]) (cs' := [.int .i64 0, .string (⟨#[]⟩ : ByteArray), .int .i64 0, .int .i64 0]) (M' := [.box gb3 41 [.int .i64 0, .string (⟨#[]⟩ : ByteArray), .int .i64 0, .int .i64 0]]) 0 sz_41 rfl rfl rfl rfl rfl rfl rfl rfl rfl ?_) gn
      refine wl_v 3 rfl (v_assign rfl) gn rfl <| wl_v 4 rfl (v_assign rfl) gn rfl <| wl_v 5 rfl (v_assign rfl) gn rfl <| w_end 6 rfl ?_
      refine g_retR [.agg #[.int .i64 0, .string (⟨#[]⟩ : ByteArray), .int .i64 0, .int .i64 0], .int .i64 0, .int .i64 81, .int .i64 x2] rfl Try.func16 rfl (.cell (cs := [.int .i64 0, .string (⟨#[]⟩ : ByteArray), .int .i64 0, .int .i64 0]) (us := [.int .i64 0, .string (⟨#[]⟩ : ByteArray), .int .i64 0, .int .i64 0]) 0 rfl ld_41 rfl rfl rfl (.tmp rfl (.tmp rfl (.tmp rfl (.nil))))) fun wr hLr => ?_
      have hMr := hLr.pk0 (.c 1 rfl .n)
      show trellisref8_Word_R w F  r (.returned (packV [.agg #[.int .i64 0, .string (⟨#[]⟩ : ByteArray), .int .i64 0, .int .i64 0], .int .i64 0, .int .i64 81, .int .i64 x2])) wr
      rw [h]
      exact ⟨rfl, hMr⟩
noncomputable abbrev q9c16 := Code.snd (Code.snd (Code.snd (Code.snd (Code.snd (bodyOf Try.f9)))))
noncomputable abbrev q9c18 := Code.fst (Code.fst (Code.fst (Code.snd (Code.snd (Code.snd (Code.snd (bodyOf Try.f9)))))))
noncomputable abbrev q9c35 := Code.snd (Code.snd (Code.fst (Code.snd q9c18)))
noncomputable abbrev q9c41 := Code.snd (Code.fst (Code.snd (Code.fst (Code.snd (Code.fst (Code.snd q9c18))))))
noncomputable abbrev q9c43 := Code.fst (Code.fst (Code.fst (Code.fst (Code.snd (Code.fst (Code.snd (Code.fst (Code.snd q9c18))))))))
abbrev trellisref8_Cut_R (w : World) (F : Nat → Prop) (r : (List api_Word) × Int × Int) : Ending → World → Prop := fun e w' => ∃ A0 : Option Addr, ∃ n0 : Nat, ∃ c0 : Nat, e = .returned (.tuple #[.slice A0 n0 c0, .int .i64 r.2.1, .int .i64 r.2.2]) ∧ B.Loc w w' [.own (.slice A0 n0 c0) 41 4 n0 (r.1.flatMap enc_api_Word)] [St w []] ∧ Ow w.heap.size A0 n0 c0 r.1
noncomputable abbrev trellisref8_Cut_C (w : World) (F : Nat → Prop) (r : (List api_Word) × Int × Int) : Cx := ⟨Try.prog, 9, Try.f9, 58, trellisref8_Cut_R w F  r, w⟩
theorem trellisref8_Cut_calls (w : World) (F : Nat → Prop) (x1 : ByteArray) (hF : ∀ b, F b → b < w.heap.size ∧ ∀ o ∈ ([] : List (List Nat)), b ∉ o) (hL0 : B.Loc w w [] [Sm w.heap.size F w [], St w []]) (r : (List api_Word) × Int × Int) (h : trellisref8_Cut x1 r) : Calls Try.prog 9 #[.string x1] w (trellisref8_Cut_R w F  r) := by
 unfold trellisref8_Cut at h
 refine calls_of_Loc (vs := [.string x1]) 58 Try.func9 rfl Try.ntmps9 rfl hL0 ?_
 show G (trellisref8_Cut_C w F r) _ _ _ _
 refine g_seq rfl <| g_region rfl rfl <| wl_v 0 rfl (v_assign rfl) gn rfl <| wl_v 1 rfl (v_assign rfl) gn rfl <| wl_v 2 rfl (v_assign rfl) gn rfl <| w_end 3 rfl <| g_seq rfl <| g_seq rfl <| g_region rfl rfl <| wl_v 0 rfl (v_move rfl) gn rfl <| wl_v 1 rfl (v_lenS un_9 rfl) gn rfl <| wl_v 2 rfl (v_bin rfl rfl rfl) gn rfl ?_
 refine w_end 3 rfl ?_
 by_cases hp2 : (x1.size : Int) > 16384
 ·have h := if_pos' hp2 h
  refine g_true rfl _ rfl ((decide_eq_true hp2)) <| g_seq rfl <| g_region rfl rfl <| wl_v 0 rfl (v_assign rfl) gn rfl <| wl_v 1 rfl (v_assign rfl) gn rfl <| wl_v 2 rfl (v_assign rfl) gn rfl <| w_end 3 rfl <| g_nil 41 4 ?_
  refine g_retR [.slice none 0 0, .int .i64 80, .int .i64 16384] rfl Try.func9 rfl (.tmp rfl (.tmp rfl (.tmp rfl (.nil)))) fun wr hLr => ?_
  have hMr := hLr.pkI (.c 0 rfl .n) .n (by kernel_rfl) (.c 1 rfl .n)
  show trellisref8_Cut_R w F  r (.returned (packV [.slice none 0 0, .int .i64 80, .int .i64 16384])) wr
  rw [h]
  exact ⟨none, 0, 0, rfl, hMr, (Ow.nil (z := w.heap.size))⟩
 ·have h := if_neg' hp2 h
  refine g_false rfl _ rfl ((decide_eq_false hp2)) <| g_skip rfl <| g_seq rfl <| g_region rfl rfl <| wl_v 0 rfl (v_assign rfl) gn rfl <| w_end 1 rfl <| g_seq rfl <| g_region rfl rfl <| wl_v 0 rfl (v_assign rfl) gn rfl <| w_end 1 rfl <| g_seq rfl <| g_block rfl ?_
  refine g_loop rfl ?_
  have key1 : ∀ s, Rounds (fun (s : (List api_Word) × Int) o => trellisref8_Cut_b1 x1 s.1 s.2 o) s r → (fun (s : (List api_Word) × Int) => ∀ (A47 : Option Addr) (n48 : Nat) (c49 : Nat) (h50 : Ow w.heap.size A47 n48 c49 s.1), G (trellisref8_Cut_C w F r) [.code q9c18, .inLoop q9c18, .inBlock 0, .code q9c16] [(0, .string x1), (5, .slice A47 n48 c49), (6, .int .i64 s.2)] [.own (.slice A47 n48 c49) 41 4 n48 (s.1.flatMap enc_api_Word)] [Sm w.heap.size F w [], St w []]) s := by
   intro s hs
   refine Rounds.ind (mot := (fun (s : (List api_Word) × Int) => ∀ (A47 : Option Addr) (n48 : Nat) (c49 : Nat) (h50 : Ow w.heap.size A47 n48 c49 s.1), G (trellisref8_Cut_C w F r) [.code q9c18, .inLoop q9c18, .inBlock 0, .code q9c16] [(0, .string x1), (5, .slice A47 n48 c49), (6, .int .i64 s.2)] [.own (.slice A47 n48 c49) 41 4 n48 (s.1.flatMap enc_api_Word)] [Sm w.heap.size F w [], St w []])) ?_ hs
   clear hs s
   intro s o1 h hO1
   obtain ⟨x46, x51⟩ := s
   show ∀ (A47 : Option Addr) (n48 : Nat) (c49 : Nat) (h50 : Ow w.heap.size A47 n48 c49 x46), G (trellisref8_Cut_C w F r) [.code q9c18, .inLoop q9c18, .inBlock 0, .code q9c16] [(0, .string x1), (5, .slice A47 n48 c49), (6, .int .i64 x51)] [.own (.slice A47 n48 c49) 41 4 n48 (x46.flatMap enc_api_Word)] [Sm w.heap.size F w [], St w []]
   intro A47 n48 c49 h50
   have h : trellisref8_Cut_b1 x1 x46 x51 o1 := h
   unfold trellisref8_Cut_b1 at h
   refine g_seq rfl <| g_seq rfl <| g_region rfl rfl <| wl_v 0 rfl (v_move rfl) gn rfl <| wl_v 1 rfl (v_move rfl) gn rfl <| wl_v 2 rfl (v_lenS un_9 rfl) gn rfl <| wl_v 3 rfl (v_bin rfl rfl rfl) gn rfl <| w_end 4 rfl ?_
   by_cases hp93 : x51 < (x1.size : Int)
   ·have h := if_pos' hp93 h
    refine g_true rfl _ rfl ((decide_eq_true hp93)) <| g_skip rfl <| g_block rfl <| g_seq rfl <| g_seq rfl <| g_region rfl rfl <| wl_v 0 rfl (v_move rfl) gn rfl <| wl_v 1 rfl (v_move rfl) gn rfl ?_
    obtain ⟨hb94, h⟩ := h
    refine wl_v 2 rfl (v_indexS un_9 rfl rfl hb94) gn rfl ?_
    obtain ⟨r98, hv99, h⟩ := h
    refine wl_s 3 rfl (s_call [.string (⟨#[32, 9, 13, 10]⟩ : ByteArray), .int .u8 (bt x1 x51)] rfl Try.func15 rfl rfl rfl fun w95 hL96 => ?_) gn
    have hp97 := pmI hL96 .n (.c 0 rfl .n) (by kernel_rfl)
    refine Calls.mono (trellisref8_in_calls w95 (Fl ([] : List Snap)) (⟨#[32, 9, 13, 10]⟩ : ByteArray) (bt x1 x51) (hL96.hFl hp97 (sels [] rfl)) (hL96.into hp97 _) r98 hv99) ?_
    rintro _ w100 ⟨rfl, hM101⟩
    have hL102 := hL96.call hp97 hM101
    refine ⟨_, _, _, rfl, hL102, ?_⟩
    refine w_end 4 rfl ?_
    by_cases hp103 : r98 = true
    ·have h := if_pos' hp103 h
     refine g_true rfl _ rfl (hp103) <| g_seq rfl <| g_region rfl rfl <| wl_v 0 rfl (v_move rfl) gn rfl <| wl_v 1 rfl (v_bin rfl rfl rfl) gn rfl <| wl_v 2 rfl (v_assign rfl) gn rfl <| w_end 3 rfl <| g_exit [.inLoop q9c18, .inBlock 0, .code q9c16] rfl rfl <| g_inLoop ?_
     have ih := Out.inl hO1 h
     exact g_go [0, 1] (ih A47 n48 c49 h50) ⟨rfl, rfl, rfl, trivial⟩ (.cons_cons _ (.slnil)) rfl
    ·have h := if_neg' hp103 h
     refine g_false rfl _ rfl ((bf hp103)) <| g_skip rfl <| g_seq rfl <| g_seq rfl <| g_region rfl rfl <| wl_v 0 rfl (v_move rfl) gn rfl <| wl_v 1 rfl (v_move rfl) gn rfl <| wl_v 2 rfl (v_indexS un_9 rfl rfl hb94) gn rfl <| wl_v 3 rfl (v_bin rfl rfl rfl) gn rfl <| w_end 4 rfl ?_
     by_cases hp104 : bt x1 x51 = 35
     ·have h := if_pos' hp104 h
      refine g_true rfl _ rfl ((eqi hp104)) <| g_seq rfl <| g_block rfl <| g_loop rfl ?_
      have key2 : ∀ s, Rounds (fun (s : Int) o => trellisref8_Cut_b2 x1 x46 s o) s o1 → (fun (s : Int) => ∀ (_ : Unit), G (trellisref8_Cut_C w F r) [.code q9c43, .inLoop q9c43, .inBlock 2, .code q9c41, .code q9c35, .inBlock 1, .inLoop q9c18, .inBlock 0, .code q9c16] [(0, .string x1), (5, .slice A47 n48 c49), (6, .int .i64 s)] [.own (.slice A47 n48 c49) 41 4 n48 (x46.flatMap enc_api_Word)] [Sm w.heap.size F w [], St w []]) s := by
       intro s hs
       refine Rounds.ind (mot := (fun (s : Int) => ∀ (_ : Unit), G (trellisref8_Cut_C w F r) [.code q9c43, .inLoop q9c43, .inBlock 2, .code q9c41, .code q9c35, .inBlock 1, .inLoop q9c18, .inBlock 0, .code q9c16] [(0, .string x1), (5, .slice A47 n48 c49), (6, .int .i64 s)] [.own (.slice A47 n48 c49) 41 4 n48 (x46.flatMap enc_api_Word)] [Sm w.heap.size F w [], St w []])) ?_ hs
       clear hs s
       intro x107 o2 h hO2
       show ∀ (_ : Unit), G (trellisref8_Cut_C w F r) [.code q9c43, .inLoop q9c43, .inBlock 2, .code q9c41, .code q9c35, .inBlock 1, .inLoop q9c18, .inBlock 0, .code q9c16] [(0, .string x1), (5, .slice A47 n48 c49), (6, .int .i64 x107)] [.own (.slice A47 n48 c49) 41 4 n48 (x46.flatMap enc_api_Word)] [Sm w.heap.size F w [], St w []]
       intro _
       have h : trellisref8_Cut_b2 x1 x46 x107 o2 := h
       unfold trellisref8_Cut_b2 at h
       refine g_seq rfl <| g_seq rfl <| g_region rfl rfl <| wl_v 0 rfl (v_move rfl) gn rfl <| wl_v 1 rfl (v_move rfl) gn rfl <| wl_v 2 rfl (v_lenS un_9 rfl) gn rfl <| wl_v 3 rfl (v_bin rfl rfl rfl) gn rfl <| wl_v 4 rfl (v_move rfl) gn rfl ?_
       by_cases hp111 : x107 < (x1.size : Int)
       ·have h := if_pos' hp111 h
        refine w_bool 32 rfl ((decide_eq_true hp111)) <| wl_v 5 rfl (v_move rfl) (gy 32 rfl rfl) rfl <| wl_v 6 rfl (v_move rfl) (gy 32 rfl rfl) rfl ?_
        obtain ⟨hb112, h⟩ := h
        refine wl_v 7 rfl (v_indexS un_9 rfl rfl hb112) (gy 32 rfl rfl) rfl <| wl_v 8 rfl (v_bin rfl rfl rfl) (gy 32 rfl rfl) rfl <| wl_v 9 rfl (v_pick (b := true) rfl rfl) gn rfl <| w_end 10 rfl ?_
        by_cases hp113 : bt x1 x107 = 10
        ·have h := if_pos' hp113 h
         refine g_false rfl _ rfl ((eqib hp113)) <| g_exit [.code q9c41, .code q9c35, .inBlock 1, .inLoop q9c18, .inBlock 0, .code q9c16] rfl rfl <| g_exit [.inLoop q9c18, .inBlock 0, .code q9c16] rfl rfl <| g_inLoop ?_
         have h := Out.inr hO2 h
         have ih := Out.inl hO1 h
         exact g_go [0, 1] (ih A47 n48 c49 h50) ⟨rfl, rfl, rfl, trivial⟩ (.cons_cons _ (.slnil)) rfl
        ·have h := if_neg' hp113 h
         refine g_true rfl _ rfl ((neib hp113)) <| g_skip rfl <| g_block rfl <| g_region rfl rfl <| wl_v 0 rfl (v_move rfl) gn rfl <| wl_v 1 rfl (v_bin rfl rfl rfl) gn rfl <| wl_v 2 rfl (v_assign rfl) gn rfl <| w_end 3 rfl <| g_inBlock <| g_inLoop ?_
         have ih := Out.inl hO2 h
         exact g_go [0, 1] (ih ()) ⟨rfl, rfl, rfl, trivial⟩ (.cons_cons _ (.slnil)) rfl
       ·have h := if_neg' hp111 h
        refine w_bool 32 rfl ((decide_eq_false hp111)) <| wl_pass 5 rfl (ps 32 rfl rfl rfl) <| wl_pass 6 rfl (ps 32 rfl rfl rfl) <| wl_pass 7 rfl (ps 32 rfl rfl rfl) <| wl_pass 8 rfl (ps 32 rfl rfl rfl) <| wl_v 9 rfl (v_pick (b := false) rfl rfl) gn rfl <| w_end 10 rfl <| g_false rfl _ rfl (rfl) <| g_exit [.code q9c41, .code q9c35, .inBlock 1, .inLoop q9c18, .inBlock 0, .code q9c16] rfl rfl <| g_exit [.inLoop q9c18, .inBlock 0, .code q9c16] rfl rfl <| g_inLoop ?_
        have h := Out.inr hO2 h
        have ih := Out.inl hO1 h
        exact g_go [0, 1] (ih A47 n48 c49 h50) ⟨rfl, rfl, rfl, trivial⟩ (.cons_cons _ (.slnil)) rfl
      exact g_go [0, 1] (key2 _ h ()) ⟨rfl, rfl, rfl, trivial⟩ (.cons_cons _ (.slnil)) rfl
     ·have h := if_neg' hp104 h
      refine g_false rfl _ rfl ((nei hp104)) <| g_skip rfl <| g_seq rfl <| g_region rfl rfl <| wl_v 0 rfl (v_move rfl) gn rfl <| wl_v 1 rfl (v_move rfl) gn rfl ?_
      obtain ⟨r117, hv118, h⟩ := h
      refine wl_s 2 rfl (s_call [.string x1, .int .i64 x51] rfl Try.func16 rfl rfl rfl fun w114 hL115 => ?_) gn
      have hp116 := pmI hL115 .n (.c 0 rfl .n) (by kernel_rfl)
      refine Calls.mono (trellisref8_Word_calls w114 (Fl ([] : List Snap)) x1 x51 (hL115.hFl hp116 (sels [] rfl)) (hL115.into hp116 _) r117 hv118) ?_
      rintro _ w119 ⟨rfl, hM120⟩
      have hL121 := hL115.call hp116 hM120
      refine ⟨_, _, _, rfl, hL121, ?_⟩
      refine wl_v 3 rfl (v_move rfl) gn rfl <| wl_v 4 rfl (v_extract rfl rfl) gn rfl <| wl_v 5 rfl (v_extract rfl rfl) gn rfl <| wl_v 6 rfl (v_extract rfl rfl) gn rfl <| wl_v 7 rfl (v_extract rfl rfl) gn rfl ?_
      refine wl_s 8 rfl (s_alloc [.int .i64 0, .string (⟨#[]⟩ : ByteArray), .int .i64 0, .int .i64 0] zr_41 rfl fun gb122 => ?_) gn
      refine wl_s 9 rfl (s_stB (vs := [.int .i64 r117.1.kind, .string r117.1.text, .int .i64 r117.1.n, .int .i64 r117.1.at_]) (cs' := [.int .i64 r117.1.kind, .string r117.1.text, .int .i64 r117.1.n, .int .i64 r117.1.at_]) (M' := [.box gb122 41 [.int .i64 r117.1.kind, .string r117.1.text, .int .i64 r117.1.n, .int .i64 r117.1.at_], .own (.slice A47 n48 c49) 41 4 n48 (x46.flatMap enc_api_Word)]) 0 sz_41 rfl rfl rfl rfl rfl rfl rfl rfl rfl ?_) gn
      refine wl_v 10 rfl (v_assign rfl) gn rfl <| wl_v 11 rfl (v_assign rfl) gn rfl <| wl_v 12 rfl (v_assign rfl) gn rfl <| w_end 13 rfl <| g_seq rfl <| g_seq rfl <| g_region rfl rfl <| wl_v 0 rfl (v_move rfl) gn rfl <| wl_v 1 rfl (v_bin rfl rfl rfl) gn rfl <| w_end 2 rfl ?_
      by_cases hp124 : r117.2.2.1 = 0
      ·have h := if_pos' hp124 h
       refine g_false rfl _ rfl ((eqib hp124)) <| g_skip rfl <| g_seq rfl <| g_region rfl rfl <| wl_v 0 rfl (v_move rfl) gn rfl <| wl_v 1 rfl (v_ldB [.int .i64 r117.1.kind, .string r117.1.text, .int .i64 r117.1.n, .int .i64 r117.1.at_] 0 ld_41 rfl rfl rfl rfl) gn rfl ?_
       refine wl_s 2 rfl (s_litO (xs := ([r117.1] : List api_Word)) [.int .i64 r117.1.kind, .string r117.1.text, .int .i64 r117.1.n, .int .i64 r117.1.at_] bs_33_1 rfl (by kernel_rfl) rfl rfl rfl rfl fun gb126 h127 => ?_) gn
       obtain ⟨x131, hv132, h⟩ := h
       obtain ⟨hb133, h⟩ := h
       refine wl_s 3 rfl (s_app (zs := x131) (cells' := x131.flatMap enc_api_Word) 2 ap_33 rfl rfl rfl h50 (Nat.le_refl _) (Src.ownF (hl := hl_api_Word) (h1 := h1_api_Word) 0 rfl h127) (by rw [hv132, List.flatMap_append] <;> rfl) (app_len hv132 h127.hq) hb133 rfl rfl fun A128 c129 h130 => ?_) gn
       refine wl_v 4 rfl (v_assign rfl) gn rfl <| w_end 5 rfl <| g_region rfl rfl <| wl_v 0 rfl (v_move rfl) gn rfl <| wl_v 1 rfl (v_assign rfl) gn rfl <| w_end 2 rfl <| g_inBlock <| g_inLoop ?_
       have ih := Out.inl hO1 h
       exact g_go [0, 1] (ih A128 (n48 + 1) c129 h130) ⟨rfl, rfl, rfl, trivial⟩ (.cons _ (.cons _ (.cons_cons _ (.slnil)))) rfl
      ·have h := if_neg' hp124 h
       refine g_true rfl _ rfl ((neib hp124)) <| g_seq rfl <| g_region rfl rfl <| wl_v 0 rfl (v_move rfl) gn rfl <| wl_v 1 rfl (v_move rfl) gn rfl <| wl_v 2 rfl (v_assign rfl) gn rfl <| wl_v 3 rfl (v_assign rfl) gn rfl <| wl_v 4 rfl (v_assign rfl) gn rfl <| w_end 5 rfl <| g_nil 41 4 ?_
       have h := Out.inr hO1 h
       refine g_retR [.slice none 0 0, .int .i64 r117.2.2.1, .int .i64 r117.2.2.2] rfl Try.func9 rfl (.tmp rfl (.tmp rfl (.tmp rfl (.nil)))) fun wr hLr => ?_
       have hMr := hLr.pkI (.c 0 rfl .n) (.c 1 rfl (.c 2 rfl .n)) (by kernel_rfl) (.c 1 rfl .n)
       show trellisref8_Cut_R w F  r (.returned (packV [.slice none 0 0, .int .i64 r117.2.2.1, .int .i64 r117.2.2.2])) wr
       rw [h]
       exact ⟨none, 0, 0, rfl, hMr, (Ow.nil (z := w.heap.size))⟩
   ·have h := if_neg' hp93 h
    refine g_false rfl _ rfl ((decide_eq_false hp93)) <| g_exit [.code q9c16] rfl rfl <| g_seq rfl <| g_region rfl rfl <| wl_v 0 rfl (v_move rfl) gn rfl <| wl_v 1 rfl (v_assign rfl) gn rfl <| wl_v 2 rfl (v_assign rfl) gn rfl <| wl_v 3 rfl (v_assign rfl) gn rfl <| w_end 4 rfl ?_
    have h := Out.inr hO1 h
    refine g_retR [.slice A47 n48 c49, .int .i64 0, .int .i64 0] rfl Try.func9 rfl (.tmp rfl (.tmp rfl (.tmp rfl (.nil)))) fun wr hLr => ?_
    have hMr := hLr.pkI (.c 0 rfl .n) .n (by kernel_rfl) (.c 1 rfl .n)
    show trellisref8_Cut_R w F  r (.returned (packV [.slice A47 n48 c49, .int .i64 0, .int .i64 0])) wr
    rw [h]
    exact ⟨A47, n48, c49, rfl, hMr, h50⟩
  refine g_nil 41 4 ?_
  exact g_go [0, 1] (key1 _ h none 0 0 (Ow.nil (z := w.heap.size))) ⟨rfl, rfl, rfl, trivial⟩ (.cons_cons _ (.slnil)) rfl
abbrev trellisref20_Reader_named_R (w : World) (F : Nat → Prop) (g2 : Nat) (Tb3 : Nat) (A8 : Option Addr) (n9 : Nat) (c10 : Nat) (z12 : Nat) (A14 : Option Addr) (n15 : Nat) (c16 : Nat) (z18 : Nat) (r : Bool × trellisref20_Reader) : Ending → World → Prop := fun e w' => ∃ A1 : Option Addr, ∃ n1 : Nat, ∃ c1 : Nat, ∃ A2 : Option Addr, ∃ n2 : Nat, ∃ c2 : Nat, ∃ A0 : Option Addr, ∃ n0 : Nat, ∃ c0 : Nat, e = .returned (.bool r.1) ∧ B.Loc w w' [.box g2 Tb3 [.slice A0 n0 c0, .int .i64 r.2.at_, .slice A1 n1 c1, .slice A2 n2 c2, .int .i64 r.2.e, .int .i64 r.2.pos], .own (.slice A1 n1 c1) 46 5 n1 (r.2.q.nodes.flatMap enc_api_PatNode), .own (.slice A2 n2 c2) 48 4 n2 (r.2.q.conds.flatMap enc_api_Cond)] [St w [[g2], (Value.slice A8 n9 c10).ownBlock.toList, (Value.slice A14 n15 c16).ownBlock.toList]] ∧ Ow z12 A1 n1 c1 r.2.q.nodes ∧ Ow z18 A2 n2 c2 r.2.q.conds ∧ Rw k_api_Word w' (Nw w w' F [.box g2 Tb3 [.slice A0 n0 c0, .int .i64 r.2.at_, .slice A1 n1 c1, .slice A2 n2 c2, .int .i64 r.2.e, .int .i64 r.2.pos], .own (.slice A1 n1 c1) 46 5 n1 (r.2.q.nodes.flatMap enc_api_PatNode), .own (.slice A2 n2 c2) 48 4 n2 (r.2.q.conds.flatMap enc_api_Cond)]) A0 n0 c0 r.2.l
noncomputable abbrev trellisref20_Reader_named_C (w : World) (F : Nat → Prop) (g2 : Nat) (Tb3 : Nat) (A8 : Option Addr) (n9 : Nat) (c10 : Nat) (z12 : Nat) (A14 : Option Addr) (n15 : Nat) (c16 : Nat) (z18 : Nat) (r : Bool × trellisref20_Reader) : Cx := ⟨Try.prog, 17, Try.f17, 34, trellisref20_Reader_named_R w F g2 Tb3 A8 n9 c10 z12 A14 n15 c16 z18 r, w⟩
theorem trellisref20_Reader_named_calls (w : World) (F : Nat → Prop) (x1 : trellisref20_Reader) (x20 : Int) (g2 : Nat) (Tb3 : Nat) (A4 : Option Addr) (n5 : Nat) (c6 : Nat) (z12 : Nat) (A8 : Option Addr) (n9 : Nat) (c10 : Nat) (z18 : Nat) (A14 : Option Addr) (n15 : Nat) (c16 : Nat) (h7 : Rw k_api_Word w F A4 n5 c6 x1.l) (hz13 : z12 ≤ w.heap.size) (h11 : Ow z12 A8 n9 c10 x1.q.nodes) (hz19 : z18 ≤ w.heap.size) (h17 : Ow z18 A14 n15 c16 x1.q.conds) (hF : ∀ b, F b → b < w.heap.size ∧ ∀ o ∈ ([[g2], (Value.slice A8 n9 c10).ownBlock.toList, (Value.slice A14 n15 c16).ownBlock.toList] : List (List Nat)), b ∉ o) (hL0 : B.Loc w w [.box g2 Tb3 [.slice A4 n5 c6, .int .i64 x1.at_, .slice A8 n9 c10, .slice A14 n15 c16, .int .i64 x1.e, .int .i64 x1.pos], .own (.slice A8 n9 c10) 46 5 n9 (x1.q.nodes.flatMap enc_api_PatNode), .own (.slice A14 n15 c16) 48 4 n15 (x1.q.conds.flatMap enc_api_Cond)] [Sm w.heap.size F w [[g2], (Value.slice A8 n9 c10).ownBlock.toList, (Value.slice A14 n15 c16).ownBlock.toList], St w [[g2], (Value.slice A8 n9 c10).ownBlock.toList, (Value.slice A14 n15 c16).ownBlock.toList]]) (r : Bool × trellisref20_Reader) (h : trellisref20_Reader_named x1 x20 r) : Calls Try.prog 17 #[.pointer (some ⟨g2, 0, none⟩), .int .i64 x20] w (trellisref20_Reader_named_R w F g2 Tb3 A8 n9 c10 z12 A14 n15 c16 z18 r) := by
 unfold trellisref20_Reader_named at h
 have h7 := Rw.into (bs := [[g2], (Value.slice A8 n9 c10).ownBlock.toList, (Value.slice A14 n15 c16).ownBlock.toList]) hF h7
 refine calls_of_Loc (vs := [.pointer (some ⟨g2, 0, none⟩), .int .i64 x20]) 34 Try.func17 rfl Try.ntmps17 rfl hL0 ?_
 show G (trellisref20_Reader_named_C w F g2 Tb3 A8 n9 c10 z12 A14 n15 c16 z18 r) _ _ _ _
 refine g_seq rfl <| g_region rfl rfl <| wl_v 0 rfl (v_assign rfl) gn rfl <| w_end 1 rfl <| g_seq rfl <| g_region rfl rfl <| wl_v 0 rfl (v_move rfl) gn rfl <| wl_v 1 rfl (v_move rfl) gn rfl <| wl_v 2 rfl (v_nilCheck rfl) gn rfl <| wl_v 3 rfl (v_fldB fo_38_0 rfl) gn rfl <| wl_v 4 rfl (v_ldB1 0 ld_33 rfl rfl rfl) gn rfl <| wl_v 5 rfl (v_lenQ un_33 rfl h7.hq) gn rfl ?_
 refine wl_v 6 rfl (v_bin rfl rfl rfl) gn rfl <| wl_v 7 rfl (v_move rfl) gn rfl ?_
 by_cases hp21 : x20 < (x1.l.length : Int)
 ·have h := if_pos' hp21 h
  refine w_bool 12 rfl ((decide_eq_true hp21)) <| wl_v 8 rfl (v_move rfl) (gy 12 rfl rfl) rfl <| wl_v 9 rfl (v_nilCheck rfl) (gy 12 rfl rfl) rfl <| wl_v 10 rfl (v_fldB fo_38_0 rfl) (gy 12 rfl rfl) rfl <| wl_v 11 rfl (v_ldB1 0 ld_33 rfl rfl rfl) (gy 12 rfl rfl) rfl <| wl_v 12 rfl (v_move rfl) (gy 12 rfl rfl) rfl ?_
  obtain ⟨hb22, h⟩ := h
  have hr23 := Rw.readF (s := Sm w.heap.size F w [[g2], (Value.slice A8 n9 c10).ownBlock.toList, (Value.slice A14 n15 c16).ownBlock.toList]) (hl := hl_api_Word) (h1 := h1_api_Word) h7 hb22
  refine wl_v 13 rfl (v_idxR (s := Sm w.heap.size F w [[g2], (Value.slice A8 n9 c10).ownBlock.toList, (Value.slice A14 n15 c16).ownBlock.toList]) slE_33 rfl rfl h7 hb22) (gy 12 rfl rfl) rfl <| wl_v 14 rfl (v_fldA fo_41_0 rfl) (gy 12 rfl rfl) rfl <| wl_v 15 rfl (v_ldA1 (kk := (x20 : Int).toNat * 4) (j := 0) (Sm w.heap.size F w [[g2], (Value.slice A8 n9 c10).ownBlock.toList, (Value.slice A14 n15 c16).ownBlock.toList]) ld_39 rfl hr23 rfl (me 0 rfl)) (gy 12 rfl rfl) rfl <| wl_v 16 rfl (v_bin rfl rfl rfl) (gy 12 rfl rfl) rfl <| wl_v 17 rfl (v_pick (b := true) rfl rfl) gn rfl <| wl_v 18 rfl (v_move rfl) gn rfl ?_
  by_cases hp24 : (ix x1.l x20).kind = 1
  ·have h := if_pos' hp24 h
   refine w_bool 23 rfl ((eqi hp24)) <| wl_v 19 rfl (v_move rfl) (gy 23 rfl rfl) rfl <| wl_v 20 rfl (v_nilCheck rfl) (gy 23 rfl rfl) rfl <| wl_v 21 rfl (v_fldB fo_38_0 rfl) (gy 23 rfl rfl) rfl <| wl_v 22 rfl (v_ldB1 0 ld_33 rfl rfl rfl) (gy 23 rfl rfl) rfl <| wl_v 23 rfl (v_move rfl) (gy 23 rfl rfl) rfl ?_
   have hr25 := Rw.readF (s := Sm w.heap.size F w [[g2], (Value.slice A8 n9 c10).ownBlock.toList, (Value.slice A14 n15 c16).ownBlock.toList]) (hl := hl_api_Word) (h1 := h1_api_Word) h7 hb22
   refine wl_v 24 rfl (v_idxR (s := Sm w.heap.size F w [[g2], (Value.slice A8 n9 c10).ownBlock.toList, (Value.slice A14 n15 c16).ownBlock.toList]) slE_33 rfl rfl h7 hb22) (gy 23 rfl rfl) rfl <| wl_v 25 rfl (v_fldA fo_41_1 rfl) (gy 23 rfl rfl) rfl <| wl_v 26 rfl (v_ldA1 (kk := (x20 : Int).toNat * 4) (j := 1) (Sm w.heap.size F w [[g2], (Value.slice A8 n9 c10).ownBlock.toList, (Value.slice A14 n15 c16).ownBlock.toList]) ld_9 rfl hr25 rfl (me 0 rfl)) (gy 23 rfl rfl) rfl <| wl_v 27 rfl (v_neS rfl rfl) (gy 23 rfl rfl) rfl <| wl_v 28 rfl (v_pick (b := true) rfl rfl) gn rfl <| wl_v 29 rfl (v_assign rfl) gn rfl <| w_end 30 rfl ?_
   refine g_retR [.bool (!(seq ((ix x1.l x20).text) (⟨#[95]⟩ : ByteArray)))] rfl Try.func17 rfl (.tmp rfl (.nil)) fun wr hLr => ?_
   have hMr := hLr.pkI (.c 0 rfl (.c 1 rfl (.c 2 rfl .n))) .n (by kernel_rfl) (.c 1 rfl .n)
   have hMi := hLr.selI (.c 0 rfl (.c 1 rfl (.c 2 rfl .n)))
   show trellisref20_Reader_named_R w F g2 Tb3 A8 n9 c10 z12 A14 n15 c16 z18 r (.returned (packV [.bool (!(seq ((ix x1.l x20).text) (⟨#[95]⟩ : ByteArray)))])) wr
   rw [h]
   exact ⟨A8, n9, c10, A14, n15, c16, A4, n5, c6, rfl, hMr, h11, h17, (hLr.outR (s := Sm w.heap.size F w [[g2], (Value.slice A8 n9 c10).ownBlock.toList, (Value.slice A14 n15 c16).ownBlock.toList]) hMi (me 0 rfl) Sm.ok h7)⟩
  ·have h := if_neg' hp24 h
   refine w_bool 23 rfl ((nei hp24)) <| wl_pass 19 rfl (ps 23 rfl rfl rfl) <| wl_pass 20 rfl (ps 23 rfl rfl rfl) <| wl_pass 21 rfl (ps 23 rfl rfl rfl) <| wl_pass 22 rfl (ps 23 rfl rfl rfl) <| wl_pass 23 rfl (ps 23 rfl rfl rfl) <| wl_pass 24 rfl (ps 23 rfl rfl rfl) <| wl_pass 25 rfl (ps 23 rfl rfl rfl) <| wl_pass 26 rfl (ps 23 rfl rfl rfl) <| wl_pass 27 rfl (ps 23 rfl rfl rfl) <| wl_v 28 rfl (v_pick (b := false) rfl rfl) gn rfl <| wl_v 29 rfl (v_assign rfl) gn rfl ?_
   refine w_end 30 rfl ?_
   refine g_retR [.bool false] rfl Try.func17 rfl (.tmp rfl (.nil)) fun wr hLr => ?_
   have hMr := hLr.pkI (.c 0 rfl (.c 1 rfl (.c 2 rfl .n))) .n (by kernel_rfl) (.c 1 rfl .n)
   have hMi := hLr.selI (.c 0 rfl (.c 1 rfl (.c 2 rfl .n)))
   show trellisref20_Reader_named_R w F g2 Tb3 A8 n9 c10 z12 A14 n15 c16 z18 r (.returned (packV [.bool false])) wr
   rw [h]
   exact ⟨A8, n9, c10, A14, n15, c16, A4, n5, c6, rfl, hMr, h11, h17, (hLr.outR (s := Sm w.heap.size F w [[g2], (Value.slice A8 n9 c10).ownBlock.toList, (Value.slice A14 n15 c16).ownBlock.toList]) hMi (me 0 rfl) Sm.ok h7)⟩
 ·have h := if_neg' hp21 h
  refine w_bool 12 rfl ((decide_eq_false hp21)) <| wl_pass 8 rfl (ps 12 rfl rfl rfl) <| wl_pass 9 rfl (ps 12 rfl rfl rfl) <| wl_pass 10 rfl (ps 12 rfl rfl rfl) <| wl_pass 11 rfl (ps 12 rfl rfl rfl) <| wl_pass 12 rfl (ps 12 rfl rfl rfl) <| wl_pass 13 rfl (ps 12 rfl rfl rfl) <| wl_pass 14 rfl (ps 12 rfl rfl rfl) <| wl_pass 15 rfl (ps 12 rfl rfl rfl) <| wl_pass 16 rfl (ps 12 rfl rfl rfl) <| wl_v 17 rfl (v_pick (b := false) rfl rfl) gn rfl <| wl_v 18 rfl (v_move rfl) gn rfl ?_
  refine wl_pass 19 rfl (ps 23 rfl rfl rfl) <| wl_pass 20 rfl (ps 23 rfl rfl rfl) <| wl_pass 21 rfl (ps 23 rfl rfl rfl) <| wl_pass 22 rfl (ps 23 rfl rfl rfl) <| wl_pass 23 rfl (ps 23 rfl rfl rfl) <| wl_pass 24 rfl (ps 23 rfl rfl rfl) <| wl_pass 25 rfl (ps 23 rfl rfl rfl) <| wl_pass 26 rfl (ps 23 rfl rfl rfl) <| wl_pass 27 rfl (ps 23 rfl rfl rfl) <| wl_v 28 rfl (v_pick (b := false) rfl rfl) gn rfl <| wl_v 29 rfl (v_assign rfl) gn rfl <| w_end 30 rfl ?_
  refine g_retR [.bool false] rfl Try.func17 rfl (.tmp rfl (.nil)) fun wr hLr => ?_
  have hMr := hLr.pkI (.c 0 rfl (.c 1 rfl (.c 2 rfl .n))) .n (by kernel_rfl) (.c 1 rfl .n)
  have hMi := hLr.selI (.c 0 rfl (.c 1 rfl (.c 2 rfl .n)))
  show trellisref20_Reader_named_R w F g2 Tb3 A8 n9 c10 z12 A14 n15 c16 z18 r (.returned (packV [.bool false])) wr
  rw [h]
  exact ⟨A8, n9, c10, A14, n15, c16, A4, n5, c6, rfl, hMr, h11, h17, (hLr.outR (s := Sm w.heap.size F w [[g2], (Value.slice A8 n9 c10).ownBlock.toList, (Value.slice A14 n15 c16).ownBlock.toList]) hMi (me 0 rfl) Sm.ok h7)⟩
abbrev trellisref20_Reader_sees_R (w : World) (F : Nat → Prop) (g2 : Nat) (Tb3 : Nat) (A8 : Option Addr) (n9 : Nat) (c10 : Nat) (z12 : Nat) (A14 : Option Addr) (n15 : Nat) (c16 : Nat) (z18 : Nat) (r : Bool × trellisref20_Reader) : Ending → World → Prop := fun e w' => ∃ A1 : Option Addr, ∃ n1 : Nat, ∃ c1 : Nat, ∃ A2 : Option Addr, ∃ n2 : Nat, ∃ c2 : Nat, ∃ A0 : Option Addr, ∃ n0 : Nat, ∃ c0 : Nat, e = .returned (.bool r.1) ∧ B.Loc w w' [.box g2 Tb3 [.slice A0 n0 c0, .int .i64 r.2.at_, .slice A1 n1 c1, .slice A2 n2 c2, .int .i64 r.2.e, .int .i64 r.2.pos], .own (.slice A1 n1 c1) 46 5 n1 (r.2.q.nodes.flatMap enc_api_PatNode), .own (.slice A2 n2 c2) 48 4 n2 (r.2.q.conds.flatMap enc_api_Cond)] [St w [[g2], (Value.slice A8 n9 c10).ownBlock.toList, (Value.slice A14 n15 c16).ownBlock.toList]] ∧ Ow z12 A1 n1 c1 r.2.q.nodes ∧ Ow z18 A2 n2 c2 r.2.q.conds ∧ Rw k_api_Word w' (Nw w w' F [.box g2 Tb3 [.slice A0 n0 c0, .int .i64 r.2.at_, .slice A1 n1 c1, .slice A2 n2 c2, .int .i64 r.2.e, .int .i64 r.2.pos], .own (.slice A1 n1 c1) 46 5 n1 (r.2.q.nodes.flatMap enc_api_PatNode), .own (.slice A2 n2 c2) 48 4 n2 (r.2.q.conds.flatMap enc_api_Cond)]) A0 n0 c0 r.2.l
noncomputable abbrev trellisref20_Reader_sees_C (w : World) (F : Nat → Prop) (g2 : Nat) (Tb3 : Nat) (A8 : Option Addr) (n9 : Nat) (c10 : Nat) (z12 : Nat) (A14 : Option Addr) (n15 : Nat) (c16 : Nat) (z18 : Nat) (r : Bool × trellisref20_Reader) : Cx := ⟨Try.prog, 18, Try.f18, 40, trellisref20_Reader_sees_R w F g2 Tb3 A8 n9 c10 z12 A14 n15 c16 z18 r, w⟩
theorem trellisref20_Reader_sees_calls (w : World) (F : Nat → Prop) (x1 : trellisref20_Reader) (x20 : Int) (x21 : Int) (x22 : ByteArray) (g2 : Nat) (Tb3 : Nat) (A4 : Option Addr) (n5 : Nat) (c6 : Nat) (z12 : Nat) (A8 : Option Addr) (n9 : Nat) (c10 : Nat) (z18 : Nat) (A14 : Option Addr) (n15 : Nat) (c16 : Nat) (h7 : Rw k_api_Word w F A4 n5 c6 x1.l) (hz13 : z12 ≤ w.heap.size) (h11 : Ow z12 A8 n9 c10 x1.q.nodes) (hz19 : z18 ≤ w.heap.size) (h17 : Ow z18 A14 n15 c16 x1.q.conds) (hF : ∀ b, F b → b < w.heap.size ∧ ∀ o ∈ ([[g2], (Value.slice A8 n9 c10).ownBlock.toList, (Value.slice A14 n15 c16).ownBlock.toList] : List (List Nat)), b ∉ o) (hL0 : B.Loc w w [.box g2 Tb3 [.slice A4 n5 c6, .int .i64 x1.at_, .slice A8 n9 c10, .slice A14 n15 c16, .int .i64 x1.e, .int .i64 x1.pos], .own (.slice A8 n9 c10) 46 5 n9 (x1.q.nodes.flatMap enc_api_PatNode), .own (.slice A14 n15 c16) 48 4 n15 (x1.q.conds.flatMap enc_api_Cond)] [Sm w.heap.size F w [[g2], (Value.slice A8 n9 c10).ownBlock.toList, (Value.slice A14 n15 c16).ownBlock.toList], St w [[g2], (Value.slice A8 n9 c10).ownBlock.toList, (Value.slice A14 n15 c16).ownBlock.toList]]) (r : Bool × trellisref20_Reader) (h : trellisref20_Reader_sees x1 x20 x21 x22 r) : Calls Try.prog 18 #[.pointer (some ⟨g2, 0, none⟩), .int .i64 x20, .int .i64 x21, .string x22] w (trellisref20_Reader_sees_R w F g2 Tb3 A8 n9 c10 z12 A14 n15 c16 z18 r) := by
 unfold trellisref20_Reader_sees at h
 have h7 := Rw.into (bs := [[g2], (Value.slice A8 n9 c10).ownBlock.toList, (Value.slice A14 n15 c16).ownBlock.toList]) hF h7
 refine calls_of_Loc (vs := [.pointer (some ⟨g2, 0, none⟩), .int .i64 x20, .int .i64 x21, .string x22]) 40 Try.func18 rfl Try.ntmps18 rfl hL0 ?_
 show G (trellisref20_Reader_sees_C w F g2 Tb3 A8 n9 c10 z12 A14 n15 c16 z18 r) _ _ _ _
 refine g_seq rfl <| g_region rfl rfl <| wl_v 0 rfl (v_assign rfl) gn rfl <| w_end 1 rfl <| g_seq rfl <| g_region rfl rfl <| wl_v 0 rfl (v_move rfl) gn rfl <| wl_v 1 rfl (v_move rfl) gn rfl <| wl_v 2 rfl (v_nilCheck rfl) gn rfl <| wl_v 3 rfl (v_fldB fo_38_0 rfl) gn rfl <| wl_v 4 rfl (v_ldB1 0 ld_33 rfl rfl rfl) gn rfl <| wl_v 5 rfl (v_lenQ un_33 rfl h7.hq) gn rfl ?_
 refine wl_v 6 rfl (v_bin rfl rfl rfl) gn rfl <| wl_v 7 rfl (v_move rfl) gn rfl ?_
 by_cases hp23 : x20 < (x1.l.length : Int)
 ·have h := if_pos' hp23 h
  refine w_bool 16 rfl ((decide_eq_true hp23)) <| wl_v 8 rfl (v_move rfl) (gy 16 rfl rfl) rfl <| wl_v 9 rfl (v_nilCheck rfl) (gy 16 rfl rfl) rfl <| wl_v 10 rfl (v_fldB fo_38_0 rfl) (gy 16 rfl rfl) rfl <| wl_v 11 rfl (v_ldB1 0 ld_33 rfl rfl rfl) (gy 16 rfl rfl) rfl <| wl_v 12 rfl (v_move rfl) (gy 16 rfl rfl) rfl ?_
  obtain ⟨hb24, h⟩ := h
  have hr25 := Rw.readF (s := Sm w.heap.size F w [[g2], (Value.slice A8 n9 c10).ownBlock.toList, (Value.slice A14 n15 c16).ownBlock.toList]) (hl := hl_api_Word) (h1 := h1_api_Word) h7 hb24
  refine wl_v 13 rfl (v_idxR (s := Sm w.heap.size F w [[g2], (Value.slice A8 n9 c10).ownBlock.toList, (Value.slice A14 n15 c16).ownBlock.toList]) slE_33 rfl rfl h7 hb24) (gy 16 rfl rfl) rfl <| wl_v 14 rfl (v_fldA fo_41_0 rfl) (gy 16 rfl rfl) rfl <| wl_v 15 rfl (v_ldA1 (kk := (x20 : Int).toNat * 4) (j := 0) (Sm w.heap.size F w [[g2], (Value.slice A8 n9 c10).ownBlock.toList, (Value.slice A14 n15 c16).ownBlock.toList]) ld_39 rfl hr25 rfl (me 0 rfl)) (gy 16 rfl rfl) rfl <| wl_v 16 rfl (v_move rfl) (gy 16 rfl rfl) rfl <| wl_v 17 rfl (v_bin rfl rfl rfl) (gy 16 rfl rfl) rfl <| wl_v 18 rfl (v_pick (b := true) rfl rfl) gn rfl <| wl_v 19 rfl (v_move rfl) gn rfl ?_
  by_cases hp26 : (ix x1.l x20).kind = x21
  ·have h := if_pos' hp26 h
   refine w_bool 28 rfl ((eqi hp26)) <| wl_v 20 rfl (v_move rfl) (gy 28 rfl rfl) rfl <| wl_v 21 rfl (v_nilCheck rfl) (gy 28 rfl rfl) rfl <| wl_v 22 rfl (v_fldB fo_38_0 rfl) (gy 28 rfl rfl) rfl <| wl_v 23 rfl (v_ldB1 0 ld_33 rfl rfl rfl) (gy 28 rfl rfl) rfl <| wl_v 24 rfl (v_move rfl) (gy 28 rfl rfl) rfl ?_
   have hr27 := Rw.readF (s := Sm w.heap.size F w [[g2], (Value.slice A8 n9 c10).ownBlock.toList, (Value.slice A14 n15 c16).ownBlock.toList]) (hl := hl_api_Word) (h1 := h1_api_Word) h7 hb24
   refine wl_v 25 rfl (v_idxR (s := Sm w.heap.size F w [[g2], (Value.slice A8 n9 c10).ownBlock.toList, (Value.slice A14 n15 c16).ownBlock.toList]) slE_33 rfl rfl h7 hb24) (gy 28 rfl rfl) rfl <| wl_v 26 rfl (v_fldA fo_41_1 rfl) (gy 28 rfl rfl) rfl <| wl_v 27 rfl (v_ldA1 (kk := (x20 : Int).toNat * 4) (j := 1) (Sm w.heap.size F w [[g2], (Value.slice A8 n9 c10).ownBlock.toList, (Value.slice A14 n15 c16).ownBlock.toList]) ld_9 rfl hr27 rfl (me 0 rfl)) (gy 28 rfl rfl) rfl <| wl_v 28 rfl (v_move rfl) (gy 28 rfl rfl) rfl <| wl_v 29 rfl (v_eqS rfl rfl) (gy 28 rfl rfl) rfl <| wl_v 30 rfl (v_pick (b := true) rfl rfl) gn rfl <| wl_v 31 rfl (v_assign rfl) gn rfl <| w_end 32 rfl ?_
   refine g_retR [.bool (seq ((ix x1.l x20).text) x22)] rfl Try.func18 rfl (.tmp rfl (.nil)) fun wr hLr => ?_
   have hMr := hLr.pkI (.c 0 rfl (.c 1 rfl (.c 2 rfl .n))) .n (by kernel_rfl) (.c 1 rfl .n)
   have hMi := hLr.selI (.c 0 rfl (.c 1 rfl (.c 2 rfl .n)))
   show trellisref20_Reader_sees_R w F g2 Tb3 A8 n9 c10 z12 A14 n15 c16 z18 r (.returned (packV [.bool (seq ((ix x1.l x20).text) x22)])) wr
   rw [h]
   exact ⟨A8, n9, c10, A14, n15, c16, A4, n5, c6, rfl, hMr, h11, h17, (hLr.outR (s := Sm w.heap.size F w [[g2], (Value.slice A8 n9 c10).ownBlock.toList, (Value.slice A14 n15 c16).ownBlock.toList]) hMi (me 0 rfl) Sm.ok h7)⟩
  ·have h := if_neg' hp26 h
   refine w_bool 28 rfl ((nei hp26)) <| wl_pass 20 rfl (ps 28 rfl rfl rfl) <| wl_pass 21 rfl (ps 28 rfl rfl rfl) <| wl_pass 22 rfl (ps 28 rfl rfl rfl) <| wl_pass 23 rfl (ps 28 rfl rfl rfl) <| wl_pass 24 rfl (ps 28 rfl rfl rfl) <| wl_pass 25 rfl (ps 28 rfl rfl rfl) <| wl_pass 26 rfl (ps 28 rfl rfl rfl) <| wl_pass 27 rfl (ps 28 rfl rfl rfl) <| wl_pass 28 rfl (ps 28 rfl rfl rfl) <| wl_pass 29 rfl (ps 28 rfl rfl rfl) <| wl_v 30 rfl (v_pick (b := false) rfl rfl) gn rfl ?_
   refine wl_v 31 rfl (v_assign rfl) gn rfl <| w_end 32 rfl ?_
   refine g_retR [.bool false] rfl Try.func18 rfl (.tmp rfl (.nil)) fun wr hLr => ?_
   have hMr := hLr.pkI (.c 0 rfl (.c 1 rfl (.c 2 rfl .n))) .n (by kernel_rfl) (.c 1 rfl .n)
   have hMi := hLr.selI (.c 0 rfl (.c 1 rfl (.c 2 rfl .n)))
   show trellisref20_Reader_sees_R w F g2 Tb3 A8 n9 c10 z12 A14 n15 c16 z18 r (.returned (packV [.bool false])) wr
   rw [h]
   exact ⟨A8, n9, c10, A14, n15, c16, A4, n5, c6, rfl, hMr, h11, h17, (hLr.outR (s := Sm w.heap.size F w [[g2], (Value.slice A8 n9 c10).ownBlock.toList, (Value.slice A14 n15 c16).ownBlock.toList]) hMi (me 0 rfl) Sm.ok h7)⟩
 ·have h := if_neg' hp23 h
  refine w_bool 16 rfl ((decide_eq_false hp23)) <| wl_pass 8 rfl (ps 16 rfl rfl rfl) <| wl_pass 9 rfl (ps 16 rfl rfl rfl) <| wl_pass 10 rfl (ps 16 rfl rfl rfl) <| wl_pass 11 rfl (ps 16 rfl rfl rfl) <| wl_pass 12 rfl (ps 16 rfl rfl rfl) <| wl_pass 13 rfl (ps 16 rfl rfl rfl) <| wl_pass 14 rfl (ps 16 rfl rfl rfl) <| wl_pass 15 rfl (ps 16 rfl rfl rfl) <| wl_pass 16 rfl (ps 16 rfl rfl rfl) <| wl_pass 17 rfl (ps 16 rfl rfl rfl) <| wl_v 18 rfl (v_pick (b := false) rfl rfl) gn rfl ?_
  refine wl_v 19 rfl (v_move rfl) gn rfl <| wl_pass 20 rfl (ps 28 rfl rfl rfl) <| wl_pass 21 rfl (ps 28 rfl rfl rfl) <| wl_pass 22 rfl (ps 28 rfl rfl rfl) <| wl_pass 23 rfl (ps 28 rfl rfl rfl) <| wl_pass 24 rfl (ps 28 rfl rfl rfl) <| wl_pass 25 rfl (ps 28 rfl rfl rfl) <| wl_pass 26 rfl (ps 28 rfl rfl rfl) <| wl_pass 27 rfl (ps 28 rfl rfl rfl) <| wl_pass 28 rfl (ps 28 rfl rfl rfl) <| wl_pass 29 rfl (ps 28 rfl rfl rfl) <| wl_v 30 rfl (v_pick (b := false) rfl rfl) gn rfl ?_
  refine wl_v 31 rfl (v_assign rfl) gn rfl <| w_end 32 rfl ?_
  refine g_retR [.bool false] rfl Try.func18 rfl (.tmp rfl (.nil)) fun wr hLr => ?_
  have hMr := hLr.pkI (.c 0 rfl (.c 1 rfl (.c 2 rfl .n))) .n (by kernel_rfl) (.c 1 rfl .n)
  have hMi := hLr.selI (.c 0 rfl (.c 1 rfl (.c 2 rfl .n)))
  show trellisref20_Reader_sees_R w F g2 Tb3 A8 n9 c10 z12 A14 n15 c16 z18 r (.returned (packV [.bool false])) wr
  rw [h]
  exact ⟨A8, n9, c10, A14, n15, c16, A4, n5, c6, rfl, hMr, h11, h17, (hLr.outR (s := Sm w.heap.size F w [[g2], (Value.slice A8 n9 c10).ownBlock.toList, (Value.slice A14 n15 c16).ownBlock.toList]) hMi (me 0 rfl) Sm.ok h7)⟩
abbrev trellisref20_Reader_text_R (w : World) (F : Nat → Prop) (g2 : Nat) (Tb3 : Nat) (A8 : Option Addr) (n9 : Nat) (c10 : Nat) (z12 : Nat) (A14 : Option Addr) (n15 : Nat) (c16 : Nat) (z18 : Nat) (r : Bool × trellisref20_Reader) : Ending → World → Prop := fun e w' => ∃ A1 : Option Addr, ∃ n1 : Nat, ∃ c1 : Nat, ∃ A2 : Option Addr, ∃ n2 : Nat, ∃ c2 : Nat, ∃ A0 : Option Addr, ∃ n0 : Nat, ∃ c0 : Nat, e = .returned (.bool r.1) ∧ B.Loc w w' [.box g2 Tb3 [.slice A0 n0 c0, .int .i64 r.2.at_, .slice A1 n1 c1, .slice A2 n2 c2, .int .i64 r.2.e, .int .i64 r.2.pos], .own (.slice A1 n1 c1) 46 5 n1 (r.2.q.nodes.flatMap enc_api_PatNode), .own (.slice A2 n2 c2) 48 4 n2 (r.2.q.conds.flatMap enc_api_Cond)] [St w [[g2], (Value.slice A8 n9 c10).ownBlock.toList, (Value.slice A14 n15 c16).ownBlock.toList]] ∧ Ow z12 A1 n1 c1 r.2.q.nodes ∧ Ow z18 A2 n2 c2 r.2.q.conds ∧ Rw k_api_Word w' (Nw w w' F [.box g2 Tb3 [.slice A0 n0 c0, .int .i64 r.2.at_, .slice A1 n1 c1, .slice A2 n2 c2, .int .i64 r.2.e, .int .i64 r.2.pos], .own (.slice A1 n1 c1) 46 5 n1 (r.2.q.nodes.flatMap enc_api_PatNode), .own (.slice A2 n2 c2) 48 4 n2 (r.2.q.conds.flatMap enc_api_Cond)]) A0 n0 c0 r.2.l
noncomputable abbrev trellisref20_Reader_text_C (w : World) (F : Nat → Prop) (g2 : Nat) (Tb3 : Nat) (A8 : Option Addr) (n9 : Nat) (c10 : Nat) (z12 : Nat) (A14 : Option Addr) (n15 : Nat) (c16 : Nat) (z18 : Nat) (r : Bool × trellisref20_Reader) : Cx := ⟨Try.prog, 19, Try.f19, 34, trellisref20_Reader_text_R w F g2 Tb3 A8 n9 c10 z12 A14 n15 c16 z18 r, w⟩
theorem trellisref20_Reader_text_calls (w : World) (F : Nat → Prop) (x1 : trellisref20_Reader) (x20 : Int) (g2 : Nat) (Tb3 : Nat) (A4 : Option Addr) (n5 : Nat) (c6 : Nat) (z12 : Nat) (A8 : Option Addr) (n9 : Nat) (c10 : Nat) (z18 : Nat) (A14 : Option Addr) (n15 : Nat) (c16 : Nat) (h7 : Rw k_api_Word w F A4 n5 c6 x1.l) (hz13 : z12 ≤ w.heap.size) (h11 : Ow z12 A8 n9 c10 x1.q.nodes) (hz19 : z18 ≤ w.heap.size) (h17 : Ow z18 A14 n15 c16 x1.q.conds) (hF : ∀ b, F b → b < w.heap.size ∧ ∀ o ∈ ([[g2], (Value.slice A8 n9 c10).ownBlock.toList, (Value.slice A14 n15 c16).ownBlock.toList] : List (List Nat)), b ∉ o) (hL0 : B.Loc w w [.box g2 Tb3 [.slice A4 n5 c6, .int .i64 x1.at_, .slice A8 n9 c10, .slice A14 n15 c16, .int .i64 x1.e, .int .i64 x1.pos], .own (.slice A8 n9 c10) 46 5 n9 (x1.q.nodes.flatMap enc_api_PatNode), .own (.slice A14 n15 c16) 48 4 n15 (x1.q.conds.flatMap enc_api_Cond)] [Sm w.heap.size F w [[g2], (Value.slice A8 n9 c10).ownBlock.toList, (Value.slice A14 n15 c16).ownBlock.toList], St w [[g2], (Value.slice A8 n9 c10).ownBlock.toList, (Value.slice A14 n15 c16).ownBlock.toList]]) (r : Bool × trellisref20_Reader) (h : trellisref20_Reader_text x1 x20 r) : Calls Try.prog 19 #[.pointer (some ⟨g2, 0, none⟩), .int .i64 x20] w (trellisref20_Reader_text_R w F g2 Tb3 A8 n9 c10 z12 A14 n15 c16 z18 r) := by
 unfold trellisref20_Reader_text at h
 have h7 := Rw.into (bs := [[g2], (Value.slice A8 n9 c10).ownBlock.toList, (Value.slice A14 n15 c16).ownBlock.toList]) hF h7
 refine calls_of_Loc (vs := [.pointer (some ⟨g2, 0, none⟩), .int .i64 x20]) 34 Try.func19 rfl Try.ntmps19 rfl hL0 ?_
 show G (trellisref20_Reader_text_C w F g2 Tb3 A8 n9 c10 z12 A14 n15 c16 z18 r) _ _ _ _
 refine g_seq rfl <| g_region rfl rfl <| wl_v 0 rfl (v_assign rfl) gn rfl <| w_end 1 rfl <| g_seq rfl <| g_region rfl rfl <| wl_v 0 rfl (v_move rfl) gn rfl <| wl_v 1 rfl (v_move rfl) gn rfl <| wl_v 2 rfl (v_nilCheck rfl) gn rfl <| wl_v 3 rfl (v_fldB fo_38_0 rfl) gn rfl <| wl_v 4 rfl (v_ldB1 0 ld_33 rfl rfl rfl) gn rfl <| wl_v 5 rfl (v_lenQ un_33 rfl h7.hq) gn rfl ?_
 refine wl_v 6 rfl (v_bin rfl rfl rfl) gn rfl <| wl_v 7 rfl (v_move rfl) gn rfl ?_
 by_cases hp21 : x20 < (x1.l.length : Int)
 ·have h := if_pos' hp21 h
  refine w_bool 12 rfl ((decide_eq_true hp21)) <| wl_v 8 rfl (v_move rfl) (gy 12 rfl rfl) rfl <| wl_v 9 rfl (v_nilCheck rfl) (gy 12 rfl rfl) rfl <| wl_v 10 rfl (v_fldB fo_38_0 rfl) (gy 12 rfl rfl) rfl <| wl_v 11 rfl (v_ldB1 0 ld_33 rfl rfl rfl) (gy 12 rfl rfl) rfl <| wl_v 12 rfl (v_move rfl) (gy 12 rfl rfl) rfl ?_
  obtain ⟨hb22, h⟩ := h
  have hr23 := Rw.readF (s := Sm w.heap.size F w [[g2], (Value.slice A8 n9 c10).ownBlock.toList, (Value.slice A14 n15 c16).ownBlock.toList]) (hl := hl_api_Word) (h1 := h1_api_Word) h7 hb22
  refine wl_v 13 rfl (v_idxR (s := Sm w.heap.size F w [[g2], (Value.slice A8 n9 c10).ownBlock.toList, (Value.slice A14 n15 c16).ownBlock.toList]) slE_33 rfl rfl h7 hb22) (gy 12 rfl rfl) rfl <| wl_v 14 rfl (v_fldA fo_41_0 rfl) (gy 12 rfl rfl) rfl <| wl_v 15 rfl (v_ldA1 (kk := (x20 : Int).toNat * 4) (j := 0) (Sm w.heap.size F w [[g2], (Value.slice A8 n9 c10).ownBlock.toList, (Value.slice A14 n15 c16).ownBlock.toList]) ld_39 rfl hr23 rfl (me 0 rfl)) (gy 12 rfl rfl) rfl <| wl_v 16 rfl (v_bin rfl rfl rfl) (gy 12 rfl rfl) rfl <| wl_v 17 rfl (v_pick (b := true) rfl rfl) gn rfl <| wl_v 18 rfl (v_move rfl) gn rfl ?_
  by_cases hp24 : (ix x1.l x20).kind = 2
  ·have h := if_pos' hp24 h
   refine w_bool 23 rfl ((eqi hp24)) <| wl_v 19 rfl (v_move rfl) (gy 23 rfl rfl) rfl <| wl_v 20 rfl (v_nilCheck rfl) (gy 23 rfl rfl) rfl <| wl_v 21 rfl (v_fldB fo_38_0 rfl) (gy 23 rfl rfl) rfl <| wl_v 22 rfl (v_ldB1 0 ld_33 rfl rfl rfl) (gy 23 rfl rfl) rfl <| wl_v 23 rfl (v_move rfl) (gy 23 rfl rfl) rfl ?_
   have hr25 := Rw.readF (s := Sm w.heap.size F w [[g2], (Value.slice A8 n9 c10).ownBlock.toList, (Value.slice A14 n15 c16).ownBlock.toList]) (hl := hl_api_Word) (h1 := h1_api_Word) h7 hb22
   refine wl_v 24 rfl (v_idxR (s := Sm w.heap.size F w [[g2], (Value.slice A8 n9 c10).ownBlock.toList, (Value.slice A14 n15 c16).ownBlock.toList]) slE_33 rfl rfl h7 hb22) (gy 23 rfl rfl) rfl <| wl_v 25 rfl (v_fldA fo_41_1 rfl) (gy 23 rfl rfl) rfl <| wl_v 26 rfl (v_ldA1 (kk := (x20 : Int).toNat * 4) (j := 1) (Sm w.heap.size F w [[g2], (Value.slice A8 n9 c10).ownBlock.toList, (Value.slice A14 n15 c16).ownBlock.toList]) ld_9 rfl hr25 rfl (me 0 rfl)) (gy 23 rfl rfl) rfl <| wl_v 27 rfl (v_neS rfl rfl) (gy 23 rfl rfl) rfl <| wl_v 28 rfl (v_pick (b := true) rfl rfl) gn rfl <| wl_v 29 rfl (v_assign rfl) gn rfl <| w_end 30 rfl ?_
   refine g_retR [.bool (!(seq ((ix x1.l x20).text) (⟨#[]⟩ : ByteArray)))] rfl Try.func19 rfl (.tmp rfl (.nil)) fun wr hLr => ?_
   have hMr := hLr.pkI (.c 0 rfl (.c 1 rfl (.c 2 rfl .n))) .n (by kernel_rfl) (.c 1 rfl .n)
   have hMi := hLr.selI (.c 0 rfl (.c 1 rfl (.c 2 rfl .n)))
   show trellisref20_Reader_text_R w F g2 Tb3 A8 n9 c10 z12 A14 n15 c16 z18 r (.returned (packV [.bool (!(seq ((ix x1.l x20).text) (⟨#[]⟩ : ByteArray)))])) wr
   rw [h]
   exact ⟨A8, n9, c10, A14, n15, c16, A4, n5, c6, rfl, hMr, h11, h17, (hLr.outR (s := Sm w.heap.size F w [[g2], (Value.slice A8 n9 c10).ownBlock.toList, (Value.slice A14 n15 c16).ownBlock.toList]) hMi (me 0 rfl) Sm.ok h7)⟩
  ·have h := if_neg' hp24 h
   refine w_bool 23 rfl ((nei hp24)) <| wl_pass 19 rfl (ps 23 rfl rfl rfl) <| wl_pass 20 rfl (ps 23 rfl rfl rfl) <| wl_pass 21 rfl (ps 23 rfl rfl rfl) <| wl_pass 22 rfl (ps 23 rfl rfl rfl) <| wl_pass 23 rfl (ps 23 rfl rfl rfl) <| wl_pass 24 rfl (ps 23 rfl rfl rfl) <| wl_pass 25 rfl (ps 23 rfl rfl rfl) <| wl_pass 26 rfl (ps 23 rfl rfl rfl) <| wl_pass 27 rfl (ps 23 rfl rfl rfl) <| wl_v 28 rfl (v_pick (b := false) rfl rfl) gn rfl <| wl_v 29 rfl (v_assign rfl) gn rfl ?_
   refine w_end 30 rfl ?_
   refine g_retR [.bool false] rfl Try.func19 rfl (.tmp rfl (.nil)) fun wr hLr => ?_
   have hMr := hLr.pkI (.c 0 rfl (.c 1 rfl (.c 2 rfl .n))) .n (by kernel_rfl) (.c 1 rfl .n)
   have hMi := hLr.selI (.c 0 rfl (.c 1 rfl (.c 2 rfl .n)))
   show trellisref20_Reader_text_R w F g2 Tb3 A8 n9 c10 z12 A14 n15 c16 z18 r (.returned (packV [.bool false])) wr
   rw [h]
   exact ⟨A8, n9, c10, A14, n15, c16, A4, n5, c6, rfl, hMr, h11, h17, (hLr.outR (s := Sm w.heap.size F w [[g2], (Value.slice A8 n9 c10).ownBlock.toList, (Value.slice A14 n15 c16).ownBlock.toList]) hMi (me 0 rfl) Sm.ok h7)⟩
 ·have h := if_neg' hp21 h
  refine w_bool 12 rfl ((decide_eq_false hp21)) <| wl_pass 8 rfl (ps 12 rfl rfl rfl) <| wl_pass 9 rfl (ps 12 rfl rfl rfl) <| wl_pass 10 rfl (ps 12 rfl rfl rfl) <| wl_pass 11 rfl (ps 12 rfl rfl rfl) <| wl_pass 12 rfl (ps 12 rfl rfl rfl) <| wl_pass 13 rfl (ps 12 rfl rfl rfl) <| wl_pass 14 rfl (ps 12 rfl rfl rfl) <| wl_pass 15 rfl (ps 12 rfl rfl rfl) <| wl_pass 16 rfl (ps 12 rfl rfl rfl) <| wl_v 17 rfl (v_pick (b := false) rfl rfl) gn rfl <| wl_v 18 rfl (v_move rfl) gn rfl ?_
  refine wl_pass 19 rfl (ps 23 rfl rfl rfl) <| wl_pass 20 rfl (ps 23 rfl rfl rfl) <| wl_pass 21 rfl (ps 23 rfl rfl rfl) <| wl_pass 22 rfl (ps 23 rfl rfl rfl) <| wl_pass 23 rfl (ps 23 rfl rfl rfl) <| wl_pass 24 rfl (ps 23 rfl rfl rfl) <| wl_pass 25 rfl (ps 23 rfl rfl rfl) <| wl_pass 26 rfl (ps 23 rfl rfl rfl) <| wl_pass 27 rfl (ps 23 rfl rfl rfl) <| wl_v 28 rfl (v_pick (b := false) rfl rfl) gn rfl <| wl_v 29 rfl (v_assign rfl) gn rfl <| w_end 30 rfl ?_
  refine g_retR [.bool false] rfl Try.func19 rfl (.tmp rfl (.nil)) fun wr hLr => ?_
  have hMr := hLr.pkI (.c 0 rfl (.c 1 rfl (.c 2 rfl .n))) .n (by kernel_rfl) (.c 1 rfl .n)
  have hMi := hLr.selI (.c 0 rfl (.c 1 rfl (.c 2 rfl .n)))
  show trellisref20_Reader_text_R w F g2 Tb3 A8 n9 c10 z12 A14 n15 c16 z18 r (.returned (packV [.bool false])) wr
  rw [h]
  exact ⟨A8, n9, c10, A14, n15, c16, A4, n5, c6, rfl, hMr, h11, h17, (hLr.outR (s := Sm w.heap.size F w [[g2], (Value.slice A8 n9 c10).ownBlock.toList, (Value.slice A14 n15 c16).ownBlock.toList]) hMi (me 0 rfl) Sm.ok h7)⟩
end Go.Proofs.Ytjookebbmfiidaa.K
