/- What the machine's calls do, function by function, printed by my own tool. Condition of each: its relation holds of the answer, and what is handed in lies in memory as told. -/
import Derived.Test.YtmfopcbjgbphaaaDoorK0
set_option linter.unusedVariables false
set_option maxRecDepth 100000
set_option maxHeartbeats 4000000
namespace Go.Proofs.YtmfopcbjgbphaaaDoor.K
open Go.Proofs.YtmfopcbjgbphaaaDoor.B Go.Proofs.YtmfopcbjgbphaaaDoor.R Go.RowKit
abbrev unicode_utf8_ValidString_R (w : World) (F : Nat → Prop) (r : Bool) : Ending → World → Prop := fun e w' => e = .returned (.bool r) ∧ B.Loc w w' [] [St w []]
theorem unicode_utf8_ValidString_calls (w : World) (F : Nat → Prop) (x1 : ByteArray) (hG1 : Tt .u8 tb_1 1 (St w [])) (hG2 : Tt .u8 tb_2 2 (St w [])) (hF : ∀ b, F b → b < w.heap.size ∧ ∀ o ∈ ([] : List (List Nat)), b ∉ o) (hL0 : B.Loc w w [] [Sm w.heap.size F w [], St w []]) (r : Bool) (h : unicode_utf8_ValidString x1 r) : Calls Tryd.prog 67 #[.string x1] w (unicode_utf8_ValidString_R w F  r) := by
 unfold unicode_utf8_ValidString at h
 obtain ⟨h1, rfl⟩ := h
 refine Calls.mono (Tryd.utf8_ValidString x1 w h1 (utf8T (by decide +kernel) (by decide +kernel) hG1 hG2)) ?_
 rintro e w' ⟨rfl, hb⟩
 exact ⟨rfl, Loc.of_below hb⟩
noncomputable abbrev q84c0 : Code := bodyOf Tryd.f84
noncomputable abbrev q84c1 := Code.fst q84c0
noncomputable abbrev q84c2 := Code.snd q84c0
noncomputable abbrev q84c3 := Code.fst q84c2
noncomputable abbrev q84c4 := Code.snd q84c2
abbrev internal_stringslite_IndexByte_R (w : World) (F : Nat → Prop) (r : Int) : Ending → World → Prop := fun e w' => e = .returned (.int .i64 r) ∧ B.Loc w w' [] [St w []]
noncomputable abbrev internal_stringslite_IndexByte_C (w : World) (F : Nat → Prop) (r : Int) : Cx := ⟨Tryd.prog, 84, Tryd.f84, 8, internal_stringslite_IndexByte_R w F  r, w⟩
theorem internal_stringslite_IndexByte_calls (w : World) (F : Nat → Prop) (x1 : ByteArray) (x2 : Int) (hF : ∀ b, F b → b < w.heap.size ∧ ∀ o ∈ ([] : List (List Nat)), b ∉ o) (hL0 : B.Loc w w [] [Sm w.heap.size F w [], St w []]) (r : Int) (h : internal_stringslite_IndexByte x1 x2 r) : Calls Tryd.prog 84 #[.string x1, .int .u8 x2] w (internal_stringslite_IndexByte_R w F  r) := by
 unfold internal_stringslite_IndexByte at h
 refine calls_of_Loc (vs := [.string x1, .int .u8 x2]) 8 Tryd.func84 rfl Tryd.ntmps84 rfl hL0 ?_
 show G (internal_stringslite_IndexByte_C w F r) _ _ _ _
 refine gSq (c := q84c0) rfl ?_
 refine gRg (c := q84c1) rfl rfl ?_
 refine wl_v 0 rfl (vAs rfl) gn rfl ?_
 refine w_end 1 rfl ?_
 refine gSq (c := q84c2) rfl ?_
 refine gRg (c := q84c3) rfl rfl ?_
 refine wl_v 0 rfl (vMv rfl) gn rfl ?_
 refine wl_v 1 rfl (vMv rfl) gn rfl ?_
 refine wl_v 2 rfl (v_ext [.string x1, .int .u8 x2] rfl Tryd.func94 rfl rfl (by kernel_rfl) (by kernel_rfl) (fun w => x_indexByteS _ _ w)) gn rfl ?_
 refine wl_v 3 rfl (vAs rfl) gn rfl ?_
 refine w_end 4 rfl ?_
 refine g_retR (c := q84c4) [.int .i64 (idxB x1 x2)] rfl Tryd.func84 rfl (.tmp rfl (.nil)) fun wr hLr => ?_
 have hMr : B.Loc w wr [] [St w []] := hLr.pick0 (sels [1] rfl)
 show internal_stringslite_IndexByte_R w F  r (.returned (packV [.int .i64 (idxB x1 x2)])) wr
 rw [h]
 exact ⟨rfl, hMr⟩
noncomputable abbrev q70c0 : Code := bodyOf Tryd.f70
noncomputable abbrev q70c1 := Code.fst q70c0
noncomputable abbrev q70c2 := Code.snd q70c0
noncomputable abbrev q70c3 := Code.fst q70c2
noncomputable abbrev q70c4 := Code.snd q70c2
abbrev strings_IndexByte_R (w : World) (F : Nat → Prop) (r : Int) : Ending → World → Prop := fun e w' => e = .returned (.int .i64 r) ∧ B.Loc w w' [] [St w []]
noncomputable abbrev strings_IndexByte_C (w : World) (F : Nat → Prop) (r : Int) : Cx := ⟨Tryd.prog, 70, Tryd.f70, 8, strings_IndexByte_R w F  r, w⟩
theorem strings_IndexByte_calls (w : World) (F : Nat → Prop) (x1 : ByteArray) (x2 : Int) (hF : ∀ b, F b → b < w.heap.size ∧ ∀ o ∈ ([] : List (List Nat)), b ∉ o) (hL0 : B.Loc w w [] [Sm w.heap.size F w [], St w []]) (r : Int) (h : strings_IndexByte x1 x2 r) : Calls Tryd.prog 70 #[.string x1, .int .u8 x2] w (strings_IndexByte_R w F  r) := by
 unfold strings_IndexByte at h
 refine calls_of_Loc (vs := [.string x1, .int .u8 x2]) 8 Tryd.func70 rfl Tryd.ntmps70 rfl hL0 ?_
 show G (strings_IndexByte_C w F r) _ _ _ _
 refine gSq (c := q70c0) rfl ?_
 refine gRg (c := q70c1) rfl rfl ?_
 refine wl_v 0 rfl (vAs rfl) gn rfl ?_
 refine w_end 1 rfl ?_
 refine gSq (c := q70c2) rfl ?_
 refine gRg (c := q70c3) rfl rfl ?_
 refine wl_v 0 rfl (vMv rfl) gn rfl ?_
 refine wl_v 1 rfl (vMv rfl) gn rfl ?_
 obtain ⟨r6, hv7, h⟩ := h
 refine wl_s 2 rfl (sCl [.string x1, .int .u8 x2] rfl Tryd.func84 rfl rfl rfl fun w3 hL4 => ?_) gn
 have hp5 : List.Perm ([] : List Ent) (([] : List Ent) ++ ([] : List Ent)) := pIx [] [] rfl rfl (by kernel_rfl)
 refine Calls.mono (internal_stringslite_IndexByte_calls w3 (Fl ([] : List Snap)) x1 x2 (hL4.hFl (Sl := ([] : List Snap)) hp5 (sels [] rfl)) (hL4.into hp5 (Fl ([] : List Snap))) r6 hv7) ?_
 rintro _ w8 ⟨rfl, hM9⟩
 have hL10 := hL4.call hp5 hM9
 refine ⟨_, _, _, rfl, hL10, ?_⟩
 refine wl_v 3 rfl (vAs rfl) gn rfl ?_
 refine w_end 4 rfl ?_
 refine g_retR (c := q70c4) [.int .i64 r6] rfl Tryd.func70 rfl (.tmp rfl (.nil)) fun wr hLr => ?_
 have hMr : B.Loc w wr [] [St w []] := hLr.pick0 (sels [1] rfl)
 show strings_IndexByte_R w F  r (.returned (packV [.int .i64 r6])) wr
 rw [h]
 exact ⟨rfl, hMr⟩
noncomputable abbrev q55c0 : Code := bodyOf Tryd.f55
noncomputable abbrev q55c1 := Code.fst q55c0
noncomputable abbrev q55c2 := Code.snd q55c0
noncomputable abbrev q55c3 := Code.fst q55c2
noncomputable abbrev q55c4 := Code.snd q55c2
abbrev jps_is_R (w : World) (F : Nat → Prop) (g2 : Nat) (Tb3 : Nat) (A4 : Option Addr) (n5 : Nat) (c6 : Nat) (z8 : Nat) (r : Bool × jps) : Ending → World → Prop := fun e w' => ∃ A0 : Option Addr, ∃ n0 : Nat, ∃ c0 : Nat, e = .returned (.bool r.1) ∧ B.Loc w w' [.box g2 Tb3 [.string r.2.text, .int .i64 r.2.at_, .slice A0 n0 c0, .int .i64 r.2.in_, .int .i64 r.2.code], .own (.slice A0 n0 c0) 31 4 n0 (r.2.out.flatMap eJN)] [St w [[g2], (Value.slice A4 n5 c6).ownBlock.toList]] ∧ Ow z8 A0 n0 c0 r.2.out
noncomputable abbrev jps_is_C (w : World) (F : Nat → Prop) (g2 : Nat) (Tb3 : Nat) (A4 : Option Addr) (n5 : Nat) (c6 : Nat) (z8 : Nat) (r : Bool × jps) : Cx := ⟨Tryd.prog, 55, Tryd.f55, 29, jps_is_R w F g2 Tb3 A4 n5 c6 z8 r, w⟩
theorem jps_is_calls (w : World) (F : Nat → Prop) (x1 : jps) (x10 : ByteArray) (g2 : Nat) (Tb3 : Nat) (z8 : Nat) (A4 : Option Addr) (n5 : Nat) (c6 : Nat) (hz9 : z8 ≤ w.heap.size) (h7 : Ow z8 A4 n5 c6 x1.out) (hF : ∀ b, F b → b < w.heap.size ∧ ∀ o ∈ ([[g2], (Value.slice A4 n5 c6).ownBlock.toList] : List (List Nat)), b ∉ o) (hL0 : B.Loc w w [.box g2 Tb3 [.string x1.text, .int .i64 x1.at_, .slice A4 n5 c6, .int .i64 x1.in_, .int .i64 x1.code], .own (.slice A4 n5 c6) 31 4 n5 (x1.out.flatMap eJN)] [Sm w.heap.size F w [[g2], (Value.slice A4 n5 c6).ownBlock.toList], St w [[g2], (Value.slice A4 n5 c6).ownBlock.toList]]) (r : Bool × jps) (h : jps_is x1 x10 r) : Calls Tryd.prog 55 #[.pointer (some ⟨g2, 0, none⟩), .string x10] w (jps_is_R w F g2 Tb3 A4 n5 c6 z8 r) := by
 unfold jps_is at h
 refine calls_of_Loc (vs := [.pointer (some ⟨g2, 0, none⟩), .string x10]) 29 Tryd.func55 rfl Tryd.ntmps55 rfl hL0 ?_
 show G (jps_is_C w F g2 Tb3 A4 n5 c6 z8 r) _ _ _ _
 refine gSq (c := q55c0) rfl ?_
 refine gRg (c := q55c1) rfl rfl ?_
 refine wl_v 0 rfl (vAs rfl) gn rfl ?_
 refine w_end 1 rfl ?_
 refine gSq (c := q55c2) rfl ?_
 by_cases hp11 : x1.at_ < (x1.text.size : Int)
 ·have h := if_pos' hp11 h
  obtain ⟨hb12, h⟩ := h
  obtain ⟨r16, hv17, h⟩ := h
  have hns : Region.noSelect (Code.ops q55c3) = true := by kernel_rfl
  refine g_drawF (c := q55c3) [.box g2 Tb3 [.string x1.text, .int .i64 x1.at_, .slice A4 n5 c6, .int .i64 x1.in_, .int .i64 x1.code], .own (.slice A4 n5 c6) 31 4 n5 (x1.out.flatMap eJN)] [Sm w.heap.size F w [[g2], (Value.slice A4 n5 c6).ownBlock.toList], St w [[g2], (Value.slice A4 n5 c6).ownBlock.toList]] [] 25 rfl rfl mix rfl (.cons_cons _ (.cons_cons _ (.slnil))) (sels [0, 1] rfl) ?_
  refine wfv 0 rfl (vMv rfl) gn hns rfl ?_
  refine wfv 1 rfl (vNc rfl) gn hns rfl ?_
  refine wfv 2 rfl (vFB fo_70_1 rfl) gn hns rfl ?_
  refine wfv 3 rfl (v_ldB1 0 ld_3 rfl rfl rfl) gn hns rfl ?_
  refine wfv 4 rfl (vMv rfl) gn hns rfl ?_
  refine wfv 5 rfl (vNc rfl) gn hns rfl ?_
  refine wfv 6 rfl (vFB fo_70_0 rfl) gn hns rfl ?_
  refine wfv 7 rfl (v_ldB1 0 ld_9 rfl rfl rfl) gn hns rfl ?_
  refine wfv 8 rfl (v_lenS un_9 rfl) gn hns rfl ?_
  refine wfv 9 rfl (vBn rfl rfl rfl) gn hns rfl ?_
  refine wfv 10 rfl (vMv rfl) gn hns rfl ?_
  refine wf_bool 15 rfl ((decide_eq_true hp11)) ?_
  refine wfv 11 rfl (vMv rfl) (gy 15 rfl rfl) hns rfl ?_
  refine wfv 12 rfl (vMv rfl) (gy 15 rfl rfl) hns rfl ?_
  refine wfv 13 rfl (vNc rfl) (gy 15 rfl rfl) hns rfl ?_
  refine wfv 14 rfl (vFB fo_70_0 rfl) (gy 15 rfl rfl) hns rfl ?_
  refine wfv 15 rfl (v_ldB1 0 ld_9 rfl rfl rfl) (gy 15 rfl rfl) hns rfl ?_
  refine wfv 16 rfl (vMv rfl) (gy 15 rfl rfl) hns rfl ?_
  refine wfv 17 rfl (vNc rfl) (gy 15 rfl rfl) hns rfl ?_
  refine wfv 18 rfl (vFB fo_70_1 rfl) (gy 15 rfl rfl) hns rfl ?_
  refine wfv 19 rfl (v_ldB1 0 ld_3 rfl rfl rfl) (gy 15 rfl rfl) hns rfl ?_
  refine wfv 20 rfl (v_indexS un_9 rfl rfl hb12) (gy 15 rfl rfl) hns rfl ?_
  refine wf_all [21] (by kernel_rfl) rfl ⟨on_s 21 rfl (gy 15 rfl rfl) rfl (sCl [.string x10, .int .u8 (bt x1.text x1.at_)] rfl Tryd.func70 rfl rfl rfl fun w39 hL40 => ?_), trivial⟩
  have hp41 : List.Perm ([.box g2 Tb3 [.string x1.text, .int .i64 x1.at_, .slice A4 n5 c6, .int .i64 x1.in_, .int .i64 x1.code], .own (.slice A4 n5 c6) 31 4 n5 (x1.out.flatMap eJN)] : List Ent) (([] : List Ent) ++ ([.box g2 Tb3 [.string x1.text, .int .i64 x1.at_, .slice A4 n5 c6, .int .i64 x1.in_, .int .i64 x1.code], .own (.slice A4 n5 c6) 31 4 n5 (x1.out.flatMap eJN)] : List Ent)) := pIx [] [0, 1] rfl rfl (by kernel_rfl)
  refine Calls.mono (strings_IndexByte_calls w39 (Fl ([] : List Snap)) x10 (bt x1.text x1.at_) (hL40.hFl (Sl := ([] : List Snap)) hp41 (sels [] rfl)) (hL40.into hp41 (Fl ([] : List Snap))) r16 hv17) ?_
  rintro _ w42 ⟨rfl, hM43⟩
  have hL44 := hL40.call hp41 hM43
  refine ⟨_, _, _, rfl, hL44, ?_⟩
  refine ⟨sels [0, 1] rfl, sels [0, 1] rfl, ?_⟩
  refine wfv 22 rfl (vBn rfl rfl rfl) (gy 15 rfl rfl) hns rfl ?_
  refine wfv 23 rfl (v_pick (b := true) rfl rfl) gn hns rfl ?_
  refine wfv 24 rfl (vAs rfl) gn hns rfl ?_
  refine wf_end (by kernel_rfl) ?_
  refine g_retR (c := q55c4) [.bool (decide (r16 ≥ 0))] rfl Tryd.func55 rfl (.tmp rfl (.nil)) fun wr hLr => ?_
  have hMr : B.Loc w wr [.box g2 Tb3 [.string x1.text, .int .i64 x1.at_, .slice A4 n5 c6, .int .i64 x1.in_, .int .i64 x1.code], .own (.slice A4 n5 c6) 31 4 n5 (x1.out.flatMap eJN)] [St w [[g2], (Value.slice A4 n5 c6).ownBlock.toList]] := hLr.pick (rest := []) (pIx [0, 1] [] rfl rfl (by kernel_rfl)) (sels [1] rfl)
  show jps_is_R w F g2 Tb3 A4 n5 c6 z8 r (.returned (packV [.bool (decide (r16 ≥ 0))])) wr
  rw [h]
  exact ⟨A4, n5, c6, rfl, hMr, h7⟩
 ·have h := if_neg' hp11 h
  have hns : Region.noSelect (Code.ops q55c3) = true := by kernel_rfl
  refine g_drawF (c := q55c3) [.box g2 Tb3 [.string x1.text, .int .i64 x1.at_, .slice A4 n5 c6, .int .i64 x1.in_, .int .i64 x1.code], .own (.slice A4 n5 c6) 31 4 n5 (x1.out.flatMap eJN)] [Sm w.heap.size F w [[g2], (Value.slice A4 n5 c6).ownBlock.toList], St w [[g2], (Value.slice A4 n5 c6).ownBlock.toList]] [] 25 rfl rfl mix rfl (.cons_cons _ (.cons_cons _ (.slnil))) (sels [0, 1] rfl) ?_
  refine wfv 0 rfl (vMv rfl) gn hns rfl ?_
  refine wfv 1 rfl (vNc rfl) gn hns rfl ?_
  refine wfv 2 rfl (vFB fo_70_1 rfl) gn hns rfl ?_
  refine wfv 3 rfl (v_ldB1 0 ld_3 rfl rfl rfl) gn hns rfl ?_
  refine wfv 4 rfl (vMv rfl) gn hns rfl ?_
  refine wfv 5 rfl (vNc rfl) gn hns rfl ?_
  refine wfv 6 rfl (vFB fo_70_0 rfl) gn hns rfl ?_
  refine wfv 7 rfl (v_ldB1 0 ld_9 rfl rfl rfl) gn hns rfl ?_
  refine wfv 8 rfl (v_lenS un_9 rfl) gn hns rfl ?_
  refine wfv 9 rfl (vBn rfl rfl rfl) gn hns rfl ?_
  refine wfv 10 rfl (vMv rfl) gn hns rfl ?_
  refine wf_bool 15 rfl ((decide_eq_false hp11)) ?_
  refine wfp 11 rfl (ps 15 rfl rfl rfl) hns rfl ?_
  refine wfp 12 rfl (ps 15 rfl rfl rfl) hns rfl ?_
  refine wfp 13 rfl (ps 15 rfl rfl rfl) hns rfl ?_
  refine wfp 14 rfl (ps 15 rfl rfl rfl) hns rfl ?_
  refine wfp 15 rfl (ps 15 rfl rfl rfl) hns rfl ?_
  refine wfp 16 rfl (ps 15 rfl rfl rfl) hns rfl ?_
  refine wfp 17 rfl (ps 15 rfl rfl rfl) hns rfl ?_
  refine wfp 18 rfl (ps 15 rfl rfl rfl) hns rfl ?_
  refine wfp 19 rfl (ps 15 rfl rfl rfl) hns rfl ?_
  refine wfp 20 rfl (ps 15 rfl rfl rfl) hns rfl ?_
  refine wfp 21 rfl (ps 15 rfl rfl rfl) hns rfl ?_
  refine wfp 22 rfl (ps 15 rfl rfl rfl) hns rfl ?_
  refine wfv 23 rfl (v_pick (b := false) rfl rfl) gn hns rfl ?_
  refine wfv 24 rfl (vAs rfl) gn hns rfl ?_
  refine wf_end (by kernel_rfl) ?_
  refine g_retR (c := q55c4) [.bool false] rfl Tryd.func55 rfl (.tmp rfl (.nil)) fun wr hLr => ?_
  have hMr : B.Loc w wr [.box g2 Tb3 [.string x1.text, .int .i64 x1.at_, .slice A4 n5 c6, .int .i64 x1.in_, .int .i64 x1.code], .own (.slice A4 n5 c6) 31 4 n5 (x1.out.flatMap eJN)] [St w [[g2], (Value.slice A4 n5 c6).ownBlock.toList]] := hLr.pick (rest := []) (pIx [0, 1] [] rfl rfl (by kernel_rfl)) (sels [1] rfl)
  show jps_is_R w F g2 Tb3 A4 n5 c6 z8 r (.returned (packV [.bool false])) wr
  rw [h]
  exact ⟨A4, n5, c6, rfl, hMr, h7⟩
noncomputable abbrev q71c0 : Code := bodyOf Tryd.f71
noncomputable abbrev q71c1 := Code.fst q71c0
noncomputable abbrev q71c2 := Code.snd q71c0
noncomputable abbrev q71c3 := Code.fst q71c2
noncomputable abbrev q71c4 := Code.snd q71c2
noncomputable abbrev q71c5 := Code.fst q71c3
noncomputable abbrev q71c6 := Code.snd q71c3
noncomputable abbrev q71c7 := Code.fst q71c6
noncomputable abbrev q71c8 := Code.snd q71c6
noncomputable abbrev q71c9 := Code.fst q71c4
noncomputable abbrev q71c10 := Code.snd q71c4
noncomputable abbrev q71c11 := Code.fst q71c10
noncomputable abbrev q71c12 := Code.snd q71c10
noncomputable abbrev q71c13 := Code.fst q71c7
noncomputable abbrev q71c14 := Code.snd q71c7
abbrev jps_take_R (w : World) (F : Nat → Prop) (g2 : Nat) (Tb3 : Nat) (A4 : Option Addr) (n5 : Nat) (c6 : Nat) (z8 : Nat) (r : Bool × jps) : Ending → World → Prop := fun e w' => ∃ A0 : Option Addr, ∃ n0 : Nat, ∃ c0 : Nat, e = .returned (.bool r.1) ∧ B.Loc w w' [.box g2 Tb3 [.string r.2.text, .int .i64 r.2.at_, .slice A0 n0 c0, .int .i64 r.2.in_, .int .i64 r.2.code], .own (.slice A0 n0 c0) 31 4 n0 (r.2.out.flatMap eJN)] [St w [[g2], (Value.slice A4 n5 c6).ownBlock.toList]] ∧ Ow z8 A0 n0 c0 r.2.out
noncomputable abbrev jps_take_C (w : World) (F : Nat → Prop) (g2 : Nat) (Tb3 : Nat) (A4 : Option Addr) (n5 : Nat) (c6 : Nat) (z8 : Nat) (r : Bool × jps) : Cx := ⟨Tryd.prog, 71, Tryd.f71, 16, jps_take_R w F g2 Tb3 A4 n5 c6 z8 r, w⟩
theorem jps_take_calls (w : World) (F : Nat → Prop) (x1 : jps) (x10 : ByteArray) (g2 : Nat) (Tb3 : Nat) (z8 : Nat) (A4 : Option Addr) (n5 : Nat) (c6 : Nat) (hz9 : z8 ≤ w.heap.size) (h7 : Ow z8 A4 n5 c6 x1.out) (hF : ∀ b, F b → b < w.heap.size ∧ ∀ o ∈ ([[g2], (Value.slice A4 n5 c6).ownBlock.toList] : List (List Nat)), b ∉ o) (hL0 : B.Loc w w [.box g2 Tb3 [.string x1.text, .int .i64 x1.at_, .slice A4 n5 c6, .int .i64 x1.in_, .int .i64 x1.code], .own (.slice A4 n5 c6) 31 4 n5 (x1.out.flatMap eJN)] [Sm w.heap.size F w [[g2], (Value.slice A4 n5 c6).ownBlock.toList], St w [[g2], (Value.slice A4 n5 c6).ownBlock.toList]]) (r : Bool × jps) (h : jps_take x1 x10 r) : Calls Tryd.prog 71 #[.pointer (some ⟨g2, 0, none⟩), .string x10] w (jps_take_R w F g2 Tb3 A4 n5 c6 z8 r) := by
 unfold jps_take at h
 refine calls_of_Loc (vs := [.pointer (some ⟨g2, 0, none⟩), .string x10]) 16 Tryd.func71 rfl Tryd.ntmps71 rfl hL0 ?_
 show G (jps_take_C w F g2 Tb3 A4 n5 c6 z8 r) _ _ _ _
 refine gSq (c := q71c0) rfl ?_
 refine gRg (c := q71c1) rfl rfl ?_
 refine wl_v 0 rfl (vAs rfl) gn rfl ?_
 refine w_end 1 rfl ?_
 refine gSq (c := q71c2) rfl ?_
 refine gSq (c := q71c3) rfl ?_
 refine gRg (c := q71c5) rfl rfl ?_
 refine wl_v 0 rfl (vMv rfl) gn rfl ?_
 refine wl_v 1 rfl (vMv rfl) gn rfl ?_
 obtain ⟨r14, hv15, h⟩ := h
 refine wl_s 2 rfl (sCl [.pointer (some ⟨g2, 0, none⟩), .string x10] rfl Tryd.func55 rfl rfl rfl fun w11 hL12 => ?_) gn
 have hp13 : List.Perm ([.box g2 Tb3 [.string x1.text, .int .i64 x1.at_, .slice A4 n5 c6, .int .i64 x1.in_, .int .i64 x1.code], .own (.slice A4 n5 c6) 31 4 n5 (x1.out.flatMap eJN)] : List Ent) (([.box g2 Tb3 [.string x1.text, .int .i64 x1.at_, .slice A4 n5 c6, .int .i64 x1.in_, .int .i64 x1.code], .own (.slice A4 n5 c6) 31 4 n5 (x1.out.flatMap eJN)] : List Ent) ++ ([] : List Ent)) := pIx [0, 1] [] rfl rfl (by kernel_rfl)
 refine Calls.mono (jps_is_calls w11 (Fl ([] : List Snap)) x1 x10 g2 Tb3 z8 A4 n5 c6 (Nat.le_trans hz9 hL12.env.size) h7 (hL12.hFl (Sl := ([] : List Snap)) hp13 (sels [] rfl)) (hL12.into hp13 (Fl ([] : List Snap))) r14 hv15) ?_
 rintro _ w21 ⟨A16, n17, c18, rfl, hM22, h19⟩
 have hL23 := hL12.call hp13 hM22
 refine ⟨_, _, _, rfl, hL23, ?_⟩
 refine wl_v 3 rfl (v_not rfl) gn rfl ?_
 refine w_end 4 rfl ?_
 by_cases hp24 : r14.1 = true
 ·have h := if_pos' hp24 h
  refine gFa (c := q71c6) rfl _ rfl ((nf hp24)) ?_
  refine g_skip (c := q71c8) rfl ?_
  refine gSq (c := q71c4) rfl ?_
  refine gRg (c := q71c9) rfl rfl ?_
  refine wl_v 0 rfl (vMv rfl) gn rfl ?_
  refine wl_v 1 rfl (vNc rfl) gn rfl ?_
  refine wl_v 2 rfl (vFB fo_70_1 rfl) gn rfl ?_
  refine wl_v 3 rfl (v_ldB1 0 ld_3 rfl rfl rfl) gn rfl ?_
  refine wl_v 4 rfl (vBn rfl rfl rfl) gn rfl ?_
  refine wl_v 5 rfl (vNc rfl) gn rfl ?_
  refine wl_v 6 rfl (vFB fo_70_1 rfl) gn rfl ?_
  refine wl_s 7 rfl (s_stB (vs := [.int .i64 (w64 (r14.2.at_ + 1))]) (cs' := [.string r14.2.text, .int .i64 (w64 (r14.2.at_ + 1)), .slice A16 n17 c18, .int .i64 r14.2.in_, .int .i64 r14.2.code]) (M' := [.box g2 Tb3 [.string r14.2.text, .int .i64 (w64 (r14.2.at_ + 1)), .slice A16 n17 c18, .int .i64 r14.2.in_, .int .i64 r14.2.code], .own (.slice A16 n17 c18) 31 4 n17 (r14.2.out.flatMap eJN)]) 0 sz_3 rfl rfl rfl rfl rfl rfl rfl rfl rfl ?_) gn
  refine w_end 8 rfl ?_
  refine gSq (c := q71c10) rfl ?_
  refine gRg (c := q71c11) rfl rfl ?_
  refine wl_v 0 rfl (vAs rfl) gn rfl ?_
  refine w_end 1 rfl ?_
  refine g_retR (c := q71c12) [.bool true] rfl Tryd.func71 rfl (.tmp rfl (.nil)) fun wr hLr => ?_
  have hMr : B.Loc w wr [.box g2 Tb3 [.string r14.2.text, .int .i64 (w64 (r14.2.at_ + 1)), .slice A16 n17 c18, .int .i64 r14.2.in_, .int .i64 r14.2.code], .own (.slice A16 n17 c18) 31 4 n17 (r14.2.out.flatMap eJN)] [St w [[g2], (Value.slice A4 n5 c6).ownBlock.toList]] := hLr.pick (rest := []) (pIx [0, 1] [] rfl rfl (by kernel_rfl)) (sels [1] rfl)
  show jps_take_R w F g2 Tb3 A4 n5 c6 z8 r (.returned (packV [.bool true])) wr
  rw [h]
  exact ⟨A16, n17, c18, rfl, hMr, h19⟩
 ·have h := if_neg' hp24 h
  refine gTr (c := q71c6) rfl _ rfl ((nt (bf hp24))) ?_
  refine gSq (c := q71c7) rfl ?_
  refine gRg (c := q71c13) rfl rfl ?_
  refine wl_v 0 rfl (vAs rfl) gn rfl ?_
  refine w_end 1 rfl ?_
  refine g_retR (c := q71c14) [.bool false] rfl Tryd.func71 rfl (.tmp rfl (.nil)) fun wr hLr => ?_
  have hMr : B.Loc w wr [.box g2 Tb3 [.string r14.2.text, .int .i64 r14.2.at_, .slice A16 n17 c18, .int .i64 r14.2.in_, .int .i64 r14.2.code], .own (.slice A16 n17 c18) 31 4 n17 (r14.2.out.flatMap eJN)] [St w [[g2], (Value.slice A4 n5 c6).ownBlock.toList]] := hLr.pick (rest := []) (pIx [0, 1] [] rfl rfl (by kernel_rfl)) (sels [1] rfl)
  show jps_take_R w F g2 Tb3 A4 n5 c6 z8 r (.returned (packV [.bool false])) wr
  rw [h]
  exact ⟨A16, n17, c18, rfl, hMr, h19⟩
noncomputable abbrev q74c0 : Code := bodyOf Tryd.f74
noncomputable abbrev q74c1 := Code.fst q74c0
noncomputable abbrev q74c2 := Code.snd q74c0
noncomputable abbrev q74c3 := Code.fst q74c2
noncomputable abbrev q74c4 := Code.snd q74c2
noncomputable abbrev q74c5 := Code.fst q74c3
noncomputable abbrev q74c6 := Code.snd q74c3
noncomputable abbrev q74c7 := Code.fst q74c6
noncomputable abbrev q74c8 := Code.snd q74c6
noncomputable abbrev q74c9 := Code.fst q74c4
noncomputable abbrev q74c10 := Code.snd q74c4
noncomputable abbrev q74c11 := Code.fst q74c9
noncomputable abbrev q74c12 := Code.fst q74c11
noncomputable abbrev q74c13 := Code.fst q74c12
noncomputable abbrev q74c14 := Code.snd q74c12
noncomputable abbrev q74c15 := Code.fst q74c13
noncomputable abbrev q74c16 := Code.snd q74c13
noncomputable abbrev q74c17 := Code.fst q74c16
noncomputable abbrev q74c18 := Code.snd q74c16
noncomputable abbrev q74c19 := Code.fst q74c14
noncomputable abbrev q74c20 := Code.fst q74c10
noncomputable abbrev q74c21 := Code.snd q74c10
noncomputable abbrev q74c22 := Code.fst q74c7
noncomputable abbrev q74c23 := Code.snd q74c7
abbrev jps_digits_R (w : World) (F : Nat → Prop) (g2 : Nat) (Tb3 : Nat) (A4 : Option Addr) (n5 : Nat) (c6 : Nat) (z8 : Nat) (r : Bool × jps) : Ending → World → Prop := fun e w' => ∃ A0 : Option Addr, ∃ n0 : Nat, ∃ c0 : Nat, e = .returned (.bool r.1) ∧ B.Loc w w' [.box g2 Tb3 [.string r.2.text, .int .i64 r.2.at_, .slice A0 n0 c0, .int .i64 r.2.in_, .int .i64 r.2.code], .own (.slice A0 n0 c0) 31 4 n0 (r.2.out.flatMap eJN)] [St w [[g2], (Value.slice A4 n5 c6).ownBlock.toList]] ∧ Ow z8 A0 n0 c0 r.2.out
noncomputable abbrev jps_digits_C (w : World) (F : Nat → Prop) (g2 : Nat) (Tb3 : Nat) (A4 : Option Addr) (n5 : Nat) (c6 : Nat) (z8 : Nat) (r : Bool × jps) : Cx := ⟨Tryd.prog, 74, Tryd.f74, 15, jps_digits_R w F g2 Tb3 A4 n5 c6 z8 r, w⟩
theorem jps_digits_calls (w : World) (F : Nat → Prop) (x1 : jps) (g2 : Nat) (Tb3 : Nat) (z8 : Nat) (A4 : Option Addr) (n5 : Nat) (c6 : Nat) (hz9 : z8 ≤ w.heap.size) (h7 : Ow z8 A4 n5 c6 x1.out) (hF : ∀ b, F b → b < w.heap.size ∧ ∀ o ∈ ([[g2], (Value.slice A4 n5 c6).ownBlock.toList] : List (List Nat)), b ∉ o) (hL0 : B.Loc w w [.box g2 Tb3 [.string x1.text, .int .i64 x1.at_, .slice A4 n5 c6, .int .i64 x1.in_, .int .i64 x1.code], .own (.slice A4 n5 c6) 31 4 n5 (x1.out.flatMap eJN)] [Sm w.heap.size F w [[g2], (Value.slice A4 n5 c6).ownBlock.toList], St w [[g2], (Value.slice A4 n5 c6).ownBlock.toList]]) (r : Bool × jps) (h : jps_digits x1 r) : Calls Tryd.prog 74 #[.pointer (some ⟨g2, 0, none⟩)] w (jps_digits_R w F g2 Tb3 A4 n5 c6 z8 r) := by
 unfold jps_digits at h
 refine calls_of_Loc (vs := [.pointer (some ⟨g2, 0, none⟩)]) 15 Tryd.func74 rfl Tryd.ntmps74 rfl hL0 ?_
 show G (jps_digits_C w F g2 Tb3 A4 n5 c6 z8 r) _ _ _ _
 refine gSq (c := q74c0) rfl ?_
 refine gRg (c := q74c1) rfl rfl ?_
 refine wl_v 0 rfl (vAs rfl) gn rfl ?_
 refine w_end 1 rfl ?_
 refine gSq (c := q74c2) rfl ?_
 refine gSq (c := q74c3) rfl ?_
 refine gRg (c := q74c5) rfl rfl ?_
 refine wl_v 0 rfl (vMv rfl) gn rfl ?_
 obtain ⟨r13, hv14, h⟩ := h
 refine wl_s 1 rfl (sCl [.pointer (some ⟨g2, 0, none⟩), .string (⟨#[48, 49, 50, 51, 52, 53, 54, 55, 56, 57]⟩ : ByteArray)] rfl Tryd.func71 rfl rfl rfl fun w10 hL11 => ?_) gn
 have hp12 : List.Perm ([.box g2 Tb3 [.string x1.text, .int .i64 x1.at_, .slice A4 n5 c6, .int .i64 x1.in_, .int .i64 x1.code], .own (.slice A4 n5 c6) 31 4 n5 (x1.out.flatMap eJN)] : List Ent) (([.box g2 Tb3 [.string x1.text, .int .i64 x1.at_, .slice A4 n5 c6, .int .i64 x1.in_, .int .i64 x1.code], .own (.slice A4 n5 c6) 31 4 n5 (x1.out.flatMap eJN)] : List Ent) ++ ([] : List Ent)) := pIx [0, 1] [] rfl rfl (by kernel_rfl)
 refine Calls.mono (jps_take_calls w10 (Fl ([] : List Snap)) x1 (⟨#[48, 49, 50, 51, 52, 53, 54, 55, 56, 57]⟩ : ByteArray) g2 Tb3 z8 A4 n5 c6 (Nat.le_trans hz9 hL11.env.size) h7 (hL11.hFl (Sl := ([] : List Snap)) hp12 (sels [] rfl)) (hL11.into hp12 (Fl ([] : List Snap))) r13 hv14) ?_
 rintro _ w20 ⟨A15, n16, c17, rfl, hM21, h18⟩
 have hL22 := hL11.call hp12 hM21
 refine ⟨_, _, _, rfl, hL22, ?_⟩
 refine wl_v 2 rfl (v_not rfl) gn rfl ?_
 refine w_end 3 rfl ?_
 by_cases hp23 : r13.1 = true
 ·have h := if_pos' hp23 h
  refine gFa (c := q74c6) rfl _ rfl ((nf hp23)) ?_
  refine g_skip (c := q74c8) rfl ?_
  refine gSq (c := q74c4) rfl ?_
  refine g_block (c := q74c9) rfl ?_
  refine g_loop (c := q74c11) rfl ?_
  have key1 : ∀ s, Rounds (fun (s : ByteArray × Int × (List JNd) × Int × Int) o => jps_digits_b1 s.1 s.2.1 s.2.2.1 s.2.2.2.1 s.2.2.2.2 o) s r → (fun (s : ByteArray × Int × (List JNd) × Int × Int) => ∀ (A42 : Option Addr) (n43 : Nat) (c44 : Nat) (h45 : Ow z8 A42 n43 c44 s.2.2.1), G (jps_digits_C w F g2 Tb3 A4 n5 c6 z8 r) [.code q74c12, .inLoop q74c12, .inBlock 0, .code q74c10] [(0, .pointer (some ⟨g2, 0, none⟩))] [.own (.slice A42 n43 c44) 31 4 n43 (s.2.2.1.flatMap eJN), .box g2 Tb3 [.string s.1, .int .i64 s.2.1, .slice A42 n43 c44, .int .i64 s.2.2.2.1, .int .i64 s.2.2.2.2]] [Sm w.heap.size F w [[g2], (Value.slice A4 n5 c6).ownBlock.toList], St w [[g2], (Value.slice A4 n5 c6).ownBlock.toList]]) s := by
   intro s hs
   refine Rounds.ind (mot := (fun (s : ByteArray × Int × (List JNd) × Int × Int) => ∀ (A42 : Option Addr) (n43 : Nat) (c44 : Nat) (h45 : Ow z8 A42 n43 c44 s.2.2.1), G (jps_digits_C w F g2 Tb3 A4 n5 c6 z8 r) [.code q74c12, .inLoop q74c12, .inBlock 0, .code q74c10] [(0, .pointer (some ⟨g2, 0, none⟩))] [.own (.slice A42 n43 c44) 31 4 n43 (s.2.2.1.flatMap eJN), .box g2 Tb3 [.string s.1, .int .i64 s.2.1, .slice A42 n43 c44, .int .i64 s.2.2.2.1, .int .i64 s.2.2.2.2]] [Sm w.heap.size F w [[g2], (Value.slice A4 n5 c6).ownBlock.toList], St w [[g2], (Value.slice A4 n5 c6).ownBlock.toList]])) ?_ hs
   clear hs s
   intro s o1 h hO1
   obtain ⟨x39, x40, x41, x46, x47⟩ := s
   show ∀ (A42 : Option Addr) (n43 : Nat) (c44 : Nat) (h45 : Ow z8 A42 n43 c44 x41), G (jps_digits_C w F g2 Tb3 A4 n5 c6 z8 r) [.code q74c12, .inLoop q74c12, .inBlock 0, .code q74c10] [(0, .pointer (some ⟨g2, 0, none⟩))] [.own (.slice A42 n43 c44) 31 4 n43 (x41.flatMap eJN), .box g2 Tb3 [.string x39, .int .i64 x40, .slice A42 n43 c44, .int .i64 x46, .int .i64 x47]] [Sm w.heap.size F w [[g2], (Value.slice A4 n5 c6).ownBlock.toList], St w [[g2], (Value.slice A4 n5 c6).ownBlock.toList]]
   intro A42 n43 c44 h45
   have h : jps_digits_b1 x39 x40 x41 x46 x47 o1 := h
   unfold jps_digits_b1 at h
   refine gSq (c := q74c12) rfl ?_
   refine gSq (c := q74c13) rfl ?_
   refine gRg (c := q74c15) rfl rfl ?_
   refine wl_v 0 rfl (vMv rfl) gn rfl ?_
   obtain ⟨r65, hv66, h⟩ := h
   refine wl_s 1 rfl (sCl [.pointer (some ⟨g2, 0, none⟩), .string (⟨#[48, 49, 50, 51, 52, 53, 54, 55, 56, 57]⟩ : ByteArray)] rfl Tryd.func55 rfl rfl rfl fun w62 hL63 => ?_) gn
   have hp64 : List.Perm ([.own (.slice A42 n43 c44) 31 4 n43 (x41.flatMap eJN), .box g2 Tb3 [.string x39, .int .i64 x40, .slice A42 n43 c44, .int .i64 x46, .int .i64 x47]] : List Ent) (([.box g2 Tb3 [.string x39, .int .i64 x40, .slice A42 n43 c44, .int .i64 x46, .int .i64 x47], .own (.slice A42 n43 c44) 31 4 n43 (x41.flatMap eJN)] : List Ent) ++ ([] : List Ent)) := pIx [1, 0] [] rfl rfl (by kernel_rfl)
   refine Calls.mono (jps_is_calls w62 (Fl ([] : List Snap)) (⟨x39, x40, x41, x46, x47⟩ : jps) (⟨#[48, 49, 50, 51, 52, 53, 54, 55, 56, 57]⟩ : ByteArray) g2 Tb3 z8 A42 n43 c44 (Nat.le_trans hz9 hL63.env.size) h45 (hL63.hFl (Sl := ([] : List Snap)) hp64 (sels [] rfl)) (hL63.into hp64 (Fl ([] : List Snap))) r65 hv66) ?_
   rintro _ w72 ⟨A67, n68, c69, rfl, hM73, h70⟩
   have hL74 := hL63.call hp64 hM73
   refine ⟨_, _, _, rfl, hL74, ?_⟩
   refine w_end 2 rfl ?_
   by_cases hp75 : r65.1 = true
   ·have h := if_pos' hp75 h
    refine gTr (c := q74c16) rfl _ rfl (hp75) ?_
    refine g_skip (c := q74c17) rfl ?_
    refine g_block (c := q74c14) rfl ?_
    refine gRg (c := q74c19) rfl rfl ?_
    refine wl_v 0 rfl (vMv rfl) gn rfl ?_
    refine wl_v 1 rfl (vNc rfl) gn rfl ?_
    refine wl_v 2 rfl (vFB fo_70_1 rfl) gn rfl ?_
    refine wl_v 3 rfl (v_ldB1 0 ld_3 rfl rfl rfl) gn rfl ?_
    refine wl_v 4 rfl (vBn rfl rfl rfl) gn rfl ?_
    refine wl_v 5 rfl (vNc rfl) gn rfl ?_
    refine wl_v 6 rfl (vFB fo_70_1 rfl) gn rfl ?_
    refine wl_s 7 rfl (s_stB (vs := [.int .i64 (w64 (r65.2.at_ + 1))]) (cs' := [.string r65.2.text, .int .i64 (w64 (r65.2.at_ + 1)), .slice A67 n68 c69, .int .i64 r65.2.in_, .int .i64 r65.2.code]) (M' := [.box g2 Tb3 [.string r65.2.text, .int .i64 (w64 (r65.2.at_ + 1)), .slice A67 n68 c69, .int .i64 r65.2.in_, .int .i64 r65.2.code], .own (.slice A67 n68 c69) 31 4 n68 (r65.2.out.flatMap eJN)]) 0 sz_3 rfl rfl rfl rfl rfl rfl rfl rfl rfl ?_) gn
    refine w_end 8 rfl ?_
    refine g_inBlock ?_
    refine g_inLoop ?_
    refine gFr 0 rfl ?_
    refine gFr 1 rfl ?_
    have ih := Out.inl hO1 h
    exact g_go [0, 1] (ih A67 n68 c69 h70) ⟨rfl, trivial⟩ (.cons_cons _ (.cons_cons _ (.slnil))) rfl
   ·have h := if_neg' hp75 h
    refine gFa (c := q74c16) rfl _ rfl ((bf hp75)) ?_
    refine g_exit (c := q74c18) [.code q74c10] rfl rfl ?_
    refine gSq (c := q74c10) rfl ?_
    refine gRg (c := q74c20) rfl rfl ?_
    refine wl_v 0 rfl (vAs rfl) gn rfl ?_
    refine w_end 1 rfl ?_
    have h := Out.inr hO1 h
    refine g_retR (c := q74c21) [.bool true] rfl Tryd.func74 rfl (.tmp rfl (.nil)) fun wr hLr => ?_
    have hMr : B.Loc w wr [.box g2 Tb3 [.string r65.2.text, .int .i64 r65.2.at_, .slice A67 n68 c69, .int .i64 r65.2.in_, .int .i64 r65.2.code], .own (.slice A67 n68 c69) 31 4 n68 (r65.2.out.flatMap eJN)] [St w [[g2], (Value.slice A4 n5 c6).ownBlock.toList]] := hLr.pick (rest := []) (pIx [0, 1] [] rfl rfl (by kernel_rfl)) (sels [1] rfl)
    show jps_digits_R w F g2 Tb3 A4 n5 c6 z8 r (.returned (packV [.bool true])) wr
    rw [h]
    exact ⟨A67, n68, c69, rfl, hMr, h70⟩
  refine gFr 0 rfl ?_
  refine gFr 1 rfl ?_
  exact g_go [0, 1] (key1 _ h A15 n16 c17 h18) ⟨rfl, trivial⟩ (.cons_cons _ (.cons_cons _ (.slnil))) rfl
 ·have h := if_neg' hp23 h
  refine gTr (c := q74c6) rfl _ rfl ((nt (bf hp23))) ?_
  refine gSq (c := q74c7) rfl ?_
  refine gRg (c := q74c22) rfl rfl ?_
  refine wl_v 0 rfl (vAs rfl) gn rfl ?_
  refine w_end 1 rfl ?_
  refine g_retR (c := q74c23) [.bool false] rfl Tryd.func74 rfl (.tmp rfl (.nil)) fun wr hLr => ?_
  have hMr : B.Loc w wr [.box g2 Tb3 [.string r13.2.text, .int .i64 r13.2.at_, .slice A15 n16 c17, .int .i64 r13.2.in_, .int .i64 r13.2.code], .own (.slice A15 n16 c17) 31 4 n16 (r13.2.out.flatMap eJN)] [St w [[g2], (Value.slice A4 n5 c6).ownBlock.toList]] := hLr.pick (rest := []) (pIx [0, 1] [] rfl rfl (by kernel_rfl)) (sels [1] rfl)
  show jps_digits_R w F g2 Tb3 A4 n5 c6 z8 r (.returned (packV [.bool false])) wr
  rw [h]
  exact ⟨A15, n16, c17, rfl, hMr, h18⟩
noncomputable abbrev q59c0 : Code := bodyOf Tryd.f59
noncomputable abbrev q59c1 := Code.fst q59c0
noncomputable abbrev q59c2 := Code.snd q59c0
noncomputable abbrev q59c3 := Code.fst q59c2
noncomputable abbrev q59c4 := Code.snd q59c2
noncomputable abbrev q59c5 := Code.fst q59c3
noncomputable abbrev q59c6 := Code.snd q59c3
noncomputable abbrev q59c7 := Code.fst q59c6
noncomputable abbrev q59c8 := Code.snd q59c6
noncomputable abbrev q59c9 := Code.fst q59c4
noncomputable abbrev q59c10 := Code.snd q59c4
noncomputable abbrev q59c11 := Code.fst q59c9
noncomputable abbrev q59c12 := Code.snd q59c9
noncomputable abbrev q59c13 := Code.fst q59c12
noncomputable abbrev q59c14 := Code.snd q59c12
noncomputable abbrev q59c15 := Code.fst q59c14
noncomputable abbrev q59c16 := Code.snd q59c14
noncomputable abbrev q59c17 := Code.fst q59c16
noncomputable abbrev q59c18 := Code.snd q59c16
noncomputable abbrev q59c19 := Code.fst q59c17
noncomputable abbrev q59c20 := Code.snd q59c17
noncomputable abbrev q59c21 := Code.fst q59c10
noncomputable abbrev q59c22 := Code.snd q59c10
noncomputable abbrev q59c23 := Code.fst q59c21
noncomputable abbrev q59c24 := Code.snd q59c21
noncomputable abbrev q59c25 := Code.fst q59c24
noncomputable abbrev q59c26 := Code.snd q59c24
noncomputable abbrev q59c27 := Code.fst q59c25
noncomputable abbrev q59c28 := Code.snd q59c25
noncomputable abbrev q59c29 := Code.fst q59c28
noncomputable abbrev q59c30 := Code.snd q59c28
noncomputable abbrev q59c31 := Code.fst q59c30
noncomputable abbrev q59c32 := Code.snd q59c30
noncomputable abbrev q59c33 := Code.fst q59c31
noncomputable abbrev q59c34 := Code.snd q59c31
noncomputable abbrev q59c35 := Code.fst q59c22
noncomputable abbrev q59c36 := Code.snd q59c22
noncomputable abbrev q59c37 := Code.fst q59c35
noncomputable abbrev q59c38 := Code.snd q59c35
noncomputable abbrev q59c39 := Code.fst q59c38
noncomputable abbrev q59c40 := Code.snd q59c38
noncomputable abbrev q59c41 := Code.fst q59c39
noncomputable abbrev q59c42 := Code.snd q59c39
noncomputable abbrev q59c43 := Code.fst q59c42
noncomputable abbrev q59c44 := Code.snd q59c42
noncomputable abbrev q59c45 := Code.fst q59c43
noncomputable abbrev q59c46 := Code.snd q59c43
noncomputable abbrev q59c47 := Code.fst q59c46
noncomputable abbrev q59c48 := Code.snd q59c46
noncomputable abbrev q59c49 := Code.fst q59c44
noncomputable abbrev q59c50 := Code.snd q59c44
noncomputable abbrev q59c51 := Code.fst q59c36
noncomputable abbrev q59c52 := Code.snd q59c36
abbrev jps_number_R (w : World) (F : Nat → Prop) (g2 : Nat) (Tb3 : Nat) (A4 : Option Addr) (n5 : Nat) (c6 : Nat) (z8 : Nat) (r : Bool × jps) : Ending → World → Prop := fun e w' => ∃ A0 : Option Addr, ∃ n0 : Nat, ∃ c0 : Nat, e = .returned (.bool r.1) ∧ B.Loc w w' [.box g2 Tb3 [.string r.2.text, .int .i64 r.2.at_, .slice A0 n0 c0, .int .i64 r.2.in_, .int .i64 r.2.code], .own (.slice A0 n0 c0) 31 4 n0 (r.2.out.flatMap eJN)] [St w [[g2], (Value.slice A4 n5 c6).ownBlock.toList]] ∧ Ow z8 A0 n0 c0 r.2.out
noncomputable abbrev jps_number_C (w : World) (F : Nat → Prop) (g2 : Nat) (Tb3 : Nat) (A4 : Option Addr) (n5 : Nat) (c6 : Nat) (z8 : Nat) (r : Bool × jps) : Cx := ⟨Tryd.prog, 59, Tryd.f59, 56, jps_number_R w F g2 Tb3 A4 n5 c6 z8 r, w⟩
theorem jps_number_calls (w : World) (F : Nat → Prop) (x1 : jps) (g2 : Nat) (Tb3 : Nat) (z8 : Nat) (A4 : Option Addr) (n5 : Nat) (c6 : Nat) (hz9 : z8 ≤ w.heap.size) (h7 : Ow z8 A4 n5 c6 x1.out) (hF : ∀ b, F b → b < w.heap.size ∧ ∀ o ∈ ([[g2], (Value.slice A4 n5 c6).ownBlock.toList] : List (List Nat)), b ∉ o) (hL0 : B.Loc w w [.box g2 Tb3 [.string x1.text, .int .i64 x1.at_, .slice A4 n5 c6, .int .i64 x1.in_, .int .i64 x1.code], .own (.slice A4 n5 c6) 31 4 n5 (x1.out.flatMap eJN)] [Sm w.heap.size F w [[g2], (Value.slice A4 n5 c6).ownBlock.toList], St w [[g2], (Value.slice A4 n5 c6).ownBlock.toList]]) (r : Bool × jps) (h : jps_number x1 r) : Calls Tryd.prog 59 #[.pointer (some ⟨g2, 0, none⟩)] w (jps_number_R w F g2 Tb3 A4 n5 c6 z8 r) := by
 unfold jps_number at h
 refine calls_of_Loc (vs := [.pointer (some ⟨g2, 0, none⟩)]) 56 Tryd.func59 rfl Tryd.ntmps59 rfl hL0 ?_
 show G (jps_number_C w F g2 Tb3 A4 n5 c6 z8 r) _ _ _ _
 refine gSq (c := q59c0) rfl ?_
 refine gRg (c := q59c1) rfl rfl ?_
 refine wl_v 0 rfl (vAs rfl) gn rfl ?_
 refine w_end 1 rfl ?_
 refine gSq (c := q59c2) rfl ?_
 refine gSq (c := q59c3) rfl ?_
 refine gRg (c := q59c5) rfl rfl ?_
 refine wl_v 0 rfl (vMv rfl) gn rfl ?_
 obtain ⟨r13, hv14, h⟩ := h
 refine wl_s 1 rfl (sCl [.pointer (some ⟨g2, 0, none⟩), .string (⟨#[45]⟩ : ByteArray)] rfl Tryd.func55 rfl rfl rfl fun w10 hL11 => ?_) gn
 have hp12 : List.Perm ([.box g2 Tb3 [.string x1.text, .int .i64 x1.at_, .slice A4 n5 c6, .int .i64 x1.in_, .int .i64 x1.code], .own (.slice A4 n5 c6) 31 4 n5 (x1.out.flatMap eJN)] : List Ent) (([.box g2 Tb3 [.string x1.text, .int .i64 x1.at_, .slice A4 n5 c6, .int .i64 x1.in_, .int .i64 x1.code], .own (.slice A4 n5 c6) 31 4 n5 (x1.out.flatMap eJN)] : List Ent) ++ ([] : List Ent)) := pIx [0, 1] [] rfl rfl (by kernel_rfl)
 refine Calls.mono (jps_is_calls w10 (Fl ([] : List Snap)) x1 (⟨#[45]⟩ : ByteArray) g2 Tb3 z8 A4 n5 c6 (Nat.le_trans hz9 hL11.env.size) h7 (hL11.hFl (Sl := ([] : List Snap)) hp12 (sels [] rfl)) (hL11.into hp12 (Fl ([] : List Snap))) r13 hv14) ?_
 rintro _ w20 ⟨A15, n16, c17, rfl, hM21, h18⟩
 have hL22 := hL11.call hp12 hM21
 refine ⟨_, _, _, rfl, hL22, ?_⟩
 refine w_end 2 rfl ?_
 have j1 : ∀ (x25 : Int) (h : jps_number_j1 r13 x25 r) , G (jps_number_C w F g2 Tb3 A4 n5 c6 z8 r) [.code q59c4] [(0, .pointer (some ⟨g2, 0, none⟩))] [.box g2 Tb3 [.string r13.2.text, .int .i64 x25, .slice A15 n16 c17, .int .i64 r13.2.in_, .int .i64 r13.2.code], .own (.slice A15 n16 c17) 31 4 n16 (r13.2.out.flatMap eJN)] [Sm w.heap.size F w [[g2], (Value.slice A4 n5 c6).ownBlock.toList], St w [[g2], (Value.slice A4 n5 c6).ownBlock.toList]] := by
  intro x25 h
  unfold jps_number_j1 at h
  refine gSq (c := q59c4) rfl ?_
  refine gSq (c := q59c9) rfl ?_
  refine gRg (c := q59c11) rfl rfl ?_
  refine wl_v 0 rfl (vMv rfl) gn rfl ?_
  obtain ⟨r29, hv30, h⟩ := h
  refine wl_s 1 rfl (sCl [.pointer (some ⟨g2, 0, none⟩), .string (⟨#[48]⟩ : ByteArray)] rfl Tryd.func55 rfl rfl rfl fun w26 hL27 => ?_) gn
  have hp28 : List.Perm ([.box g2 Tb3 [.string r13.2.text, .int .i64 x25, .slice A15 n16 c17, .int .i64 r13.2.in_, .int .i64 r13.2.code], .own (.slice A15 n16 c17) 31 4 n16 (r13.2.out.flatMap eJN)] : List Ent) (([.box g2 Tb3 [.string r13.2.text, .int .i64 x25, .slice A15 n16 c17, .int .i64 r13.2.in_, .int .i64 r13.2.code], .own (.slice A15 n16 c17) 31 4 n16 (r13.2.out.flatMap eJN)] : List Ent) ++ ([] : List Ent)) := pIx [0, 1] [] rfl rfl (by kernel_rfl)
  refine Calls.mono (jps_is_calls w26 (Fl ([] : List Snap)) (⟨r13.2.text, x25, r13.2.out, r13.2.in_, r13.2.code⟩ : jps) (⟨#[48]⟩ : ByteArray) g2 Tb3 z8 A15 n16 c17 (Nat.le_trans hz9 hL27.env.size) h18 (hL27.hFl (Sl := ([] : List Snap)) hp28 (sels [] rfl)) (hL27.into hp28 (Fl ([] : List Snap))) r29 hv30) ?_
  rintro _ w36 ⟨A31, n32, c33, rfl, hM37, h34⟩
  have hL38 := hL27.call hp28 hM37
  refine ⟨_, _, _, rfl, hL38, ?_⟩
  refine w_end 2 rfl ?_
  have j2 : ∀ (x55 : ByteArray) (x56 : Int) (x57 : List JNd) (x62 : Int) (x63 : Int) (h : jps_number_j2 x55 x56 x57 x62 x63 r) (A58 : Option Addr) (n59 : Nat) (c60 : Nat) (h61 : Ow z8 A58 n59 c60 x57), G (jps_number_C w F g2 Tb3 A4 n5 c6 z8 r) [.code q59c10] [(0, .pointer (some ⟨g2, 0, none⟩))] [.own (.slice A58 n59 c60) 31 4 n59 (x57.flatMap eJN), .box g2 Tb3 [.string x55, .int .i64 x56, .slice A58 n59 c60, .int .i64 x62, .int .i64 x63]] [Sm w.heap.size F w [[g2], (Value.slice A4 n5 c6).ownBlock.toList], St w [[g2], (Value.slice A4 n5 c6).ownBlock.toList]] := by
   intro x55 x56 x57 x62 x63 h A58 n59 c60 h61
   unfold jps_number_j2 at h
   refine gSq (c := q59c10) rfl ?_
   refine gSq (c := q59c21) rfl ?_
   refine gRg (c := q59c23) rfl rfl ?_
   refine wl_v 0 rfl (vMv rfl) gn rfl ?_
   obtain ⟨r68, hv69, h⟩ := h
   refine wl_s 1 rfl (sCl [.pointer (some ⟨g2, 0, none⟩), .string (⟨#[46]⟩ : ByteArray)] rfl Tryd.func55 rfl rfl rfl fun w65 hL66 => ?_) gn
   have hp67 : List.Perm ([.own (.slice A58 n59 c60) 31 4 n59 (x57.flatMap eJN), .box g2 Tb3 [.string x55, .int .i64 x56, .slice A58 n59 c60, .int .i64 x62, .int .i64 x63]] : List Ent) (([.box g2 Tb3 [.string x55, .int .i64 x56, .slice A58 n59 c60, .int .i64 x62, .int .i64 x63], .own (.slice A58 n59 c60) 31 4 n59 (x57.flatMap eJN)] : List Ent) ++ ([] : List Ent)) := pIx [1, 0] [] rfl rfl (by kernel_rfl)
   refine Calls.mono (jps_is_calls w65 (Fl ([] : List Snap)) (⟨x55, x56, x57, x62, x63⟩ : jps) (⟨#[46]⟩ : ByteArray) g2 Tb3 z8 A58 n59 c60 (Nat.le_trans hz9 hL66.env.size) h61 (hL66.hFl (Sl := ([] : List Snap)) hp67 (sels [] rfl)) (hL66.into hp67 (Fl ([] : List Snap))) r68 hv69) ?_
   rintro _ w75 ⟨A70, n71, c72, rfl, hM76, h73⟩
   have hL77 := hL66.call hp67 hM76
   refine ⟨_, _, _, rfl, hL77, ?_⟩
   refine w_end 2 rfl ?_
   have j3 : ∀ (x94 : ByteArray) (x95 : Int) (x96 : List JNd) (x101 : Int) (x102 : Int) (h : jps_number_j3 x94 x95 x96 x101 x102 r) (A97 : Option Addr) (n98 : Nat) (c99 : Nat) (h100 : Ow z8 A97 n98 c99 x96), G (jps_number_C w F g2 Tb3 A4 n5 c6 z8 r) [.code q59c22] [(0, .pointer (some ⟨g2, 0, none⟩))] [.own (.slice A97 n98 c99) 31 4 n98 (x96.flatMap eJN), .box g2 Tb3 [.string x94, .int .i64 x95, .slice A97 n98 c99, .int .i64 x101, .int .i64 x102]] [Sm w.heap.size F w [[g2], (Value.slice A4 n5 c6).ownBlock.toList], St w [[g2], (Value.slice A4 n5 c6).ownBlock.toList]] := by
    intro x94 x95 x96 x101 x102 h A97 n98 c99 h100
    unfold jps_number_j3 at h
    refine gSq (c := q59c22) rfl ?_
    refine gSq (c := q59c35) rfl ?_
    refine gRg (c := q59c37) rfl rfl ?_
    refine wl_v 0 rfl (vMv rfl) gn rfl ?_
    obtain ⟨r106, hv107, h⟩ := h
    refine wl_s 1 rfl (sCl [.pointer (some ⟨g2, 0, none⟩), .string (⟨#[101, 69]⟩ : ByteArray)] rfl Tryd.func55 rfl rfl rfl fun w103 hL104 => ?_) gn
    have hp105 : List.Perm ([.own (.slice A97 n98 c99) 31 4 n98 (x96.flatMap eJN), .box g2 Tb3 [.string x94, .int .i64 x95, .slice A97 n98 c99, .int .i64 x101, .int .i64 x102]] : List Ent) (([.box g2 Tb3 [.string x94, .int .i64 x95, .slice A97 n98 c99, .int .i64 x101, .int .i64 x102], .own (.slice A97 n98 c99) 31 4 n98 (x96.flatMap eJN)] : List Ent) ++ ([] : List Ent)) := pIx [1, 0] [] rfl rfl (by kernel_rfl)
    refine Calls.mono (jps_is_calls w103 (Fl ([] : List Snap)) (⟨x94, x95, x96, x101, x102⟩ : jps) (⟨#[101, 69]⟩ : ByteArray) g2 Tb3 z8 A97 n98 c99 (Nat.le_trans hz9 hL104.env.size) h100 (hL104.hFl (Sl := ([] : List Snap)) hp105 (sels [] rfl)) (hL104.into hp105 (Fl ([] : List Snap))) r106 hv107) ?_
    rintro _ w113 ⟨A108, n109, c110, rfl, hM114, h111⟩
    have hL115 := hL104.call hp105 hM114
    refine ⟨_, _, _, rfl, hL115, ?_⟩
    refine w_end 2 rfl ?_
    by_cases hp116 : r106.1 = true
    ·have h := if_pos' hp116 h
     refine gTr (c := q59c38) rfl _ rfl (hp116) ?_
     refine gSq (c := q59c39) rfl ?_
     refine gRg (c := q59c41) rfl rfl ?_
     refine wl_v 0 rfl (vMv rfl) gn rfl ?_
     refine wl_v 1 rfl (vNc rfl) gn rfl ?_
     refine wl_v 2 rfl (vFB fo_70_1 rfl) gn rfl ?_
     refine wl_v 3 rfl (v_ldB1 0 ld_3 rfl rfl rfl) gn rfl ?_
     refine wl_v 4 rfl (vBn rfl rfl rfl) gn rfl ?_
     refine wl_v 5 rfl (vNc rfl) gn rfl ?_
     refine wl_v 6 rfl (vFB fo_70_1 rfl) gn rfl ?_
     refine wl_s 7 rfl (s_stB (vs := [.int .i64 (w64 (r106.2.at_ + 1))]) (cs' := [.string r106.2.text, .int .i64 (w64 (r106.2.at_ + 1)), .slice A108 n109 c110, .int .i64 r106.2.in_, .int .i64 r106.2.code]) (M' := [.box g2 Tb3 [.string r106.2.text, .int .i64 (w64 (r106.2.at_ + 1)), .slice A108 n109 c110, .int .i64 r106.2.in_, .int .i64 r106.2.code], .own (.slice A108 n109 c110) 31 4 n109 (r106.2.out.flatMap eJN)]) 0 sz_3 rfl rfl rfl rfl rfl rfl rfl rfl rfl ?_) gn
     refine w_end 8 rfl ?_
     refine gSq (c := q59c42) rfl ?_
     refine gSq (c := q59c43) rfl ?_
     refine gRg (c := q59c45) rfl rfl ?_
     refine wl_v 0 rfl (vMv rfl) gn rfl ?_
     obtain ⟨r120, hv121, h⟩ := h
     refine wl_s 1 rfl (sCl [.pointer (some ⟨g2, 0, none⟩), .string (⟨#[43, 45]⟩ : ByteArray)] rfl Tryd.func55 rfl rfl rfl fun w117 hL118 => ?_) gn
     have hp119 : List.Perm ([.box g2 Tb3 [.string r106.2.text, .int .i64 (w64 (r106.2.at_ + 1)), .slice A108 n109 c110, .int .i64 r106.2.in_, .int .i64 r106.2.code], .own (.slice A108 n109 c110) 31 4 n109 (r106.2.out.flatMap eJN)] : List Ent) (([.box g2 Tb3 [.string r106.2.text, .int .i64 (w64 (r106.2.at_ + 1)), .slice A108 n109 c110, .int .i64 r106.2.in_, .int .i64 r106.2.code], .own (.slice A108 n109 c110) 31 4 n109 (r106.2.out.flatMap eJN)] : List Ent) ++ ([] : List Ent)) := pIx [0, 1] [] rfl rfl (by kernel_rfl)
     refine Calls.mono (jps_is_calls w117 (Fl ([] : List Snap)) (⟨r106.2.text, w64 (r106.2.at_ + 1), r106.2.out, r106.2.in_, r106.2.code⟩ : jps) (⟨#[43, 45]⟩ : ByteArray) g2 Tb3 z8 A108 n109 c110 (Nat.le_trans hz9 hL118.env.size) h111 (hL118.hFl (Sl := ([] : List Snap)) hp119 (sels [] rfl)) (hL118.into hp119 (Fl ([] : List Snap))) r120 hv121) ?_
     rintro _ w127 ⟨A122, n123, c124, rfl, hM128, h125⟩
     have hL129 := hL118.call hp119 hM128
     refine ⟨_, _, _, rfl, hL129, ?_⟩
     refine w_end 2 rfl ?_
     have j4 : ∀ (x132 : Int) (h : jps_number_j4 r120 x132 r) , G (jps_number_C w F g2 Tb3 A4 n5 c6 z8 r) [.code q59c44, .code q59c36] [(0, .pointer (some ⟨g2, 0, none⟩))] [.box g2 Tb3 [.string r120.2.text, .int .i64 x132, .slice A122 n123 c124, .int .i64 r120.2.in_, .int .i64 r120.2.code], .own (.slice A122 n123 c124) 31 4 n123 (r120.2.out.flatMap eJN)] [Sm w.heap.size F w [[g2], (Value.slice A4 n5 c6).ownBlock.toList], St w [[g2], (Value.slice A4 n5 c6).ownBlock.toList]] := by
      intro x132 h
      unfold jps_number_j4 at h
      refine gSq (c := q59c44) rfl ?_
      refine gRg (c := q59c49) rfl rfl ?_
      refine wl_v 0 rfl (vMv rfl) gn rfl ?_
      obtain ⟨r136, hv137, h⟩ := h
      refine wl_s 1 rfl (sCl [.pointer (some ⟨g2, 0, none⟩)] rfl Tryd.func74 rfl rfl rfl fun w133 hL134 => ?_) gn
      have hp135 : List.Perm ([.box g2 Tb3 [.string r120.2.text, .int .i64 x132, .slice A122 n123 c124, .int .i64 r120.2.in_, .int .i64 r120.2.code], .own (.slice A122 n123 c124) 31 4 n123 (r120.2.out.flatMap eJN)] : List Ent) (([.box g2 Tb3 [.string r120.2.text, .int .i64 x132, .slice A122 n123 c124, .int .i64 r120.2.in_, .int .i64 r120.2.code], .own (.slice A122 n123 c124) 31 4 n123 (r120.2.out.flatMap eJN)] : List Ent) ++ ([] : List Ent)) := pIx [0, 1] [] rfl rfl (by kernel_rfl)
      refine Calls.mono (jps_digits_calls w133 (Fl ([] : List Snap)) (⟨r120.2.text, x132, r120.2.out, r120.2.in_, r120.2.code⟩ : jps) g2 Tb3 z8 A122 n123 c124 (Nat.le_trans hz9 hL134.env.size) h125 (hL134.hFl (Sl := ([] : List Snap)) hp135 (sels [] rfl)) (hL134.into hp135 (Fl ([] : List Snap))) r136 hv137) ?_
      rintro _ w143 ⟨A138, n139, c140, rfl, hM144, h141⟩
      have hL145 := hL134.call hp135 hM144
      refine ⟨_, _, _, rfl, hL145, ?_⟩
      refine wl_v 2 rfl (vAs rfl) gn rfl ?_
      refine w_end 3 rfl ?_
      refine g_retR (c := q59c50) [.bool r136.1] rfl Tryd.func59 rfl (.tmp rfl (.nil)) fun wr hLr => ?_
      have hMr : B.Loc w wr [.box g2 Tb3 [.string r136.2.text, .int .i64 r136.2.at_, .slice A138 n139 c140, .int .i64 r136.2.in_, .int .i64 r136.2.code], .own (.slice A138 n139 c140) 31 4 n139 (r136.2.out.flatMap eJN)] [St w [[g2], (Value.slice A4 n5 c6).ownBlock.toList]] := hLr.pick (rest := []) (pIx [0, 1] [] rfl rfl (by kernel_rfl)) (sels [1] rfl)
      show jps_number_R w F g2 Tb3 A4 n5 c6 z8 r (.returned (packV [.bool r136.1])) wr
      rw [h]
      exact ⟨A138, n139, c140, rfl, hMr, h141⟩
     by_cases hp130 : r120.1 = true
     ·have h := if_pos' hp130 h
      refine gTr (c := q59c46) rfl _ rfl (hp130) ?_
      refine gRg (c := q59c47) rfl rfl ?_
      refine wl_v 0 rfl (vMv rfl) gn rfl ?_
      refine wl_v 1 rfl (vNc rfl) gn rfl ?_
      refine wl_v 2 rfl (vFB fo_70_1 rfl) gn rfl ?_
      refine wl_v 3 rfl (v_ldB1 0 ld_3 rfl rfl rfl) gn rfl ?_
      refine wl_v 4 rfl (vBn rfl rfl rfl) gn rfl ?_
      refine wl_v 5 rfl (vNc rfl) gn rfl ?_
      refine wl_v 6 rfl (vFB fo_70_1 rfl) gn rfl ?_
      refine wl_s 7 rfl (s_stB (vs := [.int .i64 (w64 (r120.2.at_ + 1))]) (cs' := [.string r120.2.text, .int .i64 (w64 (r120.2.at_ + 1)), .slice A122 n123 c124, .int .i64 r120.2.in_, .int .i64 r120.2.code]) (M' := [.box g2 Tb3 [.string r120.2.text, .int .i64 (w64 (r120.2.at_ + 1)), .slice A122 n123 c124, .int .i64 r120.2.in_, .int .i64 r120.2.code], .own (.slice A122 n123 c124) 31 4 n123 (r120.2.out.flatMap eJN)]) 0 sz_3 rfl rfl rfl rfl rfl rfl rfl rfl rfl ?_) gn
      refine w_end 8 rfl ?_
      exact g_go [0, 1] (j4 (w64 (r120.2.at_ + 1)) h) ⟨rfl, trivial⟩ (.cons_cons _ (.cons_cons _ (.slnil))) rfl
     ·have h := if_neg' hp130 h
      refine gFa (c := q59c46) rfl _ rfl ((bf hp130)) ?_
      refine g_skip (c := q59c48) rfl ?_
      exact g_go [0, 1] (j4 r120.2.at_ h) ⟨rfl, trivial⟩ (.cons_cons _ (.cons_cons _ (.slnil))) rfl
    ·have h := if_neg' hp116 h
     refine gFa (c := q59c38) rfl _ rfl ((bf hp116)) ?_
     refine g_skip (c := q59c40) rfl ?_
     refine gSq (c := q59c36) rfl ?_
     refine gRg (c := q59c51) rfl rfl ?_
     refine wl_v 0 rfl (vAs rfl) gn rfl ?_
     refine w_end 1 rfl ?_
     refine g_retR (c := q59c52) [.bool true] rfl Tryd.func59 rfl (.tmp rfl (.nil)) fun wr hLr => ?_
     have hMr : B.Loc w wr [.box g2 Tb3 [.string r106.2.text, .int .i64 r106.2.at_, .slice A108 n109 c110, .int .i64 r106.2.in_, .int .i64 r106.2.code], .own (.slice A108 n109 c110) 31 4 n109 (r106.2.out.flatMap eJN)] [St w [[g2], (Value.slice A4 n5 c6).ownBlock.toList]] := hLr.pick (rest := []) (pIx [0, 1] [] rfl rfl (by kernel_rfl)) (sels [1] rfl)
     show jps_number_R w F g2 Tb3 A4 n5 c6 z8 r (.returned (packV [.bool true])) wr
     rw [h]
     exact ⟨A108, n109, c110, rfl, hMr, h111⟩
   by_cases hp78 : r68.1 = true
   ·have h := if_pos' hp78 h
    refine gTr (c := q59c24) rfl _ rfl (hp78) ?_
    refine gSq (c := q59c25) rfl ?_
    refine gRg (c := q59c27) rfl rfl ?_
    refine wl_v 0 rfl (vMv rfl) gn rfl ?_
    refine wl_v 1 rfl (vNc rfl) gn rfl ?_
    refine wl_v 2 rfl (vFB fo_70_1 rfl) gn rfl ?_
    refine wl_v 3 rfl (v_ldB1 0 ld_3 rfl rfl rfl) gn rfl ?_
    refine wl_v 4 rfl (vBn rfl rfl rfl) gn rfl ?_
    refine wl_v 5 rfl (vNc rfl) gn rfl ?_
    refine wl_v 6 rfl (vFB fo_70_1 rfl) gn rfl ?_
    refine wl_s 7 rfl (s_stB (vs := [.int .i64 (w64 (r68.2.at_ + 1))]) (cs' := [.string r68.2.text, .int .i64 (w64 (r68.2.at_ + 1)), .slice A70 n71 c72, .int .i64 r68.2.in_, .int .i64 r68.2.code]) (M' := [.box g2 Tb3 [.string r68.2.text, .int .i64 (w64 (r68.2.at_ + 1)), .slice A70 n71 c72, .int .i64 r68.2.in_, .int .i64 r68.2.code], .own (.slice A70 n71 c72) 31 4 n71 (r68.2.out.flatMap eJN)]) 0 sz_3 rfl rfl rfl rfl rfl rfl rfl rfl rfl ?_) gn
    refine w_end 8 rfl ?_
    refine gSq (c := q59c28) rfl ?_
    refine gRg (c := q59c29) rfl rfl ?_
    refine wl_v 0 rfl (vMv rfl) gn rfl ?_
    obtain ⟨r149, hv150, h⟩ := h
    refine wl_s 1 rfl (sCl [.pointer (some ⟨g2, 0, none⟩)] rfl Tryd.func74 rfl rfl rfl fun w146 hL147 => ?_) gn
    have hp148 : List.Perm ([.box g2 Tb3 [.string r68.2.text, .int .i64 (w64 (r68.2.at_ + 1)), .slice A70 n71 c72, .int .i64 r68.2.in_, .int .i64 r68.2.code], .own (.slice A70 n71 c72) 31 4 n71 (r68.2.out.flatMap eJN)] : List Ent) (([.box g2 Tb3 [.string r68.2.text, .int .i64 (w64 (r68.2.at_ + 1)), .slice A70 n71 c72, .int .i64 r68.2.in_, .int .i64 r68.2.code], .own (.slice A70 n71 c72) 31 4 n71 (r68.2.out.flatMap eJN)] : List Ent) ++ ([] : List Ent)) := pIx [0, 1] [] rfl rfl (by kernel_rfl)
    refine Calls.mono (jps_digits_calls w146 (Fl ([] : List Snap)) (⟨r68.2.text, w64 (r68.2.at_ + 1), r68.2.out, r68.2.in_, r68.2.code⟩ : jps) g2 Tb3 z8 A70 n71 c72 (Nat.le_trans hz9 hL147.env.size) h73 (hL147.hFl (Sl := ([] : List Snap)) hp148 (sels [] rfl)) (hL147.into hp148 (Fl ([] : List Snap))) r149 hv150) ?_
    rintro _ w156 ⟨A151, n152, c153, rfl, hM157, h154⟩
    have hL158 := hL147.call hp148 hM157
    refine ⟨_, _, _, rfl, hL158, ?_⟩
    refine wl_v 2 rfl (v_not rfl) gn rfl ?_
    refine w_end 3 rfl ?_
    by_cases hp159 : r149.1 = true
    ·have h := if_pos' hp159 h
     refine gFa (c := q59c30) rfl _ rfl ((nf hp159)) ?_
     refine g_skip (c := q59c32) rfl ?_
     refine gFr 0 rfl ?_
     refine gFr 1 rfl ?_
     exact g_go [0, 1] (j3 r149.2.text r149.2.at_ r149.2.out r149.2.in_ r149.2.code h A151 n152 c153 h154) ⟨rfl, trivial⟩ (.cons_cons _ (.cons_cons _ (.slnil))) rfl
    ·have h := if_neg' hp159 h
     refine gTr (c := q59c30) rfl _ rfl ((nt (bf hp159))) ?_
     refine gSq (c := q59c31) rfl ?_
     refine gRg (c := q59c33) rfl rfl ?_
     refine wl_v 0 rfl (vAs rfl) gn rfl ?_
     refine w_end 1 rfl ?_
     refine g_retR (c := q59c34) [.bool false] rfl Tryd.func59 rfl (.tmp rfl (.nil)) fun wr hLr => ?_
     have hMr : B.Loc w wr [.box g2 Tb3 [.string r149.2.text, .int .i64 r149.2.at_, .slice A151 n152 c153, .int .i64 r149.2.in_, .int .i64 r149.2.code], .own (.slice A151 n152 c153) 31 4 n152 (r149.2.out.flatMap eJN)] [St w [[g2], (Value.slice A4 n5 c6).ownBlock.toList]] := hLr.pick (rest := []) (pIx [0, 1] [] rfl rfl (by kernel_rfl)) (sels [1] rfl)
     show jps_number_R w F g2 Tb3 A4 n5 c6 z8 r (.returned (packV [.bool false])) wr
     rw [h]
     exact ⟨A151, n152, c153, rfl, hMr, h154⟩
   ·have h := if_neg' hp78 h
    refine gFa (c := q59c24) rfl _ rfl ((bf hp78)) ?_
    refine g_skip (c := q59c26) rfl ?_
    refine gFr 0 rfl ?_
    refine gFr 1 rfl ?_
    exact g_go [0, 1] (j3 r68.2.text r68.2.at_ r68.2.out r68.2.in_ r68.2.code h A70 n71 c72 h73) ⟨rfl, trivial⟩ (.cons_cons _ (.cons_cons _ (.slnil))) rfl
  by_cases hp39 : r29.1 = true
  ·have h := if_pos' hp39 h
   refine gTr (c := q59c12) rfl _ rfl (hp39) ?_
   refine gRg (c := q59c13) rfl rfl ?_
   refine wl_v 0 rfl (vMv rfl) gn rfl ?_
   refine wl_v 1 rfl (vNc rfl) gn rfl ?_
   refine wl_v 2 rfl (vFB fo_70_1 rfl) gn rfl ?_
   refine wl_v 3 rfl (v_ldB1 0 ld_3 rfl rfl rfl) gn rfl ?_
   refine wl_v 4 rfl (vBn rfl rfl rfl) gn rfl ?_
   refine wl_v 5 rfl (vNc rfl) gn rfl ?_
   refine wl_v 6 rfl (vFB fo_70_1 rfl) gn rfl ?_
   refine wl_s 7 rfl (s_stB (vs := [.int .i64 (w64 (r29.2.at_ + 1))]) (cs' := [.string r29.2.text, .int .i64 (w64 (r29.2.at_ + 1)), .slice A31 n32 c33, .int .i64 r29.2.in_, .int .i64 r29.2.code]) (M' := [.box g2 Tb3 [.string r29.2.text, .int .i64 (w64 (r29.2.at_ + 1)), .slice A31 n32 c33, .int .i64 r29.2.in_, .int .i64 r29.2.code], .own (.slice A31 n32 c33) 31 4 n32 (r29.2.out.flatMap eJN)]) 0 sz_3 rfl rfl rfl rfl rfl rfl rfl rfl rfl ?_) gn
   refine w_end 8 rfl ?_
   refine gFr 0 rfl ?_
   refine gFr 1 rfl ?_
   exact g_go [0, 1] (j2 r29.2.text (w64 (r29.2.at_ + 1)) r29.2.out r29.2.in_ r29.2.code h A31 n32 c33 h34) ⟨rfl, trivial⟩ (.cons_cons _ (.cons_cons _ (.slnil))) rfl
  ·have h := if_neg' hp39 h
   refine gFa (c := q59c12) rfl _ rfl ((bf hp39)) ?_
   refine gSq (c := q59c14) rfl ?_
   refine gRg (c := q59c15) rfl rfl ?_
   refine wl_v 0 rfl (vMv rfl) gn rfl ?_
   obtain ⟨r163, hv164, h⟩ := h
   refine wl_s 1 rfl (sCl [.pointer (some ⟨g2, 0, none⟩)] rfl Tryd.func74 rfl rfl rfl fun w160 hL161 => ?_) gn
   have hp162 : List.Perm ([.box g2 Tb3 [.string r29.2.text, .int .i64 r29.2.at_, .slice A31 n32 c33, .int .i64 r29.2.in_, .int .i64 r29.2.code], .own (.slice A31 n32 c33) 31 4 n32 (r29.2.out.flatMap eJN)] : List Ent) (([.box g2 Tb3 [.string r29.2.text, .int .i64 r29.2.at_, .slice A31 n32 c33, .int .i64 r29.2.in_, .int .i64 r29.2.code], .own (.slice A31 n32 c33) 31 4 n32 (r29.2.out.flatMap eJN)] : List Ent) ++ ([] : List Ent)) := pIx [0, 1] [] rfl rfl (by kernel_rfl)
   refine Calls.mono (jps_digits_calls w160 (Fl ([] : List Snap)) r29.2 g2 Tb3 z8 A31 n32 c33 (Nat.le_trans hz9 hL161.env.size) h34 (hL161.hFl (Sl := ([] : List Snap)) hp162 (sels [] rfl)) (hL161.into hp162 (Fl ([] : List Snap))) r163 hv164) ?_
   rintro _ w170 ⟨A165, n166, c167, rfl, hM171, h168⟩
   have hL172 := hL161.call hp162 hM171
   refine ⟨_, _, _, rfl, hL172, ?_⟩
   refine wl_v 2 rfl (v_not rfl) gn rfl ?_
   refine w_end 3 rfl ?_
   by_cases hp173 : r163.1 = true
   ·have h := if_pos' hp173 h
    refine gFa (c := q59c16) rfl _ rfl ((nf hp173)) ?_
    refine g_skip (c := q59c18) rfl ?_
    refine gFr 0 rfl ?_
    refine gFr 1 rfl ?_
    exact g_go [0, 1] (j2 r163.2.text r163.2.at_ r163.2.out r163.2.in_ r163.2.code h A165 n166 c167 h168) ⟨rfl, trivial⟩ (.cons_cons _ (.cons_cons _ (.slnil))) rfl
   ·have h := if_neg' hp173 h
    refine gTr (c := q59c16) rfl _ rfl ((nt (bf hp173))) ?_
    refine gSq (c := q59c17) rfl ?_
    refine gRg (c := q59c19) rfl rfl ?_
    refine wl_v 0 rfl (vAs rfl) gn rfl ?_
    refine w_end 1 rfl ?_
    refine g_retR (c := q59c20) [.bool false] rfl Tryd.func59 rfl (.tmp rfl (.nil)) fun wr hLr => ?_
    have hMr : B.Loc w wr [.box g2 Tb3 [.string r163.2.text, .int .i64 r163.2.at_, .slice A165 n166 c167, .int .i64 r163.2.in_, .int .i64 r163.2.code], .own (.slice A165 n166 c167) 31 4 n166 (r163.2.out.flatMap eJN)] [St w [[g2], (Value.slice A4 n5 c6).ownBlock.toList]] := hLr.pick (rest := []) (pIx [0, 1] [] rfl rfl (by kernel_rfl)) (sels [1] rfl)
    show jps_number_R w F g2 Tb3 A4 n5 c6 z8 r (.returned (packV [.bool false])) wr
    rw [h]
    exact ⟨A165, n166, c167, rfl, hMr, h168⟩
 by_cases hp23 : r13.1 = true
 ·have h := if_pos' hp23 h
  refine gTr (c := q59c6) rfl _ rfl (hp23) ?_
  refine gRg (c := q59c7) rfl rfl ?_
  refine wl_v 0 rfl (vMv rfl) gn rfl ?_
  refine wl_v 1 rfl (vNc rfl) gn rfl ?_
  refine wl_v 2 rfl (vFB fo_70_1 rfl) gn rfl ?_
  refine wl_v 3 rfl (v_ldB1 0 ld_3 rfl rfl rfl) gn rfl ?_
  refine wl_v 4 rfl (vBn rfl rfl rfl) gn rfl ?_
  refine wl_v 5 rfl (vNc rfl) gn rfl ?_
  refine wl_v 6 rfl (vFB fo_70_1 rfl) gn rfl ?_
  refine wl_s 7 rfl (s_stB (vs := [.int .i64 (w64 (r13.2.at_ + 1))]) (cs' := [.string r13.2.text, .int .i64 (w64 (r13.2.at_ + 1)), .slice A15 n16 c17, .int .i64 r13.2.in_, .int .i64 r13.2.code]) (M' := [.box g2 Tb3 [.string r13.2.text, .int .i64 (w64 (r13.2.at_ + 1)), .slice A15 n16 c17, .int .i64 r13.2.in_, .int .i64 r13.2.code], .own (.slice A15 n16 c17) 31 4 n16 (r13.2.out.flatMap eJN)]) 0 sz_3 rfl rfl rfl rfl rfl rfl rfl rfl rfl ?_) gn
  refine w_end 8 rfl ?_
  exact g_go [0, 1] (j1 (w64 (r13.2.at_ + 1)) h) ⟨rfl, trivial⟩ (.cons_cons _ (.cons_cons _ (.slnil))) rfl
 ·have h := if_neg' hp23 h
  refine gFa (c := q59c6) rfl _ rfl ((bf hp23)) ?_
  refine g_skip (c := q59c8) rfl ?_
  exact g_go [0, 1] (j1 r13.2.at_ h) ⟨rfl, trivial⟩ (.cons_cons _ (.cons_cons _ (.slnil))) rfl
end Go.Proofs.YtmfopcbjgbphaaaDoor.K
