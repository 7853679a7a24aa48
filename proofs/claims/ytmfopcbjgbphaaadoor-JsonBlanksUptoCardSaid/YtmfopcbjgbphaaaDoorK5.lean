/- What the machine's calls do, function by function, printed by my own tool. Condition of each: its relation holds of the answer, and what is handed in lies in memory as told. -/
import Derived.Test.YtmfopcbjgbphaaaDoorK4
set_option linter.unusedVariables false
set_option maxRecDepth 100000
set_option maxHeartbeats 4000000
namespace Go.Proofs.YtmfopcbjgbphaaaDoor.K
open Go.Proofs.YtmfopcbjgbphaaaDoor.B Go.Proofs.YtmfopcbjgbphaaaDoor.R Go.RowKit
noncomputable abbrev q57c0 : Code := bodyOf Tryd.f57
noncomputable abbrev q57c1 := Code.fst q57c0
noncomputable abbrev q57c2 := Code.snd q57c0
noncomputable abbrev q57c3 := Code.fst q57c2
noncomputable abbrev q57c4 := Code.snd q57c2
noncomputable abbrev q57c5 := Code.fst q57c3
noncomputable abbrev q57c6 := Code.snd q57c3
noncomputable abbrev q57c7 := Code.fst q57c6
noncomputable abbrev q57c8 := Code.snd q57c6
noncomputable abbrev q57c9 := Code.fst q57c4
noncomputable abbrev q57c10 := Code.snd q57c4
noncomputable abbrev q57c11 := Code.fst q57c10
noncomputable abbrev q57c12 := Code.snd q57c10
noncomputable abbrev q57c13 := Code.fst q57c11
noncomputable abbrev q57c14 := Code.snd q57c11
noncomputable abbrev q57c15 := Code.fst q57c14
noncomputable abbrev q57c16 := Code.fst q57c15
noncomputable abbrev q57c17 := Code.fst q57c16
noncomputable abbrev q57c18 := Code.snd q57c16
noncomputable abbrev q57c19 := Code.fst q57c17
noncomputable abbrev q57c20 := Code.snd q57c17
noncomputable abbrev q57c21 := Code.fst q57c20
noncomputable abbrev q57c22 := Code.snd q57c20
noncomputable abbrev q57c23 := Code.fst q57c12
noncomputable abbrev q57c24 := Code.snd q57c12
noncomputable abbrev q57c25 := Code.fst q57c18
noncomputable abbrev q57c26 := Code.fst q57c25
noncomputable abbrev q57c27 := Code.snd q57c25
noncomputable abbrev q57c28 := Code.fst q57c26
noncomputable abbrev q57c29 := Code.snd q57c26
noncomputable abbrev q57c30 := Code.fst q57c29
noncomputable abbrev q57c31 := Code.snd q57c29
noncomputable abbrev q57c32 := Code.fst q57c30
noncomputable abbrev q57c33 := Code.snd q57c30
noncomputable abbrev q57c34 := Code.fst q57c27
noncomputable abbrev q57c35 := Code.snd q57c27
noncomputable abbrev q57c36 := Code.fst q57c34
noncomputable abbrev q57c37 := Code.snd q57c34
noncomputable abbrev q57c38 := Code.fst q57c37
noncomputable abbrev q57c39 := Code.snd q57c37
noncomputable abbrev q57c40 := Code.fst q57c38
noncomputable abbrev q57c41 := Code.snd q57c38
noncomputable abbrev q57c42 := Code.fst q57c35
noncomputable abbrev q57c43 := Code.snd q57c35
noncomputable abbrev q57c44 := Code.fst q57c43
noncomputable abbrev q57c45 := Code.snd q57c43
noncomputable abbrev q57c46 := Code.fst q57c44
noncomputable abbrev q57c47 := Code.snd q57c44
noncomputable abbrev q57c48 := Code.fst q57c7
noncomputable abbrev q57c49 := Code.snd q57c7
abbrev jps_str_R (w : World) (F : Nat → Prop) (g2 : Nat) (Tb3 : Nat) (A4 : Option Addr) (n5 : Nat) (c6 : Nat) (z8 : Nat) (r : ByteArray × Bool × jps) : Ending → World → Prop := fun e w' => ∃ A0 : Option Addr, ∃ n0 : Nat, ∃ c0 : Nat, e = .returned (.tuple #[.string r.1, .bool r.2.1]) ∧ B.Loc w w' [.box g2 Tb3 [.string r.2.2.text, .int .i64 r.2.2.at_, .slice A0 n0 c0, .int .i64 r.2.2.in_, .int .i64 r.2.2.code], .own (.slice A0 n0 c0) 31 4 n0 (r.2.2.out.flatMap eJN)] [St w [[g2], (Value.slice A4 n5 c6).ownBlock.toList]] ∧ Ow z8 A0 n0 c0 r.2.2.out
noncomputable abbrev jps_str_C (w : World) (F : Nat → Prop) (g2 : Nat) (Tb3 : Nat) (A4 : Option Addr) (n5 : Nat) (c6 : Nat) (z8 : Nat) (r : ByteArray × Bool × jps) : Cx := ⟨Tryd.prog, 57, Tryd.f57, 55, jps_str_R w F g2 Tb3 A4 n5 c6 z8 r, w⟩
theorem jps_str_calls (w : World) (F : Nat → Prop) (x1 : jps) (g2 : Nat) (Tb3 : Nat) (z8 : Nat) (A4 : Option Addr) (n5 : Nat) (c6 : Nat) (hz9 : z8 ≤ w.heap.size) (h7 : Ow z8 A4 n5 c6 x1.out) (hG3 : Tt .u8 tb_3 3 (St w [[g2], (Value.slice A4 n5 c6).ownBlock.toList])) (hF : ∀ b, F b → b < w.heap.size ∧ ∀ o ∈ ([[g2], (Value.slice A4 n5 c6).ownBlock.toList] : List (List Nat)), b ∉ o) (hL0 : B.Loc w w [.box g2 Tb3 [.string x1.text, .int .i64 x1.at_, .slice A4 n5 c6, .int .i64 x1.in_, .int .i64 x1.code], .own (.slice A4 n5 c6) 31 4 n5 (x1.out.flatMap eJN)] [Sm w.heap.size F w [[g2], (Value.slice A4 n5 c6).ownBlock.toList], St w [[g2], (Value.slice A4 n5 c6).ownBlock.toList]]) (r : ByteArray × Bool × jps) (h : jps_str x1 r) : Calls Tryd.prog 57 #[.pointer (some ⟨g2, 0, none⟩)] w (jps_str_R w F g2 Tb3 A4 n5 c6 z8 r) := by
 unfold jps_str at h
 refine calls_of_Loc (vs := [.pointer (some ⟨g2, 0, none⟩)]) 55 Tryd.func57 rfl Tryd.ntmps57 rfl hL0 ?_
 show G (jps_str_C w F g2 Tb3 A4 n5 c6 z8 r) _ _ _ _
 refine gSq (c := q57c0) rfl ?_
 refine gRg (c := q57c1) rfl rfl ?_
 refine wl_v 0 rfl (vAs rfl) gn rfl ?_
 refine wl_v 1 rfl (vAs rfl) gn rfl ?_
 refine w_end 2 rfl ?_
 refine gSq (c := q57c2) rfl ?_
 refine gSq (c := q57c3) rfl ?_
 refine gRg (c := q57c5) rfl rfl ?_
 refine wl_v 0 rfl (vMv rfl) gn rfl ?_
 obtain ⟨r13, hv14, h⟩ := h
 refine wl_s 1 rfl (sCl [.pointer (some ⟨g2, 0, none⟩), .string (⟨#[34]⟩ : ByteArray)] rfl Tryd.func71 rfl rfl rfl fun w10 hL11 => ?_) gn
 have hp12 : List.Perm ([.box g2 Tb3 [.string x1.text, .int .i64 x1.at_, .slice A4 n5 c6, .int .i64 x1.in_, .int .i64 x1.code], .own (.slice A4 n5 c6) 31 4 n5 (x1.out.flatMap eJN)] : List Ent) (([.box g2 Tb3 [.string x1.text, .int .i64 x1.at_, .slice A4 n5 c6, .int .i64 x1.in_, .int .i64 x1.code], .own (.slice A4 n5 c6) 31 4 n5 (x1.out.flatMap eJN)] : List Ent) ++ ([] : List Ent)) := pIx [0, 1] [] rfl rfl (by kernel_rfl)
 refine Calls.mono (jps_take_calls w10 (Fl ([] : List Snap)) x1 (⟨#[34]⟩ : ByteArray) g2 Tb3 z8 A4 n5 c6 (Nat.le_trans hz9 hL11.env.size) h7 (hL11.hFl (Sl := ([] : List Snap)) hp12 (sels [] rfl)) (hL11.into hp12 (Fl ([] : List Snap))) r13 hv14) ?_
 rintro _ w20 ⟨A15, n16, c17, rfl, hM21, h18⟩
 have hL22 := hL11.call hp12 hM21
 refine ⟨_, _, _, rfl, hL22, ?_⟩
 refine wl_v 2 rfl (v_not rfl) gn rfl ?_
 refine w_end 3 rfl ?_
 by_cases hp23 : r13.1 = true
 ·have h := if_pos' hp23 h
  refine gFa (c := q57c6) rfl _ rfl ((nf hp23)) ?_
  refine g_skip (c := q57c8) rfl ?_
  refine gSq (c := q57c4) rfl ?_
  refine gRg (c := q57c9) rfl rfl ?_
  refine wl_v 0 rfl (vAs rfl) gn rfl ?_
  refine w_end 1 rfl ?_
  refine gSq (c := q57c10) rfl ?_
  refine gSq (c := q57c11) rfl ?_
  refine gRg (c := q57c13) rfl rfl ?_
  refine wl_v 0 rfl (vAs rfl) gn rfl ?_
  refine w_end 1 rfl ?_
  refine g_block (c := q57c14) rfl ?_
  refine g_loop (c := q57c15) rfl ?_
  have key1 : ∀ s, Rounds (fun (s : (List Int) × ByteArray × Int × (List JNd) × Int × Int) o => jps_str_b1 s.1 s.2.1 s.2.2.1 s.2.2.2.1 s.2.2.2.2.1 s.2.2.2.2.2 o) s r → (fun (s : (List Int) × ByteArray × Int × (List JNd) × Int × Int) => ∀ (A83 : Option Addr) (n84 : Nat) (c85 : Nat) (h86 : Ow w.heap.size A83 n84 c85 s.1) (A90 : Option Addr) (n91 : Nat) (c92 : Nat) (h93 : Ow z8 A90 n91 c92 s.2.2.2.1), G (jps_str_C w F g2 Tb3 A4 n5 c6 z8 r) [.code q57c16, .inLoop q57c16, .inBlock 0, .code q57c12] [(0, .pointer (some ⟨g2, 0, none⟩)), (4, .slice A83 n84 c85)] [.own (.slice A83 n84 c85) 5 1 n84 (s.1.flatMap (eI .u8)), .own (.slice A90 n91 c92) 31 4 n91 (s.2.2.2.1.flatMap eJN), .box g2 Tb3 [.string s.2.1, .int .i64 s.2.2.1, .slice A90 n91 c92, .int .i64 s.2.2.2.2.1, .int .i64 s.2.2.2.2.2]] [Sm w.heap.size F w [[g2], (Value.slice A4 n5 c6).ownBlock.toList], St w [[g2], (Value.slice A4 n5 c6).ownBlock.toList]]) s := by
   intro s hs
   refine Rounds.ind (mot := (fun (s : (List Int) × ByteArray × Int × (List JNd) × Int × Int) => ∀ (A83 : Option Addr) (n84 : Nat) (c85 : Nat) (h86 : Ow w.heap.size A83 n84 c85 s.1) (A90 : Option Addr) (n91 : Nat) (c92 : Nat) (h93 : Ow z8 A90 n91 c92 s.2.2.2.1), G (jps_str_C w F g2 Tb3 A4 n5 c6 z8 r) [.code q57c16, .inLoop q57c16, .inBlock 0, .code q57c12] [(0, .pointer (some ⟨g2, 0, none⟩)), (4, .slice A83 n84 c85)] [.own (.slice A83 n84 c85) 5 1 n84 (s.1.flatMap (eI .u8)), .own (.slice A90 n91 c92) 31 4 n91 (s.2.2.2.1.flatMap eJN), .box g2 Tb3 [.string s.2.1, .int .i64 s.2.2.1, .slice A90 n91 c92, .int .i64 s.2.2.2.2.1, .int .i64 s.2.2.2.2.2]] [Sm w.heap.size F w [[g2], (Value.slice A4 n5 c6).ownBlock.toList], St w [[g2], (Value.slice A4 n5 c6).ownBlock.toList]])) ?_ hs
   clear hs s
   intro s o1 h hO1
   obtain ⟨x82, x87, x88, x89, x94, x95⟩ := s
   show ∀ (A83 : Option Addr) (n84 : Nat) (c85 : Nat) (h86 : Ow w.heap.size A83 n84 c85 x82) (A90 : Option Addr) (n91 : Nat) (c92 : Nat) (h93 : Ow z8 A90 n91 c92 x89), G (jps_str_C w F g2 Tb3 A4 n5 c6 z8 r) [.code q57c16, .inLoop q57c16, .inBlock 0, .code q57c12] [(0, .pointer (some ⟨g2, 0, none⟩)), (4, .slice A83 n84 c85)] [.own (.slice A83 n84 c85) 5 1 n84 (x82.flatMap (eI .u8)), .own (.slice A90 n91 c92) 31 4 n91 (x89.flatMap eJN), .box g2 Tb3 [.string x87, .int .i64 x88, .slice A90 n91 c92, .int .i64 x94, .int .i64 x95]] [Sm w.heap.size F w [[g2], (Value.slice A4 n5 c6).ownBlock.toList], St w [[g2], (Value.slice A4 n5 c6).ownBlock.toList]]
   intro A83 n84 c85 h86 A90 n91 c92 h93
   have h : jps_str_b1 x82 x87 x88 x89 x94 x95 o1 := h
   unfold jps_str_b1 at h
   refine gSq (c := q57c16) rfl ?_
   refine gSq (c := q57c17) rfl ?_
   refine gRg (c := q57c19) rfl rfl ?_
   refine wl_v 0 rfl (vMv rfl) gn rfl ?_
   obtain ⟨r154, hv155, h⟩ := h
   refine wl_s 1 rfl (sCl [.pointer (some ⟨g2, 0, none⟩), .string (⟨#[34]⟩ : ByteArray)] rfl Tryd.func71 rfl rfl rfl fun w151 hL152 => ?_) gn
   have hp153 : List.Perm ([.own (.slice A83 n84 c85) 5 1 n84 (x82.flatMap (eI .u8)), .own (.slice A90 n91 c92) 31 4 n91 (x89.flatMap eJN), .box g2 Tb3 [.string x87, .int .i64 x88, .slice A90 n91 c92, .int .i64 x94, .int .i64 x95]] : List Ent) (([.box g2 Tb3 [.string x87, .int .i64 x88, .slice A90 n91 c92, .int .i64 x94, .int .i64 x95], .own (.slice A90 n91 c92) 31 4 n91 (x89.flatMap eJN)] : List Ent) ++ ([.own (.slice A83 n84 c85) 5 1 n84 (x82.flatMap (eI .u8))] : List Ent)) := pIx [2, 1] [0] rfl rfl (by kernel_rfl)
   refine Calls.mono (jps_take_calls w151 (Fl ([] : List Snap)) (⟨x87, x88, x89, x94, x95⟩ : jps) (⟨#[34]⟩ : ByteArray) g2 Tb3 z8 A90 n91 c92 (Nat.le_trans hz9 hL152.env.size) h93 (hL152.hFl (Sl := ([] : List Snap)) hp153 (sels [] rfl)) (hL152.into hp153 (Fl ([] : List Snap))) r154 hv155) ?_
   rintro _ w161 ⟨A156, n157, c158, rfl, hM162, h159⟩
   have hL163 := hL152.call hp153 hM162
   refine ⟨_, _, _, rfl, hL163, ?_⟩
   refine wl_v 2 rfl (v_not rfl) gn rfl ?_
   refine w_end 3 rfl ?_
   by_cases hp164 : r154.1 = true
   ·have h := if_pos' hp164 h
    refine gFa (c := q57c20) rfl _ rfl ((nf hp164)) ?_
    refine g_exit (c := q57c22) [.code q57c12] rfl rfl ?_
    refine gSq (c := q57c12) rfl ?_
    refine gRg (c := q57c23) rfl rfl ?_
    refine wl_v 0 rfl (vMv rfl) gn rfl ?_
    refine wl_v 1 rfl (v_b2s u8_54 un_9 rfl (Src.ownF (hl := (hlI .u8)) (h1 := (hone_int .u8)) 2 rfl h86) h86.hq) gn rfl ?_
    refine wl_v 2 rfl (vAs rfl) gn rfl ?_
    refine wl_v 3 rfl (vAs rfl) gn rfl ?_
    refine w_end 4 rfl ?_
    have h := Out.inr hO1 h
    refine g_retR (c := q57c24) [.string (ofBs x82), .bool true] rfl Tryd.func57 rfl (.tmp rfl (.tmp rfl (.nil))) fun wr hLr => ?_
    have hMr : B.Loc w wr [.box g2 Tb3 [.string r154.2.text, .int .i64 r154.2.at_, .slice A156 n157 c158, .int .i64 r154.2.in_, .int .i64 r154.2.code], .own (.slice A156 n157 c158) 31 4 n157 (r154.2.out.flatMap eJN)] [St w [[g2], (Value.slice A4 n5 c6).ownBlock.toList]] := hLr.pick (rest := [.own (.slice A83 n84 c85) 5 1 n84 (x82.flatMap (eI .u8))]) (pIx [0, 1] [2] rfl rfl (by kernel_rfl)) (sels [1] rfl)
    show jps_str_R w F g2 Tb3 A4 n5 c6 z8 r (.returned (packV [.string (ofBs x82), .bool true])) wr
    rw [h]
    exact ⟨A156, n157, c158, rfl, hMr, h159⟩
   ·have h := if_neg' hp164 h
    refine gTr (c := q57c20) rfl _ rfl ((nt (bf hp164))) ?_
    refine g_skip (c := q57c21) rfl ?_
    refine g_block (c := q57c18) rfl ?_
    refine gSq (c := q57c25) rfl ?_
    refine gSq (c := q57c26) rfl ?_
    have hns : Region.noSelect (Code.ops q57c28) = true := by kernel_rfl
    refine g_drawF (c := q57c28) [.box g2 Tb3 [.string r154.2.text, .int .i64 r154.2.at_, .slice A156 n157 c158, .int .i64 r154.2.in_, .int .i64 r154.2.code], .own (.slice A156 n157 c158) 31 4 n157 (r154.2.out.flatMap eJN), .own (.slice A83 n84 c85) 5 1 n84 (x82.flatMap (eI .u8))] [Sm w.heap.size F w [[g2], (Value.slice A4 n5 c6).ownBlock.toList], St w [[g2], (Value.slice A4 n5 c6).ownBlock.toList]] [] 10 rfl rfl mix rfl (.cons_cons _ (.cons_cons _ (.cons_cons _ (.slnil)))) (sels [0, 1] rfl) ?_
    refine wfv 0 rfl (vMv rfl) gn hns rfl ?_
    refine wfv 1 rfl (vNc rfl) gn hns rfl ?_
    refine wfv 2 rfl (vFB fo_70_1 rfl) gn hns rfl ?_
    refine wfv 3 rfl (v_ldB1 0 ld_3 rfl rfl rfl) gn hns rfl ?_
    refine wfv 4 rfl (vMv rfl) gn hns rfl ?_
    refine wfv 5 rfl (vNc rfl) gn hns rfl ?_
    refine wfv 6 rfl (vFB fo_70_0 rfl) gn hns rfl ?_
    refine wfv 7 rfl (v_ldB1 0 ld_9 rfl rfl rfl) gn hns rfl ?_
    refine wfv 8 rfl (v_lenS un_9 rfl) gn hns rfl ?_
    refine wfv 9 rfl (vBn rfl rfl rfl) gn hns rfl ?_
    refine wf_end (by kernel_rfl) ?_
    by_cases hp165 : r154.2.at_ = (r154.2.text.size : Int)
    ·have h := if_pos' hp165 h
     refine gTr (c := q57c29) rfl _ rfl ((eqi hp165)) ?_
     refine gSq (c := q57c30) rfl ?_
     refine gRg (c := q57c32) rfl rfl ?_
     refine wl_v 0 rfl (vAs rfl) gn rfl ?_
     refine wl_v 1 rfl (vAs rfl) gn rfl ?_
     refine w_end 2 rfl ?_
     have h := Out.inr hO1 h
     refine g_retR (c := q57c33) [.string (⟨#[]⟩ : ByteArray), .bool false] rfl Tryd.func57 rfl (.tmp rfl (.tmp rfl (.nil))) fun wr hLr => ?_
     have hMr : B.Loc w wr [.box g2 Tb3 [.string r154.2.text, .int .i64 r154.2.at_, .slice A156 n157 c158, .int .i64 r154.2.in_, .int .i64 r154.2.code], .own (.slice A156 n157 c158) 31 4 n157 (r154.2.out.flatMap eJN)] [St w [[g2], (Value.slice A4 n5 c6).ownBlock.toList]] := hLr.pick (rest := [.own (.slice A83 n84 c85) 5 1 n84 (x82.flatMap (eI .u8))]) (pIx [0, 1] [2] rfl rfl (by kernel_rfl)) (sels [1] rfl)
     show jps_str_R w F g2 Tb3 A4 n5 c6 z8 r (.returned (packV [.string (⟨#[]⟩ : ByteArray), .bool false])) wr
     rw [h]
     exact ⟨A156, n157, c158, rfl, hMr, h159⟩
    ·have h := if_neg' hp165 h
     refine gFa (c := q57c29) rfl _ rfl ((nei hp165)) ?_
     refine g_skip (c := q57c31) rfl ?_
     refine gSq (c := q57c27) rfl ?_
     refine gSq (c := q57c34) rfl ?_
     obtain ⟨hb166, h⟩ := h
     have hns : Region.noSelect (Code.ops q57c36) = true := by kernel_rfl
     refine g_drawF (c := q57c36) [.box g2 Tb3 [.string r154.2.text, .int .i64 r154.2.at_, .slice A156 n157 c158, .int .i64 r154.2.in_, .int .i64 r154.2.code], .own (.slice A156 n157 c158) 31 4 n157 (r154.2.out.flatMap eJN), .own (.slice A83 n84 c85) 5 1 n84 (x82.flatMap (eI .u8))] [Sm w.heap.size F w [[g2], (Value.slice A4 n5 c6).ownBlock.toList], St w [[g2], (Value.slice A4 n5 c6).ownBlock.toList]] [] 10 rfl rfl mix rfl (.cons_cons _ (.cons_cons _ (.cons_cons _ (.slnil)))) (sels [0, 1] rfl) ?_
     refine wfv 0 rfl (vMv rfl) gn hns rfl ?_
     refine wfv 1 rfl (vNc rfl) gn hns rfl ?_
     refine wfv 2 rfl (vFB fo_70_0 rfl) gn hns rfl ?_
     refine wfv 3 rfl (v_ldB1 0 ld_9 rfl rfl rfl) gn hns rfl ?_
     refine wfv 4 rfl (vMv rfl) gn hns rfl ?_
     refine wfv 5 rfl (vNc rfl) gn hns rfl ?_
     refine wfv 6 rfl (vFB fo_70_1 rfl) gn hns rfl ?_
     refine wfv 7 rfl (v_ldB1 0 ld_3 rfl rfl rfl) gn hns rfl ?_
     refine wfv 8 rfl (v_indexS un_9 rfl rfl hb166) gn hns rfl ?_
     refine wfv 9 rfl (vBn rfl rfl rfl) gn hns rfl ?_
     refine wf_end (by kernel_rfl) ?_
     by_cases hp167 : bt r154.2.text r154.2.at_ = 92
     ·have h := if_pos' hp167 h
      refine gTr (c := q57c37) rfl _ rfl ((eqi hp167)) ?_
      refine gSq (c := q57c38) rfl ?_
      refine gRg (c := q57c40) rfl rfl ?_
      refine wl_v 0 rfl (vMv rfl) gn rfl ?_
      refine wl_v 1 rfl (vNc rfl) gn rfl ?_
      refine wl_v 2 rfl (vFB fo_70_1 rfl) gn rfl ?_
      refine wl_v 3 rfl (v_ldB1 0 ld_3 rfl rfl rfl) gn rfl ?_
      refine wl_v 4 rfl (vBn rfl rfl rfl) gn rfl ?_
      refine wl_v 5 rfl (vNc rfl) gn rfl ?_
      refine wl_v 6 rfl (vFB fo_70_1 rfl) gn rfl ?_
      refine wl_s 7 rfl (s_stB (vs := [.int .i64 (w64 (r154.2.at_ + 1))]) (cs' := [.string r154.2.text, .int .i64 (w64 (r154.2.at_ + 1)), .slice A156 n157 c158, .int .i64 r154.2.in_, .int .i64 r154.2.code]) (M' := [.box g2 Tb3 [.string r154.2.text, .int .i64 (w64 (r154.2.at_ + 1)), .slice A156 n157 c158, .int .i64 r154.2.in_, .int .i64 r154.2.code], .own (.slice A156 n157 c158) 31 4 n157 (r154.2.out.flatMap eJN), .own (.slice A83 n84 c85) 5 1 n84 (x82.flatMap (eI .u8))]) 0 sz_3 rfl rfl rfl rfl rfl rfl rfl rfl rfl ?_) gn
      refine w_end 8 rfl ?_
      refine gRg (c := q57c41) rfl rfl ?_
      refine wl_v 0 rfl (vMv rfl) gn rfl ?_
      refine wl_v 1 rfl (vMv rfl) gn rfl ?_
      obtain ⟨r171, hv172, h⟩ := h
      refine wl_s 2 rfl (sCl [.pointer (some ⟨g2, 0, none⟩), .slice A83 n84 c85] rfl Tryd.func72 rfl rfl rfl fun w168 hL169 => ?_) gn
      have hp170 : List.Perm ([.box g2 Tb3 [.string r154.2.text, .int .i64 (w64 (r154.2.at_ + 1)), .slice A156 n157 c158, .int .i64 r154.2.in_, .int .i64 r154.2.code], .own (.slice A156 n157 c158) 31 4 n157 (r154.2.out.flatMap eJN), .own (.slice A83 n84 c85) 5 1 n84 (x82.flatMap (eI .u8))] : List Ent) (([.box g2 Tb3 [.string r154.2.text, .int .i64 (w64 (r154.2.at_ + 1)), .slice A156 n157 c158, .int .i64 r154.2.in_, .int .i64 r154.2.code], .own (.slice A156 n157 c158) 31 4 n157 (r154.2.out.flatMap eJN), .own (.slice A83 n84 c85) 5 1 n84 (x82.flatMap (eI .u8))] : List Ent) ++ ([] : List Ent)) := pIx [0, 1, 2] [] rfl rfl (by kernel_rfl)
      refine Calls.mono (jps_escape_calls w168 (Fl ([] : List Snap)) (⟨r154.2.text, w64 (r154.2.at_ + 1), r154.2.out, r154.2.in_, r154.2.code⟩ : jps) x82 g2 Tb3 z8 A156 n157 c158 w.heap.size A83 n84 c85 (Nat.le_trans hz9 hL169.env.size) h159 hL169.env.size h86 (hL169.tt hp170 hG3 (me 1 rfl)) (hL169.hFl (Sl := ([] : List Snap)) hp170 (sels [] rfl)) (hL169.into hp170 (Fl ([] : List Snap))) r171 hv172) ?_
      rintro _ w183 ⟨A173, n174, c175, A178, n179, c180, rfl, hM184, h176, h181⟩
      have hL185 := hL169.call hp170 hM184
      refine ⟨_, _, _, rfl, hL185, ?_⟩
      refine wl_v 3 rfl (vMv rfl) gn rfl ?_
      refine wl_v 4 rfl (v_extract rfl rfl) gn rfl ?_
      refine wl_v 5 rfl (v_extract rfl rfl) gn rfl ?_
      refine wl_v 6 rfl (vAs rfl) gn rfl ?_
      refine wl_v 7 rfl (vAs rfl) gn rfl ?_
      refine w_end 8 rfl ?_
      refine gSq (c := q57c35) rfl ?_
      refine gRg (c := q57c42) rfl rfl ?_
      refine wl_v 0 rfl (vMv rfl) gn rfl ?_
      refine wl_v 1 rfl (v_not rfl) gn rfl ?_
      refine w_end 2 rfl ?_
      by_cases hp186 : r171.2.1 = true
      ·have h := if_pos' hp186 h
       refine gFa (c := q57c43) rfl _ rfl ((nf hp186)) ?_
       refine g_skip (c := q57c45) rfl ?_
       refine g_inBlock ?_
       refine g_inLoop ?_
       refine gFr 0 rfl ?_
       refine gFr 2 rfl ?_
       refine gFr 2 rfl ?_
       have ih := Out.inl hO1 h
       exact g_go [0, 1] (ih A173 n174 c175 h176 A178 n179 c180 h181) ⟨rfl, rfl, trivial⟩ (.cons_cons _ (.cons_cons _ (.cons_cons _ (.slnil)))) rfl
      ·have h := if_neg' hp186 h
       refine gTr (c := q57c43) rfl _ rfl ((nt (bf hp186))) ?_
       refine gSq (c := q57c44) rfl ?_
       refine gRg (c := q57c46) rfl rfl ?_
       refine wl_v 0 rfl (vAs rfl) gn rfl ?_
       refine wl_v 1 rfl (vAs rfl) gn rfl ?_
       refine w_end 2 rfl ?_
       have h := Out.inr hO1 h
       refine g_retR (c := q57c47) [.string (⟨#[]⟩ : ByteArray), .bool false] rfl Tryd.func57 rfl (.tmp rfl (.tmp rfl (.nil))) fun wr hLr => ?_
       have hMr : B.Loc w wr [.box g2 Tb3 [.string r171.2.2.text, .int .i64 r171.2.2.at_, .slice A178 n179 c180, .int .i64 r171.2.2.in_, .int .i64 r171.2.2.code], .own (.slice A178 n179 c180) 31 4 n179 (r171.2.2.out.flatMap eJN)] [St w [[g2], (Value.slice A4 n5 c6).ownBlock.toList]] := hLr.pick (rest := [.own (.slice A173 n174 c175) 5 1 n174 (r171.1.flatMap (eI .u8))]) (pIx [0, 2] [1] rfl rfl (by kernel_rfl)) (sels [1] rfl)
       show jps_str_R w F g2 Tb3 A4 n5 c6 z8 r (.returned (packV [.string (⟨#[]⟩ : ByteArray), .bool false])) wr
       rw [h]
       exact ⟨A178, n179, c180, rfl, hMr, h181⟩
     ·have h := if_neg' hp167 h
      refine gFa (c := q57c37) rfl _ rfl ((nei hp167)) ?_
      refine gRg (c := q57c39) rfl rfl ?_
      refine wl_v 0 rfl (vMv rfl) gn rfl ?_
      refine wl_v 1 rfl (vMv rfl) gn rfl ?_
      obtain ⟨r190, hv191, h⟩ := h
      refine wl_s 2 rfl (sCl [.pointer (some ⟨g2, 0, none⟩), .slice A83 n84 c85] rfl Tryd.func73 rfl rfl rfl fun w187 hL188 => ?_) gn
      have hp189 : List.Perm ([.box g2 Tb3 [.string r154.2.text, .int .i64 r154.2.at_, .slice A156 n157 c158, .int .i64 r154.2.in_, .int .i64 r154.2.code], .own (.slice A156 n157 c158) 31 4 n157 (r154.2.out.flatMap eJN), .own (.slice A83 n84 c85) 5 1 n84 (x82.flatMap (eI .u8))] : List Ent) (([.box g2 Tb3 [.string r154.2.text, .int .i64 r154.2.at_, .slice A156 n157 c158, .int .i64 r154.2.in_, .int .i64 r154.2.code], .own (.slice A156 n157 c158) 31 4 n157 (r154.2.out.flatMap eJN), .own (.slice A83 n84 c85) 5 1 n84 (x82.flatMap (eI .u8))] : List Ent) ++ ([] : List Ent)) := pIx [0, 1, 2] [] rfl rfl (by kernel_rfl)
      refine Calls.mono (jps_char_calls w187 (Fl ([] : List Snap)) r154.2 x82 g2 Tb3 z8 A156 n157 c158 w.heap.size A83 n84 c85 (Nat.le_trans hz9 hL188.env.size) h159 hL188.env.size h86 (hL188.hFl (Sl := ([] : List Snap)) hp189 (sels [] rfl)) (hL188.into hp189 (Fl ([] : List Snap))) r190 hv191) ?_
      rintro _ w202 ⟨A192, n193, c194, A197, n198, c199, rfl, hM203, h195, h200⟩
      have hL204 := hL188.call hp189 hM203
      refine ⟨_, _, _, rfl, hL204, ?_⟩
      refine wl_v 3 rfl (vMv rfl) gn rfl ?_
      refine wl_v 4 rfl (v_extract rfl rfl) gn rfl ?_
      refine wl_v 5 rfl (v_extract rfl rfl) gn rfl ?_
      refine wl_v 6 rfl (vAs rfl) gn rfl ?_
      refine wl_v 7 rfl (vAs rfl) gn rfl ?_
      refine w_end 8 rfl ?_
      refine gSq (c := q57c35) rfl ?_
      refine gRg (c := q57c42) rfl rfl ?_
      refine wl_v 0 rfl (vMv rfl) gn rfl ?_
      refine wl_v 1 rfl (v_not rfl) gn rfl ?_
      refine w_end 2 rfl ?_
      by_cases hp205 : r190.2.1 = true
      ·have h := if_pos' hp205 h
       refine gFa (c := q57c43) rfl _ rfl ((nf hp205)) ?_
       refine g_skip (c := q57c45) rfl ?_
       refine g_inBlock ?_
       refine g_inLoop ?_
       refine gFr 0 rfl ?_
       refine gFr 2 rfl ?_
       refine gFr 2 rfl ?_
       have ih := Out.inl hO1 h
       exact g_go [0, 1] (ih A192 n193 c194 h195 A197 n198 c199 h200) ⟨rfl, rfl, trivial⟩ (.cons_cons _ (.cons_cons _ (.cons_cons _ (.slnil)))) rfl
      ·have h := if_neg' hp205 h
       refine gTr (c := q57c43) rfl _ rfl ((nt (bf hp205))) ?_
       refine gSq (c := q57c44) rfl ?_
       refine gRg (c := q57c46) rfl rfl ?_
       refine wl_v 0 rfl (vAs rfl) gn rfl ?_
       refine wl_v 1 rfl (vAs rfl) gn rfl ?_
       refine w_end 2 rfl ?_
       have h := Out.inr hO1 h
       refine g_retR (c := q57c47) [.string (⟨#[]⟩ : ByteArray), .bool false] rfl Tryd.func57 rfl (.tmp rfl (.tmp rfl (.nil))) fun wr hLr => ?_
       have hMr : B.Loc w wr [.box g2 Tb3 [.string r190.2.2.text, .int .i64 r190.2.2.at_, .slice A197 n198 c199, .int .i64 r190.2.2.in_, .int .i64 r190.2.2.code], .own (.slice A197 n198 c199) 31 4 n198 (r190.2.2.out.flatMap eJN)] [St w [[g2], (Value.slice A4 n5 c6).ownBlock.toList]] := hLr.pick (rest := [.own (.slice A192 n193 c194) 5 1 n193 (r190.1.flatMap (eI .u8))]) (pIx [0, 2] [1] rfl rfl (by kernel_rfl)) (sels [1] rfl)
       show jps_str_R w F g2 Tb3 A4 n5 c6 z8 r (.returned (packV [.string (⟨#[]⟩ : ByteArray), .bool false])) wr
       rw [h]
       exact ⟨A197, n198, c199, rfl, hMr, h200⟩
  refine g_nil 5 1 ?_
  refine gFr 1 rfl ?_
  refine gFr 2 rfl ?_
  refine gFr 2 rfl ?_
  exact g_go [0, 1] (key1 _ h none 0 0 (Ow.nil (z := w.heap.size)) A15 n16 c17 h18) ⟨rfl, rfl, trivial⟩ (.cons_cons _ (.cons_cons _ (.cons_cons _ (.slnil)))) rfl
 ·have h := if_neg' hp23 h
  refine gTr (c := q57c6) rfl _ rfl ((nt (bf hp23))) ?_
  refine gSq (c := q57c7) rfl ?_
  refine gRg (c := q57c48) rfl rfl ?_
  refine wl_v 0 rfl (vAs rfl) gn rfl ?_
  refine wl_v 1 rfl (vAs rfl) gn rfl ?_
  refine w_end 2 rfl ?_
  refine g_retR (c := q57c49) [.string (⟨#[]⟩ : ByteArray), .bool false] rfl Tryd.func57 rfl (.tmp rfl (.tmp rfl (.nil))) fun wr hLr => ?_
  have hMr : B.Loc w wr [.box g2 Tb3 [.string r13.2.text, .int .i64 r13.2.at_, .slice A15 n16 c17, .int .i64 r13.2.in_, .int .i64 r13.2.code], .own (.slice A15 n16 c17) 31 4 n16 (r13.2.out.flatMap eJN)] [St w [[g2], (Value.slice A4 n5 c6).ownBlock.toList]] := hLr.pick (rest := []) (pIx [0, 1] [] rfl rfl (by kernel_rfl)) (sels [1] rfl)
  show jps_str_R w F g2 Tb3 A4 n5 c6 z8 r (.returned (packV [.string (⟨#[]⟩ : ByteArray), .bool false])) wr
  rw [h]
  exact ⟨A15, n16, c17, rfl, hMr, h18⟩
noncomputable abbrev q58c0 : Code := bodyOf Tryd.f58
noncomputable abbrev q58c1 := Code.fst q58c0
noncomputable abbrev q58c2 := Code.snd q58c0
noncomputable abbrev q58c3 := Code.fst q58c2
noncomputable abbrev q58c4 := Code.snd q58c2
noncomputable abbrev q58c5 := Code.fst q58c4
noncomputable abbrev q58c6 := Code.snd q58c4
noncomputable abbrev q58c7 := Code.fst q58c5
noncomputable abbrev q58c8 := Code.snd q58c5
noncomputable abbrev q58c9 := Code.fst q58c8
noncomputable abbrev q58c10 := Code.snd q58c8
noncomputable abbrev q58c11 := Code.fst q58c6
noncomputable abbrev q58c12 := Code.snd q58c6
noncomputable abbrev q58c13 := Code.fst q58c12
noncomputable abbrev q58c14 := Code.snd q58c12
noncomputable abbrev q58c15 := Code.fst q58c14
noncomputable abbrev q58c16 := Code.snd q58c14
noncomputable abbrev q58c17 := Code.fst q58c15
noncomputable abbrev q58c18 := Code.snd q58c15
noncomputable abbrev q58c19 := Code.fst q58c18
noncomputable abbrev q58c20 := Code.snd q58c18
noncomputable abbrev q58c21 := Code.fst q58c19
noncomputable abbrev q58c22 := Code.snd q58c19
noncomputable abbrev q58c23 := Code.fst q58c22
noncomputable abbrev q58c24 := Code.snd q58c22
noncomputable abbrev q58c25 := Code.fst q58c16
noncomputable abbrev q58c26 := Code.snd q58c16
noncomputable abbrev q58c27 := Code.fst q58c26
noncomputable abbrev q58c28 := Code.snd q58c26
noncomputable abbrev q58c29 := Code.fst q58c28
noncomputable abbrev q58c30 := Code.fst q58c29
noncomputable abbrev q58c31 := Code.fst q58c30
noncomputable abbrev q58c32 := Code.snd q58c30
noncomputable abbrev q58c33 := Code.fst q58c31
noncomputable abbrev q58c34 := Code.fst q58c33
noncomputable abbrev q58c35 := Code.snd q58c33
noncomputable abbrev q58c36 := Code.fst q58c35
noncomputable abbrev q58c37 := Code.snd q58c35
noncomputable abbrev q58c38 := Code.fst q58c36
noncomputable abbrev q58c39 := Code.snd q58c36
noncomputable abbrev q58c40 := Code.fst q58c39
noncomputable abbrev q58c41 := Code.snd q58c39
noncomputable abbrev q58c42 := Code.fst q58c40
noncomputable abbrev q58c43 := Code.snd q58c40
noncomputable abbrev q58c44 := Code.fst q58c43
noncomputable abbrev q58c45 := Code.snd q58c43
noncomputable abbrev q58c46 := Code.fst q58c45
noncomputable abbrev q58c47 := Code.snd q58c45
noncomputable abbrev q58c48 := Code.fst q58c46
noncomputable abbrev q58c49 := Code.snd q58c46
noncomputable abbrev q58c50 := Code.fst q58c49
noncomputable abbrev q58c51 := Code.snd q58c49
noncomputable abbrev q58c52 := Code.fst q58c47
noncomputable abbrev q58c53 := Code.snd q58c47
noncomputable abbrev q58c54 := Code.fst q58c52
noncomputable abbrev q58c55 := Code.snd q58c52
noncomputable abbrev q58c56 := Code.fst q58c55
noncomputable abbrev q58c57 := Code.snd q58c55
noncomputable abbrev q58c58 := Code.fst q58c56
noncomputable abbrev q58c59 := Code.snd q58c56
noncomputable abbrev q58c60 := Code.fst q58c59
noncomputable abbrev q58c61 := Code.snd q58c59
noncomputable abbrev q58c62 := Code.fst q58c53
noncomputable abbrev q58c63 := Code.snd q58c53
noncomputable abbrev q58c64 := Code.fst q58c63
noncomputable abbrev q58c65 := Code.snd q58c63
noncomputable abbrev q58c66 := Code.fst q58c65
noncomputable abbrev q58c67 := Code.snd q58c65
noncomputable abbrev q58c68 := Code.fst q58c66
noncomputable abbrev q58c69 := Code.snd q58c66
noncomputable abbrev q58c70 := Code.fst q58c69
noncomputable abbrev q58c71 := Code.snd q58c69
noncomputable abbrev q58c72 := Code.fst q58c70
noncomputable abbrev q58c73 := Code.snd q58c70
noncomputable abbrev q58c74 := Code.fst q58c50
noncomputable abbrev q58c75 := Code.snd q58c50
noncomputable abbrev q58c76 := Code.fst q58c37
noncomputable abbrev q58c77 := Code.snd q58c37
noncomputable abbrev q58c78 := Code.fst q58c76
noncomputable abbrev q58c79 := Code.snd q58c76
noncomputable abbrev q58c80 := Code.fst q58c79
noncomputable abbrev q58c81 := Code.snd q58c79
noncomputable abbrev q58c82 := Code.fst q58c77
noncomputable abbrev q58c83 := Code.snd q58c77
noncomputable abbrev q58c84 := Code.fst q58c83
noncomputable abbrev q58c85 := Code.snd q58c83
noncomputable abbrev q58c86 := Code.fst q58c84
noncomputable abbrev q58c87 := Code.snd q58c84
noncomputable abbrev q58c88 := Code.fst q58c87
noncomputable abbrev q58c89 := Code.snd q58c87
noncomputable abbrev q58c90 := Code.fst q58c88
noncomputable abbrev q58c91 := Code.snd q58c88
noncomputable abbrev q58c92 := Code.fst q58c91
noncomputable abbrev q58c93 := Code.snd q58c91
noncomputable abbrev q58c94 := Code.fst q58c85
noncomputable abbrev q58c95 := Code.snd q58c85
noncomputable abbrev q58c96 := Code.fst q58c94
noncomputable abbrev q58c97 := Code.snd q58c94
noncomputable abbrev q58c98 := Code.fst q58c97
noncomputable abbrev q58c99 := Code.snd q58c97
noncomputable abbrev q58c100 := Code.fst q58c98
noncomputable abbrev q58c101 := Code.snd q58c98
noncomputable abbrev q58c102 := Code.fst q58c80
noncomputable abbrev q58c103 := Code.snd q58c80
abbrev jps_many_R (w : World) (F : Nat → Prop) (g2 : Nat) (Tb3 : Nat) (A4 : Option Addr) (n5 : Nat) (c6 : Nat) (z8 : Nat) (r : Int × Int × Bool × jps) : Ending → World → Prop := fun e w' => ∃ A0 : Option Addr, ∃ n0 : Nat, ∃ c0 : Nat, e = .returned (.tuple #[.int .i64 r.1, .int .i64 r.2.1, .bool r.2.2.1]) ∧ B.Loc w w' [.box g2 Tb3 [.string r.2.2.2.text, .int .i64 r.2.2.2.at_, .slice A0 n0 c0, .int .i64 r.2.2.2.in_, .int .i64 r.2.2.2.code], .own (.slice A0 n0 c0) 31 4 n0 (r.2.2.2.out.flatMap eJN)] [St w [[g2], (Value.slice A4 n5 c6).ownBlock.toList]] ∧ Ow z8 A0 n0 c0 r.2.2.2.out
noncomputable abbrev jps_many_C (w : World) (F : Nat → Prop) (g2 : Nat) (Tb3 : Nat) (A4 : Option Addr) (n5 : Nat) (c6 : Nat) (z8 : Nat) (r : Int × Int × Bool × jps) : Cx := ⟨Tryd.prog, 58, Tryd.f58, 102, jps_many_R w F g2 Tb3 A4 n5 c6 z8 r, w⟩
def jps_many_st (rl : jps → (Int × Int × Bool × jps) → Prop) : Prop := ∀ (w : World) (F : Nat → Prop) (x1 : jps) (g2 : Nat) (Tb3 : Nat) (z8 : Nat) (A4 : Option Addr) (n5 : Nat) (c6 : Nat) (hz9 : z8 ≤ w.heap.size) (h7 : Ow z8 A4 n5 c6 x1.out) (hG3 : Tt .u8 tb_3 3 (St w [[g2], (Value.slice A4 n5 c6).ownBlock.toList])) (hF : ∀ b, F b → b < w.heap.size ∧ ∀ o ∈ ([[g2], (Value.slice A4 n5 c6).ownBlock.toList] : List (List Nat)), b ∉ o) (hL0 : B.Loc w w [.box g2 Tb3 [.string x1.text, .int .i64 x1.at_, .slice A4 n5 c6, .int .i64 x1.in_, .int .i64 x1.code], .own (.slice A4 n5 c6) 31 4 n5 (x1.out.flatMap eJN)] [Sm w.heap.size F w [[g2], (Value.slice A4 n5 c6).ownBlock.toList], St w [[g2], (Value.slice A4 n5 c6).ownBlock.toList]]) (r : Int × Int × Bool × jps) (h : rl x1 r), Calls Tryd.prog 58 #[.pointer (some ⟨g2, 0, none⟩)] w (jps_many_R w F g2 Tb3 A4 n5 c6 z8 r)
noncomputable abbrev q44c0 : Code := bodyOf Tryd.f44
noncomputable abbrev q44c1 := Code.fst q44c0
noncomputable abbrev q44c2 := Code.snd q44c0
noncomputable abbrev q44c3 := Code.fst q44c2
noncomputable abbrev q44c4 := Code.snd q44c2
noncomputable abbrev q44c5 := Code.fst q44c4
noncomputable abbrev q44c6 := Code.snd q44c4
noncomputable abbrev q44c7 := Code.fst q44c6
noncomputable abbrev q44c8 := Code.snd q44c6
noncomputable abbrev q44c9 := Code.fst q44c8
noncomputable abbrev q44c10 := Code.snd q44c8
noncomputable abbrev q44c11 := Code.fst q44c10
noncomputable abbrev q44c12 := Code.snd q44c10
noncomputable abbrev q44c13 := Code.fst q44c12
noncomputable abbrev q44c14 := Code.snd q44c12
noncomputable abbrev q44c15 := Code.fst q44c13
noncomputable abbrev q44c16 := Code.fst q44c15
noncomputable abbrev q44c17 := Code.snd q44c15
noncomputable abbrev q44c18 := Code.fst q44c17
noncomputable abbrev q44c19 := Code.snd q44c17
noncomputable abbrev q44c20 := Code.fst q44c19
noncomputable abbrev q44c21 := Code.snd q44c19
noncomputable abbrev q44c22 := Code.fst q44c21
noncomputable abbrev q44c23 := Code.snd q44c21
noncomputable abbrev q44c24 := Code.fst q44c23
noncomputable abbrev q44c25 := Code.snd q44c23
noncomputable abbrev q44c26 := Code.fst q44c25
noncomputable abbrev q44c27 := Code.snd q44c25
noncomputable abbrev q44c28 := Code.fst q44c27
noncomputable abbrev q44c29 := Code.snd q44c27
noncomputable abbrev q44c30 := Code.fst q44c29
noncomputable abbrev q44c31 := Code.snd q44c29
noncomputable abbrev q44c32 := Code.fst q44c30
noncomputable abbrev q44c33 := Code.snd q44c30
noncomputable abbrev q44c34 := Code.fst q44c31
noncomputable abbrev q44c35 := Code.snd q44c31
noncomputable abbrev q44c36 := Code.fst q44c35
noncomputable abbrev q44c37 := Code.snd q44c35
noncomputable abbrev q44c38 := Code.fst q44c36
noncomputable abbrev q44c39 := Code.snd q44c36
noncomputable abbrev q44c40 := Code.fst q44c38
noncomputable abbrev q44c41 := Code.snd q44c38
noncomputable abbrev q44c42 := Code.fst q44c41
noncomputable abbrev q44c43 := Code.snd q44c41
noncomputable abbrev q44c44 := Code.fst q44c42
noncomputable abbrev q44c45 := Code.snd q44c42
noncomputable abbrev q44c46 := Code.fst q44c45
noncomputable abbrev q44c47 := Code.snd q44c45
noncomputable abbrev q44c48 := Code.fst q44c39
noncomputable abbrev q44c49 := Code.snd q44c39
noncomputable abbrev q44c50 := Code.fst q44c49
noncomputable abbrev q44c51 := Code.snd q44c49
noncomputable abbrev q44c52 := Code.fst q44c37
noncomputable abbrev q44c53 := Code.snd q44c37
noncomputable abbrev q44c54 := Code.fst q44c14
noncomputable abbrev q44c55 := Code.snd q44c14
noncomputable abbrev q44c56 := Code.fst q44c55
noncomputable abbrev q44c57 := Code.snd q44c55
abbrev jps_value_R (w : World) (F : Nat → Prop) (g2 : Nat) (Tb3 : Nat) (A4 : Option Addr) (n5 : Nat) (c6 : Nat) (z8 : Nat) (r : Bool × jps) : Ending → World → Prop := fun e w' => ∃ A0 : Option Addr, ∃ n0 : Nat, ∃ c0 : Nat, e = .returned (.bool r.1) ∧ B.Loc w w' [.box g2 Tb3 [.string r.2.text, .int .i64 r.2.at_, .slice A0 n0 c0, .int .i64 r.2.in_, .int .i64 r.2.code], .own (.slice A0 n0 c0) 31 4 n0 (r.2.out.flatMap eJN)] [St w [[g2], (Value.slice A4 n5 c6).ownBlock.toList]] ∧ Ow z8 A0 n0 c0 r.2.out
noncomputable abbrev jps_value_C (w : World) (F : Nat → Prop) (g2 : Nat) (Tb3 : Nat) (A4 : Option Addr) (n5 : Nat) (c6 : Nat) (z8 : Nat) (r : Bool × jps) : Cx := ⟨Tryd.prog, 44, Tryd.f44, 113, jps_value_R w F g2 Tb3 A4 n5 c6 z8 r, w⟩
def jps_value_st (rl : jps → ByteArray → (Bool × jps) → Prop) : Prop := ∀ (w : World) (F : Nat → Prop) (x1 : jps) (x10 : ByteArray) (g2 : Nat) (Tb3 : Nat) (z8 : Nat) (A4 : Option Addr) (n5 : Nat) (c6 : Nat) (hz9 : z8 ≤ w.heap.size) (h7 : Ow z8 A4 n5 c6 x1.out) (hG3 : Tt .u8 tb_3 3 (St w [[g2], (Value.slice A4 n5 c6).ownBlock.toList])) (hF : ∀ b, F b → b < w.heap.size ∧ ∀ o ∈ ([[g2], (Value.slice A4 n5 c6).ownBlock.toList] : List (List Nat)), b ∉ o) (hL0 : B.Loc w w [.box g2 Tb3 [.string x1.text, .int .i64 x1.at_, .slice A4 n5 c6, .int .i64 x1.in_, .int .i64 x1.code], .own (.slice A4 n5 c6) 31 4 n5 (x1.out.flatMap eJN)] [Sm w.heap.size F w [[g2], (Value.slice A4 n5 c6).ownBlock.toList], St w [[g2], (Value.slice A4 n5 c6).ownBlock.toList]]) (r : Bool × jps) (h : rl x1 x10 r), Calls Tryd.prog 44 #[.pointer (some ⟨g2, 0, none⟩), .string x10] w (jps_value_R w F g2 Tb3 A4 n5 c6 z8 r)
theorem jps_many_step (rc_json_parser_many : jps → (Int × Int × Bool × jps) → Prop) (rc_json_parser_value : jps → ByteArray → (Bool × jps) → Prop) (ih_json_parser_many : jps_many_st rc_json_parser_many) (ih_json_parser_value : jps_value_st rc_json_parser_value) : jps_many_st (jps_many_body rc_json_parser_many rc_json_parser_value) := by
 intro w F x1 g2 Tb3 z8 A4 n5 c6 hz9 h7 hG3 hF hL0 r h
 unfold jps_many_body at h
 refine calls_of_Loc (vs := [.pointer (some ⟨g2, 0, none⟩)]) 102 Tryd.func58 rfl Tryd.ntmps58 rfl hL0 ?_
 show G (jps_many_C w F g2 Tb3 A4 n5 c6 z8 r) _ _ _ _
 refine gSq (c := q58c0) rfl ?_
 refine gRg (c := q58c1) rfl rfl ?_
 refine wl_v 0 rfl (vAs rfl) gn rfl ?_
 refine wl_v 1 rfl (vAs rfl) gn rfl ?_
 refine wl_v 2 rfl (vAs rfl) gn rfl ?_
 refine w_end 3 rfl ?_
 refine gSq (c := q58c2) rfl ?_
 refine gRg (c := q58c3) rfl rfl ?_
 refine wl_v 0 rfl (vAs rfl) gn rfl ?_
 refine wl_v 1 rfl (vAs rfl) gn rfl ?_
 refine w_end 2 rfl ?_
 refine gSq (c := q58c4) rfl ?_
 refine gSq (c := q58c5) rfl ?_
 refine gRg (c := q58c7) rfl rfl ?_
 refine wl_v 0 rfl (vMv rfl) gn rfl ?_
 obtain ⟨r13, hv14, h⟩ := h
 refine wl_s 1 rfl (sCl [.pointer (some ⟨g2, 0, none⟩), .string (⟨#[123]⟩ : ByteArray)] rfl Tryd.func55 rfl rfl rfl fun w10 hL11 => ?_) gn
 have hp12 : List.Perm ([.box g2 Tb3 [.string x1.text, .int .i64 x1.at_, .slice A4 n5 c6, .int .i64 x1.in_, .int .i64 x1.code], .own (.slice A4 n5 c6) 31 4 n5 (x1.out.flatMap eJN)] : List Ent) (([.box g2 Tb3 [.string x1.text, .int .i64 x1.at_, .slice A4 n5 c6, .int .i64 x1.in_, .int .i64 x1.code], .own (.slice A4 n5 c6) 31 4 n5 (x1.out.flatMap eJN)] : List Ent) ++ ([] : List Ent)) := pIx [0, 1] [] rfl rfl (by kernel_rfl)
 refine Calls.mono (jps_is_calls w10 (Fl ([] : List Snap)) x1 (⟨#[123]⟩ : ByteArray) g2 Tb3 z8 A4 n5 c6 (Nat.le_trans hz9 hL11.env.size) h7 (hL11.hFl (Sl := ([] : List Snap)) hp12 (sels [] rfl)) (hL11.into hp12 (Fl ([] : List Snap))) r13 hv14) ?_
 rintro _ w20 ⟨A15, n16, c17, rfl, hM21, h18⟩
 have hL22 := hL11.call hp12 hM21
 refine ⟨_, _, _, rfl, hL22, ?_⟩
 refine w_end 2 rfl ?_
 have j1 : ∀ (x25 : Int) (x26 : ByteArray) (h : jps_many_j1 r13 rc_json_parser_value x25 x26 r) , G (jps_many_C w F g2 Tb3 A4 n5 c6 z8 r) [.code q58c6] [(0, .pointer (some ⟨g2, 0, none⟩)), (5, .int .i64 x25), (6, .string x26)] [.box g2 Tb3 [.string r13.2.text, .int .i64 r13.2.at_, .slice A15 n16 c17, .int .i64 r13.2.in_, .int .i64 r13.2.code], .own (.slice A15 n16 c17) 31 4 n16 (r13.2.out.flatMap eJN)] [Sm w.heap.size F w [[g2], (Value.slice A4 n5 c6).ownBlock.toList], St w [[g2], (Value.slice A4 n5 c6).ownBlock.toList]] := by
  intro x25 x26 h
  unfold jps_many_j1 at h
  refine gSq (c := q58c6) rfl ?_
  refine gRg (c := q58c11) rfl rfl ?_
  refine wl_v 0 rfl (vMv rfl) gn rfl ?_
  refine wl_v 1 rfl (vNc rfl) gn rfl ?_
  refine wl_v 2 rfl (vFB fo_70_1 rfl) gn rfl ?_
  refine wl_v 3 rfl (v_ldB1 0 ld_3 rfl rfl rfl) gn rfl ?_
  refine wl_v 4 rfl (vBn rfl rfl rfl) gn rfl ?_
  refine wl_v 5 rfl (vNc rfl) gn rfl ?_
  refine wl_v 6 rfl (vFB fo_70_1 rfl) gn rfl ?_
  refine wl_s 7 rfl (s_stB (vs := [.int .i64 (w64 (r13.2.at_ + 1))]) (cs' := [.string r13.2.text, .int .i64 (w64 (r13.2.at_ + 1)), .slice A15 n16 c17, .int .i64 r13.2.in_, .int .i64 r13.2.code]) (M' := [.box g2 Tb3 [.string r13.2.text, .int .i64 (w64 (r13.2.at_ + 1)), .slice A15 n16 c17, .int .i64 r13.2.in_, .int .i64 r13.2.code], .own (.slice A15 n16 c17) 31 4 n16 (r13.2.out.flatMap eJN)]) 0 sz_3 rfl rfl rfl rfl rfl rfl rfl rfl rfl ?_) gn
  refine w_end 8 rfl ?_
  refine gSq (c := q58c12) rfl ?_
  refine gRg (c := q58c13) rfl rfl ?_
  refine wl_v 0 rfl (vMv rfl) gn rfl ?_
  obtain ⟨r30, hv31, h⟩ := h
  refine wl_s 1 rfl (sCl [.pointer (some ⟨g2, 0, none⟩)] rfl Tryd.func43 rfl rfl rfl fun w27 hL28 => ?_) gn
  have hp29 : List.Perm ([.box g2 Tb3 [.string r13.2.text, .int .i64 (w64 (r13.2.at_ + 1)), .slice A15 n16 c17, .int .i64 r13.2.in_, .int .i64 r13.2.code], .own (.slice A15 n16 c17) 31 4 n16 (r13.2.out.flatMap eJN)] : List Ent) (([.box g2 Tb3 [.string r13.2.text, .int .i64 (w64 (r13.2.at_ + 1)), .slice A15 n16 c17, .int .i64 r13.2.in_, .int .i64 r13.2.code], .own (.slice A15 n16 c17) 31 4 n16 (r13.2.out.flatMap eJN)] : List Ent) ++ ([] : List Ent)) := pIx [0, 1] [] rfl rfl (by kernel_rfl)
  refine Calls.mono (jps_blanks_calls w27 (Fl ([] : List Snap)) (⟨r13.2.text, w64 (r13.2.at_ + 1), r13.2.out, r13.2.in_, r13.2.code⟩ : jps) g2 Tb3 z8 A15 n16 c17 (Nat.le_trans hz9 hL28.env.size) h18 (hL28.hFl (Sl := ([] : List Snap)) hp29 (sels [] rfl)) (hL28.into hp29 (Fl ([] : List Snap))) r30 hv31) ?_
  rintro _ w37 ⟨A32, n33, c34, rfl, hM38, h35⟩
  have hL39 := hL28.call hp29 hM38
  refine ⟨_, _, _, rfl, hL39, ?_⟩
  refine w_end 2 rfl ?_
  refine gSq (c := q58c14) rfl ?_
  refine gSq (c := q58c15) rfl ?_
  refine gRg (c := q58c17) rfl rfl ?_
  refine wl_v 0 rfl (vMv rfl) gn rfl ?_
  refine wl_v 1 rfl (vMv rfl) gn rfl ?_
  obtain ⟨r43, hv44, h⟩ := h
  refine wl_s 2 rfl (sCl [.pointer (some ⟨g2, 0, none⟩), .string x26] rfl Tryd.func55 rfl rfl rfl fun w40 hL41 => ?_) gn
  have hp42 : List.Perm ([.box g2 Tb3 [.string r30.text, .int .i64 r30.at_, .slice A32 n33 c34, .int .i64 r30.in_, .int .i64 r30.code], .own (.slice A32 n33 c34) 31 4 n33 (r30.out.flatMap eJN)] : List Ent) (([.box g2 Tb3 [.string r30.text, .int .i64 r30.at_, .slice A32 n33 c34, .int .i64 r30.in_, .int .i64 r30.code], .own (.slice A32 n33 c34) 31 4 n33 (r30.out.flatMap eJN)] : List Ent) ++ ([] : List Ent)) := pIx [0, 1] [] rfl rfl (by kernel_rfl)
  refine Calls.mono (jps_is_calls w40 (Fl ([] : List Snap)) r30 x26 g2 Tb3 z8 A32 n33 c34 (Nat.le_trans hz9 hL41.env.size) h35 (hL41.hFl (Sl := ([] : List Snap)) hp42 (sels [] rfl)) (hL41.into hp42 (Fl ([] : List Snap))) r43 hv44) ?_
  rintro _ w50 ⟨A45, n46, c47, rfl, hM51, h48⟩
  have hL52 := hL41.call hp42 hM51
  refine ⟨_, _, _, rfl, hL52, ?_⟩
  refine w_end 3 rfl ?_
  by_cases hp53 : r43.1 = true
  ·have h := if_pos' hp53 h
   refine gTr (c := q58c18) rfl _ rfl (hp53) ?_
   refine gSq (c := q58c19) rfl ?_
   refine gRg (c := q58c21) rfl rfl ?_
   refine wl_v 0 rfl (vMv rfl) gn rfl ?_
   refine wl_v 1 rfl (vNc rfl) gn rfl ?_
   refine wl_v 2 rfl (vFB fo_70_1 rfl) gn rfl ?_
   refine wl_v 3 rfl (v_ldB1 0 ld_3 rfl rfl rfl) gn rfl ?_
   refine wl_v 4 rfl (vBn rfl rfl rfl) gn rfl ?_
   refine wl_v 5 rfl (vNc rfl) gn rfl ?_
   refine wl_v 6 rfl (vFB fo_70_1 rfl) gn rfl ?_
   refine wl_s 7 rfl (s_stB (vs := [.int .i64 (w64 (r43.2.at_ + 1))]) (cs' := [.string r43.2.text, .int .i64 (w64 (r43.2.at_ + 1)), .slice A45 n46 c47, .int .i64 r43.2.in_, .int .i64 r43.2.code]) (M' := [.box g2 Tb3 [.string r43.2.text, .int .i64 (w64 (r43.2.at_ + 1)), .slice A45 n46 c47, .int .i64 r43.2.in_, .int .i64 r43.2.code], .own (.slice A45 n46 c47) 31 4 n46 (r43.2.out.flatMap eJN)]) 0 sz_3 rfl rfl rfl rfl rfl rfl rfl rfl rfl ?_) gn
   refine w_end 8 rfl ?_
   refine gSq (c := q58c22) rfl ?_
   refine gRg (c := q58c23) rfl rfl ?_
   refine wl_v 0 rfl (vMv rfl) gn rfl ?_
   refine wl_v 1 rfl (vAs rfl) gn rfl ?_
   refine wl_v 2 rfl (vAs rfl) gn rfl ?_
   refine wl_v 3 rfl (vAs rfl) gn rfl ?_
   refine w_end 4 rfl ?_
   refine g_retR (c := q58c24) [.int .i64 x25, .int .i64 0, .bool true] rfl Tryd.func58 rfl (.tmp rfl (.tmp rfl (.tmp rfl (.nil)))) fun wr hLr => ?_
   have hMr : B.Loc w wr [.box g2 Tb3 [.string r43.2.text, .int .i64 (w64 (r43.2.at_ + 1)), .slice A45 n46 c47, .int .i64 r43.2.in_, .int .i64 r43.2.code], .own (.slice A45 n46 c47) 31 4 n46 (r43.2.out.flatMap eJN)] [St w [[g2], (Value.slice A4 n5 c6).ownBlock.toList]] := hLr.pick (rest := []) (pIx [0, 1] [] rfl rfl (by kernel_rfl)) (sels [1] rfl)
   show jps_many_R w F g2 Tb3 A4 n5 c6 z8 r (.returned (packV [.int .i64 x25, .int .i64 0, .bool true])) wr
   rw [h]
   exact ⟨A45, n46, c47, rfl, hMr, h48⟩
  ·have h := if_neg' hp53 h
   refine gFa (c := q58c18) rfl _ rfl ((bf hp53)) ?_
   refine g_skip (c := q58c20) rfl ?_
   refine gSq (c := q58c16) rfl ?_
   refine gRg (c := q58c25) rfl rfl ?_
   refine wl_s 0 rfl (s_makeMap .i64 rfl fun gb54 => ?_) gn
   refine wl_v 1 rfl (vAs rfl) gn rfl ?_
   refine w_end 2 rfl ?_
   refine gSq (c := q58c26) rfl ?_
   refine gRg (c := q58c27) rfl rfl ?_
   refine wl_v 0 rfl (vAs rfl) gn rfl ?_
   refine w_end 1 rfl ?_
   refine g_block (c := q58c28) rfl ?_
   refine g_loop (c := q58c29) rfl ?_
   have key2 : ∀ s, Rounds (fun (s : Int × (ByteArray → Int) × ByteArray × Int × (List JNd) × Int × Int) o => jps_many_b2 x25 rc_json_parser_value x26 s.1 s.2.1 s.2.2.1 s.2.2.2.1 s.2.2.2.2.1 s.2.2.2.2.2.1 s.2.2.2.2.2.2 o) s r → (fun (s : Int × (ByteArray → Int) × ByteArray × Int × (List JNd) × Int × Int) => ∀ (A253 : Option Addr) (n254 : Nat) (c255 : Nat) (h256 : Ow z8 A253 n254 c255 s.2.2.2.2.1), G (jps_many_C w F g2 Tb3 A4 n5 c6 z8 r) [.code q58c30, .inLoop q58c30, .inBlock 0] [(0, .pointer (some ⟨g2, 0, none⟩)), (5, .int .i64 x25), (6, .string x26), (7, .map (some gb54)), (8, .int .i64 s.1)] [.own (.slice A253 n254 c255) 31 4 n254 (s.2.2.2.2.1.flatMap eJN), mapEnt gb54 .i64 s.2.1, .box g2 Tb3 [.string s.2.2.1, .int .i64 s.2.2.2.1, .slice A253 n254 c255, .int .i64 s.2.2.2.2.2.1, .int .i64 s.2.2.2.2.2.2]] [Sm w.heap.size F w [[g2], (Value.slice A4 n5 c6).ownBlock.toList], St w [[g2], (Value.slice A4 n5 c6).ownBlock.toList]]) s := by
    intro s hs
    refine Rounds.ind (mot := (fun (s : Int × (ByteArray → Int) × ByteArray × Int × (List JNd) × Int × Int) => ∀ (A253 : Option Addr) (n254 : Nat) (c255 : Nat) (h256 : Ow z8 A253 n254 c255 s.2.2.2.2.1), G (jps_many_C w F g2 Tb3 A4 n5 c6 z8 r) [.code q58c30, .inLoop q58c30, .inBlock 0] [(0, .pointer (some ⟨g2, 0, none⟩)), (5, .int .i64 x25), (6, .string x26), (7, .map (some gb54)), (8, .int .i64 s.1)] [.own (.slice A253 n254 c255) 31 4 n254 (s.2.2.2.2.1.flatMap eJN), mapEnt gb54 .i64 s.2.1, .box g2 Tb3 [.string s.2.2.1, .int .i64 s.2.2.2.1, .slice A253 n254 c255, .int .i64 s.2.2.2.2.2.1, .int .i64 s.2.2.2.2.2.2]] [Sm w.heap.size F w [[g2], (Value.slice A4 n5 c6).ownBlock.toList], St w [[g2], (Value.slice A4 n5 c6).ownBlock.toList]])) ?_ hs
    clear hs s
    intro s o1 h hO1
    obtain ⟨x248, x249, x250, x251, x252, x257, x258⟩ := s
    show ∀ (A253 : Option Addr) (n254 : Nat) (c255 : Nat) (h256 : Ow z8 A253 n254 c255 x252), G (jps_many_C w F g2 Tb3 A4 n5 c6 z8 r) [.code q58c30, .inLoop q58c30, .inBlock 0] [(0, .pointer (some ⟨g2, 0, none⟩)), (5, .int .i64 x25), (6, .string x26), (7, .map (some gb54)), (8, .int .i64 x248)] [.own (.slice A253 n254 c255) 31 4 n254 (x252.flatMap eJN), mapEnt gb54 .i64 x249, .box g2 Tb3 [.string x250, .int .i64 x251, .slice A253 n254 c255, .int .i64 x257, .int .i64 x258]] [Sm w.heap.size F w [[g2], (Value.slice A4 n5 c6).ownBlock.toList], St w [[g2], (Value.slice A4 n5 c6).ownBlock.toList]]
    intro A253 n254 c255 h256
    have h : jps_many_b2 x25 rc_json_parser_value x26 x248 x249 x250 x251 x252 x257 x258 o1 := h
    unfold jps_many_b2 at h
    refine gSq (c := q58c30) rfl ?_
    refine g_block (c := q58c31) rfl ?_
    refine gSq (c := q58c33) rfl ?_
    refine gRg (c := q58c34) rfl rfl ?_
    refine wl_v 0 rfl (vAs rfl) gn rfl ?_
    refine w_end 1 rfl ?_
    refine gSq (c := q58c35) rfl ?_
    refine gSq (c := q58c36) rfl ?_
    refine gRg (c := q58c38) rfl rfl ?_
    refine wl_v 0 rfl (vMv rfl) gn rfl ?_
    refine wl_v 1 rfl (vBn rfl rfl rfl) gn rfl ?_
    refine w_end 2 rfl ?_
    have j3 : ∀ (x507 : ByteArray) (x508 : ByteArray) (x509 : Int) (x510 : List JNd) (x515 : Int) (x516 : Int) (x517 : ByteArray → Int) (h : jps_many_j3 rc_json_parser_value x26 x25 x248 x507 x508 x509 x510 x515 x516 x517 o1) (A511 : Option Addr) (n512 : Nat) (c513 : Nat) (h514 : Ow z8 A511 n512 c513 x510), G (jps_many_C w F g2 Tb3 A4 n5 c6 z8 r) [.code q58c37, .inBlock 1, .code q58c32, .inLoop q58c30, .inBlock 0] [(0, .pointer (some ⟨g2, 0, none⟩)), (5, .int .i64 x25), (6, .string x26), (7, .map (some gb54)), (8, .int .i64 x248), (9, .string x507)] [.own (.slice A511 n512 c513) 31 4 n512 (x510.flatMap eJN), .box g2 Tb3 [.string x508, .int .i64 x509, .slice A511 n512 c513, .int .i64 x515, .int .i64 x516], mapEnt gb54 .i64 x517] [Sm w.heap.size F w [[g2], (Value.slice A4 n5 c6).ownBlock.toList], St w [[g2], (Value.slice A4 n5 c6).ownBlock.toList]] := by
     intro x507 x508 x509 x510 x515 x516 x517 h A511 n512 c513 h514
     unfold jps_many_j3 at h
     refine gSq (c := q58c37) rfl ?_
     refine gSq (c := q58c76) rfl ?_
     refine gRg (c := q58c78) rfl rfl ?_
     refine wl_v 0 rfl (vMv rfl) gn rfl ?_
     refine wl_v 1 rfl (vMv rfl) gn rfl ?_
     obtain ⟨r521, hv522, h⟩ := h
     refine wl_s 2 rfl (sCl [.pointer (some ⟨g2, 0, none⟩), .string x507] rfl Tryd.func44 rfl rfl rfl fun w518 hL519 => ?_) gn
     have hp520 : List.Perm ([.own (.slice A511 n512 c513) 31 4 n512 (x510.flatMap eJN), .box g2 Tb3 [.string x508, .int .i64 x509, .slice A511 n512 c513, .int .i64 x515, .int .i64 x516], mapEnt gb54 .i64 x517] : List Ent) (([.box g2 Tb3 [.string x508, .int .i64 x509, .slice A511 n512 c513, .int .i64 x515, .int .i64 x516], .own (.slice A511 n512 c513) 31 4 n512 (x510.flatMap eJN)] : List Ent) ++ ([mapEnt gb54 .i64 x517] : List Ent)) := pIx [1, 0] [2] rfl rfl (by kernel_rfl)
     refine Calls.mono (ih_json_parser_value w518 (Fl ([] : List Snap)) (⟨x508, x509, x510, x515, x516⟩ : jps) x507 g2 Tb3 z8 A511 n512 c513 (Nat.le_trans hz9 hL519.env.size) h514 (hL519.tt hp520 hG3 (me 1 rfl)) (hL519.hFl (Sl := ([] : List Snap)) hp520 (sels [] rfl)) (hL519.into hp520 (Fl ([] : List Snap))) r521 hv522) ?_
     rintro _ w528 ⟨A523, n524, c525, rfl, hM529, h526⟩
     have hL530 := hL519.call hp520 hM529
     refine ⟨_, _, _, rfl, hL530, ?_⟩
     refine wl_v 3 rfl (v_not rfl) gn rfl ?_
     refine w_end 4 rfl ?_
     by_cases hp531 : r521.1 = true
     ·have h := if_pos' hp531 h
      refine gFa (c := q58c79) rfl _ rfl ((nf hp531)) ?_
      refine g_skip (c := q58c81) rfl ?_
      refine gSq (c := q58c77) rfl ?_
      refine gRg (c := q58c82) rfl rfl ?_
      refine wl_v 0 rfl (vMv rfl) gn rfl ?_
      obtain ⟨r535, hv536, h⟩ := h
      refine wl_s 1 rfl (sCl [.pointer (some ⟨g2, 0, none⟩)] rfl Tryd.func43 rfl rfl rfl fun w532 hL533 => ?_) gn
      have hp534 : List.Perm ([.box g2 Tb3 [.string r521.2.text, .int .i64 r521.2.at_, .slice A523 n524 c525, .int .i64 r521.2.in_, .int .i64 r521.2.code], .own (.slice A523 n524 c525) 31 4 n524 (r521.2.out.flatMap eJN), mapEnt gb54 .i64 x517] : List Ent) (([.box g2 Tb3 [.string r521.2.text, .int .i64 r521.2.at_, .slice A523 n524 c525, .int .i64 r521.2.in_, .int .i64 r521.2.code], .own (.slice A523 n524 c525) 31 4 n524 (r521.2.out.flatMap eJN)] : List Ent) ++ ([mapEnt gb54 .i64 x517] : List Ent)) := pIx [0, 1] [2] rfl rfl (by kernel_rfl)
      refine Calls.mono (jps_blanks_calls w532 (Fl ([] : List Snap)) r521.2 g2 Tb3 z8 A523 n524 c525 (Nat.le_trans hz9 hL533.env.size) h526 (hL533.hFl (Sl := ([] : List Snap)) hp534 (sels [] rfl)) (hL533.into hp534 (Fl ([] : List Snap))) r535 hv536) ?_
      rintro _ w542 ⟨A537, n538, c539, rfl, hM543, h540⟩
      have hL544 := hL533.call hp534 hM543
      refine ⟨_, _, _, rfl, hL544, ?_⟩
      refine w_end 2 rfl ?_
      refine gSq (c := q58c83) rfl ?_
      refine gSq (c := q58c84) rfl ?_
      refine gRg (c := q58c86) rfl rfl ?_
      refine wl_v 0 rfl (vMv rfl) gn rfl ?_
      refine wl_v 1 rfl (vMv rfl) gn rfl ?_
      obtain ⟨r548, hv549, h⟩ := h
      refine wl_s 2 rfl (sCl [.pointer (some ⟨g2, 0, none⟩), .string x26] rfl Tryd.func55 rfl rfl rfl fun w545 hL546 => ?_) gn
      have hp547 : List.Perm ([.box g2 Tb3 [.string r535.text, .int .i64 r535.at_, .slice A537 n538 c539, .int .i64 r535.in_, .int .i64 r535.code], .own (.slice A537 n538 c539) 31 4 n538 (r535.out.flatMap eJN), mapEnt gb54 .i64 x517] : List Ent) (([.box g2 Tb3 [.string r535.text, .int .i64 r535.at_, .slice A537 n538 c539, .int .i64 r535.in_, .int .i64 r535.code], .own (.slice A537 n538 c539) 31 4 n538 (r535.out.flatMap eJN)] : List Ent) ++ ([mapEnt gb54 .i64 x517] : List Ent)) := pIx [0, 1] [2] rfl rfl (by kernel_rfl)
      refine Calls.mono (jps_is_calls w545 (Fl ([] : List Snap)) r535 x26 g2 Tb3 z8 A537 n538 c539 (Nat.le_trans hz9 hL546.env.size) h540 (hL546.hFl (Sl := ([] : List Snap)) hp547 (sels [] rfl)) (hL546.into hp547 (Fl ([] : List Snap))) r548 hv549) ?_
      rintro _ w555 ⟨A550, n551, c552, rfl, hM556, h553⟩
      have hL557 := hL546.call hp547 hM556
      refine ⟨_, _, _, rfl, hL557, ?_⟩
      refine w_end 3 rfl ?_
      by_cases hp558 : r548.1 = true
      ·have h := if_pos' hp558 h
       refine gTr (c := q58c87) rfl _ rfl (hp558) ?_
       refine gSq (c := q58c88) rfl ?_
       refine gRg (c := q58c90) rfl rfl ?_
       refine wl_v 0 rfl (vMv rfl) gn rfl ?_
       refine wl_v 1 rfl (vNc rfl) gn rfl ?_
       refine wl_v 2 rfl (vFB fo_70_1 rfl) gn rfl ?_
       refine wl_v 3 rfl (v_ldB1 0 ld_3 rfl rfl rfl) gn rfl ?_
       refine wl_v 4 rfl (vBn rfl rfl rfl) gn rfl ?_
       refine wl_v 5 rfl (vNc rfl) gn rfl ?_
       refine wl_v 6 rfl (vFB fo_70_1 rfl) gn rfl ?_
       refine wl_s 7 rfl (s_stB (vs := [.int .i64 (w64 (r548.2.at_ + 1))]) (cs' := [.string r548.2.text, .int .i64 (w64 (r548.2.at_ + 1)), .slice A550 n551 c552, .int .i64 r548.2.in_, .int .i64 r548.2.code]) (M' := [.box g2 Tb3 [.string r548.2.text, .int .i64 (w64 (r548.2.at_ + 1)), .slice A550 n551 c552, .int .i64 r548.2.in_, .int .i64 r548.2.code], .own (.slice A550 n551 c552) 31 4 n551 (r548.2.out.flatMap eJN), mapEnt gb54 .i64 x517]) 0 sz_3 rfl rfl rfl rfl rfl rfl rfl rfl rfl ?_) gn
       refine w_end 8 rfl ?_
       refine gSq (c := q58c91) rfl ?_
       refine gRg (c := q58c92) rfl rfl ?_
       refine wl_v 0 rfl (vMv rfl) gn rfl ?_
       refine wl_v 1 rfl (vMv rfl) gn rfl ?_
       refine wl_v 2 rfl (vAs rfl) gn rfl ?_
       refine wl_v 3 rfl (vAs rfl) gn rfl ?_
       refine wl_v 4 rfl (vAs rfl) gn rfl ?_
       refine w_end 5 rfl ?_
       have h := Out.inr hO1 h
       refine g_retR (c := q58c93) [.int .i64 x25, .int .i64 x248, .bool true] rfl Tryd.func58 rfl (.tmp rfl (.tmp rfl (.tmp rfl (.nil)))) fun wr hLr => ?_
       have hMr : B.Loc w wr [.box g2 Tb3 [.string r548.2.text, .int .i64 (w64 (r548.2.at_ + 1)), .slice A550 n551 c552, .int .i64 r548.2.in_, .int .i64 r548.2.code], .own (.slice A550 n551 c552) 31 4 n551 (r548.2.out.flatMap eJN)] [St w [[g2], (Value.slice A4 n5 c6).ownBlock.toList]] := hLr.pick (rest := [mapEnt gb54 .i64 x517]) (pIx [0, 1] [2] rfl rfl (by kernel_rfl)) (sels [1] rfl)
       show jps_many_R w F g2 Tb3 A4 n5 c6 z8 r (.returned (packV [.int .i64 x25, .int .i64 x248, .bool true])) wr
       rw [h]
       exact ⟨A550, n551, c552, rfl, hMr, h553⟩
      ·have h := if_neg' hp558 h
       refine gFa (c := q58c87) rfl _ rfl ((bf hp558)) ?_
       refine g_skip (c := q58c89) rfl ?_
       refine gSq (c := q58c85) rfl ?_
       refine gSq (c := q58c94) rfl ?_
       refine gRg (c := q58c96) rfl rfl ?_
       refine wl_v 0 rfl (vMv rfl) gn rfl ?_
       obtain ⟨r562, hv563, h⟩ := h
       refine wl_s 1 rfl (sCl [.pointer (some ⟨g2, 0, none⟩), .string (⟨#[44]⟩ : ByteArray)] rfl Tryd.func71 rfl rfl rfl fun w559 hL560 => ?_) gn
       have hp561 : List.Perm ([.box g2 Tb3 [.string r548.2.text, .int .i64 r548.2.at_, .slice A550 n551 c552, .int .i64 r548.2.in_, .int .i64 r548.2.code], .own (.slice A550 n551 c552) 31 4 n551 (r548.2.out.flatMap eJN), mapEnt gb54 .i64 x517] : List Ent) (([.box g2 Tb3 [.string r548.2.text, .int .i64 r548.2.at_, .slice A550 n551 c552, .int .i64 r548.2.in_, .int .i64 r548.2.code], .own (.slice A550 n551 c552) 31 4 n551 (r548.2.out.flatMap eJN)] : List Ent) ++ ([mapEnt gb54 .i64 x517] : List Ent)) := pIx [0, 1] [2] rfl rfl (by kernel_rfl)
       refine Calls.mono (jps_take_calls w559 (Fl ([] : List Snap)) r548.2 (⟨#[44]⟩ : ByteArray) g2 Tb3 z8 A550 n551 c552 (Nat.le_trans hz9 hL560.env.size) h553 (hL560.hFl (Sl := ([] : List Snap)) hp561 (sels [] rfl)) (hL560.into hp561 (Fl ([] : List Snap))) r562 hv563) ?_
       rintro _ w569 ⟨A564, n565, c566, rfl, hM570, h567⟩
       have hL571 := hL560.call hp561 hM570
       refine ⟨_, _, _, rfl, hL571, ?_⟩
       refine wl_v 2 rfl (v_not rfl) gn rfl ?_
       refine w_end 3 rfl ?_
       by_cases hp572 : r562.1 = true
       ·have h := if_pos' hp572 h
        refine gFa (c := q58c97) rfl _ rfl ((nf hp572)) ?_
        refine g_skip (c := q58c99) rfl ?_
        refine gRg (c := q58c95) rfl rfl ?_
        refine wl_v 0 rfl (vMv rfl) gn rfl ?_
        obtain ⟨r576, hv577, h⟩ := h
        refine wl_s 1 rfl (sCl [.pointer (some ⟨g2, 0, none⟩)] rfl Tryd.func43 rfl rfl rfl fun w573 hL574 => ?_) gn
        have hp575 : List.Perm ([.box g2 Tb3 [.string r562.2.text, .int .i64 r562.2.at_, .slice A564 n565 c566, .int .i64 r562.2.in_, .int .i64 r562.2.code], .own (.slice A564 n565 c566) 31 4 n565 (r562.2.out.flatMap eJN), mapEnt gb54 .i64 x517] : List Ent) (([.box g2 Tb3 [.string r562.2.text, .int .i64 r562.2.at_, .slice A564 n565 c566, .int .i64 r562.2.in_, .int .i64 r562.2.code], .own (.slice A564 n565 c566) 31 4 n565 (r562.2.out.flatMap eJN)] : List Ent) ++ ([mapEnt gb54 .i64 x517] : List Ent)) := pIx [0, 1] [2] rfl rfl (by kernel_rfl)
        refine Calls.mono (jps_blanks_calls w573 (Fl ([] : List Snap)) r562.2 g2 Tb3 z8 A564 n565 c566 (Nat.le_trans hz9 hL574.env.size) h567 (hL574.hFl (Sl := ([] : List Snap)) hp575 (sels [] rfl)) (hL574.into hp575 (Fl ([] : List Snap))) r576 hv577) ?_
        rintro _ w583 ⟨A578, n579, c580, rfl, hM584, h581⟩
        have hL585 := hL574.call hp575 hM584
        refine ⟨_, _, _, rfl, hL585, ?_⟩
        refine w_end 2 rfl ?_
        refine g_inBlock ?_
        refine gRg (c := q58c32) rfl rfl ?_
        refine wl_v 0 rfl (vMv rfl) gn rfl ?_
        refine wl_v 1 rfl (vBn rfl rfl rfl) gn rfl ?_
        refine wl_v 2 rfl (vAs rfl) gn rfl ?_
        refine w_end 3 rfl ?_
        refine g_inLoop ?_
        refine gFr 0 rfl ?_
        refine gFr 2 rfl ?_
        refine gFr 2 rfl ?_
        have ih := Out.inl hO1 h
        exact g_go [0, 1] (ih A578 n579 c580 h581) ⟨rfl, rfl, rfl, rfl, rfl, trivial⟩ (.cons_cons _ (.cons_cons _ (.cons_cons _ (.slnil)))) rfl
       ·have h := if_neg' hp572 h
        refine gTr (c := q58c97) rfl _ rfl ((nt (bf hp572))) ?_
        refine gSq (c := q58c98) rfl ?_
        refine gRg (c := q58c100) rfl rfl ?_
        refine wl_v 0 rfl (vMv rfl) gn rfl ?_
        refine wl_v 1 rfl (vMv rfl) gn rfl ?_
        refine wl_v 2 rfl (vAs rfl) gn rfl ?_
        refine wl_v 3 rfl (vAs rfl) gn rfl ?_
        refine wl_v 4 rfl (vAs rfl) gn rfl ?_
        refine w_end 5 rfl ?_
        have h := Out.inr hO1 h
        refine g_retR (c := q58c101) [.int .i64 x25, .int .i64 x248, .bool false] rfl Tryd.func58 rfl (.tmp rfl (.tmp rfl (.tmp rfl (.nil)))) fun wr hLr => ?_
        have hMr : B.Loc w wr [.box g2 Tb3 [.string r562.2.text, .int .i64 r562.2.at_, .slice A564 n565 c566, .int .i64 r562.2.in_, .int .i64 r562.2.code], .own (.slice A564 n565 c566) 31 4 n565 (r562.2.out.flatMap eJN)] [St w [[g2], (Value.slice A4 n5 c6).ownBlock.toList]] := hLr.pick (rest := [mapEnt gb54 .i64 x517]) (pIx [0, 1] [2] rfl rfl (by kernel_rfl)) (sels [1] rfl)
        show jps_many_R w F g2 Tb3 A4 n5 c6 z8 r (.returned (packV [.int .i64 x25, .int .i64 x248, .bool false])) wr
        rw [h]
        exact ⟨A564, n565, c566, rfl, hMr, h567⟩
     ·have h := if_neg' hp531 h
      refine gTr (c := q58c79) rfl _ rfl ((nt (bf hp531))) ?_
      refine gSq (c := q58c80) rfl ?_
      refine gRg (c := q58c102) rfl rfl ?_
      refine wl_v 0 rfl (vMv rfl) gn rfl ?_
      refine wl_v 1 rfl (vMv rfl) gn rfl ?_
      refine wl_v 2 rfl (vAs rfl) gn rfl ?_
      refine wl_v 3 rfl (vAs rfl) gn rfl ?_
      refine wl_v 4 rfl (vAs rfl) gn rfl ?_
      refine w_end 5 rfl ?_
      have h := Out.inr hO1 h
      refine g_retR (c := q58c103) [.int .i64 x25, .int .i64 x248, .bool false] rfl Tryd.func58 rfl (.tmp rfl (.tmp rfl (.tmp rfl (.nil)))) fun wr hLr => ?_
      have hMr : B.Loc w wr [.box g2 Tb3 [.string r521.2.text, .int .i64 r521.2.at_, .slice A523 n524 c525, .int .i64 r521.2.in_, .int .i64 r521.2.code], .own (.slice A523 n524 c525) 31 4 n524 (r521.2.out.flatMap eJN)] [St w [[g2], (Value.slice A4 n5 c6).ownBlock.toList]] := hLr.pick (rest := [mapEnt gb54 .i64 x517]) (pIx [0, 1] [2] rfl rfl (by kernel_rfl)) (sels [1] rfl)
      show jps_many_R w F g2 Tb3 A4 n5 c6 z8 r (.returned (packV [.int .i64 x25, .int .i64 x248, .bool false])) wr
      rw [h]
      exact ⟨A523, n524, c525, rfl, hMr, h526⟩
    by_cases hp450 : x25 = 7
    ·have h := if_pos' hp450 h
     refine gTr (c := q58c39) rfl _ rfl ((eqi hp450)) ?_
     refine gSq (c := q58c40) rfl ?_
     refine gRg (c := q58c42) rfl rfl ?_
     refine wl_v 0 rfl (vMv rfl) gn rfl ?_
     refine wl_v 1 rfl (vNc rfl) gn rfl ?_
     refine wl_v 2 rfl (vFB fo_70_1 rfl) gn rfl ?_
     refine wl_v 3 rfl (v_ldB1 2 ld_3 rfl rfl rfl) gn rfl ?_
     refine wl_v 4 rfl (vAs rfl) gn rfl ?_
     refine w_end 5 rfl ?_
     refine gSq (c := q58c43) rfl ?_
     refine gRg (c := q58c44) rfl rfl ?_
     refine wl_v 0 rfl (vMv rfl) gn rfl ?_
     obtain ⟨r589, hv590, h⟩ := h
     refine wl_s 1 rfl (sCl [.pointer (some ⟨g2, 0, none⟩)] rfl Tryd.func57 rfl rfl rfl fun w586 hL587 => ?_) gn
     have hp588 : List.Perm ([.own (.slice A253 n254 c255) 31 4 n254 (x252.flatMap eJN), mapEnt gb54 .i64 x249, .box g2 Tb3 [.string x250, .int .i64 x251, .slice A253 n254 c255, .int .i64 x257, .int .i64 x258]] : List Ent) (([.box g2 Tb3 [.string x250, .int .i64 x251, .slice A253 n254 c255, .int .i64 x257, .int .i64 x258], .own (.slice A253 n254 c255) 31 4 n254 (x252.flatMap eJN)] : List Ent) ++ ([mapEnt gb54 .i64 x249] : List Ent)) := pIx [2, 0] [1] rfl rfl (by kernel_rfl)
     refine Calls.mono (jps_str_calls w586 (Fl ([] : List Snap)) (⟨x250, x251, x252, x257, x258⟩ : jps) g2 Tb3 z8 A253 n254 c255 (Nat.le_trans hz9 hL587.env.size) h256 (hL587.tt hp588 hG3 (me 1 rfl)) (hL587.hFl (Sl := ([] : List Snap)) hp588 (sels [] rfl)) (hL587.into hp588 (Fl ([] : List Snap))) r589 hv590) ?_
     rintro _ w596 ⟨A591, n592, c593, rfl, hM597, h594⟩
     have hL598 := hL587.call hp588 hM597
     refine ⟨_, _, _, rfl, hL598, ?_⟩
     refine wl_v 2 rfl (vMv rfl) gn rfl ?_
     refine wl_v 3 rfl (v_extract rfl rfl) gn rfl ?_
     refine wl_v 4 rfl (v_extract rfl rfl) gn rfl ?_
     refine wl_v 5 rfl (vAs rfl) gn rfl ?_
     refine wl_v 6 rfl (vAs rfl) gn rfl ?_
     refine w_end 7 rfl ?_
     refine gSq (c := q58c45) rfl ?_
     refine gSq (c := q58c46) rfl ?_
     refine gRg (c := q58c48) rfl rfl ?_
     refine wl_v 0 rfl (vMv rfl) gn rfl ?_
     refine wl_v 1 rfl (v_not rfl) gn rfl ?_
     refine w_end 2 rfl ?_
     by_cases hp599 : r589.2.1 = true
     ·have h := if_pos' hp599 h
      refine gFa (c := q58c49) rfl _ rfl ((nf hp599)) ?_
      refine g_skip (c := q58c51) rfl ?_
      refine gSq (c := q58c47) rfl ?_
      refine gSq (c := q58c52) rfl ?_
      refine gRg (c := q58c54) rfl rfl ?_
      refine wl_v 0 rfl (vMv rfl) gn rfl ?_
      refine wl_v 1 rfl (vMv rfl) gn rfl ?_
      refine wl_v 2 rfl (v_look 2 mp_77 rfl rfl rfl) gn rfl ?_
      refine wl_v 3 rfl (vBn rfl rfl rfl) gn rfl ?_
      refine w_end 4 rfl ?_
      by_cases hp600 : x249 r589.1 > 0
      ·have h := if_pos' hp600 h
       refine gTr (c := q58c55) rfl _ rfl ((decide_eq_true hp600)) ?_
       refine gSq (c := q58c56) rfl ?_
       refine gRg (c := q58c58) rfl rfl ?_
       refine wl_v 0 rfl (vMv rfl) gn rfl ?_
       refine wl_v 1 rfl (vMv rfl) gn rfl ?_
       refine wl_v 2 rfl (vNc rfl) gn rfl ?_
       refine wl_v 3 rfl (vFB fo_70_1 rfl) gn rfl ?_
       refine wl_s 4 rfl (s_stB (vs := [.int .i64 x251]) (cs' := [.string r589.2.2.text, .int .i64 x251, .slice A591 n592 c593, .int .i64 r589.2.2.in_, .int .i64 r589.2.2.code]) (M' := [.box g2 Tb3 [.string r589.2.2.text, .int .i64 x251, .slice A591 n592 c593, .int .i64 r589.2.2.in_, .int .i64 r589.2.2.code], .own (.slice A591 n592 c593) 31 4 n592 (r589.2.2.out.flatMap eJN), mapEnt gb54 .i64 x249]) 0 sz_3 rfl rfl rfl rfl rfl rfl rfl rfl rfl ?_) gn
       refine w_end 5 rfl ?_
       refine gSq (c := q58c59) rfl ?_
       refine gRg (c := q58c60) rfl rfl ?_
       refine wl_v 0 rfl (vMv rfl) gn rfl ?_
       refine wl_v 1 rfl (vMv rfl) gn rfl ?_
       refine wl_v 2 rfl (vAs rfl) gn rfl ?_
       refine wl_v 3 rfl (vAs rfl) gn rfl ?_
       refine wl_v 4 rfl (vAs rfl) gn rfl ?_
       refine w_end 5 rfl ?_
       have h := Out.inr hO1 h
       refine g_retR (c := q58c61) [.int .i64 x25, .int .i64 x248, .bool false] rfl Tryd.func58 rfl (.tmp rfl (.tmp rfl (.tmp rfl (.nil)))) fun wr hLr => ?_
       have hMr : B.Loc w wr [.box g2 Tb3 [.string r589.2.2.text, .int .i64 x251, .slice A591 n592 c593, .int .i64 r589.2.2.in_, .int .i64 r589.2.2.code], .own (.slice A591 n592 c593) 31 4 n592 (r589.2.2.out.flatMap eJN)] [St w [[g2], (Value.slice A4 n5 c6).ownBlock.toList]] := hLr.pick (rest := [mapEnt gb54 .i64 x249]) (pIx [0, 1] [2] rfl rfl (by kernel_rfl)) (sels [1] rfl)
       show jps_many_R w F g2 Tb3 A4 n5 c6 z8 r (.returned (packV [.int .i64 x25, .int .i64 x248, .bool false])) wr
       rw [h]
       exact ⟨A591, n592, c593, rfl, hMr, h594⟩
      ·have h := if_neg' hp600 h
       refine gFa (c := q58c55) rfl _ rfl ((decide_eq_false hp600)) ?_
       refine g_skip (c := q58c57) rfl ?_
       refine gSq (c := q58c53) rfl ?_
       refine gRg (c := q58c62) rfl rfl ?_
       refine wl_v 0 rfl (vMv rfl) gn rfl ?_
       refine wl_v 1 rfl (vMv rfl) gn rfl ?_
       refine wl_v 2 rfl (vMv rfl) gn rfl ?_
       refine wl_s 3 rfl (s_mapSet (M' := [.box g2 Tb3 [.string r589.2.2.text, .int .i64 r589.2.2.at_, .slice A591 n592 c593, .int .i64 r589.2.2.in_, .int .i64 r589.2.2.code], .own (.slice A591 n592 c593) 31 4 n592 (r589.2.2.out.flatMap eJN), mapEnt gb54 .i64 (updM x249 r589.1 1)]) 2 mp_77 rfl rfl rfl rfl rfl ?_) gn
       refine wl_v 4 rfl (vAs rfl) gn rfl ?_
       refine w_end 5 rfl ?_
       refine gSq (c := q58c63) rfl ?_
       refine gRg (c := q58c64) rfl rfl ?_
       refine wl_v 0 rfl (vMv rfl) gn rfl ?_
       obtain ⟨r604, hv605, h⟩ := h
       refine wl_s 1 rfl (sCl [.pointer (some ⟨g2, 0, none⟩)] rfl Tryd.func43 rfl rfl rfl fun w601 hL602 => ?_) gn
       have hp603 : List.Perm ([.box g2 Tb3 [.string r589.2.2.text, .int .i64 r589.2.2.at_, .slice A591 n592 c593, .int .i64 r589.2.2.in_, .int .i64 r589.2.2.code], .own (.slice A591 n592 c593) 31 4 n592 (r589.2.2.out.flatMap eJN), mapEnt gb54 .i64 (updM x249 r589.1 1)] : List Ent) (([.box g2 Tb3 [.string r589.2.2.text, .int .i64 r589.2.2.at_, .slice A591 n592 c593, .int .i64 r589.2.2.in_, .int .i64 r589.2.2.code], .own (.slice A591 n592 c593) 31 4 n592 (r589.2.2.out.flatMap eJN)] : List Ent) ++ ([mapEnt gb54 .i64 (updM x249 r589.1 1)] : List Ent)) := pIx [0, 1] [2] rfl rfl (by kernel_rfl)
       refine Calls.mono (jps_blanks_calls w601 (Fl ([] : List Snap)) r589.2.2 g2 Tb3 z8 A591 n592 c593 (Nat.le_trans hz9 hL602.env.size) h594 (hL602.hFl (Sl := ([] : List Snap)) hp603 (sels [] rfl)) (hL602.into hp603 (Fl ([] : List Snap))) r604 hv605) ?_
       rintro _ w611 ⟨A606, n607, c608, rfl, hM612, h609⟩
       have hL613 := hL602.call hp603 hM612
       refine ⟨_, _, _, rfl, hL613, ?_⟩
       refine w_end 2 rfl ?_
       refine gSq (c := q58c65) rfl ?_
       refine gSq (c := q58c66) rfl ?_
       refine gRg (c := q58c68) rfl rfl ?_
       refine wl_v 0 rfl (vMv rfl) gn rfl ?_
       obtain ⟨r617, hv618, h⟩ := h
       refine wl_s 1 rfl (sCl [.pointer (some ⟨g2, 0, none⟩), .string (⟨#[58]⟩ : ByteArray)] rfl Tryd.func71 rfl rfl rfl fun w614 hL615 => ?_) gn
       have hp616 : List.Perm ([.box g2 Tb3 [.string r604.text, .int .i64 r604.at_, .slice A606 n607 c608, .int .i64 r604.in_, .int .i64 r604.code], .own (.slice A606 n607 c608) 31 4 n607 (r604.out.flatMap eJN), mapEnt gb54 .i64 (updM x249 r589.1 1)] : List Ent) (([.box g2 Tb3 [.string r604.text, .int .i64 r604.at_, .slice A606 n607 c608, .int .i64 r604.in_, .int .i64 r604.code], .own (.slice A606 n607 c608) 31 4 n607 (r604.out.flatMap eJN)] : List Ent) ++ ([mapEnt gb54 .i64 (updM x249 r589.1 1)] : List Ent)) := pIx [0, 1] [2] rfl rfl (by kernel_rfl)
       refine Calls.mono (jps_take_calls w614 (Fl ([] : List Snap)) r604 (⟨#[58]⟩ : ByteArray) g2 Tb3 z8 A606 n607 c608 (Nat.le_trans hz9 hL615.env.size) h609 (hL615.hFl (Sl := ([] : List Snap)) hp616 (sels [] rfl)) (hL615.into hp616 (Fl ([] : List Snap))) r617 hv618) ?_
       rintro _ w624 ⟨A619, n620, c621, rfl, hM625, h622⟩
       have hL626 := hL615.call hp616 hM625
       refine ⟨_, _, _, rfl, hL626, ?_⟩
       refine wl_v 2 rfl (v_not rfl) gn rfl ?_
       refine w_end 3 rfl ?_
       by_cases hp627 : r617.1 = true
       ·have h := if_pos' hp627 h
        refine gFa (c := q58c69) rfl _ rfl ((nf hp627)) ?_
        refine g_skip (c := q58c71) rfl ?_
        refine gRg (c := q58c67) rfl rfl ?_
        refine wl_v 0 rfl (vMv rfl) gn rfl ?_
        obtain ⟨r631, hv632, h⟩ := h
        refine wl_s 1 rfl (sCl [.pointer (some ⟨g2, 0, none⟩)] rfl Tryd.func43 rfl rfl rfl fun w628 hL629 => ?_) gn
        have hp630 : List.Perm ([.box g2 Tb3 [.string r617.2.text, .int .i64 r617.2.at_, .slice A619 n620 c621, .int .i64 r617.2.in_, .int .i64 r617.2.code], .own (.slice A619 n620 c621) 31 4 n620 (r617.2.out.flatMap eJN), mapEnt gb54 .i64 (updM x249 r589.1 1)] : List Ent) (([.box g2 Tb3 [.string r617.2.text, .int .i64 r617.2.at_, .slice A619 n620 c621, .int .i64 r617.2.in_, .int .i64 r617.2.code], .own (.slice A619 n620 c621) 31 4 n620 (r617.2.out.flatMap eJN)] : List Ent) ++ ([mapEnt gb54 .i64 (updM x249 r589.1 1)] : List Ent)) := pIx [0, 1] [2] rfl rfl (by kernel_rfl)
        refine Calls.mono (jps_blanks_calls w628 (Fl ([] : List Snap)) r617.2 g2 Tb3 z8 A619 n620 c621 (Nat.le_trans hz9 hL629.env.size) h622 (hL629.hFl (Sl := ([] : List Snap)) hp630 (sels [] rfl)) (hL629.into hp630 (Fl ([] : List Snap))) r631 hv632) ?_
        rintro _ w638 ⟨A633, n634, c635, rfl, hM639, h636⟩
        have hL640 := hL629.call hp630 hM639
        refine ⟨_, _, _, rfl, hL640, ?_⟩
        refine w_end 2 rfl ?_
        refine gFr 2 rfl ?_
        refine gFr 1 rfl ?_
        refine gFr 2 rfl ?_
        exact g_go [0, 1] (j3 r589.1 r631.text r631.at_ r631.out r631.in_ r631.code (updM x249 r589.1 1) h A633 n634 c635 h636) ⟨rfl, rfl, rfl, rfl, rfl, rfl, trivial⟩ (.cons_cons _ (.cons_cons _ (.cons_cons _ (.slnil)))) rfl
       ·have h := if_neg' hp627 h
        refine gTr (c := q58c69) rfl _ rfl ((nt (bf hp627))) ?_
        refine gSq (c := q58c70) rfl ?_
        refine gRg (c := q58c72) rfl rfl ?_
        refine wl_v 0 rfl (vMv rfl) gn rfl ?_
        refine wl_v 1 rfl (vMv rfl) gn rfl ?_
        refine wl_v 2 rfl (vAs rfl) gn rfl ?_
        refine wl_v 3 rfl (vAs rfl) gn rfl ?_
        refine wl_v 4 rfl (vAs rfl) gn rfl ?_
        refine w_end 5 rfl ?_
        have h := Out.inr hO1 h
        refine g_retR (c := q58c73) [.int .i64 x25, .int .i64 x248, .bool false] rfl Tryd.func58 rfl (.tmp rfl (.tmp rfl (.tmp rfl (.nil)))) fun wr hLr => ?_
        have hMr : B.Loc w wr [.box g2 Tb3 [.string r617.2.text, .int .i64 r617.2.at_, .slice A619 n620 c621, .int .i64 r617.2.in_, .int .i64 r617.2.code], .own (.slice A619 n620 c621) 31 4 n620 (r617.2.out.flatMap eJN)] [St w [[g2], (Value.slice A4 n5 c6).ownBlock.toList]] := hLr.pick (rest := [mapEnt gb54 .i64 (updM x249 r589.1 1)]) (pIx [0, 1] [2] rfl rfl (by kernel_rfl)) (sels [1] rfl)
        show jps_many_R w F g2 Tb3 A4 n5 c6 z8 r (.returned (packV [.int .i64 x25, .int .i64 x248, .bool false])) wr
        rw [h]
        exact ⟨A619, n620, c621, rfl, hMr, h622⟩
     ·have h := if_neg' hp599 h
      refine gTr (c := q58c49) rfl _ rfl ((nt (bf hp599))) ?_
      refine gSq (c := q58c50) rfl ?_
      refine gRg (c := q58c74) rfl rfl ?_
      refine wl_v 0 rfl (vMv rfl) gn rfl ?_
      refine wl_v 1 rfl (vMv rfl) gn rfl ?_
      refine wl_v 2 rfl (vAs rfl) gn rfl ?_
      refine wl_v 3 rfl (vAs rfl) gn rfl ?_
      refine wl_v 4 rfl (vAs rfl) gn rfl ?_
      refine w_end 5 rfl ?_
      have h := Out.inr hO1 h
      refine g_retR (c := q58c75) [.int .i64 x25, .int .i64 x248, .bool false] rfl Tryd.func58 rfl (.tmp rfl (.tmp rfl (.tmp rfl (.nil)))) fun wr hLr => ?_
      have hMr : B.Loc w wr [.box g2 Tb3 [.string r589.2.2.text, .int .i64 r589.2.2.at_, .slice A591 n592 c593, .int .i64 r589.2.2.in_, .int .i64 r589.2.2.code], .own (.slice A591 n592 c593) 31 4 n592 (r589.2.2.out.flatMap eJN)] [St w [[g2], (Value.slice A4 n5 c6).ownBlock.toList]] := hLr.pick (rest := [mapEnt gb54 .i64 x249]) (pIx [0, 1] [2] rfl rfl (by kernel_rfl)) (sels [1] rfl)
      show jps_many_R w F g2 Tb3 A4 n5 c6 z8 r (.returned (packV [.int .i64 x25, .int .i64 x248, .bool false])) wr
      rw [h]
      exact ⟨A591, n592, c593, rfl, hMr, h594⟩
    ·have h := if_neg' hp450 h
     refine gFa (c := q58c39) rfl _ rfl ((nei hp450)) ?_
     refine g_skip (c := q58c41) rfl ?_
     refine gFr 1 rfl ?_
     refine gFr 2 rfl ?_
     refine gFr 2 rfl ?_
     exact g_go [0, 1] (j3 (⟨#[]⟩ : ByteArray) x250 x251 x252 x257 x258 x249 h A253 n254 c255 h256) ⟨rfl, rfl, rfl, rfl, rfl, rfl, trivial⟩ (.cons_cons _ (.cons_cons _ (.cons_cons _ (.slnil)))) rfl
   refine gFr 1 rfl ?_
   refine gFr 1 rfl ?_
   refine gFr 2 rfl ?_
   exact g_go [0, 1] (key2 _ h A45 n46 c47 h48) ⟨rfl, rfl, rfl, rfl, rfl, trivial⟩ (.cons_cons _ (.cons_cons _ (.cons_cons _ (.slnil)))) rfl
 by_cases hp23 : r13.1 = true
 ·have h := if_pos' hp23 h
  refine gTr (c := q58c8) rfl _ rfl (hp23) ?_
  refine gRg (c := q58c9) rfl rfl ?_
  refine wl_v 0 rfl (vAs rfl) gn rfl ?_
  refine wl_v 1 rfl (vAs rfl) gn rfl ?_
  refine w_end 2 rfl ?_
  exact g_go [0, 1] (j1 7 (⟨#[125]⟩ : ByteArray) h) ⟨rfl, rfl, rfl, trivial⟩ (.cons_cons _ (.cons_cons _ (.slnil))) rfl
 ·have h := if_neg' hp23 h
  refine gFa (c := q58c8) rfl _ rfl ((bf hp23)) ?_
  refine g_skip (c := q58c10) rfl ?_
  exact g_go [0, 1] (j1 6 (⟨#[93]⟩ : ByteArray) h) ⟨rfl, rfl, rfl, trivial⟩ (.cons_cons _ (.cons_cons _ (.slnil))) rfl
theorem jps_value_step (rc_json_parser_many : jps → (Int × Int × Bool × jps) → Prop) (rc_json_parser_value : jps → ByteArray → (Bool × jps) → Prop) (ih_json_parser_many : jps_many_st rc_json_parser_many) (ih_json_parser_value : jps_value_st rc_json_parser_value) : jps_value_st (jps_value_body rc_json_parser_many rc_json_parser_value) := by
 intro w F x1 x10 g2 Tb3 z8 A4 n5 c6 hz9 h7 hG3 hF hL0 r h
 unfold jps_value_body at h
 refine calls_of_Loc (vs := [.pointer (some ⟨g2, 0, none⟩), .string x10]) 113 Tryd.func44 rfl Tryd.ntmps44 rfl hL0 ?_
 show G (jps_value_C w F g2 Tb3 A4 n5 c6 z8 r) _ _ _ _
 refine gSq (c := q44c0) rfl ?_
 refine gRg (c := q44c1) rfl rfl ?_
 refine wl_v 0 rfl (vAs rfl) gn rfl ?_
 refine w_end 1 rfl ?_
 refine gSq (c := q44c2) rfl ?_
 refine gRg (c := q44c3) rfl rfl ?_
 refine wl_v 0 rfl (vMv rfl) gn rfl ?_
 refine wl_v 1 rfl (v_build #[.int .i64 0, .string x10, .string (⟨#[]⟩ : ByteArray), .int .i64 0] bd_31 rfl (by kernel_rfl)) gn rfl ?_
 refine wl_s 2 rfl (s_alloc [.int .i64 0, .string (⟨#[]⟩ : ByteArray), .string (⟨#[]⟩ : ByteArray), .int .i64 0] zr_31 rfl fun gb11 => ?_) gn
 refine wl_s 3 rfl (s_stB (vs := [.int .i64 0, .string x10, .string (⟨#[]⟩ : ByteArray), .int .i64 0]) (cs' := [.int .i64 0, .string x10, .string (⟨#[]⟩ : ByteArray), .int .i64 0]) (M' := [.box gb11 31 [.int .i64 0, .string x10, .string (⟨#[]⟩ : ByteArray), .int .i64 0], .box g2 Tb3 [.string x1.text, .int .i64 x1.at_, .slice A4 n5 c6, .int .i64 x1.in_, .int .i64 x1.code], .own (.slice A4 n5 c6) 31 4 n5 (x1.out.flatMap eJN)]) 0 sz_31 rfl rfl rfl rfl rfl rfl rfl rfl rfl ?_) gn
 refine w_end 4 rfl ?_
 refine gSq (c := q44c4) rfl ?_
 refine gRg (c := q44c5) rfl rfl ?_
 refine wl_v 0 rfl (vMv rfl) gn rfl ?_
 refine wl_v 1 rfl (vNc rfl) gn rfl ?_
 refine wl_v 2 rfl (vFB fo_70_2 rfl) gn rfl ?_
 refine wl_v 3 rfl (v_ldB1 1 ld_22 rfl rfl rfl) gn rfl ?_
 refine wl_v 4 rfl (v_lenQ un_22 rfl h7.hq) gn rfl ?_
 refine wl_v 5 rfl (vAs rfl) gn rfl ?_
 refine w_end 6 rfl ?_
 refine gSq (c := q44c6) rfl ?_
 obtain ⟨x19, hv20, h⟩ := h
 obtain ⟨hb21, h⟩ := h
 have hns : Region.noSelect (Code.ops q44c7) = true := by kernel_rfl
 refine g_drawF (c := q44c7) [.box gb11 31 [.int .i64 0, .string x10, .string (⟨#[]⟩ : ByteArray), .int .i64 0], .box g2 Tb3 [.string x1.text, .int .i64 x1.at_, .slice A4 n5 c6, .int .i64 x1.in_, .int .i64 x1.code]] [Sm w.heap.size F w [[g2], (Value.slice A4 n5 c6).ownBlock.toList], St w [[g2], (Value.slice A4 n5 c6).ownBlock.toList]] [10] 11 rfl rfl mix rfl (.cons_cons _ (.cons_cons _ (.cons _ (.slnil)))) (sels [0, 1] rfl) ?_
 refine wfv 0 rfl (vMv rfl) gn hns (by kernel_rfl) ?_
 refine wfv 1 rfl (vMv rfl) gn hns (by kernel_rfl) ?_
 refine wfv 2 rfl (vNc rfl) gn hns (by kernel_rfl) ?_
 refine wfv 3 rfl (vFB fo_70_2 rfl) gn hns (by kernel_rfl) ?_
 refine wfv 4 rfl (v_ldB1 1 ld_22 rfl rfl rfl) gn hns (by kernel_rfl) ?_
 refine wfv 5 rfl (v_ldB [.int .i64 0, .string x10, .string (⟨#[]⟩ : ByteArray), .int .i64 0] 0 ld_31 rfl rfl rfl rfl) gn hns (by kernel_rfl) ?_
 refine wf_all [6] (by kernel_rfl) rfl ⟨on_s 6 rfl gn rfl (s_litO (xs := ([(⟨0, x10, (⟨#[]⟩ : ByteArray), 0⟩ : JNd)] : List JNd)) [.int .i64 0, .string x10, .string (⟨#[]⟩ : ByteArray), .int .i64 0] bs_22_1 rfl (by kernel_rfl) rfl rfl rfl rfl fun gb34 h35 => ?_), trivial⟩
 refine ⟨sels [1, 2] rfl, sels [0, 1] rfl, ?_⟩
 refine wf_all [7] (by kernel_rfl) rfl ⟨on_s 7 rfl gn rfl (s_app (zs := x19) (cells' := x19.flatMap eJN) 3 ap_22 rfl rfl rfl h7 hz9 (Src.ownF (hl := hl_api_JNode) (h1 := h1_api_JNode) 0 rfl h35) (by rw [hv20, List.flatMap_append] <;> rfl) (app_len hv20 h35.hq) hb21 rfl rfl fun A39 c40 h41 => ?_), trivial⟩
 refine ⟨sels [1, 2] rfl, sels [0, 1] rfl, ?_⟩
 refine wfv 8 rfl (vNc rfl) gn hns (by kernel_rfl) ?_
 refine wfv 9 rfl (vFB fo_70_2 rfl) gn hns (by kernel_rfl) ?_
 refine wf_all [10] (by kernel_rfl) rfl ⟨on_l 10 rfl gn rfl (s_stB (vs := [.slice A39 (n5 + 1) c40]) (cs' := [.string x1.text, .int .i64 x1.at_, .slice A39 (n5 + 1) c40, .int .i64 x1.in_, .int .i64 x1.code]) (M' := [.own (.slice (some ⟨gb34, 0, none⟩) 1 1) 31 4 1 (([(⟨0, x10, (⟨#[]⟩ : ByteArray), 0⟩ : JNd)] : List JNd).flatMap eJN), .box gb11 31 [.int .i64 0, .string x10, .string (⟨#[]⟩ : ByteArray), .int .i64 0], .box g2 Tb3 [.string x1.text, .int .i64 x1.at_, .slice A39 (n5 + 1) c40, .int .i64 x1.in_, .int .i64 x1.code], .own (.slice A39 (n5 + 1) c40) 31 4 (n5 + 1) (x19.flatMap eJN)]) 2 sz_22 rfl rfl rfl rfl rfl rfl rfl rfl rfl ?_), trivial⟩
 unfold NxL
 refine wf_end (by kernel_rfl) ?_
 refine gSq (c := q44c8) rfl ?_
 refine gRg (c := q44c9) rfl rfl ?_
 refine wl_v 0 rfl (vMv rfl) gn rfl ?_
 refine wl_v 1 rfl (vNc rfl) gn rfl ?_
 refine wl_v 2 rfl (vFB fo_70_1 rfl) gn rfl ?_
 refine wl_v 3 rfl (v_ldB1 2 ld_3 rfl rfl rfl) gn rfl ?_
 refine wl_v 4 rfl (vAs rfl) gn rfl ?_
 refine w_end 5 rfl ?_
 refine gSq (c := q44c10) rfl ?_
 refine gRg (c := q44c11) rfl rfl ?_
 refine wl_v 0 rfl (vAs rfl) gn rfl ?_
 refine w_end 1 rfl ?_
 refine gSq (c := q44c12) rfl ?_
 refine g_block (c := q44c13) rfl ?_
 refine gSq (c := q44c15) rfl ?_
 refine gRg (c := q44c16) rfl rfl ?_
 refine wl_v 0 rfl (vMv rfl) gn rfl ?_
 obtain ⟨r45, hv46, h⟩ := h
 refine wl_s 1 rfl (sCl [.pointer (some ⟨g2, 0, none⟩), .string (⟨#[110]⟩ : ByteArray)] rfl Tryd.func55 rfl rfl rfl fun w42 hL43 => ?_) gn
 have hp44 : List.Perm ([.own (.slice (some ⟨gb34, 0, none⟩) 1 1) 31 4 1 (([(⟨0, x10, (⟨#[]⟩ : ByteArray), 0⟩ : JNd)] : List JNd).flatMap eJN), .box gb11 31 [.int .i64 0, .string x10, .string (⟨#[]⟩ : ByteArray), .int .i64 0], .box g2 Tb3 [.string x1.text, .int .i64 x1.at_, .slice A39 (n5 + 1) c40, .int .i64 x1.in_, .int .i64 x1.code], .own (.slice A39 (n5 + 1) c40) 31 4 (n5 + 1) (x19.flatMap eJN)] : List Ent) (([.box g2 Tb3 [.string x1.text, .int .i64 x1.at_, .slice A39 (n5 + 1) c40, .int .i64 x1.in_, .int .i64 x1.code], .own (.slice A39 (n5 + 1) c40) 31 4 (n5 + 1) (x19.flatMap eJN)] : List Ent) ++ ([.own (.slice (some ⟨gb34, 0, none⟩) 1 1) 31 4 1 (([(⟨0, x10, (⟨#[]⟩ : ByteArray), 0⟩ : JNd)] : List JNd).flatMap eJN), .box gb11 31 [.int .i64 0, .string x10, .string (⟨#[]⟩ : ByteArray), .int .i64 0]] : List Ent)) := pIx [2, 3] [0, 1] rfl rfl (by kernel_rfl)
 refine Calls.mono (jps_is_calls w42 (Fl ([] : List Snap)) (⟨x1.text, x1.at_, x19, x1.in_, x1.code⟩ : jps) (⟨#[110]⟩ : ByteArray) g2 Tb3 z8 A39 (n5 + 1) c40 (Nat.le_trans hz9 hL43.env.size) h41 (hL43.hFl (Sl := ([] : List Snap)) hp44 (sels [] rfl)) (hL43.into hp44 (Fl ([] : List Snap))) r45 hv46) ?_
 rintro _ w52 ⟨A47, n48, c49, rfl, hM53, h50⟩
 have hL54 := hL43.call hp44 hM53
 refine ⟨_, _, _, rfl, hL54, ?_⟩
 refine wl_v 2 rfl (vAs rfl) gn rfl ?_
 refine w_end 3 rfl ?_
 have j1 : ∀ (x193 : Bool) (x194 : ByteArray) (x195 : Int) (x196 : List JNd) (x201 : Int) (x202 : Int) (x203 : Int) (x204 : ByteArray) (x205 : Int) (h : jps_value_j1 x1 x10 x193 x194 x195 x196 x201 x202 x203 x204 x205 r) (A197 : Option Addr) (n198 : Nat) (c199 : Nat) (h200 : Ow z8 A197 n198 c199 x196), G (jps_value_C w F g2 Tb3 A4 n5 c6 z8 r) [.inBlock 0, .code q44c14] [(0, .pointer (some ⟨g2, 0, none⟩)), (5, .pointer (some ⟨gb11, 0, none⟩)), (6, .int .i64 (x1.out.length : Int)), (8, .bool x193)] [.own (.slice A197 n198 c199) 31 4 n198 (x196.flatMap eJN), .box g2 Tb3 [.string x194, .int .i64 x195, .slice A197 n198 c199, .int .i64 x201, .int .i64 x202], .box gb11 31 [.int .i64 x203, .string x10, .string x204, .int .i64 x205]] [Sm w.heap.size F w [[g2], (Value.slice A4 n5 c6).ownBlock.toList], St w [[g2], (Value.slice A4 n5 c6).ownBlock.toList]] := by
  intro x193 x194 x195 x196 x201 x202 x203 x204 x205 h A197 n198 c199 h200
  unfold jps_value_j1 at h
  refine g_inBlock ?_
  refine gSq (c := q44c14) rfl ?_
  obtain ⟨hb206, h⟩ := h
  obtain ⟨x207, hv208, h⟩ := h
  have hns : Region.noSelect (Code.ops q44c54) = true := by kernel_rfl
  refine g_drawF (c := q44c54) [.own (.slice A197 n198 c199) 31 4 n198 (x196.flatMap eJN), .box g2 Tb3 [.string x194, .int .i64 x195, .slice A197 n198 c199, .int .i64 x201, .int .i64 x202], .box gb11 31 [.int .i64 x203, .string x10, .string x204, .int .i64 x205]] [Sm w.heap.size F w [[g2], (Value.slice A4 n5 c6).ownBlock.toList], St w [[g2], (Value.slice A4 n5 c6).ownBlock.toList]] [7] 8 rfl rfl mix rfl (.cons_cons _ (.cons_cons _ (.cons_cons _ (.slnil)))) (sels [0, 1] rfl) ?_
  refine wfv 0 rfl (vMv rfl) gn hns (by kernel_rfl) ?_
  refine wfv 1 rfl (vNc rfl) gn hns (by kernel_rfl) ?_
  refine wfv 2 rfl (vFB fo_70_2 rfl) gn hns (by kernel_rfl) ?_
  refine wfv 3 rfl (v_ldB1 1 ld_22 rfl rfl rfl) gn hns (by kernel_rfl) ?_
  refine wfv 4 rfl (vMv rfl) gn hns (by kernel_rfl) ?_
  refine wfv 5 rfl (v_ldB [.int .i64 x203, .string x10, .string x204, .int .i64 x205] 2 ld_31 rfl rfl rfl rfl) gn hns (by kernel_rfl) ?_
  refine wfv 6 rfl (v_idxO slE_22 rfl rfl h200 hb206) gn hns (by kernel_rfl) ?_
  refine wf_all [7] (by kernel_rfl) rfl ⟨on_l 7 rfl gn rfl (s_stF (enc := eJN) (o := 0) (z := (⟨x203, x10, x204, x205⟩ : JNd)) (vs := [.int .i64 x203, .string x10, .string x204, .int .i64 x205]) (i := (x1.out.length : Int)) 0 hl_api_JNode sz_31 rfl rfl rfl rfl rfl h200 hb206 rfl rfl rfl hv208 fun h211 => ?_), trivial⟩
  unfold NxL
  refine wf_end (by kernel_rfl) ?_
  refine gSq (c := q44c55) rfl ?_
  refine gRg (c := q44c56) rfl rfl ?_
  refine wl_v 0 rfl (vMv rfl) gn rfl ?_
  refine wl_v 1 rfl (vAs rfl) gn rfl ?_
  refine w_end 2 rfl ?_
  refine g_retR (c := q44c57) [.bool x193] rfl Tryd.func44 rfl (.tmp rfl (.nil)) fun wr hLr => ?_
  have hMr : B.Loc w wr [.box g2 Tb3 [.string x194, .int .i64 x195, .slice A197 n198 c199, .int .i64 x201, .int .i64 x202], .own (.slice A197 n198 c199) 31 4 n198 (x207.flatMap eJN)] [St w [[g2], (Value.slice A4 n5 c6).ownBlock.toList]] := hLr.pick (rest := [.box gb11 31 [.int .i64 x203, .string x10, .string x204, .int .i64 x205]]) (pIx [1, 0] [2] rfl rfl (by kernel_rfl)) (sels [1] rfl)
  show jps_value_R w F g2 Tb3 A4 n5 c6 z8 r (.returned (packV [.bool x193])) wr
  rw [h]
  exact ⟨A197, n198, c199, rfl, hMr, h211⟩
 by_cases hp55 : r45.1 = true
 ·have h := if_pos' hp55 h
  refine gTr (c := q44c17) rfl _ rfl (hp55) ?_
  refine gRg (c := q44c18) rfl rfl ?_
  refine wl_v 0 rfl (vMv rfl) gn rfl ?_
  obtain ⟨r215, hv216, h⟩ := h
  refine wl_s 1 rfl (sCl [.pointer (some ⟨g2, 0, none⟩), .string (⟨#[110, 117, 108, 108]⟩ : ByteArray)] rfl Tryd.func56 rfl rfl rfl fun w212 hL213 => ?_) gn
  have hp214 : List.Perm ([.box g2 Tb3 [.string r45.2.text, .int .i64 r45.2.at_, .slice A47 n48 c49, .int .i64 r45.2.in_, .int .i64 r45.2.code], .own (.slice A47 n48 c49) 31 4 n48 (r45.2.out.flatMap eJN), .own (.slice (some ⟨gb34, 0, none⟩) 1 1) 31 4 1 (([(⟨0, x10, (⟨#[]⟩ : ByteArray), 0⟩ : JNd)] : List JNd).flatMap eJN), .box gb11 31 [.int .i64 0, .string x10, .string (⟨#[]⟩ : ByteArray), .int .i64 0]] : List Ent) (([.box g2 Tb3 [.string r45.2.text, .int .i64 r45.2.at_, .slice A47 n48 c49, .int .i64 r45.2.in_, .int .i64 r45.2.code], .own (.slice A47 n48 c49) 31 4 n48 (r45.2.out.flatMap eJN)] : List Ent) ++ ([.own (.slice (some ⟨gb34, 0, none⟩) 1 1) 31 4 1 (([(⟨0, x10, (⟨#[]⟩ : ByteArray), 0⟩ : JNd)] : List JNd).flatMap eJN), .box gb11 31 [.int .i64 0, .string x10, .string (⟨#[]⟩ : ByteArray), .int .i64 0]] : List Ent)) := pIx [0, 1] [2, 3] rfl rfl (by kernel_rfl)
  refine Calls.mono (jps_word_calls w212 (Fl ([] : List Snap)) r45.2 (⟨#[110, 117, 108, 108]⟩ : ByteArray) g2 Tb3 z8 A47 n48 c49 (Nat.le_trans hz9 hL213.env.size) h50 (hL213.hFl (Sl := ([] : List Snap)) hp214 (sels [] rfl)) (hL213.into hp214 (Fl ([] : List Snap))) r215 hv216) ?_
  rintro _ w222 ⟨A217, n218, c219, rfl, hM223, h220⟩
  have hL224 := hL213.call hp214 hM223
  refine ⟨_, _, _, rfl, hL224, ?_⟩
  refine wl_v 2 rfl (vFB fo_31_0 rfl) gn rfl ?_
  refine wl_s 3 rfl (s_stB (vs := [.int .i64 1]) (cs' := [.int .i64 1, .string x10, .string (⟨#[]⟩ : ByteArray), .int .i64 0]) (M' := [.box g2 Tb3 [.string r215.2.text, .int .i64 r215.2.at_, .slice A217 n218 c219, .int .i64 r215.2.in_, .int .i64 r215.2.code], .own (.slice A217 n218 c219) 31 4 n218 (r215.2.out.flatMap eJN), .own (.slice (some ⟨gb34, 0, none⟩) 1 1) 31 4 1 (([(⟨0, x10, (⟨#[]⟩ : ByteArray), 0⟩ : JNd)] : List JNd).flatMap eJN), .box gb11 31 [.int .i64 1, .string x10, .string (⟨#[]⟩ : ByteArray), .int .i64 0]]) 3 sz_29 rfl rfl rfl rfl rfl rfl rfl rfl rfl ?_) gn
  refine wl_v 4 rfl (vAs rfl) gn rfl ?_
  refine w_end 5 rfl ?_
  refine gFr 3 rfl ?_
  refine gFr 1 rfl ?_
  refine gFr 2 rfl ?_
  exact g_go [0, 1] (j1 r215.1 r215.2.text r215.2.at_ r215.2.out r215.2.in_ r215.2.code 1 (⟨#[]⟩ : ByteArray) 0 h A217 n218 c219 h220) ⟨rfl, rfl, rfl, rfl, trivial⟩ (.cons_cons _ (.cons_cons _ (.cons_cons _ (.cons _ (.slnil))))) rfl
 ·have h := if_neg' hp55 h
  refine gFa (c := q44c17) rfl _ rfl ((bf hp55)) ?_
  refine gSq (c := q44c19) rfl ?_
  refine gRg (c := q44c20) rfl rfl ?_
  refine wl_v 0 rfl (vMv rfl) gn rfl ?_
  obtain ⟨r228, hv229, h⟩ := h
  refine wl_s 1 rfl (sCl [.pointer (some ⟨g2, 0, none⟩), .string (⟨#[102]⟩ : ByteArray)] rfl Tryd.func55 rfl rfl rfl fun w225 hL226 => ?_) gn
  have hp227 : List.Perm ([.box g2 Tb3 [.string r45.2.text, .int .i64 r45.2.at_, .slice A47 n48 c49, .int .i64 r45.2.in_, .int .i64 r45.2.code], .own (.slice A47 n48 c49) 31 4 n48 (r45.2.out.flatMap eJN), .own (.slice (some ⟨gb34, 0, none⟩) 1 1) 31 4 1 (([(⟨0, x10, (⟨#[]⟩ : ByteArray), 0⟩ : JNd)] : List JNd).flatMap eJN), .box gb11 31 [.int .i64 0, .string x10, .string (⟨#[]⟩ : ByteArray), .int .i64 0]] : List Ent) (([.box g2 Tb3 [.string r45.2.text, .int .i64 r45.2.at_, .slice A47 n48 c49, .int .i64 r45.2.in_, .int .i64 r45.2.code], .own (.slice A47 n48 c49) 31 4 n48 (r45.2.out.flatMap eJN)] : List Ent) ++ ([.own (.slice (some ⟨gb34, 0, none⟩) 1 1) 31 4 1 (([(⟨0, x10, (⟨#[]⟩ : ByteArray), 0⟩ : JNd)] : List JNd).flatMap eJN), .box gb11 31 [.int .i64 0, .string x10, .string (⟨#[]⟩ : ByteArray), .int .i64 0]] : List Ent)) := pIx [0, 1] [2, 3] rfl rfl (by kernel_rfl)
  refine Calls.mono (jps_is_calls w225 (Fl ([] : List Snap)) r45.2 (⟨#[102]⟩ : ByteArray) g2 Tb3 z8 A47 n48 c49 (Nat.le_trans hz9 hL226.env.size) h50 (hL226.hFl (Sl := ([] : List Snap)) hp227 (sels [] rfl)) (hL226.into hp227 (Fl ([] : List Snap))) r228 hv229) ?_
  rintro _ w235 ⟨A230, n231, c232, rfl, hM236, h233⟩
  have hL237 := hL226.call hp227 hM236
  refine ⟨_, _, _, rfl, hL237, ?_⟩
  refine wl_v 2 rfl (vAs rfl) gn rfl ?_
  refine w_end 3 rfl ?_
  by_cases hp238 : r228.1 = true
  ·have h := if_pos' hp238 h
   refine gTr (c := q44c21) rfl _ rfl (hp238) ?_
   refine gRg (c := q44c22) rfl rfl ?_
   refine wl_v 0 rfl (vMv rfl) gn rfl ?_
   obtain ⟨r242, hv243, h⟩ := h
   refine wl_s 1 rfl (sCl [.pointer (some ⟨g2, 0, none⟩), .string (⟨#[102, 97, 108, 115, 101]⟩ : ByteArray)] rfl Tryd.func56 rfl rfl rfl fun w239 hL240 => ?_) gn
   have hp241 : List.Perm ([.box g2 Tb3 [.string r228.2.text, .int .i64 r228.2.at_, .slice A230 n231 c232, .int .i64 r228.2.in_, .int .i64 r228.2.code], .own (.slice A230 n231 c232) 31 4 n231 (r228.2.out.flatMap eJN), .own (.slice (some ⟨gb34, 0, none⟩) 1 1) 31 4 1 (([(⟨0, x10, (⟨#[]⟩ : ByteArray), 0⟩ : JNd)] : List JNd).flatMap eJN), .box gb11 31 [.int .i64 0, .string x10, .string (⟨#[]⟩ : ByteArray), .int .i64 0]] : List Ent) (([.box g2 Tb3 [.string r228.2.text, .int .i64 r228.2.at_, .slice A230 n231 c232, .int .i64 r228.2.in_, .int .i64 r228.2.code], .own (.slice A230 n231 c232) 31 4 n231 (r228.2.out.flatMap eJN)] : List Ent) ++ ([.own (.slice (some ⟨gb34, 0, none⟩) 1 1) 31 4 1 (([(⟨0, x10, (⟨#[]⟩ : ByteArray), 0⟩ : JNd)] : List JNd).flatMap eJN), .box gb11 31 [.int .i64 0, .string x10, .string (⟨#[]⟩ : ByteArray), .int .i64 0]] : List Ent)) := pIx [0, 1] [2, 3] rfl rfl (by kernel_rfl)
   refine Calls.mono (jps_word_calls w239 (Fl ([] : List Snap)) r228.2 (⟨#[102, 97, 108, 115, 101]⟩ : ByteArray) g2 Tb3 z8 A230 n231 c232 (Nat.le_trans hz9 hL240.env.size) h233 (hL240.hFl (Sl := ([] : List Snap)) hp241 (sels [] rfl)) (hL240.into hp241 (Fl ([] : List Snap))) r242 hv243) ?_
   rintro _ w249 ⟨A244, n245, c246, rfl, hM250, h247⟩
   have hL251 := hL240.call hp241 hM250
   refine ⟨_, _, _, rfl, hL251, ?_⟩
   refine wl_v 2 rfl (vFB fo_31_0 rfl) gn rfl ?_
   refine wl_s 3 rfl (s_stB (vs := [.int .i64 2]) (cs' := [.int .i64 2, .string x10, .string (⟨#[]⟩ : ByteArray), .int .i64 0]) (M' := [.box g2 Tb3 [.string r242.2.text, .int .i64 r242.2.at_, .slice A244 n245 c246, .int .i64 r242.2.in_, .int .i64 r242.2.code], .own (.slice A244 n245 c246) 31 4 n245 (r242.2.out.flatMap eJN), .own (.slice (some ⟨gb34, 0, none⟩) 1 1) 31 4 1 (([(⟨0, x10, (⟨#[]⟩ : ByteArray), 0⟩ : JNd)] : List JNd).flatMap eJN), .box gb11 31 [.int .i64 2, .string x10, .string (⟨#[]⟩ : ByteArray), .int .i64 0]]) 3 sz_29 rfl rfl rfl rfl rfl rfl rfl rfl rfl ?_) gn
   refine wl_v 4 rfl (vAs rfl) gn rfl ?_
   refine w_end 5 rfl ?_
   refine gFr 3 rfl ?_
   refine gFr 1 rfl ?_
   refine gFr 2 rfl ?_
   exact g_go [0, 1] (j1 r242.1 r242.2.text r242.2.at_ r242.2.out r242.2.in_ r242.2.code 2 (⟨#[]⟩ : ByteArray) 0 h A244 n245 c246 h247) ⟨rfl, rfl, rfl, rfl, trivial⟩ (.cons_cons _ (.cons_cons _ (.cons_cons _ (.cons _ (.slnil))))) rfl
  ·have h := if_neg' hp238 h
   refine gFa (c := q44c21) rfl _ rfl ((bf hp238)) ?_
   refine gSq (c := q44c23) rfl ?_
   refine gRg (c := q44c24) rfl rfl ?_
   refine wl_v 0 rfl (vMv rfl) gn rfl ?_
   obtain ⟨r255, hv256, h⟩ := h
   refine wl_s 1 rfl (sCl [.pointer (some ⟨g2, 0, none⟩), .string (⟨#[116]⟩ : ByteArray)] rfl Tryd.func55 rfl rfl rfl fun w252 hL253 => ?_) gn
   have hp254 : List.Perm ([.box g2 Tb3 [.string r228.2.text, .int .i64 r228.2.at_, .slice A230 n231 c232, .int .i64 r228.2.in_, .int .i64 r228.2.code], .own (.slice A230 n231 c232) 31 4 n231 (r228.2.out.flatMap eJN), .own (.slice (some ⟨gb34, 0, none⟩) 1 1) 31 4 1 (([(⟨0, x10, (⟨#[]⟩ : ByteArray), 0⟩ : JNd)] : List JNd).flatMap eJN), .box gb11 31 [.int .i64 0, .string x10, .string (⟨#[]⟩ : ByteArray), .int .i64 0]] : List Ent) (([.box g2 Tb3 [.string r228.2.text, .int .i64 r228.2.at_, .slice A230 n231 c232, .int .i64 r228.2.in_, .int .i64 r228.2.code], .own (.slice A230 n231 c232) 31 4 n231 (r228.2.out.flatMap eJN)] : List Ent) ++ ([.own (.slice (some ⟨gb34, 0, none⟩) 1 1) 31 4 1 (([(⟨0, x10, (⟨#[]⟩ : ByteArray), 0⟩ : JNd)] : List JNd).flatMap eJN), .box gb11 31 [.int .i64 0, .string x10, .string (⟨#[]⟩ : ByteArray), .int .i64 0]] : List Ent)) := pIx [0, 1] [2, 3] rfl rfl (by kernel_rfl)
   refine Calls.mono (jps_is_calls w252 (Fl ([] : List Snap)) r228.2 (⟨#[116]⟩ : ByteArray) g2 Tb3 z8 A230 n231 c232 (Nat.le_trans hz9 hL253.env.size) h233 (hL253.hFl (Sl := ([] : List Snap)) hp254 (sels [] rfl)) (hL253.into hp254 (Fl ([] : List Snap))) r255 hv256) ?_
   rintro _ w262 ⟨A257, n258, c259, rfl, hM263, h260⟩
   have hL264 := hL253.call hp254 hM263
   refine ⟨_, _, _, rfl, hL264, ?_⟩
   refine wl_v 2 rfl (vAs rfl) gn rfl ?_
   refine w_end 3 rfl ?_
   by_cases hp265 : r255.1 = true
   ·have h := if_pos' hp265 h
    refine gTr (c := q44c25) rfl _ rfl (hp265) ?_
    refine gRg (c := q44c26) rfl rfl ?_
    refine wl_v 0 rfl (vMv rfl) gn rfl ?_
    obtain ⟨r269, hv270, h⟩ := h
    refine wl_s 1 rfl (sCl [.pointer (some ⟨g2, 0, none⟩), .string (⟨#[116, 114, 117, 101]⟩ : ByteArray)] rfl Tryd.func56 rfl rfl rfl fun w266 hL267 => ?_) gn
    have hp268 : List.Perm ([.box g2 Tb3 [.string r255.2.text, .int .i64 r255.2.at_, .slice A257 n258 c259, .int .i64 r255.2.in_, .int .i64 r255.2.code], .own (.slice A257 n258 c259) 31 4 n258 (r255.2.out.flatMap eJN), .own (.slice (some ⟨gb34, 0, none⟩) 1 1) 31 4 1 (([(⟨0, x10, (⟨#[]⟩ : ByteArray), 0⟩ : JNd)] : List JNd).flatMap eJN), .box gb11 31 [.int .i64 0, .string x10, .string (⟨#[]⟩ : ByteArray), .int .i64 0]] : List Ent) (([.box g2 Tb3 [.string r255.2.text, .int .i64 r255.2.at_, .slice A257 n258 c259, .int .i64 r255.2.in_, .int .i64 r255.2.code], .own (.slice A257 n258 c259) 31 4 n258 (r255.2.out.flatMap eJN)] : List Ent) ++ ([.own (.slice (some ⟨gb34, 0, none⟩) 1 1) 31 4 1 (([(⟨0, x10, (⟨#[]⟩ : ByteArray), 0⟩ : JNd)] : List JNd).flatMap eJN), .box gb11 31 [.int .i64 0, .string x10, .string (⟨#[]⟩ : ByteArray), .int .i64 0]] : List Ent)) := pIx [0, 1] [2, 3] rfl rfl (by kernel_rfl)
    refine Calls.mono (jps_word_calls w266 (Fl ([] : List Snap)) r255.2 (⟨#[116, 114, 117, 101]⟩ : ByteArray) g2 Tb3 z8 A257 n258 c259 (Nat.le_trans hz9 hL267.env.size) h260 (hL267.hFl (Sl := ([] : List Snap)) hp268 (sels [] rfl)) (hL267.into hp268 (Fl ([] : List Snap))) r269 hv270) ?_
    rintro _ w276 ⟨A271, n272, c273, rfl, hM277, h274⟩
    have hL278 := hL267.call hp268 hM277
    refine ⟨_, _, _, rfl, hL278, ?_⟩
    refine wl_v 2 rfl (vFB fo_31_0 rfl) gn rfl ?_
    refine wl_s 3 rfl (s_stB (vs := [.int .i64 3]) (cs' := [.int .i64 3, .string x10, .string (⟨#[]⟩ : ByteArray), .int .i64 0]) (M' := [.box g2 Tb3 [.string r269.2.text, .int .i64 r269.2.at_, .slice A271 n272 c273, .int .i64 r269.2.in_, .int .i64 r269.2.code], .own (.slice A271 n272 c273) 31 4 n272 (r269.2.out.flatMap eJN), .own (.slice (some ⟨gb34, 0, none⟩) 1 1) 31 4 1 (([(⟨0, x10, (⟨#[]⟩ : ByteArray), 0⟩ : JNd)] : List JNd).flatMap eJN), .box gb11 31 [.int .i64 3, .string x10, .string (⟨#[]⟩ : ByteArray), .int .i64 0]]) 3 sz_29 rfl rfl rfl rfl rfl rfl rfl rfl rfl ?_) gn
    refine wl_v 4 rfl (vAs rfl) gn rfl ?_
    refine w_end 5 rfl ?_
    refine gFr 3 rfl ?_
    refine gFr 1 rfl ?_
    refine gFr 2 rfl ?_
    exact g_go [0, 1] (j1 r269.1 r269.2.text r269.2.at_ r269.2.out r269.2.in_ r269.2.code 3 (⟨#[]⟩ : ByteArray) 0 h A271 n272 c273 h274) ⟨rfl, rfl, rfl, rfl, trivial⟩ (.cons_cons _ (.cons_cons _ (.cons_cons _ (.cons _ (.slnil))))) rfl
   ·have h := if_neg' hp265 h
    refine gFa (c := q44c25) rfl _ rfl ((bf hp265)) ?_
    refine gSq (c := q44c27) rfl ?_
    refine gRg (c := q44c28) rfl rfl ?_
    refine wl_v 0 rfl (vMv rfl) gn rfl ?_
    obtain ⟨r282, hv283, h⟩ := h
    refine wl_s 1 rfl (sCl [.pointer (some ⟨g2, 0, none⟩), .string (⟨#[34]⟩ : ByteArray)] rfl Tryd.func55 rfl rfl rfl fun w279 hL280 => ?_) gn
    have hp281 : List.Perm ([.box g2 Tb3 [.string r255.2.text, .int .i64 r255.2.at_, .slice A257 n258 c259, .int .i64 r255.2.in_, .int .i64 r255.2.code], .own (.slice A257 n258 c259) 31 4 n258 (r255.2.out.flatMap eJN), .own (.slice (some ⟨gb34, 0, none⟩) 1 1) 31 4 1 (([(⟨0, x10, (⟨#[]⟩ : ByteArray), 0⟩ : JNd)] : List JNd).flatMap eJN), .box gb11 31 [.int .i64 0, .string x10, .string (⟨#[]⟩ : ByteArray), .int .i64 0]] : List Ent) (([.box g2 Tb3 [.string r255.2.text, .int .i64 r255.2.at_, .slice A257 n258 c259, .int .i64 r255.2.in_, .int .i64 r255.2.code], .own (.slice A257 n258 c259) 31 4 n258 (r255.2.out.flatMap eJN)] : List Ent) ++ ([.own (.slice (some ⟨gb34, 0, none⟩) 1 1) 31 4 1 (([(⟨0, x10, (⟨#[]⟩ : ByteArray), 0⟩ : JNd)] : List JNd).flatMap eJN), .box gb11 31 [.int .i64 0, .string x10, .string (⟨#[]⟩ : ByteArray), .int .i64 0]] : List Ent)) := pIx [0, 1] [2, 3] rfl rfl (by kernel_rfl)
    refine Calls.mono (jps_is_calls w279 (Fl ([] : List Snap)) r255.2 (⟨#[34]⟩ : ByteArray) g2 Tb3 z8 A257 n258 c259 (Nat.le_trans hz9 hL280.env.size) h260 (hL280.hFl (Sl := ([] : List Snap)) hp281 (sels [] rfl)) (hL280.into hp281 (Fl ([] : List Snap))) r282 hv283) ?_
    rintro _ w289 ⟨A284, n285, c286, rfl, hM290, h287⟩
    have hL291 := hL280.call hp281 hM290
    refine ⟨_, _, _, rfl, hL291, ?_⟩
    refine wl_v 2 rfl (vAs rfl) gn rfl ?_
    refine w_end 3 rfl ?_
    by_cases hp292 : r282.1 = true
    ·have h := if_pos' hp292 h
     refine gTr (c := q44c29) rfl _ rfl (hp292) ?_
     refine gSq (c := q44c30) rfl ?_
     refine gRg (c := q44c32) rfl rfl ?_
     refine wl_v 0 rfl (vFB fo_31_0 rfl) gn rfl ?_
     refine wl_s 1 rfl (s_stB (vs := [.int .i64 5]) (cs' := [.int .i64 5, .string x10, .string (⟨#[]⟩ : ByteArray), .int .i64 0]) (M' := [.box g2 Tb3 [.string r282.2.text, .int .i64 r282.2.at_, .slice A284 n285 c286, .int .i64 r282.2.in_, .int .i64 r282.2.code], .own (.slice A284 n285 c286) 31 4 n285 (r282.2.out.flatMap eJN), .own (.slice (some ⟨gb34, 0, none⟩) 1 1) 31 4 1 (([(⟨0, x10, (⟨#[]⟩ : ByteArray), 0⟩ : JNd)] : List JNd).flatMap eJN), .box gb11 31 [.int .i64 5, .string x10, .string (⟨#[]⟩ : ByteArray), .int .i64 0]]) 3 sz_29 rfl rfl rfl rfl rfl rfl rfl rfl rfl ?_) gn
     refine w_end 2 rfl ?_
     refine gRg (c := q44c33) rfl rfl ?_
     refine wl_v 0 rfl (vMv rfl) gn rfl ?_
     obtain ⟨r296, hv297, h⟩ := h
     refine wl_s 1 rfl (sCl [.pointer (some ⟨g2, 0, none⟩)] rfl Tryd.func57 rfl rfl rfl fun w293 hL294 => ?_) gn
     have hp295 : List.Perm ([.box g2 Tb3 [.string r282.2.text, .int .i64 r282.2.at_, .slice A284 n285 c286, .int .i64 r282.2.in_, .int .i64 r282.2.code], .own (.slice A284 n285 c286) 31 4 n285 (r282.2.out.flatMap eJN), .own (.slice (some ⟨gb34, 0, none⟩) 1 1) 31 4 1 (([(⟨0, x10, (⟨#[]⟩ : ByteArray), 0⟩ : JNd)] : List JNd).flatMap eJN), .box gb11 31 [.int .i64 5, .string x10, .string (⟨#[]⟩ : ByteArray), .int .i64 0]] : List Ent) (([.box g2 Tb3 [.string r282.2.text, .int .i64 r282.2.at_, .slice A284 n285 c286, .int .i64 r282.2.in_, .int .i64 r282.2.code], .own (.slice A284 n285 c286) 31 4 n285 (r282.2.out.flatMap eJN)] : List Ent) ++ ([.own (.slice (some ⟨gb34, 0, none⟩) 1 1) 31 4 1 (([(⟨0, x10, (⟨#[]⟩ : ByteArray), 0⟩ : JNd)] : List JNd).flatMap eJN), .box gb11 31 [.int .i64 5, .string x10, .string (⟨#[]⟩ : ByteArray), .int .i64 0]] : List Ent)) := pIx [0, 1] [2, 3] rfl rfl (by kernel_rfl)
     refine Calls.mono (jps_str_calls w293 (Fl ([] : List Snap)) r282.2 g2 Tb3 z8 A284 n285 c286 (Nat.le_trans hz9 hL294.env.size) h287 (hL294.tt hp295 hG3 (me 1 rfl)) (hL294.hFl (Sl := ([] : List Snap)) hp295 (sels [] rfl)) (hL294.into hp295 (Fl ([] : List Snap))) r296 hv297) ?_
     rintro _ w303 ⟨A298, n299, c300, rfl, hM304, h301⟩
     have hL305 := hL294.call hp295 hM304
     refine ⟨_, _, _, rfl, hL305, ?_⟩
     refine wl_v 2 rfl (vMv rfl) gn rfl ?_
     refine wl_v 3 rfl (v_extract rfl rfl) gn rfl ?_
     refine wl_v 4 rfl (v_extract rfl rfl) gn rfl ?_
     refine wl_v 5 rfl (vFB fo_31_2 rfl) gn rfl ?_
     refine wl_s 6 rfl (s_stB (vs := [.string r296.1]) (cs' := [.int .i64 5, .string x10, .string r296.1, .int .i64 0]) (M' := [.box g2 Tb3 [.string r296.2.2.text, .int .i64 r296.2.2.at_, .slice A298 n299 c300, .int .i64 r296.2.2.in_, .int .i64 r296.2.2.code], .own (.slice A298 n299 c300) 31 4 n299 (r296.2.2.out.flatMap eJN), .own (.slice (some ⟨gb34, 0, none⟩) 1 1) 31 4 1 (([(⟨0, x10, (⟨#[]⟩ : ByteArray), 0⟩ : JNd)] : List JNd).flatMap eJN), .box gb11 31 [.int .i64 5, .string x10, .string r296.1, .int .i64 0]]) 3 sz_9 rfl rfl rfl rfl rfl rfl rfl rfl rfl ?_) gn
     refine wl_v 7 rfl (vAs rfl) gn rfl ?_
     refine w_end 8 rfl ?_
     refine gFr 3 rfl ?_
     refine gFr 1 rfl ?_
     refine gFr 2 rfl ?_
     exact g_go [0, 1] (j1 r296.2.1 r296.2.2.text r296.2.2.at_ r296.2.2.out r296.2.2.in_ r296.2.2.code 5 r296.1 0 h A298 n299 c300 h301) ⟨rfl, rfl, rfl, rfl, trivial⟩ (.cons_cons _ (.cons_cons _ (.cons_cons _ (.cons _ (.slnil))))) rfl
    ·have h := if_neg' hp292 h
     refine gFa (c := q44c29) rfl _ rfl ((bf hp292)) ?_
     refine gSq (c := q44c31) rfl ?_
     refine gRg (c := q44c34) rfl rfl ?_
     refine wl_v 0 rfl (vMv rfl) gn rfl ?_
     obtain ⟨r309, hv310, h⟩ := h
     refine wl_s 1 rfl (sCl [.pointer (some ⟨g2, 0, none⟩), .string (⟨#[91, 123]⟩ : ByteArray)] rfl Tryd.func55 rfl rfl rfl fun w306 hL307 => ?_) gn
     have hp308 : List.Perm ([.box g2 Tb3 [.string r282.2.text, .int .i64 r282.2.at_, .slice A284 n285 c286, .int .i64 r282.2.in_, .int .i64 r282.2.code], .own (.slice A284 n285 c286) 31 4 n285 (r282.2.out.flatMap eJN), .own (.slice (some ⟨gb34, 0, none⟩) 1 1) 31 4 1 (([(⟨0, x10, (⟨#[]⟩ : ByteArray), 0⟩ : JNd)] : List JNd).flatMap eJN), .box gb11 31 [.int .i64 0, .string x10, .string (⟨#[]⟩ : ByteArray), .int .i64 0]] : List Ent) (([.box g2 Tb3 [.string r282.2.text, .int .i64 r282.2.at_, .slice A284 n285 c286, .int .i64 r282.2.in_, .int .i64 r282.2.code], .own (.slice A284 n285 c286) 31 4 n285 (r282.2.out.flatMap eJN)] : List Ent) ++ ([.own (.slice (some ⟨gb34, 0, none⟩) 1 1) 31 4 1 (([(⟨0, x10, (⟨#[]⟩ : ByteArray), 0⟩ : JNd)] : List JNd).flatMap eJN), .box gb11 31 [.int .i64 0, .string x10, .string (⟨#[]⟩ : ByteArray), .int .i64 0]] : List Ent)) := pIx [0, 1] [2, 3] rfl rfl (by kernel_rfl)
     refine Calls.mono (jps_is_calls w306 (Fl ([] : List Snap)) r282.2 (⟨#[91, 123]⟩ : ByteArray) g2 Tb3 z8 A284 n285 c286 (Nat.le_trans hz9 hL307.env.size) h287 (hL307.hFl (Sl := ([] : List Snap)) hp308 (sels [] rfl)) (hL307.into hp308 (Fl ([] : List Snap))) r309 hv310) ?_
     rintro _ w316 ⟨A311, n312, c313, rfl, hM317, h314⟩
     have hL318 := hL307.call hp308 hM317
     refine ⟨_, _, _, rfl, hL318, ?_⟩
     refine wl_v 2 rfl (vAs rfl) gn rfl ?_
     refine w_end 3 rfl ?_
     by_cases hp319 : r309.1 = true
     ·have h := if_pos' hp319 h
      refine gTr (c := q44c35) rfl _ rfl (hp319) ?_
      refine gSq (c := q44c36) rfl ?_
      refine gSq (c := q44c38) rfl ?_
      refine gRg (c := q44c40) rfl rfl ?_
      refine wl_v 0 rfl (vMv rfl) gn rfl ?_
      refine wl_v 1 rfl (vNc rfl) gn rfl ?_
      refine wl_v 2 rfl (vFB fo_70_3 rfl) gn rfl ?_
      refine wl_v 3 rfl (v_ldB1 0 ld_3 rfl rfl rfl) gn rfl ?_
      refine wl_v 4 rfl (vBn rfl rfl rfl) gn rfl ?_
      refine w_end 5 rfl ?_
      by_cases hp320 : r309.2.in_ = 64
      ·have h := if_pos' hp320 h
       refine gTr (c := q44c41) rfl _ rfl ((eqi hp320)) ?_
       refine gSq (c := q44c42) rfl ?_
       refine gRg (c := q44c44) rfl rfl ?_
       refine wl_v 0 rfl (vMv rfl) gn rfl ?_
       refine wl_v 1 rfl (vNc rfl) gn rfl ?_
       refine wl_v 2 rfl (vFB fo_70_4 rfl) gn rfl ?_
       refine wl_s 3 rfl (s_stB (vs := [.int .i64 251]) (cs' := [.string r309.2.text, .int .i64 r309.2.at_, .slice A311 n312 c313, .int .i64 r309.2.in_, .int .i64 251]) (M' := [.box g2 Tb3 [.string r309.2.text, .int .i64 r309.2.at_, .slice A311 n312 c313, .int .i64 r309.2.in_, .int .i64 251], .own (.slice A311 n312 c313) 31 4 n312 (r309.2.out.flatMap eJN), .own (.slice (some ⟨gb34, 0, none⟩) 1 1) 31 4 1 (([(⟨0, x10, (⟨#[]⟩ : ByteArray), 0⟩ : JNd)] : List JNd).flatMap eJN), .box gb11 31 [.int .i64 0, .string x10, .string (⟨#[]⟩ : ByteArray), .int .i64 0]]) 0 sz_34 rfl rfl rfl rfl rfl rfl rfl rfl rfl ?_) gn
       refine w_end 4 rfl ?_
       refine gSq (c := q44c45) rfl ?_
       refine gRg (c := q44c46) rfl rfl ?_
       refine wl_v 0 rfl (vAs rfl) gn rfl ?_
       refine w_end 1 rfl ?_
       refine g_retR (c := q44c47) [.bool false] rfl Tryd.func44 rfl (.tmp rfl (.nil)) fun wr hLr => ?_
       have hMr : B.Loc w wr [.box g2 Tb3 [.string r309.2.text, .int .i64 r309.2.at_, .slice A311 n312 c313, .int .i64 r309.2.in_, .int .i64 251], .own (.slice A311 n312 c313) 31 4 n312 (r309.2.out.flatMap eJN)] [St w [[g2], (Value.slice A4 n5 c6).ownBlock.toList]] := hLr.pick (rest := [.own (.slice (some ⟨gb34, 0, none⟩) 1 1) 31 4 1 (([(⟨0, x10, (⟨#[]⟩ : ByteArray), 0⟩ : JNd)] : List JNd).flatMap eJN), .box gb11 31 [.int .i64 0, .string x10, .string (⟨#[]⟩ : ByteArray), .int .i64 0]]) (pIx [0, 1] [2, 3] rfl rfl (by kernel_rfl)) (sels [1] rfl)
       show jps_value_R w F g2 Tb3 A4 n5 c6 z8 r (.returned (packV [.bool false])) wr
       rw [h]
       exact ⟨A311, n312, c313, rfl, hMr, h314⟩
      ·have h := if_neg' hp320 h
       refine gFa (c := q44c41) rfl _ rfl ((nei hp320)) ?_
       refine g_skip (c := q44c43) rfl ?_
       refine gSq (c := q44c39) rfl ?_
       refine gRg (c := q44c48) rfl rfl ?_
       refine wl_v 0 rfl (vMv rfl) gn rfl ?_
       refine wl_v 1 rfl (vNc rfl) gn rfl ?_
       refine wl_v 2 rfl (vFB fo_70_3 rfl) gn rfl ?_
       refine wl_v 3 rfl (v_ldB1 0 ld_3 rfl rfl rfl) gn rfl ?_
       refine wl_v 4 rfl (vBn rfl rfl rfl) gn rfl ?_
       refine wl_v 5 rfl (vNc rfl) gn rfl ?_
       refine wl_v 6 rfl (vFB fo_70_3 rfl) gn rfl ?_
       refine wl_s 7 rfl (s_stB (vs := [.int .i64 (w64 (r309.2.in_ + 1))]) (cs' := [.string r309.2.text, .int .i64 r309.2.at_, .slice A311 n312 c313, .int .i64 (w64 (r309.2.in_ + 1)), .int .i64 r309.2.code]) (M' := [.box g2 Tb3 [.string r309.2.text, .int .i64 r309.2.at_, .slice A311 n312 c313, .int .i64 (w64 (r309.2.in_ + 1)), .int .i64 r309.2.code], .own (.slice A311 n312 c313) 31 4 n312 (r309.2.out.flatMap eJN), .own (.slice (some ⟨gb34, 0, none⟩) 1 1) 31 4 1 (([(⟨0, x10, (⟨#[]⟩ : ByteArray), 0⟩ : JNd)] : List JNd).flatMap eJN), .box gb11 31 [.int .i64 0, .string x10, .string (⟨#[]⟩ : ByteArray), .int .i64 0]]) 0 sz_3 rfl rfl rfl rfl rfl rfl rfl rfl rfl ?_) gn
       refine w_end 8 rfl ?_
       refine gSq (c := q44c49) rfl ?_
       refine gRg (c := q44c50) rfl rfl ?_
       refine wl_v 0 rfl (vMv rfl) gn rfl ?_
       obtain ⟨r324, hv325, h⟩ := h
       refine wl_s 1 rfl (sCl [.pointer (some ⟨g2, 0, none⟩)] rfl Tryd.func58 rfl rfl rfl fun w321 hL322 => ?_) gn
       have hp323 : List.Perm ([.box g2 Tb3 [.string r309.2.text, .int .i64 r309.2.at_, .slice A311 n312 c313, .int .i64 (w64 (r309.2.in_ + 1)), .int .i64 r309.2.code], .own (.slice A311 n312 c313) 31 4 n312 (r309.2.out.flatMap eJN), .own (.slice (some ⟨gb34, 0, none⟩) 1 1) 31 4 1 (([(⟨0, x10, (⟨#[]⟩ : ByteArray), 0⟩ : JNd)] : List JNd).flatMap eJN), .box gb11 31 [.int .i64 0, .string x10, .string (⟨#[]⟩ : ByteArray), .int .i64 0]] : List Ent) (([.box g2 Tb3 [.string r309.2.text, .int .i64 r309.2.at_, .slice A311 n312 c313, .int .i64 (w64 (r309.2.in_ + 1)), .int .i64 r309.2.code], .own (.slice A311 n312 c313) 31 4 n312 (r309.2.out.flatMap eJN)] : List Ent) ++ ([.own (.slice (some ⟨gb34, 0, none⟩) 1 1) 31 4 1 (([(⟨0, x10, (⟨#[]⟩ : ByteArray), 0⟩ : JNd)] : List JNd).flatMap eJN), .box gb11 31 [.int .i64 0, .string x10, .string (⟨#[]⟩ : ByteArray), .int .i64 0]] : List Ent)) := pIx [0, 1] [2, 3] rfl rfl (by kernel_rfl)
       refine Calls.mono (ih_json_parser_many w321 (Fl ([] : List Snap)) (⟨r309.2.text, r309.2.at_, r309.2.out, w64 (r309.2.in_ + 1), r309.2.code⟩ : jps) g2 Tb3 z8 A311 n312 c313 (Nat.le_trans hz9 hL322.env.size) h314 (hL322.tt hp323 hG3 (me 1 rfl)) (hL322.hFl (Sl := ([] : List Snap)) hp323 (sels [] rfl)) (hL322.into hp323 (Fl ([] : List Snap))) r324 hv325) ?_
       rintro _ w331 ⟨A326, n327, c328, rfl, hM332, h329⟩
       have hL333 := hL322.call hp323 hM332
       refine ⟨_, _, _, rfl, hL333, ?_⟩
       refine wl_v 2 rfl (vMv rfl) gn rfl ?_
       refine wl_v 3 rfl (v_extract rfl rfl) gn rfl ?_
       refine wl_v 4 rfl (v_extract rfl rfl) gn rfl ?_
       refine wl_v 5 rfl (v_extract rfl rfl) gn rfl ?_
       refine wl_v 6 rfl (vFB fo_31_0 rfl) gn rfl ?_
       refine wl_s 7 rfl (s_stB (vs := [.int .i64 r324.1]) (cs' := [.int .i64 r324.1, .string x10, .string (⟨#[]⟩ : ByteArray), .int .i64 0]) (M' := [.box g2 Tb3 [.string r324.2.2.2.text, .int .i64 r324.2.2.2.at_, .slice A326 n327 c328, .int .i64 r324.2.2.2.in_, .int .i64 r324.2.2.2.code], .own (.slice A326 n327 c328) 31 4 n327 (r324.2.2.2.out.flatMap eJN), .own (.slice (some ⟨gb34, 0, none⟩) 1 1) 31 4 1 (([(⟨0, x10, (⟨#[]⟩ : ByteArray), 0⟩ : JNd)] : List JNd).flatMap eJN), .box gb11 31 [.int .i64 r324.1, .string x10, .string (⟨#[]⟩ : ByteArray), .int .i64 0]]) 3 sz_29 rfl rfl rfl rfl rfl rfl rfl rfl rfl ?_) gn
       refine wl_v 8 rfl (vFB fo_31_3 rfl) gn rfl ?_
       refine wl_s 9 rfl (s_stB (vs := [.int .i64 r324.2.1]) (cs' := [.int .i64 r324.1, .string x10, .string (⟨#[]⟩ : ByteArray), .int .i64 r324.2.1]) (M' := [.box g2 Tb3 [.string r324.2.2.2.text, .int .i64 r324.2.2.2.at_, .slice A326 n327 c328, .int .i64 r324.2.2.2.in_, .int .i64 r324.2.2.2.code], .own (.slice A326 n327 c328) 31 4 n327 (r324.2.2.2.out.flatMap eJN), .own (.slice (some ⟨gb34, 0, none⟩) 1 1) 31 4 1 (([(⟨0, x10, (⟨#[]⟩ : ByteArray), 0⟩ : JNd)] : List JNd).flatMap eJN), .box gb11 31 [.int .i64 r324.1, .string x10, .string (⟨#[]⟩ : ByteArray), .int .i64 r324.2.1]]) 3 sz_3 rfl rfl rfl rfl rfl rfl rfl rfl rfl ?_) gn
       refine wl_v 10 rfl (vAs rfl) gn rfl ?_
       refine w_end 11 rfl ?_
       refine gRg (c := q44c51) rfl rfl ?_
       refine wl_v 0 rfl (vMv rfl) gn rfl ?_
       refine wl_v 1 rfl (vNc rfl) gn rfl ?_
       refine wl_v 2 rfl (vFB fo_70_3 rfl) gn rfl ?_
       refine wl_v 3 rfl (v_ldB1 0 ld_3 rfl rfl rfl) gn rfl ?_
       refine wl_v 4 rfl (vBn rfl rfl rfl) gn rfl ?_
       refine wl_v 5 rfl (vNc rfl) gn rfl ?_
       refine wl_v 6 rfl (vFB fo_70_3 rfl) gn rfl ?_
       refine wl_s 7 rfl (s_stB (vs := [.int .i64 (w64 (r324.2.2.2.in_ - 1))]) (cs' := [.string r324.2.2.2.text, .int .i64 r324.2.2.2.at_, .slice A326 n327 c328, .int .i64 (w64 (r324.2.2.2.in_ - 1)), .int .i64 r324.2.2.2.code]) (M' := [.box g2 Tb3 [.string r324.2.2.2.text, .int .i64 r324.2.2.2.at_, .slice A326 n327 c328, .int .i64 (w64 (r324.2.2.2.in_ - 1)), .int .i64 r324.2.2.2.code], .own (.slice A326 n327 c328) 31 4 n327 (r324.2.2.2.out.flatMap eJN), .own (.slice (some ⟨gb34, 0, none⟩) 1 1) 31 4 1 (([(⟨0, x10, (⟨#[]⟩ : ByteArray), 0⟩ : JNd)] : List JNd).flatMap eJN), .box gb11 31 [.int .i64 r324.1, .string x10, .string (⟨#[]⟩ : ByteArray), .int .i64 r324.2.1]]) 0 sz_3 rfl rfl rfl rfl rfl rfl rfl rfl rfl ?_) gn
       refine w_end 8 rfl ?_
       refine gFr 3 rfl ?_
       refine gFr 1 rfl ?_
       refine gFr 2 rfl ?_
       exact g_go [0, 1] (j1 r324.2.2.1 r324.2.2.2.text r324.2.2.2.at_ r324.2.2.2.out (w64 (r324.2.2.2.in_ - 1)) r324.2.2.2.code r324.1 (⟨#[]⟩ : ByteArray) r324.2.1 h A326 n327 c328 h329) ⟨rfl, rfl, rfl, rfl, trivial⟩ (.cons_cons _ (.cons_cons _ (.cons_cons _ (.cons _ (.slnil))))) rfl
     ·have h := if_neg' hp319 h
      refine gFa (c := q44c35) rfl _ rfl ((bf hp319)) ?_
      refine gSq (c := q44c37) rfl ?_
      refine gRg (c := q44c52) rfl rfl ?_
      refine wl_v 0 rfl (vMv rfl) gn rfl ?_
      obtain ⟨r337, hv338, h⟩ := h
      refine wl_s 1 rfl (sCl [.pointer (some ⟨g2, 0, none⟩)] rfl Tryd.func59 rfl rfl rfl fun w334 hL335 => ?_) gn
      have hp336 : List.Perm ([.box g2 Tb3 [.string r309.2.text, .int .i64 r309.2.at_, .slice A311 n312 c313, .int .i64 r309.2.in_, .int .i64 r309.2.code], .own (.slice A311 n312 c313) 31 4 n312 (r309.2.out.flatMap eJN), .own (.slice (some ⟨gb34, 0, none⟩) 1 1) 31 4 1 (([(⟨0, x10, (⟨#[]⟩ : ByteArray), 0⟩ : JNd)] : List JNd).flatMap eJN), .box gb11 31 [.int .i64 0, .string x10, .string (⟨#[]⟩ : ByteArray), .int .i64 0]] : List Ent) (([.box g2 Tb3 [.string r309.2.text, .int .i64 r309.2.at_, .slice A311 n312 c313, .int .i64 r309.2.in_, .int .i64 r309.2.code], .own (.slice A311 n312 c313) 31 4 n312 (r309.2.out.flatMap eJN)] : List Ent) ++ ([.own (.slice (some ⟨gb34, 0, none⟩) 1 1) 31 4 1 (([(⟨0, x10, (⟨#[]⟩ : ByteArray), 0⟩ : JNd)] : List JNd).flatMap eJN), .box gb11 31 [.int .i64 0, .string x10, .string (⟨#[]⟩ : ByteArray), .int .i64 0]] : List Ent)) := pIx [0, 1] [2, 3] rfl rfl (by kernel_rfl)
      refine Calls.mono (jps_number_calls w334 (Fl ([] : List Snap)) r309.2 g2 Tb3 z8 A311 n312 c313 (Nat.le_trans hz9 hL335.env.size) h314 (hL335.hFl (Sl := ([] : List Snap)) hp336 (sels [] rfl)) (hL335.into hp336 (Fl ([] : List Snap))) r337 hv338) ?_
      rintro _ w344 ⟨A339, n340, c341, rfl, hM345, h342⟩
      have hL346 := hL335.call hp336 hM345
      refine ⟨_, _, _, rfl, hL346, ?_⟩
      refine wl_v 2 rfl (vFB fo_31_0 rfl) gn rfl ?_
      refine wl_s 3 rfl (s_stB (vs := [.int .i64 4]) (cs' := [.int .i64 4, .string x10, .string (⟨#[]⟩ : ByteArray), .int .i64 0]) (M' := [.box g2 Tb3 [.string r337.2.text, .int .i64 r337.2.at_, .slice A339 n340 c341, .int .i64 r337.2.in_, .int .i64 r337.2.code], .own (.slice A339 n340 c341) 31 4 n340 (r337.2.out.flatMap eJN), .own (.slice (some ⟨gb34, 0, none⟩) 1 1) 31 4 1 (([(⟨0, x10, (⟨#[]⟩ : ByteArray), 0⟩ : JNd)] : List JNd).flatMap eJN), .box gb11 31 [.int .i64 4, .string x10, .string (⟨#[]⟩ : ByteArray), .int .i64 0]]) 3 sz_29 rfl rfl rfl rfl rfl rfl rfl rfl rfl ?_) gn
      refine wl_v 4 rfl (vAs rfl) gn rfl ?_
      refine w_end 5 rfl ?_
      obtain ⟨hb347, h⟩ := h
      have hns : Region.noSelect (Code.ops q44c53) = true := by kernel_rfl
      refine g_drawF (c := q44c53) [.box g2 Tb3 [.string r337.2.text, .int .i64 r337.2.at_, .slice A339 n340 c341, .int .i64 r337.2.in_, .int .i64 r337.2.code], .own (.slice A339 n340 c341) 31 4 n340 (r337.2.out.flatMap eJN), .own (.slice (some ⟨gb34, 0, none⟩) 1 1) 31 4 1 (([(⟨0, x10, (⟨#[]⟩ : ByteArray), 0⟩ : JNd)] : List JNd).flatMap eJN), .box gb11 31 [.int .i64 4, .string x10, .string (⟨#[]⟩ : ByteArray), .int .i64 0]] [Sm w.heap.size F w [[g2], (Value.slice A4 n5 c6).ownBlock.toList], St w [[g2], (Value.slice A4 n5 c6).ownBlock.toList]] [11] 12 rfl rfl mix rfl (.cons_cons _ (.cons_cons _ (.cons_cons _ (.cons_cons _ (.slnil))))) (sels [0, 1] rfl) ?_
      refine wfv 0 rfl (vMv rfl) gn hns (by kernel_rfl) ?_
      refine wfv 1 rfl (vNc rfl) gn hns (by kernel_rfl) ?_
      refine wfv 2 rfl (vFB fo_70_0 rfl) gn hns (by kernel_rfl) ?_
      refine wfv 3 rfl (v_ldB1 0 ld_9 rfl rfl rfl) gn hns (by kernel_rfl) ?_
      refine wfv 4 rfl (vMv rfl) gn hns (by kernel_rfl) ?_
      refine wfv 5 rfl (vMv rfl) gn hns (by kernel_rfl) ?_
      refine wfv 6 rfl (vNc rfl) gn hns (by kernel_rfl) ?_
      refine wfv 7 rfl (vFB fo_70_1 rfl) gn hns (by kernel_rfl) ?_
      refine wfv 8 rfl (v_ldB1 0 ld_3 rfl rfl rfl) gn hns (by kernel_rfl) ?_
      refine wfv 9 rfl (v_cutS x1.at_ r337.2.at_ un_9 rfl (.inr ⟨_, _, rfl, rfl⟩) (.inr ⟨_, _, rfl, rfl⟩) ⟨hb347.1, hb347.2.1⟩ hb347.2.2) gn hns (by kernel_rfl) ?_
      refine wfv 10 rfl (vFB fo_31_2 rfl) gn hns (by kernel_rfl) ?_
      refine wf_all [11] (by kernel_rfl) rfl ⟨on_l 11 rfl gn rfl (s_stB (vs := [.string (r337.2.text.extract (x1.at_ : Int).toNat (r337.2.at_ : Int).toNat)]) (cs' := [.int .i64 4, .string x10, .string (r337.2.text.extract (x1.at_ : Int).toNat (r337.2.at_ : Int).toNat), .int .i64 0]) (M' := [.box g2 Tb3 [.string r337.2.text, .int .i64 r337.2.at_, .slice A339 n340 c341, .int .i64 r337.2.in_, .int .i64 r337.2.code], .own (.slice A339 n340 c341) 31 4 n340 (r337.2.out.flatMap eJN), .own (.slice (some ⟨gb34, 0, none⟩) 1 1) 31 4 1 (([(⟨0, x10, (⟨#[]⟩ : ByteArray), 0⟩ : JNd)] : List JNd).flatMap eJN), .box gb11 31 [.int .i64 4, .string x10, .string (r337.2.text.extract (x1.at_ : Int).toNat (r337.2.at_ : Int).toNat), .int .i64 0]]) 3 sz_9 rfl rfl rfl rfl rfl rfl rfl rfl rfl ?_), trivial⟩
      unfold NxL
      refine wf_end (by kernel_rfl) ?_
      refine gFr 3 rfl ?_
      refine gFr 1 rfl ?_
      refine gFr 2 rfl ?_
      exact g_go [0, 1] (j1 r337.1 r337.2.text r337.2.at_ r337.2.out r337.2.in_ r337.2.code 4 (r337.2.text.extract (x1.at_ : Int).toNat (r337.2.at_ : Int).toNat) 0 h A339 n340 c341 h342) ⟨rfl, rfl, rfl, rfl, trivial⟩ (.cons_cons _ (.cons_cons _ (.cons_cons _ (.cons _ (.slnil))))) rfl
theorem jps_many_ind : ∀ n, jps_many_st (jps_many_n n) ∧ jps_value_st (jps_value_n n)
 | 0 => ⟨fun w F x1 g2 Tb3 z8 A4 n5 c6 hz9 h7 hG3 hF hL0 r h => h.elim, fun w F x1 x10 g2 Tb3 z8 A4 n5 c6 hz9 h7 hG3 hF hL0 r h => h.elim⟩
 | n + 1 => by
  have ih := jps_many_ind n
  exact ⟨jps_many_step _ _ ih.1 ih.2, jps_value_step _ _ ih.1 ih.2⟩
theorem jps_value_calls (w : World) (F : Nat → Prop) (x1 : jps) (x10 : ByteArray) (g2 : Nat) (Tb3 : Nat) (z8 : Nat) (A4 : Option Addr) (n5 : Nat) (c6 : Nat) (hz9 : z8 ≤ w.heap.size) (h7 : Ow z8 A4 n5 c6 x1.out) (hG3 : Tt .u8 tb_3 3 (St w [[g2], (Value.slice A4 n5 c6).ownBlock.toList])) (hF : ∀ b, F b → b < w.heap.size ∧ ∀ o ∈ ([[g2], (Value.slice A4 n5 c6).ownBlock.toList] : List (List Nat)), b ∉ o) (hL0 : B.Loc w w [.box g2 Tb3 [.string x1.text, .int .i64 x1.at_, .slice A4 n5 c6, .int .i64 x1.in_, .int .i64 x1.code], .own (.slice A4 n5 c6) 31 4 n5 (x1.out.flatMap eJN)] [Sm w.heap.size F w [[g2], (Value.slice A4 n5 c6).ownBlock.toList], St w [[g2], (Value.slice A4 n5 c6).ownBlock.toList]]) (r : Bool × jps) (h : jps_value x1 x10 r) : Calls Tryd.prog 44 #[.pointer (some ⟨g2, 0, none⟩), .string x10] w (jps_value_R w F g2 Tb3 A4 n5 c6 z8 r) := by
 obtain ⟨n, h⟩ := h
 exact (jps_many_ind n).2 w F x1 x10 g2 Tb3 z8 A4 n5 c6 hz9 h7 hG3 hF hL0 r h
noncomputable abbrev q25c0 : Code := bodyOf Tryd.f25
noncomputable abbrev q25c1 := Code.fst q25c0
noncomputable abbrev q25c2 := Code.snd q25c0
noncomputable abbrev q25c3 := Code.fst q25c2
noncomputable abbrev q25c4 := Code.snd q25c2
noncomputable abbrev q25c5 := Code.fst q25c4
noncomputable abbrev q25c6 := Code.snd q25c4
noncomputable abbrev q25c7 := Code.fst q25c6
noncomputable abbrev q25c8 := Code.snd q25c6
noncomputable abbrev q25c9 := Code.fst q25c8
noncomputable abbrev q25c10 := Code.snd q25c8
noncomputable abbrev q25c11 := Code.fst q25c9
noncomputable abbrev q25c12 := Code.snd q25c9
noncomputable abbrev q25c13 := Code.fst q25c12
noncomputable abbrev q25c14 := Code.snd q25c12
noncomputable abbrev q25c15 := Code.fst q25c13
noncomputable abbrev q25c16 := Code.snd q25c13
noncomputable abbrev q25c17 := Code.fst q25c10
noncomputable abbrev q25c18 := Code.snd q25c10
noncomputable abbrev q25c19 := Code.fst q25c17
noncomputable abbrev q25c20 := Code.snd q25c17
noncomputable abbrev q25c21 := Code.fst q25c20
noncomputable abbrev q25c22 := Code.snd q25c20
noncomputable abbrev q25c23 := Code.fst q25c18
noncomputable abbrev q25c24 := Code.snd q25c18
noncomputable abbrev q25c25 := Code.fst q25c21
noncomputable abbrev q25c26 := Code.snd q25c21
abbrev json_Parse_R (w : World) (F : Nat → Prop) (r : (List JNd) × Int × Int) : Ending → World → Prop := fun e w' => ∃ A0 : Option Addr, ∃ n0 : Nat, ∃ c0 : Nat, e = .returned (.tuple #[.slice A0 n0 c0, .int .i64 r.2.1, .int .i64 r.2.2]) ∧ B.Loc w w' [.own (.slice A0 n0 c0) 31 4 n0 (r.1.flatMap eJN)] [St w []] ∧ Ow w.heap.size A0 n0 c0 r.1
noncomputable abbrev json_Parse_C (w : World) (F : Nat → Prop) (r : (List JNd) × Int × Int) : Cx := ⟨Tryd.prog, 25, Tryd.f25, 38, json_Parse_R w F  r, w⟩
theorem json_Parse_calls (w : World) (F : Nat → Prop) (x1 : ByteArray) (hG3 : Tt .u8 tb_3 3 (St w [])) (hF : ∀ b, F b → b < w.heap.size ∧ ∀ o ∈ ([] : List (List Nat)), b ∉ o) (hL0 : B.Loc w w [] [Sm w.heap.size F w [], St w []]) (r : (List JNd) × Int × Int) (h : json_Parse x1 r) : Calls Tryd.prog 25 #[.string x1] w (json_Parse_R w F  r) := by
 unfold json_Parse at h
 refine calls_of_Loc (vs := [.string x1]) 38 Tryd.func25 rfl Tryd.ntmps25 rfl hL0 ?_
 show G (json_Parse_C w F r) _ _ _ _
 refine gSq (c := q25c0) rfl ?_
 refine gRg (c := q25c1) rfl rfl ?_
 refine wl_v 0 rfl (vAs rfl) gn rfl ?_
 refine wl_v 1 rfl (vAs rfl) gn rfl ?_
 refine wl_v 2 rfl (vAs rfl) gn rfl ?_
 refine w_end 3 rfl ?_
 refine gSq (c := q25c2) rfl ?_
 refine gRg (c := q25c3) rfl rfl ?_
 refine wl_v 0 rfl (vMv rfl) gn rfl ?_
 refine wl_v 1 rfl (v_build #[.string x1, .int .i64 0, .slice none 0 0, .int .i64 0, .int .i64 250] bd_70 rfl (by kernel_rfl)) gn rfl ?_
 refine wl_s 2 rfl (s_box [.string x1, .int .i64 0, .slice none 0 0, .int .i64 0, .int .i64 250] rfl rfl rfl fun gb2 => ?_) gn
 refine wl_v 3 rfl (vAs rfl) gn rfl ?_
 refine w_end 4 rfl ?_
 refine gSq (c := q25c4) rfl ?_
 refine gRg (c := q25c5) rfl rfl ?_
 refine wl_v 0 rfl (vMv rfl) gn rfl ?_
 obtain ⟨r8, hv9, h⟩ := h
 refine w_nil 31 4 ?_
 refine wl_s 1 rfl (sCl [.pointer (some ⟨gb2, 0, none⟩)] rfl Tryd.func43 rfl rfl rfl fun w4 hL5 => ?_) gn
 have hp6 : List.Perm ([.own (.slice none 0 0) 31 4 0 (([] : List JNd).flatMap eJN), .box gb2 70 [.string x1, .int .i64 0, .slice none 0 0, .int .i64 0, .int .i64 250]] : List Ent) (([.box gb2 70 [.string x1, .int .i64 0, .slice none 0 0, .int .i64 0, .int .i64 250], .own (.slice none 0 0) 31 4 0 (([] : List JNd).flatMap eJN)] : List Ent) ++ ([] : List Ent)) := pIx [1, 0] [] rfl rfl (by kernel_rfl)
 refine Calls.mono (jps_blanks_calls w4 (Fl ([] : List Snap)) (⟨x1, 0, ([] : List JNd), 0, 250⟩ : jps) gb2 70 w.heap.size none 0 0 hL5.env.size (Ow.nil (z := w.heap.size)) (hL5.hFl (Sl := ([] : List Snap)) hp6 (sels [] rfl)) (hL5.into hp6 (Fl ([] : List Snap))) r8 hv9) ?_
 rintro _ w15 ⟨A10, n11, c12, rfl, hM16, h13⟩
 have hL17 := hL5.call hp6 hM16
 refine ⟨_, _, _, rfl, hL17, ?_⟩
 refine w_end 2 rfl ?_
 refine gSq (c := q25c6) rfl ?_
 refine gRg (c := q25c7) rfl rfl ?_
 refine wl_v 0 rfl (vMv rfl) gn rfl ?_
 obtain ⟨r21, hv22, h⟩ := h
 refine wl_s 1 rfl (sCl [.pointer (some ⟨gb2, 0, none⟩), .string (⟨#[]⟩ : ByteArray)] rfl Tryd.func44 rfl rfl rfl fun w18 hL19 => ?_) gn
 have hp20 : List.Perm ([.box gb2 70 [.string r8.text, .int .i64 r8.at_, .slice A10 n11 c12, .int .i64 r8.in_, .int .i64 r8.code], .own (.slice A10 n11 c12) 31 4 n11 (r8.out.flatMap eJN)] : List Ent) (([.box gb2 70 [.string r8.text, .int .i64 r8.at_, .slice A10 n11 c12, .int .i64 r8.in_, .int .i64 r8.code], .own (.slice A10 n11 c12) 31 4 n11 (r8.out.flatMap eJN)] : List Ent) ++ ([] : List Ent)) := pIx [0, 1] [] rfl rfl (by kernel_rfl)
 refine Calls.mono (jps_value_calls w18 (Fl ([] : List Snap)) r8 (⟨#[]⟩ : ByteArray) gb2 70 w.heap.size A10 n11 c12 hL19.env.size h13 (hL19.tt hp20 hG3 (me 1 rfl)) (hL19.hFl (Sl := ([] : List Snap)) hp20 (sels [] rfl)) (hL19.into hp20 (Fl ([] : List Snap))) r21 hv22) ?_
 rintro _ w28 ⟨A23, n24, c25, rfl, hM29, h26⟩
 have hL30 := hL19.call hp20 hM29
 refine ⟨_, _, _, rfl, hL30, ?_⟩
 refine wl_v 2 rfl (vAs rfl) gn rfl ?_
 refine w_end 3 rfl ?_
 refine gSq (c := q25c8) rfl ?_
 refine gSq (c := q25c9) rfl ?_
 refine gRg (c := q25c11) rfl rfl ?_
 refine wl_v 0 rfl (vMv rfl) gn rfl ?_
 refine w_end 1 rfl ?_
 have j1 : ∀ (x46 : Bool) (x47 : ByteArray) (x48 : Int) (x49 : List JNd) (x54 : Int) (x55 : Int) (h : json_Parse_j1 x46 x48 x49 x55 r) (A50 : Option Addr) (n51 : Nat) (c52 : Nat) (h53 : Ow w.heap.size A50 n51 c52 x49), G (json_Parse_C w F r) [.code q25c10] [(5, .pointer (some ⟨gb2, 0, none⟩)), (6, .bool x46)] [.own (.slice A50 n51 c52) 31 4 n51 (x49.flatMap eJN), .box gb2 70 [.string x47, .int .i64 x48, .slice A50 n51 c52, .int .i64 x54, .int .i64 x55]] [Sm w.heap.size F w [], St w []] := by
  intro x46 x47 x48 x49 x54 x55 h A50 n51 c52 h53
  unfold json_Parse_j1 at h
  refine gSq (c := q25c10) rfl ?_
  refine gSq (c := q25c17) rfl ?_
  refine gRg (c := q25c19) rfl rfl ?_
  refine wl_v 0 rfl (vMv rfl) gn rfl ?_
  refine wl_v 1 rfl (v_not rfl) gn rfl ?_
  refine w_end 2 rfl ?_
  by_cases hp56 : x46 = true
  ·have h := if_pos' hp56 h
   refine gFa (c := q25c20) rfl _ rfl ((nf hp56)) ?_
   refine g_skip (c := q25c22) rfl ?_
   refine gSq (c := q25c18) rfl ?_
   refine gRg (c := q25c23) rfl rfl ?_
   refine wl_v 0 rfl (vMv rfl) gn rfl ?_
   refine wl_v 1 rfl (vNc rfl) gn rfl ?_
   refine wl_v 2 rfl (vFB fo_70_2 rfl) gn rfl ?_
   refine wl_v 3 rfl (v_ldB1 1 ld_22 rfl rfl rfl) gn rfl ?_
   refine wl_v 4 rfl (vAs rfl) gn rfl ?_
   refine wl_v 5 rfl (vAs rfl) gn rfl ?_
   refine wl_v 6 rfl (vAs rfl) gn rfl ?_
   refine w_end 7 rfl ?_
   refine g_retR (c := q25c24) [.slice A50 n51 c52, .int .i64 0, .int .i64 0] rfl Tryd.func25 rfl (.tmp rfl (.tmp rfl (.tmp rfl (.nil)))) fun wr hLr => ?_
   have hMr : B.Loc w wr [.own (.slice A50 n51 c52) 31 4 n51 (x49.flatMap eJN)] [St w []] := hLr.pick (rest := [.box gb2 70 [.string x47, .int .i64 x48, .slice A50 n51 c52, .int .i64 x54, .int .i64 x55]]) (pIx [0] [1] rfl rfl (by kernel_rfl)) (sels [1] rfl)
   show json_Parse_R w F  r (.returned (packV [.slice A50 n51 c52, .int .i64 0, .int .i64 0])) wr
   rw [h]
   exact ⟨A50, n51, c52, rfl, hMr, h53⟩
  ·have h := if_neg' hp56 h
   refine gTr (c := q25c20) rfl _ rfl ((nt (bf hp56))) ?_
   refine gSq (c := q25c21) rfl ?_
   have hns : Region.noSelect (Code.ops q25c25) = true := by kernel_rfl
   refine g_drawF (c := q25c25) [.own (.slice A50 n51 c52) 31 4 n51 (x49.flatMap eJN), .box gb2 70 [.string x47, .int .i64 x48, .slice A50 n51 c52, .int .i64 x54, .int .i64 x55]] [Sm w.heap.size F w [], St w []] [] 11 rfl rfl mix rfl (.cons_cons _ (.cons_cons _ (.slnil))) (sels [0, 1] rfl) ?_
   refine wfv 0 rfl (vMv rfl) gn hns rfl ?_
   refine wfv 1 rfl (vNc rfl) gn hns rfl ?_
   refine wfv 2 rfl (vFB fo_70_4 rfl) gn hns rfl ?_
   refine wfv 3 rfl (v_ldB1 1 ld_34 rfl rfl rfl) gn hns rfl ?_
   refine wfv 4 rfl (vMv rfl) gn hns rfl ?_
   refine wfv 5 rfl (vNc rfl) gn hns rfl ?_
   refine wfv 6 rfl (vFB fo_70_1 rfl) gn hns rfl ?_
   refine wfv 7 rfl (v_ldB1 1 ld_3 rfl rfl rfl) gn hns rfl ?_
   refine wfv 8 rfl (vAs rfl) gn hns rfl ?_
   refine wfv 9 rfl (vAs rfl) gn hns rfl ?_
   refine wfv 10 rfl (vAs rfl) gn hns rfl ?_
   refine wf_end (by kernel_rfl) ?_
   refine g_nil 31 4 ?_
   refine g_retR (c := q25c26) [.slice none 0 0, .int .i64 x55, .int .i64 x48] rfl Tryd.func25 rfl (.tmp rfl (.tmp rfl (.tmp rfl (.nil)))) fun wr hLr => ?_
   have hMr : B.Loc w wr [.own (.slice none 0 0) 31 4 0 (([] : List JNd).flatMap eJN)] [St w []] := hLr.pick (rest := [.own (.slice A50 n51 c52) 31 4 n51 (x49.flatMap eJN), .box gb2 70 [.string x47, .int .i64 x48, .slice A50 n51 c52, .int .i64 x54, .int .i64 x55]]) (pIx [0] [1, 2] rfl rfl (by kernel_rfl)) (sels [1] rfl)
   show json_Parse_R w F  r (.returned (packV [.slice none 0 0, .int .i64 x55, .int .i64 x48])) wr
   rw [h]
   exact ⟨none, 0, 0, rfl, hMr, (Ow.nil (z := w.heap.size))⟩
 by_cases hp31 : r21.1 = true
 ·have h := if_pos' hp31 h
  refine gTr (c := q25c12) rfl _ rfl (hp31) ?_
  refine gSq (c := q25c13) rfl ?_
  refine gRg (c := q25c15) rfl rfl ?_
  refine wl_v 0 rfl (vMv rfl) gn rfl ?_
  obtain ⟨r60, hv61, h⟩ := h
  refine wl_s 1 rfl (sCl [.pointer (some ⟨gb2, 0, none⟩)] rfl Tryd.func43 rfl rfl rfl fun w57 hL58 => ?_) gn
  have hp59 : List.Perm ([.box gb2 70 [.string r21.2.text, .int .i64 r21.2.at_, .slice A23 n24 c25, .int .i64 r21.2.in_, .int .i64 r21.2.code], .own (.slice A23 n24 c25) 31 4 n24 (r21.2.out.flatMap eJN)] : List Ent) (([.box gb2 70 [.string r21.2.text, .int .i64 r21.2.at_, .slice A23 n24 c25, .int .i64 r21.2.in_, .int .i64 r21.2.code], .own (.slice A23 n24 c25) 31 4 n24 (r21.2.out.flatMap eJN)] : List Ent) ++ ([] : List Ent)) := pIx [0, 1] [] rfl rfl (by kernel_rfl)
  refine Calls.mono (jps_blanks_calls w57 (Fl ([] : List Snap)) r21.2 gb2 70 w.heap.size A23 n24 c25 hL58.env.size h26 (hL58.hFl (Sl := ([] : List Snap)) hp59 (sels [] rfl)) (hL58.into hp59 (Fl ([] : List Snap))) r60 hv61) ?_
  rintro _ w67 ⟨A62, n63, c64, rfl, hM68, h65⟩
  have hL69 := hL58.call hp59 hM68
  refine ⟨_, _, _, rfl, hL69, ?_⟩
  refine w_end 2 rfl ?_
  refine gRg (c := q25c16) rfl rfl ?_
  refine wl_v 0 rfl (vMv rfl) gn rfl ?_
  refine wl_v 1 rfl (vNc rfl) gn rfl ?_
  refine wl_v 2 rfl (vFB fo_70_1 rfl) gn rfl ?_
  refine wl_v 3 rfl (v_ldB1 0 ld_3 rfl rfl rfl) gn rfl ?_
  refine wl_v 4 rfl (vMv rfl) gn rfl ?_
  refine wl_v 5 rfl (v_lenS un_9 rfl) gn rfl ?_
  refine wl_v 6 rfl (vBn rfl rfl rfl) gn rfl ?_
  refine wl_v 7 rfl (vAs rfl) gn rfl ?_
  refine w_end 8 rfl ?_
  refine gFr 0 rfl ?_
  refine gFr 1 rfl ?_
  exact g_go [0, 1] (j1 (r60.at_ == (x1.size : Int)) r60.text r60.at_ r60.out r60.in_ r60.code h A62 n63 c64 h65) ⟨rfl, rfl, trivial⟩ (.cons_cons _ (.cons_cons _ (.slnil))) rfl
 ·have h := if_neg' hp31 h
  refine gFa (c := q25c12) rfl _ rfl ((bf hp31)) ?_
  refine g_skip (c := q25c14) rfl ?_
  refine gFr 0 rfl ?_
  refine gFr 1 rfl ?_
  exact g_go [0, 1] (j1 r21.1 r21.2.text r21.2.at_ r21.2.out r21.2.in_ r21.2.code h A23 n24 c25 h26) ⟨rfl, rfl, trivial⟩ (.cons_cons _ (.cons_cons _ (.slnil))) rfl
noncomputable abbrev q28c0 : Code := bodyOf Tryd.f28
noncomputable abbrev q28c1 := Code.fst q28c0
noncomputable abbrev q28c2 := Code.snd q28c0
noncomputable abbrev q28c3 := Code.fst q28c2
noncomputable abbrev q28c4 := Code.snd q28c2
noncomputable abbrev q28c5 := Code.fst q28c4
noncomputable abbrev q28c6 := Code.snd q28c4
noncomputable abbrev q28c7 := Code.fst q28c6
noncomputable abbrev q28c8 := Code.snd q28c6
noncomputable abbrev q28c9 := Code.fst q28c8
noncomputable abbrev q28c10 := Code.snd q28c8
abbrev tl_started_R (w : World) (F : Nat → Prop) (r : Bool) : Ending → World → Prop := fun e w' => e = .returned (.bool r) ∧ B.Loc w w' [] [St w []]
noncomputable abbrev tl_started_C (w : World) (F : Nat → Prop) (r : Bool) : Cx := ⟨Tryd.prog, 28, Tryd.f28, 68, tl_started_R w F  r, w⟩
theorem tl_started_calls (w : World) (F : Nat → Prop)  (hG0 : Tt .u8 tb_0 0 (St w [])) (hG1 : Tt .u8 tb_1 1 (St w [])) (hG2 : Tt .u8 tb_2 2 (St w [])) (hG3 : Tt .u8 tb_3 3 (St w [])) (hF : ∀ b, F b → b < w.heap.size ∧ ∀ o ∈ ([] : List (List Nat)), b ∉ o) (hL0 : B.Loc w w [] [Sm w.heap.size F w [], St w []]) (r : Bool) (h : tl_started  r) : Calls Tryd.prog 28 #[] w (tl_started_R w F  r) := by
 unfold tl_started at h
 refine calls_of_Loc (vs := []) 68 Tryd.func28 rfl Tryd.ntmps28 rfl hL0 ?_
 show G (tl_started_C w F r) _ _ _ _
 refine gSq (c := q28c0) rfl ?_
 refine gRg (c := q28c1) rfl rfl ?_
 refine wl_v 0 rfl (vAs rfl) gn rfl ?_
 refine w_end 1 rfl ?_
 refine gSq (c := q28c2) rfl ?_
 refine gRg (c := q28c3) rfl rfl ?_
 obtain ⟨r4, hv5, h⟩ := h
 refine wl_s 0 rfl (sCl [.string (⟨#[32, 123, 34, 97, 34, 58, 91, 49, 44, 34, 92, 117, 48, 48, 101, 57, 34, 93, 125]⟩ : ByteArray)] rfl Tryd.func25 rfl rfl rfl fun w1 hL2 => ?_) gn
 have hp3 : List.Perm ([] : List Ent) (([] : List Ent) ++ ([] : List Ent)) := pIx [] [] rfl rfl (by kernel_rfl)
 refine Calls.mono (json_Parse_calls w1 (Fl ([] : List Snap)) (⟨#[32, 123, 34, 97, 34, 58, 91, 49, 44, 34, 92, 117, 48, 48, 101, 57, 34, 93, 125]⟩ : ByteArray) (hL2.tt hp3 hG3 (me 1 rfl)) (hL2.hFl (Sl := ([] : List Snap)) hp3 (sels [] rfl)) (hL2.into hp3 (Fl ([] : List Snap))) r4 hv5) ?_
 rintro _ w11 ⟨A6, n7, c8, rfl, hM12, h9⟩
 have hL13 := hL2.call hp3 hM12
 refine ⟨_, _, _, rfl, hL13, ?_⟩
 refine wl_v 1 rfl (vMv rfl) gn rfl ?_
 refine wl_v 2 rfl (v_extract rfl rfl) gn rfl ?_
 refine wl_v 3 rfl (v_extract rfl rfl) gn rfl ?_
 refine wl_v 4 rfl (v_extract rfl rfl) gn rfl ?_
 refine wl_v 5 rfl (vAs rfl) gn rfl ?_
 refine wl_v 6 rfl (vAs rfl) gn rfl ?_
 refine wl_v 7 rfl (vAs rfl) gn rfl ?_
 refine w_end 8 rfl ?_
 refine gSq (c := q28c4) rfl ?_
 refine gRg (c := q28c5) rfl rfl ?_
 refine wl_v 0 rfl (vMv rfl) gn rfl ?_
 obtain ⟨r17, hv18, h⟩ := h
 refine wl_s 1 rfl (sCl [.slice A6 n7 c8] rfl Tryd.func22 rfl rfl rfl fun w14 hL15 => ?_) gn
 have hp16 : List.Perm ([.own (.slice A6 n7 c8) 31 4 n7 (r4.1.flatMap eJN)] : List Ent) (([] : List Ent) ++ ([.own (.slice A6 n7 c8) 31 4 n7 (r4.1.flatMap eJN)] : List Ent)) := pIx [] [0] rfl rfl (by kernel_rfl)
 refine Calls.mono (json_Print_calls w14 (Fl ([] : List Snap)) r4.1 A6 n7 c8 (hL15.argO (dk := k_api_JNode) hp16 [] rfl 0 rfl rfl (Ow.weak hL2.env.size h9) (me 0 rfl) (Cells.flat _)) (hL15.tt hp16 hG0 (me 1 rfl)) (hL15.tt hp16 hG1 (me 1 rfl)) (hL15.tt hp16 hG2 (me 1 rfl)) (hL15.hFl (Sl := ([] : List Snap)) hp16 (sels [] rfl)) (hL15.into hp16 (Fl ([] : List Snap))) r17 hv18) ?_
 rintro _ w19 ⟨rfl, hM20⟩
 have hL21 := hL15.call hp16 hM20
 refine ⟨_, _, _, rfl, hL21, ?_⟩
 refine wl_v 2 rfl (vMv rfl) gn rfl ?_
 refine wl_v 3 rfl (v_extract rfl rfl) gn rfl ?_
 refine wl_v 4 rfl (v_extract rfl rfl) gn rfl ?_
 refine wl_v 5 rfl (vAs rfl) gn rfl ?_
 refine wl_v 6 rfl (vAs rfl) gn rfl ?_
 refine w_end 7 rfl ?_
 refine gSq (c := q28c6) rfl ?_
 refine gRg (c := q28c7) rfl rfl ?_
 refine wl_v 0 rfl (vMv rfl) gn rfl ?_
 obtain ⟨r25, hv26, h⟩ := h
 refine wl_s 1 rfl (sCl [.slice A6 n7 c8, .int .i64 2] rfl Tryd.func16 rfl rfl rfl fun w22 hL23 => ?_) gn
 have hp24 : List.Perm ([.own (.slice A6 n7 c8) 31 4 n7 (r4.1.flatMap eJN)] : List Ent) (([] : List Ent) ++ ([.own (.slice A6 n7 c8) 31 4 n7 (r4.1.flatMap eJN)] : List Ent)) := pIx [] [0] rfl rfl (by kernel_rfl)
 refine Calls.mono (json_Int_calls w22 (Fl ([] : List Snap)) r4.1 2 A6 n7 c8 (hL23.argO (dk := k_api_JNode) hp24 [] rfl 0 rfl rfl (Ow.weak hL2.env.size h9) (me 0 rfl) (Cells.flat _)) (hL23.tt hp24 hG1 (me 1 rfl)) (hL23.tt hp24 hG2 (me 1 rfl)) (hL23.hFl (Sl := ([] : List Snap)) hp24 (sels [] rfl)) (hL23.into hp24 (Fl ([] : List Snap))) r25 hv26) ?_
 rintro _ w27 ⟨rfl, hM28⟩
 have hL29 := hL23.call hp24 hM28
 refine ⟨_, _, _, rfl, hL29, ?_⟩
 refine wl_v 2 rfl (vMv rfl) gn rfl ?_
 refine wl_v 3 rfl (v_extract rfl rfl) gn rfl ?_
 refine wl_v 4 rfl (v_extract rfl rfl) gn rfl ?_
 refine wl_v 5 rfl (vAs rfl) gn rfl ?_
 refine wl_v 6 rfl (vAs rfl) gn rfl ?_
 refine w_end 7 rfl ?_
 refine gSq (c := q28c8) rfl ?_
 refine gRg (c := q28c9) rfl rfl ?_
 refine wl_v 0 rfl (vMv rfl) gn rfl ?_
 refine wl_v 1 rfl (vBn rfl rfl rfl) gn rfl ?_
 refine wl_v 2 rfl (vMv rfl) gn rfl ?_
 by_cases hp30 : r4.2.1 = 0
 ·have h := if_pos' hp30 h
  refine w_bool 25 rfl ((eqi hp30)) ?_
  refine wl_v 3 rfl (vMv rfl) (gy 25 rfl rfl) rfl ?_
  refine wl_v 4 rfl (vBn rfl rfl rfl) (gy 25 rfl rfl) rfl ?_
  refine wl_v 5 rfl (v_pick (b := true) rfl rfl) gn rfl ?_
  refine wl_v 6 rfl (vMv rfl) gn rfl ?_
  by_cases hp31 : r4.2.2 = 0
  ·have h := if_pos' hp31 h
   refine w_bool 29 rfl ((eqi hp31)) ?_
   refine wl_v 7 rfl (vMv rfl) (gy 29 rfl rfl) rfl ?_
   refine wl_v 8 rfl (v_lenQ un_22 rfl (Ow.weak hL2.env.size h9).hq) (gy 29 rfl rfl) rfl ?_
   refine wl_v 9 rfl (vBn rfl rfl rfl) (gy 29 rfl rfl) rfl ?_
   refine wl_v 10 rfl (v_pick (b := true) rfl rfl) gn rfl ?_
   refine wl_v 11 rfl (vMv rfl) gn rfl ?_
   by_cases hp32 : (r4.1.length : Int) = 4
   ·have h := if_pos' hp32 h
    refine w_bool 34 rfl ((eqi hp32)) ?_
    refine wl_v 12 rfl (vMv rfl) (gy 34 rfl rfl) rfl ?_
    obtain ⟨hb33, h⟩ := h
    refine wl_v 13 rfl (v_idxO slE_22 rfl rfl (Ow.weak hL2.env.size h9) hb33) (gy 34 rfl rfl) rfl ?_
    refine wl_v 14 rfl (v_fldA fo_31_1 rfl) (gy 34 rfl rfl) rfl ?_
    refine wl_v 15 rfl (v_ldO1 (.string ((ix r4.1 1).key)) 0 ld_9 rfl rfl (fm_get hl_api_JNode hb33 rfl)) (gy 34 rfl rfl) rfl ?_
    refine wl_v 16 rfl (v_eqS rfl rfl) (gy 34 rfl rfl) rfl ?_
    refine wl_v 17 rfl (v_pick (b := true) rfl rfl) gn rfl ?_
    refine wl_v 18 rfl (vMv rfl) gn rfl ?_
    by_cases hp34 : (ix r4.1 1).key = (⟨#[97]⟩ : ByteArray)
    ·have h := if_pos' hp34 h
     refine w_bool 41 rfl ((seq_t hp34)) ?_
     refine wl_v 19 rfl (vMv rfl) (gy 41 rfl rfl) rfl ?_
     obtain ⟨hb35, h⟩ := h
     refine wl_v 20 rfl (v_idxO slE_22 rfl rfl (Ow.weak hL2.env.size h9) hb35) (gy 41 rfl rfl) rfl ?_
     refine wl_v 21 rfl (v_fldA fo_31_2 rfl) (gy 41 rfl rfl) rfl ?_
     refine wl_v 22 rfl (v_ldO1 (.string ((ix r4.1 3).text)) 0 ld_9 rfl rfl (fm_get hl_api_JNode hb35 rfl)) (gy 41 rfl rfl) rfl ?_
     refine wl_v 23 rfl (v_eqS rfl rfl) (gy 41 rfl rfl) rfl ?_
     refine wl_v 24 rfl (v_pick (b := true) rfl rfl) gn rfl ?_
     refine wl_v 25 rfl (vMv rfl) gn rfl ?_
     by_cases hp36 : (ix r4.1 3).text = (⟨#[195, 169]⟩ : ByteArray)
     ·have h := if_pos' hp36 h
      refine w_bool 48 rfl ((seq_t hp36)) ?_
      refine wl_v 26 rfl (vMv rfl) (gy 48 rfl rfl) rfl ?_
      refine wl_v 27 rfl (vBn rfl rfl rfl) (gy 48 rfl rfl) rfl ?_
      refine wl_v 28 rfl (v_pick (b := true) rfl rfl) gn rfl ?_
      refine wl_v 29 rfl (vMv rfl) gn rfl ?_
      by_cases hp37 : r17.2 = 0
      ·have h := if_pos' hp37 h
       refine w_bool 52 rfl ((eqi hp37)) ?_
       refine wl_v 30 rfl (vMv rfl) (gy 52 rfl rfl) rfl ?_
       refine wl_v 31 rfl (v_eqS rfl rfl) (gy 52 rfl rfl) rfl ?_
       refine wl_v 32 rfl (v_pick (b := true) rfl rfl) gn rfl ?_
       refine wl_v 33 rfl (vMv rfl) gn rfl ?_
       by_cases hp38 : r17.1 = (⟨#[123, 34, 97, 34, 58, 91, 49, 44, 34, 195, 169, 34, 93, 125]⟩ : ByteArray)
       ·have h := if_pos' hp38 h
        refine w_bool 56 rfl ((seq_t hp38)) ?_
        refine wl_v 34 rfl (vMv rfl) (gy 56 rfl rfl) rfl ?_
        obtain ⟨r42, hv43, h⟩ := h
        refine wl_s 35 rfl (sCl [.slice A6 n7 c8, .int .i64 0, .string (⟨#[97]⟩ : ByteArray)] rfl Tryd.func15 rfl rfl rfl fun w39 hL40 => ?_) (gy 56 rfl rfl)
        have hp41 : List.Perm ([.own (.slice A6 n7 c8) 31 4 n7 (r4.1.flatMap eJN)] : List Ent) (([] : List Ent) ++ ([.own (.slice A6 n7 c8) 31 4 n7 (r4.1.flatMap eJN)] : List Ent)) := pIx [] [0] rfl rfl (by kernel_rfl)
        refine Calls.mono (json_Member_calls w39 (Fl ([] : List Snap)) r4.1 0 (⟨#[97]⟩ : ByteArray) A6 n7 c8 (hL40.argO (dk := k_api_JNode) hp41 [] rfl 0 rfl rfl (Ow.weak hL2.env.size h9) (me 0 rfl) (Cells.flat _)) (hL40.tt hp41 hG1 (me 1 rfl)) (hL40.tt hp41 hG2 (me 1 rfl)) (hL40.hFl (Sl := ([] : List Snap)) hp41 (sels [] rfl)) (hL40.into hp41 (Fl ([] : List Snap))) r42 hv43) ?_
        rintro _ w44 ⟨rfl, hM45⟩
        have hL46 := hL40.call hp41 hM45
        refine ⟨_, _, _, rfl, hL46, ?_⟩
        refine wl_v 36 rfl (vBn rfl rfl rfl) (gy 56 rfl rfl) rfl ?_
        refine wl_v 37 rfl (v_pick (b := true) rfl rfl) gn rfl ?_
        refine wl_v 38 rfl (vMv rfl) gn rfl ?_
        by_cases hp47 : r42 = 1
        ·have h := if_pos' hp47 h
         refine w_bool 61 rfl ((eqi hp47)) ?_
         refine wl_v 39 rfl (vMv rfl) (gy 61 rfl rfl) rfl ?_
         refine wl_v 40 rfl (vBn rfl rfl rfl) (gy 61 rfl rfl) rfl ?_
         refine wl_v 41 rfl (v_pick (b := true) rfl rfl) gn rfl ?_
         refine wl_v 42 rfl (vMv rfl) gn rfl ?_
         by_cases hp48 : r25.1 = 1
         ·have h := if_pos' hp48 h
          refine w_bool 65 rfl ((eqi hp48)) ?_
          refine wl_v 43 rfl (vMv rfl) (gy 65 rfl rfl) rfl ?_
          refine wl_v 44 rfl (v_pick (b := true) rfl rfl) gn rfl ?_
          refine wl_v 45 rfl (vAs rfl) gn rfl ?_
          refine w_end 46 rfl ?_
          refine g_retR (c := q28c10) [.bool r25.2] rfl Tryd.func28 rfl (.tmp rfl (.nil)) fun wr hLr => ?_
          have hMr : B.Loc w wr [] [St w []] := hLr.pick0 (sels [1] rfl)
          show tl_started_R w F  r (.returned (packV [.bool r25.2])) wr
          rw [h]
          exact ⟨rfl, hMr⟩
         ·have h := if_neg' hp48 h
          refine w_bool 65 rfl ((nei hp48)) ?_
          refine wl_pass 43 rfl (ps 65 rfl rfl rfl) ?_
          refine wl_v 44 rfl (v_pick (b := false) rfl rfl) gn rfl ?_
          refine wl_v 45 rfl (vAs rfl) gn rfl ?_
          refine w_end 46 rfl ?_
          refine g_retR (c := q28c10) [.bool false] rfl Tryd.func28 rfl (.tmp rfl (.nil)) fun wr hLr => ?_
          have hMr : B.Loc w wr [] [St w []] := hLr.pick0 (sels [1] rfl)
          show tl_started_R w F  r (.returned (packV [.bool false])) wr
          rw [h]
          exact ⟨rfl, hMr⟩
        ·have h := if_neg' hp47 h
         refine w_bool 61 rfl ((nei hp47)) ?_
         refine wl_pass 39 rfl (ps 61 rfl rfl rfl) ?_
         refine wl_pass 40 rfl (ps 61 rfl rfl rfl) ?_
         refine wl_v 41 rfl (v_pick (b := false) rfl rfl) gn rfl ?_
         refine wl_v 42 rfl (vMv rfl) gn rfl ?_
         refine wl_pass 43 rfl (ps 65 rfl rfl rfl) ?_
         refine wl_v 44 rfl (v_pick (b := false) rfl rfl) gn rfl ?_
         refine wl_v 45 rfl (vAs rfl) gn rfl ?_
         refine w_end 46 rfl ?_
         refine g_retR (c := q28c10) [.bool false] rfl Tryd.func28 rfl (.tmp rfl (.nil)) fun wr hLr => ?_
         have hMr : B.Loc w wr [] [St w []] := hLr.pick0 (sels [1] rfl)
         show tl_started_R w F  r (.returned (packV [.bool false])) wr
         rw [h]
         exact ⟨rfl, hMr⟩
       ·have h := if_neg' hp38 h
        refine w_bool 56 rfl ((seq_f hp38)) ?_
        refine wl_pass 34 rfl (ps 56 rfl rfl rfl) ?_
        refine wl_pass 35 rfl (ps 56 rfl rfl rfl) ?_
        refine wl_pass 36 rfl (ps 56 rfl rfl rfl) ?_
        refine wl_v 37 rfl (v_pick (b := false) rfl rfl) gn rfl ?_
        refine wl_v 38 rfl (vMv rfl) gn rfl ?_
        refine wl_pass 39 rfl (ps 61 rfl rfl rfl) ?_
        refine wl_pass 40 rfl (ps 61 rfl rfl rfl) ?_
        refine wl_v 41 rfl (v_pick (b := false) rfl rfl) gn rfl ?_
        refine wl_v 42 rfl (vMv rfl) gn rfl ?_
        refine wl_pass 43 rfl (ps 65 rfl rfl rfl) ?_
        refine wl_v 44 rfl (v_pick (b := false) rfl rfl) gn rfl ?_
        refine wl_v 45 rfl (vAs rfl) gn rfl ?_
        refine w_end 46 rfl ?_
        refine g_retR (c := q28c10) [.bool false] rfl Tryd.func28 rfl (.tmp rfl (.nil)) fun wr hLr => ?_
        have hMr : B.Loc w wr [] [St w []] := hLr.pick0 (sels [1] rfl)
        show tl_started_R w F  r (.returned (packV [.bool false])) wr
        rw [h]
        exact ⟨rfl, hMr⟩
      ·have h := if_neg' hp37 h
       refine w_bool 52 rfl ((nei hp37)) ?_
       refine wl_pass 30 rfl (ps 52 rfl rfl rfl) ?_
       refine wl_pass 31 rfl (ps 52 rfl rfl rfl) ?_
       refine wl_v 32 rfl (v_pick (b := false) rfl rfl) gn rfl ?_
       refine wl_v 33 rfl (vMv rfl) gn rfl ?_
       refine wl_pass 34 rfl (ps 56 rfl rfl rfl) ?_
       refine wl_pass 35 rfl (ps 56 rfl rfl rfl) ?_
       refine wl_pass 36 rfl (ps 56 rfl rfl rfl) ?_
       refine wl_v 37 rfl (v_pick (b := false) rfl rfl) gn rfl ?_
       refine wl_v 38 rfl (vMv rfl) gn rfl ?_
       refine wl_pass 39 rfl (ps 61 rfl rfl rfl) ?_
       refine wl_pass 40 rfl (ps 61 rfl rfl rfl) ?_
       refine wl_v 41 rfl (v_pick (b := false) rfl rfl) gn rfl ?_
       refine wl_v 42 rfl (vMv rfl) gn rfl ?_
       refine wl_pass 43 rfl (ps 65 rfl rfl rfl) ?_
       refine wl_v 44 rfl (v_pick (b := false) rfl rfl) gn rfl ?_
       refine wl_v 45 rfl (vAs rfl) gn rfl ?_
       refine w_end 46 rfl ?_
       refine g_retR (c := q28c10) [.bool false] rfl Tryd.func28 rfl (.tmp rfl (.nil)) fun wr hLr => ?_
       have hMr : B.Loc w wr [] [St w []] := hLr.pick0 (sels [1] rfl)
       show tl_started_R w F  r (.returned (packV [.bool false])) wr
       rw [h]
       exact ⟨rfl, hMr⟩
     ·have h := if_neg' hp36 h
      refine w_bool 48 rfl ((seq_f hp36)) ?_
      refine wl_pass 26 rfl (ps 48 rfl rfl rfl) ?_
      refine wl_pass 27 rfl (ps 48 rfl rfl rfl) ?_
      refine wl_v 28 rfl (v_pick (b := false) rfl rfl) gn rfl ?_
      refine wl_v 29 rfl (vMv rfl) gn rfl ?_
      refine wl_pass 30 rfl (ps 52 rfl rfl rfl) ?_
      refine wl_pass 31 rfl (ps 52 rfl rfl rfl) ?_
      refine wl_v 32 rfl (v_pick (b := false) rfl rfl) gn rfl ?_
      refine wl_v 33 rfl (vMv rfl) gn rfl ?_
      refine wl_pass 34 rfl (ps 56 rfl rfl rfl) ?_
      refine wl_pass 35 rfl (ps 56 rfl rfl rfl) ?_
      refine wl_pass 36 rfl (ps 56 rfl rfl rfl) ?_
      refine wl_v 37 rfl (v_pick (b := false) rfl rfl) gn rfl ?_
      refine wl_v 38 rfl (vMv rfl) gn rfl ?_
      refine wl_pass 39 rfl (ps 61 rfl rfl rfl) ?_
      refine wl_pass 40 rfl (ps 61 rfl rfl rfl) ?_
      refine wl_v 41 rfl (v_pick (b := false) rfl rfl) gn rfl ?_
      refine wl_v 42 rfl (vMv rfl) gn rfl ?_
      refine wl_pass 43 rfl (ps 65 rfl rfl rfl) ?_
      refine wl_v 44 rfl (v_pick (b := false) rfl rfl) gn rfl ?_
      refine wl_v 45 rfl (vAs rfl) gn rfl ?_
      refine w_end 46 rfl ?_
      refine g_retR (c := q28c10) [.bool false] rfl Tryd.func28 rfl (.tmp rfl (.nil)) fun wr hLr => ?_
      have hMr : B.Loc w wr [] [St w []] := hLr.pick0 (sels [1] rfl)
      show tl_started_R w F  r (.returned (packV [.bool false])) wr
      rw [h]
      exact ⟨rfl, hMr⟩
    ·have h := if_neg' hp34 h
     refine w_bool 41 rfl ((seq_f hp34)) ?_
     refine wl_pass 19 rfl (ps 41 rfl rfl rfl) ?_
     refine wl_pass 20 rfl (ps 41 rfl rfl rfl) ?_
     refine wl_pass 21 rfl (ps 41 rfl rfl rfl) ?_
     refine wl_pass 22 rfl (ps 41 rfl rfl rfl) ?_
     refine wl_pass 23 rfl (ps 41 rfl rfl rfl) ?_
     refine wl_v 24 rfl (v_pick (b := false) rfl rfl) gn rfl ?_
     refine wl_v 25 rfl (vMv rfl) gn rfl ?_
     refine wl_pass 26 rfl (ps 48 rfl rfl rfl) ?_
     refine wl_pass 27 rfl (ps 48 rfl rfl rfl) ?_
     refine wl_v 28 rfl (v_pick (b := false) rfl rfl) gn rfl ?_
     refine wl_v 29 rfl (vMv rfl) gn rfl ?_
     refine wl_pass 30 rfl (ps 52 rfl rfl rfl) ?_
     refine wl_pass 31 rfl (ps 52 rfl rfl rfl) ?_
     refine wl_v 32 rfl (v_pick (b := false) rfl rfl) gn rfl ?_
     refine wl_v 33 rfl (vMv rfl) gn rfl ?_
     refine wl_pass 34 rfl (ps 56 rfl rfl rfl) ?_
     refine wl_pass 35 rfl (ps 56 rfl rfl rfl) ?_
     refine wl_pass 36 rfl (ps 56 rfl rfl rfl) ?_
     refine wl_v 37 rfl (v_pick (b := false) rfl rfl) gn rfl ?_
     refine wl_v 38 rfl (vMv rfl) gn rfl ?_
     refine wl_pass 39 rfl (ps 61 rfl rfl rfl) ?_
     refine wl_pass 40 rfl (ps 61 rfl rfl rfl) ?_
     refine wl_v 41 rfl (v_pick (b := false) rfl rfl) gn rfl ?_
     refine wl_v 42 rfl (vMv rfl) gn rfl ?_
     refine wl_pass 43 rfl (ps 65 rfl rfl rfl) ?_
     refine wl_v 44 rfl (v_pick (b := false) rfl rfl) gn rfl ?_
     refine wl_v 45 rfl (vAs rfl) gn rfl ?_
     refine w_end 46 rfl ?_
     refine g_retR (c := q28c10) [.bool false] rfl Tryd.func28 rfl (.tmp rfl (.nil)) fun wr hLr => ?_
     have hMr : B.Loc w wr [] [St w []] := hLr.pick0 (sels [1] rfl)
     show tl_started_R w F  r (.returned (packV [.bool false])) wr
     rw [h]
     exact ⟨rfl, hMr⟩
   ·have h := if_neg' hp32 h
    refine w_bool 34 rfl ((nei hp32)) ?_
    refine wl_pass 12 rfl (ps 34 rfl rfl rfl) ?_
    refine wl_pass 13 rfl (ps 34 rfl rfl rfl) ?_
    refine wl_pass 14 rfl (ps 34 rfl rfl rfl) ?_
    refine wl_pass 15 rfl (ps 34 rfl rfl rfl) ?_
    refine wl_pass 16 rfl (ps 34 rfl rfl rfl) ?_
    refine wl_v 17 rfl (v_pick (b := false) rfl rfl) gn rfl ?_
    refine wl_v 18 rfl (vMv rfl) gn rfl ?_
    refine wl_pass 19 rfl (ps 41 rfl rfl rfl) ?_
    refine wl_pass 20 rfl (ps 41 rfl rfl rfl) ?_
    refine wl_pass 21 rfl (ps 41 rfl rfl rfl) ?_
    refine wl_pass 22 rfl (ps 41 rfl rfl rfl) ?_
    refine wl_pass 23 rfl (ps 41 rfl rfl rfl) ?_
    refine wl_v 24 rfl (v_pick (b := false) rfl rfl) gn rfl ?_
    refine wl_v 25 rfl (vMv rfl) gn rfl ?_
    refine wl_pass 26 rfl (ps 48 rfl rfl rfl) ?_
    refine wl_pass 27 rfl (ps 48 rfl rfl rfl) ?_
    refine wl_v 28 rfl (v_pick (b := false) rfl rfl) gn rfl ?_
    refine wl_v 29 rfl (vMv rfl) gn rfl ?_
    refine wl_pass 30 rfl (ps 52 rfl rfl rfl) ?_
    refine wl_pass 31 rfl (ps 52 rfl rfl rfl) ?_
    refine wl_v 32 rfl (v_pick (b := false) rfl rfl) gn rfl ?_
    refine wl_v 33 rfl (vMv rfl) gn rfl ?_
    refine wl_pass 34 rfl (ps 56 rfl rfl rfl) ?_
    refine wl_pass 35 rfl (ps 56 rfl rfl rfl) ?_
    refine wl_pass 36 rfl (ps 56 rfl rfl rfl) ?_
    refine wl_v 37 rfl (v_pick (b := false) rfl rfl) gn rfl ?_
    refine wl_v 38 rfl (vMv rfl) gn rfl ?_
    refine wl_pass 39 rfl (ps 61 rfl rfl rfl) ?_
    refine wl_pass 40 rfl (ps 61 rfl rfl rfl) ?_
    refine wl_v 41 rfl (v_pick (b := false) rfl rfl) gn rfl ?_
    refine wl_v 42 rfl (vMv rfl) gn rfl ?_
    refine wl_pass 43 rfl (ps 65 rfl rfl rfl) ?_
    refine wl_v 44 rfl (v_pick (b := false) rfl rfl) gn rfl ?_
    refine wl_v 45 rfl (vAs rfl) gn rfl ?_
    refine w_end 46 rfl ?_
    refine g_retR (c := q28c10) [.bool false] rfl Tryd.func28 rfl (.tmp rfl (.nil)) fun wr hLr => ?_
    have hMr : B.Loc w wr [] [St w []] := hLr.pick0 (sels [1] rfl)
    show tl_started_R w F  r (.returned (packV [.bool false])) wr
    rw [h]
    exact ⟨rfl, hMr⟩
  ·have h := if_neg' hp31 h
   refine w_bool 29 rfl ((nei hp31)) ?_
   refine wl_pass 7 rfl (ps 29 rfl rfl rfl) ?_
   refine wl_pass 8 rfl (ps 29 rfl rfl rfl) ?_
   refine wl_pass 9 rfl (ps 29 rfl rfl rfl) ?_
   refine wl_v 10 rfl (v_pick (b := false) rfl rfl) gn rfl ?_
   refine wl_v 11 rfl (vMv rfl) gn rfl ?_
   refine wl_pass 12 rfl (ps 34 rfl rfl rfl) ?_
   refine wl_pass 13 rfl (ps 34 rfl rfl rfl) ?_
   refine wl_pass 14 rfl (ps 34 rfl rfl rfl) ?_
   refine wl_pass 15 rfl (ps 34 rfl rfl rfl) ?_
   refine wl_pass 16 rfl (ps 34 rfl rfl rfl) ?_
   refine wl_v 17 rfl (v_pick (b := false) rfl rfl) gn rfl ?_
   refine wl_v 18 rfl (vMv rfl) gn rfl ?_
   refine wl_pass 19 rfl (ps 41 rfl rfl rfl) ?_
   refine wl_pass 20 rfl (ps 41 rfl rfl rfl) ?_
   refine wl_pass 21 rfl (ps 41 rfl rfl rfl) ?_
   refine wl_pass 22 rfl (ps 41 rfl rfl rfl) ?_
   refine wl_pass 23 rfl (ps 41 rfl rfl rfl) ?_
   refine wl_v 24 rfl (v_pick (b := false) rfl rfl) gn rfl ?_
   refine wl_v 25 rfl (vMv rfl) gn rfl ?_
   refine wl_pass 26 rfl (ps 48 rfl rfl rfl) ?_
   refine wl_pass 27 rfl (ps 48 rfl rfl rfl) ?_
   refine wl_v 28 rfl (v_pick (b := false) rfl rfl) gn rfl ?_
   refine wl_v 29 rfl (vMv rfl) gn rfl ?_
   refine wl_pass 30 rfl (ps 52 rfl rfl rfl) ?_
   refine wl_pass 31 rfl (ps 52 rfl rfl rfl) ?_
   refine wl_v 32 rfl (v_pick (b := false) rfl rfl) gn rfl ?_
   refine wl_v 33 rfl (vMv rfl) gn rfl ?_
   refine wl_pass 34 rfl (ps 56 rfl rfl rfl) ?_
   refine wl_pass 35 rfl (ps 56 rfl rfl rfl) ?_
   refine wl_pass 36 rfl (ps 56 rfl rfl rfl) ?_
   refine wl_v 37 rfl (v_pick (b := false) rfl rfl) gn rfl ?_
   refine wl_v 38 rfl (vMv rfl) gn rfl ?_
   refine wl_pass 39 rfl (ps 61 rfl rfl rfl) ?_
   refine wl_pass 40 rfl (ps 61 rfl rfl rfl) ?_
   refine wl_v 41 rfl (v_pick (b := false) rfl rfl) gn rfl ?_
   refine wl_v 42 rfl (vMv rfl) gn rfl ?_
   refine wl_pass 43 rfl (ps 65 rfl rfl rfl) ?_
   refine wl_v 44 rfl (v_pick (b := false) rfl rfl) gn rfl ?_
   refine wl_v 45 rfl (vAs rfl) gn rfl ?_
   refine w_end 46 rfl ?_
   refine g_retR (c := q28c10) [.bool false] rfl Tryd.func28 rfl (.tmp rfl (.nil)) fun wr hLr => ?_
   have hMr : B.Loc w wr [] [St w []] := hLr.pick0 (sels [1] rfl)
   show tl_started_R w F  r (.returned (packV [.bool false])) wr
   rw [h]
   exact ⟨rfl, hMr⟩
 ·have h := if_neg' hp30 h
  refine w_bool 25 rfl ((nei hp30)) ?_
  refine wl_pass 3 rfl (ps 25 rfl rfl rfl) ?_
  refine wl_pass 4 rfl (ps 25 rfl rfl rfl) ?_
  refine wl_v 5 rfl (v_pick (b := false) rfl rfl) gn rfl ?_
  refine wl_v 6 rfl (vMv rfl) gn rfl ?_
  refine wl_pass 7 rfl (ps 29 rfl rfl rfl) ?_
  refine wl_pass 8 rfl (ps 29 rfl rfl rfl) ?_
  refine wl_pass 9 rfl (ps 29 rfl rfl rfl) ?_
  refine wl_v 10 rfl (v_pick (b := false) rfl rfl) gn rfl ?_
  refine wl_v 11 rfl (vMv rfl) gn rfl ?_
  refine wl_pass 12 rfl (ps 34 rfl rfl rfl) ?_
  refine wl_pass 13 rfl (ps 34 rfl rfl rfl) ?_
  refine wl_pass 14 rfl (ps 34 rfl rfl rfl) ?_
  refine wl_pass 15 rfl (ps 34 rfl rfl rfl) ?_
  refine wl_pass 16 rfl (ps 34 rfl rfl rfl) ?_
  refine wl_v 17 rfl (v_pick (b := false) rfl rfl) gn rfl ?_
  refine wl_v 18 rfl (vMv rfl) gn rfl ?_
  refine wl_pass 19 rfl (ps 41 rfl rfl rfl) ?_
  refine wl_pass 20 rfl (ps 41 rfl rfl rfl) ?_
  refine wl_pass 21 rfl (ps 41 rfl rfl rfl) ?_
  refine wl_pass 22 rfl (ps 41 rfl rfl rfl) ?_
  refine wl_pass 23 rfl (ps 41 rfl rfl rfl) ?_
  refine wl_v 24 rfl (v_pick (b := false) rfl rfl) gn rfl ?_
  refine wl_v 25 rfl (vMv rfl) gn rfl ?_
  refine wl_pass 26 rfl (ps 48 rfl rfl rfl) ?_
  refine wl_pass 27 rfl (ps 48 rfl rfl rfl) ?_
  refine wl_v 28 rfl (v_pick (b := false) rfl rfl) gn rfl ?_
  refine wl_v 29 rfl (vMv rfl) gn rfl ?_
  refine wl_pass 30 rfl (ps 52 rfl rfl rfl) ?_
  refine wl_pass 31 rfl (ps 52 rfl rfl rfl) ?_
  refine wl_v 32 rfl (v_pick (b := false) rfl rfl) gn rfl ?_
  refine wl_v 33 rfl (vMv rfl) gn rfl ?_
  refine wl_pass 34 rfl (ps 56 rfl rfl rfl) ?_
  refine wl_pass 35 rfl (ps 56 rfl rfl rfl) ?_
  refine wl_pass 36 rfl (ps 56 rfl rfl rfl) ?_
  refine wl_v 37 rfl (v_pick (b := false) rfl rfl) gn rfl ?_
  refine wl_v 38 rfl (vMv rfl) gn rfl ?_
  refine wl_pass 39 rfl (ps 61 rfl rfl rfl) ?_
  refine wl_pass 40 rfl (ps 61 rfl rfl rfl) ?_
  refine wl_v 41 rfl (v_pick (b := false) rfl rfl) gn rfl ?_
  refine wl_v 42 rfl (vMv rfl) gn rfl ?_
  refine wl_pass 43 rfl (ps 65 rfl rfl rfl) ?_
  refine wl_v 44 rfl (v_pick (b := false) rfl rfl) gn rfl ?_
  refine wl_v 45 rfl (vAs rfl) gn rfl ?_
  refine w_end 46 rfl ?_
  refine g_retR (c := q28c10) [.bool false] rfl Tryd.func28 rfl (.tmp rfl (.nil)) fun wr hLr => ?_
  have hMr : B.Loc w wr [] [St w []] := hLr.pick0 (sels [1] rfl)
  show tl_started_R w F  r (.returned (packV [.bool false])) wr
  rw [h]
  exact ⟨rfl, hMr⟩
end Go.Proofs.YtmfopcbjgbphaaaDoor.K
