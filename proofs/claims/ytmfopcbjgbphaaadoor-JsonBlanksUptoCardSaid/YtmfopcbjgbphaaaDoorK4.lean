/- What the machine's calls do, function by function, printed by my own tool. Condition of each: its relation holds of the answer, and what is handed in lies in memory as told. -/
import Derived.Test.YtmfopcbjgbphaaaDoorK3
set_option linter.unusedVariables false
set_option maxRecDepth 100000
set_option maxHeartbeats 4000000
namespace Go.Proofs.YtmfopcbjgbphaaaDoor.K
open Go.Proofs.YtmfopcbjgbphaaaDoor.B Go.Proofs.YtmfopcbjgbphaaaDoor.R Go.RowKit
noncomputable abbrev q43c0 : Code := bodyOf Tryd.f43
noncomputable abbrev q43c1 := Code.fst q43c0
noncomputable abbrev q43c2 := Code.fst q43c1
noncomputable abbrev q43c3 := Code.fst q43c2
noncomputable abbrev q43c4 := Code.snd q43c2
noncomputable abbrev q43c5 := Code.fst q43c3
noncomputable abbrev q43c6 := Code.snd q43c3
noncomputable abbrev q43c7 := Code.fst q43c6
noncomputable abbrev q43c8 := Code.snd q43c6
noncomputable abbrev q43c9 := Code.fst q43c4
abbrev jps_blanks_R (w : World) (F : Nat → Prop) (g2 : Nat) (Tb3 : Nat) (A4 : Option Addr) (n5 : Nat) (c6 : Nat) (z8 : Nat) (r : jps) : Ending → World → Prop := fun e w' => ∃ A0 : Option Addr, ∃ n0 : Nat, ∃ c0 : Nat, e = .returned (.tuple #[]) ∧ B.Loc w w' [.box g2 Tb3 [.string r.text, .int .i64 r.at_, .slice A0 n0 c0, .int .i64 r.in_, .int .i64 r.code], .own (.slice A0 n0 c0) 31 4 n0 (r.out.flatMap eJN)] [St w [[g2], (Value.slice A4 n5 c6).ownBlock.toList]] ∧ Ow z8 A0 n0 c0 r.out
noncomputable abbrev jps_blanks_C (w : World) (F : Nat → Prop) (g2 : Nat) (Tb3 : Nat) (A4 : Option Addr) (n5 : Nat) (c6 : Nat) (z8 : Nat) (r : jps) : Cx := ⟨Tryd.prog, 43, Tryd.f43, 11, jps_blanks_R w F g2 Tb3 A4 n5 c6 z8 r, w⟩
theorem jps_blanks_calls (w : World) (F : Nat → Prop) (x1 : jps) (g2 : Nat) (Tb3 : Nat) (z8 : Nat) (A4 : Option Addr) (n5 : Nat) (c6 : Nat) (hz9 : z8 ≤ w.heap.size) (h7 : Ow z8 A4 n5 c6 x1.out) (hF : ∀ b, F b → b < w.heap.size ∧ ∀ o ∈ ([[g2], (Value.slice A4 n5 c6).ownBlock.toList] : List (List Nat)), b ∉ o) (hL0 : B.Loc w w [.box g2 Tb3 [.string x1.text, .int .i64 x1.at_, .slice A4 n5 c6, .int .i64 x1.in_, .int .i64 x1.code], .own (.slice A4 n5 c6) 31 4 n5 (x1.out.flatMap eJN)] [Sm w.heap.size F w [[g2], (Value.slice A4 n5 c6).ownBlock.toList], St w [[g2], (Value.slice A4 n5 c6).ownBlock.toList]]) (r : jps) (h : jps_blanks x1 r) : Calls Tryd.prog 43 #[.pointer (some ⟨g2, 0, none⟩)] w (jps_blanks_R w F g2 Tb3 A4 n5 c6 z8 r) := by
 unfold jps_blanks at h
 refine calls_of_Loc (vs := [.pointer (some ⟨g2, 0, none⟩)]) 11 Tryd.func43 rfl Tryd.ntmps43 rfl hL0 ?_
 show G (jps_blanks_C w F g2 Tb3 A4 n5 c6 z8 r) _ _ _ _
 refine g_block (c := q43c0) rfl ?_
 refine g_loop (c := q43c1) rfl ?_
 have key1 : ∀ s, Rounds (fun (s : ByteArray × Int × (List JNd) × Int × Int) o => jps_blanks_b1 s.1 s.2.1 s.2.2.1 s.2.2.2.1 s.2.2.2.2 o) s r → (fun (s : ByteArray × Int × (List JNd) × Int × Int) => ∀ (A28 : Option Addr) (n29 : Nat) (c30 : Nat) (h31 : Ow z8 A28 n29 c30 s.2.2.1), G (jps_blanks_C w F g2 Tb3 A4 n5 c6 z8 r) [.code q43c2, .inLoop q43c2, .inBlock 0] [(0, .pointer (some ⟨g2, 0, none⟩))] [.own (.slice A28 n29 c30) 31 4 n29 (s.2.2.1.flatMap eJN), .box g2 Tb3 [.string s.1, .int .i64 s.2.1, .slice A28 n29 c30, .int .i64 s.2.2.2.1, .int .i64 s.2.2.2.2]] [Sm w.heap.size F w [[g2], (Value.slice A4 n5 c6).ownBlock.toList], St w [[g2], (Value.slice A4 n5 c6).ownBlock.toList]]) s := by
  intro s hs
  refine Rounds.ind (mot := (fun (s : ByteArray × Int × (List JNd) × Int × Int) => ∀ (A28 : Option Addr) (n29 : Nat) (c30 : Nat) (h31 : Ow z8 A28 n29 c30 s.2.2.1), G (jps_blanks_C w F g2 Tb3 A4 n5 c6 z8 r) [.code q43c2, .inLoop q43c2, .inBlock 0] [(0, .pointer (some ⟨g2, 0, none⟩))] [.own (.slice A28 n29 c30) 31 4 n29 (s.2.2.1.flatMap eJN), .box g2 Tb3 [.string s.1, .int .i64 s.2.1, .slice A28 n29 c30, .int .i64 s.2.2.2.1, .int .i64 s.2.2.2.2]] [Sm w.heap.size F w [[g2], (Value.slice A4 n5 c6).ownBlock.toList], St w [[g2], (Value.slice A4 n5 c6).ownBlock.toList]])) ?_ hs
  clear hs s
  intro s o1 h hO1
  obtain ⟨x25, x26, x27, x32, x33⟩ := s
  show ∀ (A28 : Option Addr) (n29 : Nat) (c30 : Nat) (h31 : Ow z8 A28 n29 c30 x27), G (jps_blanks_C w F g2 Tb3 A4 n5 c6 z8 r) [.code q43c2, .inLoop q43c2, .inBlock 0] [(0, .pointer (some ⟨g2, 0, none⟩))] [.own (.slice A28 n29 c30) 31 4 n29 (x27.flatMap eJN), .box g2 Tb3 [.string x25, .int .i64 x26, .slice A28 n29 c30, .int .i64 x32, .int .i64 x33]] [Sm w.heap.size F w [[g2], (Value.slice A4 n5 c6).ownBlock.toList], St w [[g2], (Value.slice A4 n5 c6).ownBlock.toList]]
  intro A28 n29 c30 h31
  have h : jps_blanks_b1 x25 x26 x27 x32 x33 o1 := h
  unfold jps_blanks_b1 at h
  refine gSq (c := q43c2) rfl ?_
  refine gSq (c := q43c3) rfl ?_
  refine gRg (c := q43c5) rfl rfl ?_
  refine wl_v 0 rfl (vMv rfl) gn rfl ?_
  obtain ⟨r51, hv52, h⟩ := h
  refine wl_s 1 rfl (sCl [.pointer (some ⟨g2, 0, none⟩), .string (⟨#[32, 9, 10, 13]⟩ : ByteArray)] rfl Tryd.func55 rfl rfl rfl fun w48 hL49 => ?_) gn
  have hp50 : List.Perm ([.own (.slice A28 n29 c30) 31 4 n29 (x27.flatMap eJN), .box g2 Tb3 [.string x25, .int .i64 x26, .slice A28 n29 c30, .int .i64 x32, .int .i64 x33]] : List Ent) (([.box g2 Tb3 [.string x25, .int .i64 x26, .slice A28 n29 c30, .int .i64 x32, .int .i64 x33], .own (.slice A28 n29 c30) 31 4 n29 (x27.flatMap eJN)] : List Ent) ++ ([] : List Ent)) := pIx [1, 0] [] rfl rfl (by kernel_rfl)
  refine Calls.mono (jps_is_calls w48 (Fl ([] : List Snap)) (⟨x25, x26, x27, x32, x33⟩ : jps) (⟨#[32, 9, 10, 13]⟩ : ByteArray) g2 Tb3 z8 A28 n29 c30 (Nat.le_trans hz9 hL49.env.size) h31 (hL49.hFl (Sl := ([] : List Snap)) hp50 (sels [] rfl)) (hL49.into hp50 (Fl ([] : List Snap))) r51 hv52) ?_
  rintro _ w58 ⟨A53, n54, c55, rfl, hM59, h56⟩
  have hL60 := hL49.call hp50 hM59
  refine ⟨_, _, _, rfl, hL60, ?_⟩
  refine w_end 2 rfl ?_
  by_cases hp61 : r51.1 = true
  ·have h := if_pos' hp61 h
   refine gTr (c := q43c6) rfl _ rfl (hp61) ?_
   refine g_skip (c := q43c7) rfl ?_
   refine g_block (c := q43c4) rfl ?_
   refine gRg (c := q43c9) rfl rfl ?_
   refine wl_v 0 rfl (vMv rfl) gn rfl ?_
   refine wl_v 1 rfl (vNc rfl) gn rfl ?_
   refine wl_v 2 rfl (vFB fo_70_1 rfl) gn rfl ?_
   refine wl_v 3 rfl (v_ldB1 0 ld_3 rfl rfl rfl) gn rfl ?_
   refine wl_v 4 rfl (vBn rfl rfl rfl) gn rfl ?_
   refine wl_v 5 rfl (vNc rfl) gn rfl ?_
   refine wl_v 6 rfl (vFB fo_70_1 rfl) gn rfl ?_
   refine wl_s 7 rfl (s_stB (vs := [.int .i64 (w64 (r51.2.at_ + 1))]) (cs' := [.string r51.2.text, .int .i64 (w64 (r51.2.at_ + 1)), .slice A53 n54 c55, .int .i64 r51.2.in_, .int .i64 r51.2.code]) (M' := [.box g2 Tb3 [.string r51.2.text, .int .i64 (w64 (r51.2.at_ + 1)), .slice A53 n54 c55, .int .i64 r51.2.in_, .int .i64 r51.2.code], .own (.slice A53 n54 c55) 31 4 n54 (r51.2.out.flatMap eJN)]) 0 sz_3 rfl rfl rfl rfl rfl rfl rfl rfl rfl ?_) gn
   refine w_end 8 rfl ?_
   refine g_inBlock ?_
   refine g_inLoop ?_
   refine gFr 0 rfl ?_
   refine gFr 1 rfl ?_
   have ih := Out.inl hO1 h
   exact g_go [0, 1] (ih A53 n54 c55 h56) ⟨rfl, trivial⟩ (.cons_cons _ (.cons_cons _ (.slnil))) rfl
  ·have h := if_neg' hp61 h
   refine gFa (c := q43c6) rfl _ rfl ((bf hp61)) ?_
   refine g_exit (c := q43c8) [] rfl rfl ?_
   have h := Out.inr hO1 h
   refine g_endR [] Tryd.func43 rfl (.nil) fun wr hLr => ?_
   have hMr : B.Loc w wr [.box g2 Tb3 [.string r51.2.text, .int .i64 r51.2.at_, .slice A53 n54 c55, .int .i64 r51.2.in_, .int .i64 r51.2.code], .own (.slice A53 n54 c55) 31 4 n54 (r51.2.out.flatMap eJN)] [St w [[g2], (Value.slice A4 n5 c6).ownBlock.toList]] := hLr.pick (rest := []) (pIx [0, 1] [] rfl rfl (by kernel_rfl)) (sels [1] rfl)
   show jps_blanks_R w F g2 Tb3 A4 n5 c6 z8 r (.returned (packV [])) wr
   rw [h]
   exact ⟨A53, n54, c55, rfl, hMr, h56⟩
 refine gFr 0 rfl ?_
 refine gFr 1 rfl ?_
 exact g_go [0, 1] (key1 _ h A4 n5 c6 h7) ⟨rfl, trivial⟩ (.cons_cons _ (.cons_cons _ (.slnil))) rfl
noncomputable abbrev q56c0 : Code := bodyOf Tryd.f56
noncomputable abbrev q56c1 := Code.fst q56c0
noncomputable abbrev q56c2 := Code.snd q56c0
noncomputable abbrev q56c3 := Code.fst q56c2
noncomputable abbrev q56c4 := Code.snd q56c2
noncomputable abbrev q56c5 := Code.fst q56c3
noncomputable abbrev q56c6 := Code.snd q56c3
noncomputable abbrev q56c7 := Code.fst q56c6
noncomputable abbrev q56c8 := Code.fst q56c7
noncomputable abbrev q56c9 := Code.fst q56c8
noncomputable abbrev q56c10 := Code.snd q56c8
noncomputable abbrev q56c11 := Code.fst q56c10
noncomputable abbrev q56c12 := Code.snd q56c10
noncomputable abbrev q56c13 := Code.fst q56c11
noncomputable abbrev q56c14 := Code.snd q56c11
noncomputable abbrev q56c15 := Code.fst q56c12
noncomputable abbrev q56c16 := Code.snd q56c12
noncomputable abbrev q56c17 := Code.fst q56c15
noncomputable abbrev q56c18 := Code.fst q56c17
noncomputable abbrev q56c19 := Code.snd q56c17
noncomputable abbrev q56c20 := Code.fst q56c19
noncomputable abbrev q56c21 := Code.snd q56c19
noncomputable abbrev q56c22 := Code.fst q56c21
noncomputable abbrev q56c23 := Code.snd q56c21
noncomputable abbrev q56c24 := Code.fst q56c22
noncomputable abbrev q56c25 := Code.snd q56c22
noncomputable abbrev q56c26 := Code.fst q56c4
noncomputable abbrev q56c27 := Code.snd q56c4
abbrev jps_word_R (w : World) (F : Nat → Prop) (g2 : Nat) (Tb3 : Nat) (A4 : Option Addr) (n5 : Nat) (c6 : Nat) (z8 : Nat) (r : Bool × jps) : Ending → World → Prop := fun e w' => ∃ A0 : Option Addr, ∃ n0 : Nat, ∃ c0 : Nat, e = .returned (.bool r.1) ∧ B.Loc w w' [.box g2 Tb3 [.string r.2.text, .int .i64 r.2.at_, .slice A0 n0 c0, .int .i64 r.2.in_, .int .i64 r.2.code], .own (.slice A0 n0 c0) 31 4 n0 (r.2.out.flatMap eJN)] [St w [[g2], (Value.slice A4 n5 c6).ownBlock.toList]] ∧ Ow z8 A0 n0 c0 r.2.out
noncomputable abbrev jps_word_C (w : World) (F : Nat → Prop) (g2 : Nat) (Tb3 : Nat) (A4 : Option Addr) (n5 : Nat) (c6 : Nat) (z8 : Nat) (r : Bool × jps) : Cx := ⟨Tryd.prog, 56, Tryd.f56, 20, jps_word_R w F g2 Tb3 A4 n5 c6 z8 r, w⟩
theorem jps_word_calls (w : World) (F : Nat → Prop) (x1 : jps) (x10 : ByteArray) (g2 : Nat) (Tb3 : Nat) (z8 : Nat) (A4 : Option Addr) (n5 : Nat) (c6 : Nat) (hz9 : z8 ≤ w.heap.size) (h7 : Ow z8 A4 n5 c6 x1.out) (hF : ∀ b, F b → b < w.heap.size ∧ ∀ o ∈ ([[g2], (Value.slice A4 n5 c6).ownBlock.toList] : List (List Nat)), b ∉ o) (hL0 : B.Loc w w [.box g2 Tb3 [.string x1.text, .int .i64 x1.at_, .slice A4 n5 c6, .int .i64 x1.in_, .int .i64 x1.code], .own (.slice A4 n5 c6) 31 4 n5 (x1.out.flatMap eJN)] [Sm w.heap.size F w [[g2], (Value.slice A4 n5 c6).ownBlock.toList], St w [[g2], (Value.slice A4 n5 c6).ownBlock.toList]]) (r : Bool × jps) (h : jps_word x1 x10 r) : Calls Tryd.prog 56 #[.pointer (some ⟨g2, 0, none⟩), .string x10] w (jps_word_R w F g2 Tb3 A4 n5 c6 z8 r) := by
 unfold jps_word at h
 refine calls_of_Loc (vs := [.pointer (some ⟨g2, 0, none⟩), .string x10]) 20 Tryd.func56 rfl Tryd.ntmps56 rfl hL0 ?_
 show G (jps_word_C w F g2 Tb3 A4 n5 c6 z8 r) _ _ _ _
 refine gSq (c := q56c0) rfl ?_
 refine gRg (c := q56c1) rfl rfl ?_
 refine wl_v 0 rfl (vAs rfl) gn rfl ?_
 refine w_end 1 rfl ?_
 refine gSq (c := q56c2) rfl ?_
 refine gSq (c := q56c3) rfl ?_
 refine gRg (c := q56c5) rfl rfl ?_
 refine wl_v 0 rfl (vMv rfl) gn rfl ?_
 refine wl_v 1 rfl (v_lenS un_9 rfl) gn rfl ?_
 refine wl_v 2 rfl (vMv rfl) gn rfl ?_
 refine w_end 3 rfl ?_
 refine g_block (c := q56c6) rfl ?_
 refine g_loop (c := q56c7) rfl ?_
 have key1 : ∀ s, Rounds (fun (s : Int × ByteArray × Int × (List JNd) × Int × Int) o => jps_word_b1 x10 s.1 s.2.1 s.2.2.1 s.2.2.2.1 s.2.2.2.2.1 s.2.2.2.2.2 o) s r → (fun (s : Int × ByteArray × Int × (List JNd) × Int × Int) => ∀ (A32 : Option Addr) (n33 : Nat) (c34 : Nat) (h35 : Ow z8 A32 n33 c34 s.2.2.2.1), G (jps_word_C w F g2 Tb3 A4 n5 c6 z8 r) [.code q56c8, .inLoop q56c8, .inBlock 0, .code q56c4] [(0, .pointer (some ⟨g2, 0, none⟩)), (1, .string x10), (7, .int .i64 (x10.size : Int)), (8, .int .i64 s.1)] [.own (.slice A32 n33 c34) 31 4 n33 (s.2.2.2.1.flatMap eJN), .box g2 Tb3 [.string s.2.1, .int .i64 s.2.2.1, .slice A32 n33 c34, .int .i64 s.2.2.2.2.1, .int .i64 s.2.2.2.2.2]] [Sm w.heap.size F w [[g2], (Value.slice A4 n5 c6).ownBlock.toList], St w [[g2], (Value.slice A4 n5 c6).ownBlock.toList]]) s := by
  intro s hs
  refine Rounds.ind (mot := (fun (s : Int × ByteArray × Int × (List JNd) × Int × Int) => ∀ (A32 : Option Addr) (n33 : Nat) (c34 : Nat) (h35 : Ow z8 A32 n33 c34 s.2.2.2.1), G (jps_word_C w F g2 Tb3 A4 n5 c6 z8 r) [.code q56c8, .inLoop q56c8, .inBlock 0, .code q56c4] [(0, .pointer (some ⟨g2, 0, none⟩)), (1, .string x10), (7, .int .i64 (x10.size : Int)), (8, .int .i64 s.1)] [.own (.slice A32 n33 c34) 31 4 n33 (s.2.2.2.1.flatMap eJN), .box g2 Tb3 [.string s.2.1, .int .i64 s.2.2.1, .slice A32 n33 c34, .int .i64 s.2.2.2.2.1, .int .i64 s.2.2.2.2.2]] [Sm w.heap.size F w [[g2], (Value.slice A4 n5 c6).ownBlock.toList], St w [[g2], (Value.slice A4 n5 c6).ownBlock.toList]])) ?_ hs
  clear hs s
  intro s o1 h hO1
  obtain ⟨x28, x29, x30, x31, x36, x37⟩ := s
  show ∀ (A32 : Option Addr) (n33 : Nat) (c34 : Nat) (h35 : Ow z8 A32 n33 c34 x31), G (jps_word_C w F g2 Tb3 A4 n5 c6 z8 r) [.code q56c8, .inLoop q56c8, .inBlock 0, .code q56c4] [(0, .pointer (some ⟨g2, 0, none⟩)), (1, .string x10), (7, .int .i64 (x10.size : Int)), (8, .int .i64 x28)] [.own (.slice A32 n33 c34) 31 4 n33 (x31.flatMap eJN), .box g2 Tb3 [.string x29, .int .i64 x30, .slice A32 n33 c34, .int .i64 x36, .int .i64 x37]] [Sm w.heap.size F w [[g2], (Value.slice A4 n5 c6).ownBlock.toList], St w [[g2], (Value.slice A4 n5 c6).ownBlock.toList]]
  intro A32 n33 c34 h35
  have h : jps_word_b1 x10 x28 x29 x30 x31 x36 x37 o1 := h
  unfold jps_word_b1 at h
  refine gSq (c := q56c8) rfl ?_
  refine gRg (c := q56c9) rfl rfl ?_
  refine wl_v 0 rfl (vBn rfl rfl rfl) gn rfl ?_
  refine w_end 1 rfl ?_
  refine gSq (c := q56c10) rfl ?_
  by_cases hp54 : x28 < (x10.size : Int)
  ·have h := if_pos' hp54 h
   refine gTr (c := q56c11) rfl _ rfl ((decide_eq_true hp54)) ?_
   refine g_skip (c := q56c13) rfl ?_
   refine gSq (c := q56c12) rfl ?_
   refine g_block (c := q56c15) rfl ?_
   refine gSq (c := q56c17) rfl ?_
   refine gRg (c := q56c18) rfl rfl ?_
   refine wl_v 0 rfl (vMv rfl) gn rfl ?_
   refine wl_v 1 rfl (vAs rfl) gn rfl ?_
   refine w_end 2 rfl ?_
   refine gSq (c := q56c19) rfl ?_
   refine gRg (c := q56c20) rfl rfl ?_
   refine wl_v 0 rfl (vMv rfl) gn rfl ?_
   refine wl_v 1 rfl (vMv rfl) gn rfl ?_
   refine wl_v 2 rfl (vMv rfl) gn rfl ?_
   refine wl_v 3 rfl (vMv rfl) gn rfl ?_
   refine wl_v 4 rfl (vBn rfl rfl rfl) gn rfl ?_
   obtain ⟨hb55, h⟩ := h
   refine wl_v 5 rfl (v_cutS x28 (w64 (x28 + 1)) un_9 rfl (.inr ⟨_, _, rfl, rfl⟩) (.inr ⟨_, _, rfl, rfl⟩) ⟨hb55.1, hb55.2.1⟩ hb55.2.2) gn rfl ?_
   obtain ⟨r59, hv60, h⟩ := h
   refine wl_s 6 rfl (sCl [.pointer (some ⟨g2, 0, none⟩), .string (x10.extract (x28 : Int).toNat (w64 (x28 + 1) : Int).toNat)] rfl Tryd.func71 rfl rfl rfl fun w56 hL57 => ?_) gn
   have hp58 : List.Perm ([.own (.slice A32 n33 c34) 31 4 n33 (x31.flatMap eJN), .box g2 Tb3 [.string x29, .int .i64 x30, .slice A32 n33 c34, .int .i64 x36, .int .i64 x37]] : List Ent) (([.box g2 Tb3 [.string x29, .int .i64 x30, .slice A32 n33 c34, .int .i64 x36, .int .i64 x37], .own (.slice A32 n33 c34) 31 4 n33 (x31.flatMap eJN)] : List Ent) ++ ([] : List Ent)) := pIx [1, 0] [] rfl rfl (by kernel_rfl)
   refine Calls.mono (jps_take_calls w56 (Fl ([] : List Snap)) (⟨x29, x30, x31, x36, x37⟩ : jps) (x10.extract (x28 : Int).toNat (w64 (x28 + 1) : Int).toNat) g2 Tb3 z8 A32 n33 c34 (Nat.le_trans hz9 hL57.env.size) h35 (hL57.hFl (Sl := ([] : List Snap)) hp58 (sels [] rfl)) (hL57.into hp58 (Fl ([] : List Snap))) r59 hv60) ?_
   rintro _ w66 ⟨A61, n62, c63, rfl, hM67, h64⟩
   have hL68 := hL57.call hp58 hM67
   refine ⟨_, _, _, rfl, hL68, ?_⟩
   refine wl_v 7 rfl (v_not rfl) gn rfl ?_
   refine w_end 8 rfl ?_
   by_cases hp69 : r59.1 = true
   ·have h := if_pos' hp69 h
    refine gFa (c := q56c21) rfl _ rfl ((nf hp69)) ?_
    refine g_skip (c := q56c23) rfl ?_
    refine g_inBlock ?_
    refine gRg (c := q56c16) rfl rfl ?_
    refine wl_v 0 rfl (vBn rfl rfl rfl) gn rfl ?_
    refine wl_v 1 rfl (vMv rfl) gn rfl ?_
    refine w_end 2 rfl ?_
    refine g_inLoop ?_
    refine gFr 0 rfl ?_
    refine gFr 1 rfl ?_
    have ih := Out.inl hO1 h
    exact g_go [0, 1] (ih A61 n62 c63 h64) ⟨rfl, rfl, rfl, rfl, trivial⟩ (.cons_cons _ (.cons_cons _ (.slnil))) rfl
   ·have h := if_neg' hp69 h
    refine gTr (c := q56c21) rfl _ rfl ((nt (bf hp69))) ?_
    refine gSq (c := q56c22) rfl ?_
    refine gRg (c := q56c24) rfl rfl ?_
    refine wl_v 0 rfl (vAs rfl) gn rfl ?_
    refine w_end 1 rfl ?_
    have h := Out.inr hO1 h
    refine g_retR (c := q56c25) [.bool false] rfl Tryd.func56 rfl (.tmp rfl (.nil)) fun wr hLr => ?_
    have hMr : B.Loc w wr [.box g2 Tb3 [.string r59.2.text, .int .i64 r59.2.at_, .slice A61 n62 c63, .int .i64 r59.2.in_, .int .i64 r59.2.code], .own (.slice A61 n62 c63) 31 4 n62 (r59.2.out.flatMap eJN)] [St w [[g2], (Value.slice A4 n5 c6).ownBlock.toList]] := hLr.pick (rest := []) (pIx [0, 1] [] rfl rfl (by kernel_rfl)) (sels [1] rfl)
    show jps_word_R w F g2 Tb3 A4 n5 c6 z8 r (.returned (packV [.bool false])) wr
    rw [h]
    exact ⟨A61, n62, c63, rfl, hMr, h64⟩
  ·have h := if_neg' hp54 h
   refine gFa (c := q56c11) rfl _ rfl ((decide_eq_false hp54)) ?_
   refine g_exit (c := q56c14) [.code q56c4] rfl rfl ?_
   refine gSq (c := q56c4) rfl ?_
   refine gRg (c := q56c26) rfl rfl ?_
   refine wl_v 0 rfl (vAs rfl) gn rfl ?_
   refine w_end 1 rfl ?_
   have h := Out.inr hO1 h
   refine g_retR (c := q56c27) [.bool true] rfl Tryd.func56 rfl (.tmp rfl (.nil)) fun wr hLr => ?_
   have hMr : B.Loc w wr [.box g2 Tb3 [.string x29, .int .i64 x30, .slice A32 n33 c34, .int .i64 x36, .int .i64 x37], .own (.slice A32 n33 c34) 31 4 n33 (x31.flatMap eJN)] [St w [[g2], (Value.slice A4 n5 c6).ownBlock.toList]] := hLr.pick (rest := []) (pIx [1, 0] [] rfl rfl (by kernel_rfl)) (sels [1] rfl)
   show jps_word_R w F g2 Tb3 A4 n5 c6 z8 r (.returned (packV [.bool true])) wr
   rw [h]
   exact ⟨A32, n33, c34, rfl, hMr, h35⟩
 refine gFr 0 rfl ?_
 refine gFr 1 rfl ?_
 exact g_go [0, 1] (key1 _ h A4 n5 c6 h7) ⟨rfl, rfl, rfl, rfl, trivial⟩ (.cons_cons _ (.cons_cons _ (.slnil))) rfl
noncomputable abbrev q95c0 : Code := bodyOf Tryd.f95
noncomputable abbrev q95c1 := Code.fst q95c0
noncomputable abbrev q95c2 := Code.snd q95c0
noncomputable abbrev q95c3 := Code.fst q95c2
noncomputable abbrev q95c4 := Code.snd q95c2
noncomputable abbrev q95c5 := Code.fst q95c3
noncomputable abbrev q95c6 := Code.snd q95c3
noncomputable abbrev q95c7 := Code.fst q95c6
noncomputable abbrev q95c8 := Code.snd q95c6
noncomputable abbrev q95c9 := Code.fst q95c4
noncomputable abbrev q95c10 := Code.snd q95c4
noncomputable abbrev q95c11 := Code.fst q95c10
noncomputable abbrev q95c12 := Code.snd q95c10
noncomputable abbrev q95c13 := Code.fst q95c11
noncomputable abbrev q95c14 := Code.snd q95c11
noncomputable abbrev q95c15 := Code.fst q95c14
noncomputable abbrev q95c16 := Code.snd q95c14
noncomputable abbrev q95c17 := Code.fst q95c15
noncomputable abbrev q95c18 := Code.snd q95c15
noncomputable abbrev q95c19 := Code.fst q95c12
noncomputable abbrev q95c20 := Code.snd q95c12
noncomputable abbrev q95c21 := Code.fst q95c7
noncomputable abbrev q95c22 := Code.snd q95c7
abbrev jps_hex_R (w : World) (F : Nat → Prop) (g2 : Nat) (Tb3 : Nat) (A4 : Option Addr) (n5 : Nat) (c6 : Nat) (z8 : Nat) (r : Int × Bool × jps) : Ending → World → Prop := fun e w' => ∃ A0 : Option Addr, ∃ n0 : Nat, ∃ c0 : Nat, e = .returned (.tuple #[.int .i32 r.1, .bool r.2.1]) ∧ B.Loc w w' [.box g2 Tb3 [.string r.2.2.text, .int .i64 r.2.2.at_, .slice A0 n0 c0, .int .i64 r.2.2.in_, .int .i64 r.2.2.code], .own (.slice A0 n0 c0) 31 4 n0 (r.2.2.out.flatMap eJN)] [St w [[g2], (Value.slice A4 n5 c6).ownBlock.toList]] ∧ Ow z8 A0 n0 c0 r.2.2.out
noncomputable abbrev jps_hex_C (w : World) (F : Nat → Prop) (g2 : Nat) (Tb3 : Nat) (A4 : Option Addr) (n5 : Nat) (c6 : Nat) (z8 : Nat) (r : Int × Bool × jps) : Cx := ⟨Tryd.prog, 95, Tryd.f95, 31, jps_hex_R w F g2 Tb3 A4 n5 c6 z8 r, w⟩
theorem jps_hex_calls (w : World) (F : Nat → Prop) (x1 : jps) (x10 : ByteArray) (g2 : Nat) (Tb3 : Nat) (z8 : Nat) (A4 : Option Addr) (n5 : Nat) (c6 : Nat) (hz9 : z8 ≤ w.heap.size) (h7 : Ow z8 A4 n5 c6 x1.out) (hF : ∀ b, F b → b < w.heap.size ∧ ∀ o ∈ ([[g2], (Value.slice A4 n5 c6).ownBlock.toList] : List (List Nat)), b ∉ o) (hL0 : B.Loc w w [.box g2 Tb3 [.string x1.text, .int .i64 x1.at_, .slice A4 n5 c6, .int .i64 x1.in_, .int .i64 x1.code], .own (.slice A4 n5 c6) 31 4 n5 (x1.out.flatMap eJN)] [Sm w.heap.size F w [[g2], (Value.slice A4 n5 c6).ownBlock.toList], St w [[g2], (Value.slice A4 n5 c6).ownBlock.toList]]) (r : Int × Bool × jps) (h : jps_hex x1 x10 r) : Calls Tryd.prog 95 #[.pointer (some ⟨g2, 0, none⟩), .string x10] w (jps_hex_R w F g2 Tb3 A4 n5 c6 z8 r) := by
 unfold jps_hex at h
 refine calls_of_Loc (vs := [.pointer (some ⟨g2, 0, none⟩), .string x10]) 31 Tryd.func95 rfl Tryd.ntmps95 rfl hL0 ?_
 show G (jps_hex_C w F g2 Tb3 A4 n5 c6 z8 r) _ _ _ _
 refine gSq (c := q95c0) rfl ?_
 refine gRg (c := q95c1) rfl rfl ?_
 refine wl_v 0 rfl (vAs rfl) gn rfl ?_
 refine wl_v 1 rfl (vAs rfl) gn rfl ?_
 refine w_end 2 rfl ?_
 refine gSq (c := q95c2) rfl ?_
 refine gSq (c := q95c3) rfl ?_
 refine gRg (c := q95c5) rfl rfl ?_
 refine wl_v 0 rfl (vMv rfl) gn rfl ?_
 refine wl_v 1 rfl (vMv rfl) gn rfl ?_
 obtain ⟨r14, hv15, h⟩ := h
 refine wl_s 2 rfl (sCl [.pointer (some ⟨g2, 0, none⟩), .string x10] rfl Tryd.func71 rfl rfl rfl fun w11 hL12 => ?_) gn
 have hp13 : List.Perm ([.box g2 Tb3 [.string x1.text, .int .i64 x1.at_, .slice A4 n5 c6, .int .i64 x1.in_, .int .i64 x1.code], .own (.slice A4 n5 c6) 31 4 n5 (x1.out.flatMap eJN)] : List Ent) (([.box g2 Tb3 [.string x1.text, .int .i64 x1.at_, .slice A4 n5 c6, .int .i64 x1.in_, .int .i64 x1.code], .own (.slice A4 n5 c6) 31 4 n5 (x1.out.flatMap eJN)] : List Ent) ++ ([] : List Ent)) := pIx [0, 1] [] rfl rfl (by kernel_rfl)
 refine Calls.mono (jps_take_calls w11 (Fl ([] : List Snap)) x1 x10 g2 Tb3 z8 A4 n5 c6 (Nat.le_trans hz9 hL12.env.size) h7 (hL12.hFl (Sl := ([] : List Snap)) hp13 (sels [] rfl)) (hL12.into hp13 (Fl ([] : List Snap))) r14 hv15) ?_
 rintro _ w21 ⟨A16, n17, c18, rfl, hM22, h19⟩
 have hL23 := hL12.call hp13 hM22
 refine ⟨_, _, _, rfl, hL23, ?_⟩
 refine wl_v 3 rfl (v_not rfl) gn rfl ?_
 refine w_end 4 rfl ?_
 by_cases hp24 : r14.1 = true
 ·have h := if_pos' hp24 h
  refine gFa (c := q95c6) rfl _ rfl ((nf hp24)) ?_
  refine g_skip (c := q95c8) rfl ?_
  refine gSq (c := q95c4) rfl ?_
  obtain ⟨hb25, h⟩ := h
  have hns : Region.noSelect (Code.ops q95c9) = true := by kernel_rfl
  refine g_drawF (c := q95c9) [.box g2 Tb3 [.string r14.2.text, .int .i64 r14.2.at_, .slice A16 n17 c18, .int .i64 r14.2.in_, .int .i64 r14.2.code], .own (.slice A16 n17 c18) 31 4 n17 (r14.2.out.flatMap eJN)] [Sm w.heap.size F w [[g2], (Value.slice A4 n5 c6).ownBlock.toList], St w [[g2], (Value.slice A4 n5 c6).ownBlock.toList]] [] 11 rfl rfl mix rfl (.cons_cons _ (.cons_cons _ (.slnil))) (sels [0, 1] rfl) ?_
  refine wfv 0 rfl (vMv rfl) gn hns rfl ?_
  refine wfv 1 rfl (vNc rfl) gn hns rfl ?_
  refine wfv 2 rfl (vFB fo_70_0 rfl) gn hns rfl ?_
  refine wfv 3 rfl (v_ldB1 0 ld_9 rfl rfl rfl) gn hns rfl ?_
  refine wfv 4 rfl (vMv rfl) gn hns rfl ?_
  refine wfv 5 rfl (vNc rfl) gn hns rfl ?_
  refine wfv 6 rfl (vFB fo_70_1 rfl) gn hns rfl ?_
  refine wfv 7 rfl (v_ldB1 0 ld_3 rfl rfl rfl) gn hns rfl ?_
  refine wfv 8 rfl (vBn rfl rfl rfl) gn hns rfl ?_
  refine wfv 9 rfl (v_indexS un_9 rfl rfl hb25) gn hns rfl ?_
  refine wfv 10 rfl (vAs rfl) gn hns rfl ?_
  refine wf_end (by kernel_rfl) ?_
  refine gSq (c := q95c10) rfl ?_
  refine gSq (c := q95c11) rfl ?_
  refine gRg (c := q95c13) rfl rfl ?_
  refine wl_v 0 rfl (vMv rfl) gn rfl ?_
  refine wl_v 1 rfl (vBn rfl rfl rfl) gn rfl ?_
  refine w_end 2 rfl ?_
  by_cases hp26 : bt r14.2.text (w64 (r14.2.at_ - 1)) ≤ 57
  ·have h := if_pos' hp26 h
   refine gTr (c := q95c14) rfl _ rfl ((decide_eq_true hp26)) ?_
   refine gSq (c := q95c15) rfl ?_
   refine gRg (c := q95c17) rfl rfl ?_
   refine wl_v 0 rfl (vMv rfl) gn rfl ?_
   refine wl_v 1 rfl (vBn rfl rfl rfl) gn rfl ?_
   refine wl_v 2 rfl (v_conv ⟨_, un_5⟩ un_21 rfl) gn rfl ?_
   refine wl_v 3 rfl (vAs rfl) gn rfl ?_
   refine wl_v 4 rfl (vAs rfl) gn rfl ?_
   refine w_end 5 rfl ?_
   refine g_retR (c := q95c18) [.int .i32 (IntKind.i32.wrap (IntKind.u8.wrap ((bt r14.2.text (w64 (r14.2.at_ - 1))) - 48))), .bool true] rfl Tryd.func95 rfl (.tmp rfl (.tmp rfl (.nil))) fun wr hLr => ?_
   have hMr : B.Loc w wr [.box g2 Tb3 [.string r14.2.text, .int .i64 r14.2.at_, .slice A16 n17 c18, .int .i64 r14.2.in_, .int .i64 r14.2.code], .own (.slice A16 n17 c18) 31 4 n17 (r14.2.out.flatMap eJN)] [St w [[g2], (Value.slice A4 n5 c6).ownBlock.toList]] := hLr.pick (rest := []) (pIx [0, 1] [] rfl rfl (by kernel_rfl)) (sels [1] rfl)
   show jps_hex_R w F g2 Tb3 A4 n5 c6 z8 r (.returned (packV [.int .i32 (IntKind.i32.wrap (IntKind.u8.wrap ((bt r14.2.text (w64 (r14.2.at_ - 1))) - 48))), .bool true])) wr
   rw [h]
   exact ⟨A16, n17, c18, rfl, hMr, h19⟩
  ·have h := if_neg' hp26 h
   refine gFa (c := q95c14) rfl _ rfl ((decide_eq_false hp26)) ?_
   refine g_skip (c := q95c16) rfl ?_
   refine gSq (c := q95c12) rfl ?_
   refine gRg (c := q95c19) rfl rfl ?_
   refine wl_v 0 rfl (vMv rfl) gn rfl ?_
   refine wl_v 1 rfl (vBn rfl rfl rfl) gn rfl ?_
   refine wl_v 2 rfl (v_conv ⟨_, un_5⟩ un_21 rfl) gn rfl ?_
   refine wl_v 3 rfl (vBn rfl rfl rfl) gn rfl ?_
   refine wl_v 4 rfl (vBn rfl rfl rfl) gn rfl ?_
   refine wl_v 5 rfl (vAs rfl) gn rfl ?_
   refine wl_v 6 rfl (vAs rfl) gn rfl ?_
   refine w_end 7 rfl ?_
   refine g_retR (c := q95c20) [.int .i32 (IntKind.i32.wrap ((IntKind.i32.wrap ((IntKind.i32.wrap (bits .or .u8 (bt r14.2.text (w64 (r14.2.at_ - 1))) 32)) - 97)) + 10)), .bool true] rfl Tryd.func95 rfl (.tmp rfl (.tmp rfl (.nil))) fun wr hLr => ?_
   have hMr : B.Loc w wr [.box g2 Tb3 [.string r14.2.text, .int .i64 r14.2.at_, .slice A16 n17 c18, .int .i64 r14.2.in_, .int .i64 r14.2.code], .own (.slice A16 n17 c18) 31 4 n17 (r14.2.out.flatMap eJN)] [St w [[g2], (Value.slice A4 n5 c6).ownBlock.toList]] := hLr.pick (rest := []) (pIx [0, 1] [] rfl rfl (by kernel_rfl)) (sels [1] rfl)
   show jps_hex_R w F g2 Tb3 A4 n5 c6 z8 r (.returned (packV [.int .i32 (IntKind.i32.wrap ((IntKind.i32.wrap ((IntKind.i32.wrap (bits .or .u8 (bt r14.2.text (w64 (r14.2.at_ - 1))) 32)) - 97)) + 10)), .bool true])) wr
   rw [h]
   exact ⟨A16, n17, c18, rfl, hMr, h19⟩
 ·have h := if_neg' hp24 h
  refine gTr (c := q95c6) rfl _ rfl ((nt (bf hp24))) ?_
  refine gSq (c := q95c7) rfl ?_
  refine gRg (c := q95c21) rfl rfl ?_
  refine wl_v 0 rfl (vAs rfl) gn rfl ?_
  refine wl_v 1 rfl (vAs rfl) gn rfl ?_
  refine w_end 2 rfl ?_
  refine g_retR (c := q95c22) [.int .i32 0, .bool false] rfl Tryd.func95 rfl (.tmp rfl (.tmp rfl (.nil))) fun wr hLr => ?_
  have hMr : B.Loc w wr [.box g2 Tb3 [.string r14.2.text, .int .i64 r14.2.at_, .slice A16 n17 c18, .int .i64 r14.2.in_, .int .i64 r14.2.code], .own (.slice A16 n17 c18) 31 4 n17 (r14.2.out.flatMap eJN)] [St w [[g2], (Value.slice A4 n5 c6).ownBlock.toList]] := hLr.pick (rest := []) (pIx [0, 1] [] rfl rfl (by kernel_rfl)) (sels [1] rfl)
  show jps_hex_R w F g2 Tb3 A4 n5 c6 z8 r (.returned (packV [.int .i32 0, .bool false])) wr
  rw [h]
  exact ⟨A16, n17, c18, rfl, hMr, h19⟩
noncomputable abbrev q85c0 : Code := bodyOf Tryd.f85
noncomputable abbrev q85c1 := Code.fst q85c0
noncomputable abbrev q85c2 := Code.snd q85c0
noncomputable abbrev q85c3 := Code.fst q85c2
noncomputable abbrev q85c4 := Code.snd q85c2
noncomputable abbrev q85c5 := Code.fst q85c4
noncomputable abbrev q85c6 := Code.snd q85c4
noncomputable abbrev q85c7 := Code.fst q85c5
noncomputable abbrev q85c8 := Code.fst q85c7
noncomputable abbrev q85c9 := Code.snd q85c7
noncomputable abbrev q85c10 := Code.fst q85c9
noncomputable abbrev q85c11 := Code.snd q85c9
noncomputable abbrev q85c12 := Code.fst q85c11
noncomputable abbrev q85c13 := Code.snd q85c11
noncomputable abbrev q85c14 := Code.fst q85c13
noncomputable abbrev q85c15 := Code.snd q85c13
noncomputable abbrev q85c16 := Code.fst q85c6
noncomputable abbrev q85c17 := Code.snd q85c6
noncomputable abbrev q85c18 := Code.fst q85c17
noncomputable abbrev q85c19 := Code.snd q85c17
noncomputable abbrev q85c20 := Code.fst q85c18
noncomputable abbrev q85c21 := Code.snd q85c18
noncomputable abbrev q85c22 := Code.fst q85c21
noncomputable abbrev q85c23 := Code.fst q85c22
noncomputable abbrev q85c24 := Code.fst q85c23
noncomputable abbrev q85c25 := Code.snd q85c23
noncomputable abbrev q85c26 := Code.fst q85c25
noncomputable abbrev q85c27 := Code.snd q85c25
noncomputable abbrev q85c28 := Code.fst q85c26
noncomputable abbrev q85c29 := Code.snd q85c26
noncomputable abbrev q85c30 := Code.fst q85c27
noncomputable abbrev q85c31 := Code.snd q85c27
noncomputable abbrev q85c32 := Code.fst q85c30
noncomputable abbrev q85c33 := Code.fst q85c32
noncomputable abbrev q85c34 := Code.snd q85c32
noncomputable abbrev q85c35 := Code.fst q85c34
noncomputable abbrev q85c36 := Code.snd q85c34
noncomputable abbrev q85c37 := Code.fst q85c36
noncomputable abbrev q85c38 := Code.snd q85c36
noncomputable abbrev q85c39 := Code.fst q85c37
noncomputable abbrev q85c40 := Code.snd q85c37
noncomputable abbrev q85c41 := Code.fst q85c40
noncomputable abbrev q85c42 := Code.snd q85c40
noncomputable abbrev q85c43 := Code.fst q85c41
noncomputable abbrev q85c44 := Code.snd q85c41
noncomputable abbrev q85c45 := Code.fst q85c19
noncomputable abbrev q85c46 := Code.snd q85c19
abbrev jps_four_R (w : World) (F : Nat → Prop) (g2 : Nat) (Tb3 : Nat) (A4 : Option Addr) (n5 : Nat) (c6 : Nat) (z8 : Nat) (r : Int × Bool × jps) : Ending → World → Prop := fun e w' => ∃ A0 : Option Addr, ∃ n0 : Nat, ∃ c0 : Nat, e = .returned (.tuple #[.int .i32 r.1, .bool r.2.1]) ∧ B.Loc w w' [.box g2 Tb3 [.string r.2.2.text, .int .i64 r.2.2.at_, .slice A0 n0 c0, .int .i64 r.2.2.in_, .int .i64 r.2.2.code], .own (.slice A0 n0 c0) 31 4 n0 (r.2.2.out.flatMap eJN)] [St w [[g2], (Value.slice A4 n5 c6).ownBlock.toList]] ∧ Ow z8 A0 n0 c0 r.2.2.out
noncomputable abbrev jps_four_C (w : World) (F : Nat → Prop) (g2 : Nat) (Tb3 : Nat) (A4 : Option Addr) (n5 : Nat) (c6 : Nat) (z8 : Nat) (r : Int × Bool × jps) : Cx := ⟨Tryd.prog, 85, Tryd.f85, 38, jps_four_R w F g2 Tb3 A4 n5 c6 z8 r, w⟩
theorem jps_four_calls (w : World) (F : Nat → Prop) (x1 : jps) (x10 : Bool) (g2 : Nat) (Tb3 : Nat) (z8 : Nat) (A4 : Option Addr) (n5 : Nat) (c6 : Nat) (hz9 : z8 ≤ w.heap.size) (h7 : Ow z8 A4 n5 c6 x1.out) (hF : ∀ b, F b → b < w.heap.size ∧ ∀ o ∈ ([[g2], (Value.slice A4 n5 c6).ownBlock.toList] : List (List Nat)), b ∉ o) (hL0 : B.Loc w w [.box g2 Tb3 [.string x1.text, .int .i64 x1.at_, .slice A4 n5 c6, .int .i64 x1.in_, .int .i64 x1.code], .own (.slice A4 n5 c6) 31 4 n5 (x1.out.flatMap eJN)] [Sm w.heap.size F w [[g2], (Value.slice A4 n5 c6).ownBlock.toList], St w [[g2], (Value.slice A4 n5 c6).ownBlock.toList]]) (r : Int × Bool × jps) (h : jps_four x1 x10 r) : Calls Tryd.prog 85 #[.pointer (some ⟨g2, 0, none⟩), .bool x10] w (jps_four_R w F g2 Tb3 A4 n5 c6 z8 r) := by
 unfold jps_four at h
 refine calls_of_Loc (vs := [.pointer (some ⟨g2, 0, none⟩), .bool x10]) 38 Tryd.func85 rfl Tryd.ntmps85 rfl hL0 ?_
 show G (jps_four_C w F g2 Tb3 A4 n5 c6 z8 r) _ _ _ _
 refine gSq (c := q85c0) rfl ?_
 refine gRg (c := q85c1) rfl rfl ?_
 refine wl_v 0 rfl (vAs rfl) gn rfl ?_
 refine wl_v 1 rfl (vAs rfl) gn rfl ?_
 refine w_end 2 rfl ?_
 refine gSq (c := q85c2) rfl ?_
 refine gRg (c := q85c3) rfl rfl ?_
 refine wl_v 0 rfl (vAs rfl) gn rfl ?_
 refine wl_v 1 rfl (vAs rfl) gn rfl ?_
 refine w_end 2 rfl ?_
 refine gSq (c := q85c4) rfl ?_
 refine g_block (c := q85c5) rfl ?_
 refine gSq (c := q85c7) rfl ?_
 refine gRg (c := q85c8) rfl rfl ?_
 refine wl_v 0 rfl (vMv rfl) gn rfl ?_
 refine wl_v 1 rfl (vAs rfl) gn rfl ?_
 refine w_end 2 rfl ?_
 have j1 : ∀ (x27 : ByteArray) (x28 : ByteArray) (x29 : ByteArray) (x30 : Int) (x31 : List JNd) (x36 : Int) (x37 : Int) (h : jps_four_j1 x27 x28 x29 x30 x31 x36 x37 r) (A32 : Option Addr) (n33 : Nat) (c34 : Nat) (h35 : Ow z8 A32 n33 c34 x31), G (jps_four_C w F g2 Tb3 A4 n5 c6 z8 r) [.inBlock 0, .code q85c6] [(0, .pointer (some ⟨g2, 0, none⟩)), (6, .string x27), (7, .string x28)] [.own (.slice A32 n33 c34) 31 4 n33 (x31.flatMap eJN), .box g2 Tb3 [.string x29, .int .i64 x30, .slice A32 n33 c34, .int .i64 x36, .int .i64 x37]] [Sm w.heap.size F w [[g2], (Value.slice A4 n5 c6).ownBlock.toList], St w [[g2], (Value.slice A4 n5 c6).ownBlock.toList]] := by
  intro x27 x28 x29 x30 x31 x36 x37 h A32 n33 c34 h35
  unfold jps_four_j1 at h
  refine g_inBlock ?_
  refine gSq (c := q85c6) rfl ?_
  refine gRg (c := q85c16) rfl rfl ?_
  refine wl_v 0 rfl (vAs rfl) gn rfl ?_
  refine w_end 1 rfl ?_
  refine gSq (c := q85c17) rfl ?_
  refine gSq (c := q85c18) rfl ?_
  refine gRg (c := q85c20) rfl rfl ?_
  refine wl_v 0 rfl (vMv rfl) gn rfl ?_
  refine wl_v 1 rfl (vMv rfl) gn rfl ?_
  refine wl_v 2 rfl (v_buildA ((encA 4 fun j => [.string ((arrL ([x27, x28, (⟨#[48, 49, 50, 51, 52, 53, 54, 55, 56, 57, 97, 98, 99, 100, 101, 102, 65, 66, 67, 68, 69, 70]⟩ : ByteArray), (⟨#[48, 49, 50, 51, 52, 53, 54, 55, 56, 57, 97, 98, 99, 100, 101, 102, 65, 66, 67, 68, 69, 70]⟩ : ByteArray)] : List ByteArray)) j)])).toArray bA_42 rfl (by kernel_rfl)) gn rfl ?_
  refine wl_v 3 rfl (vMv rfl) gn rfl ?_
  refine w_end 4 rfl ?_
  refine g_block (c := q85c21) rfl ?_
  refine g_loop (c := q85c22) rfl ?_
  have key2 : ∀ s, Rounds (fun (s : Int × Int × ByteArray × Int × (List JNd) × Int × Int) o => jps_four_b2 x27 x28 s.1 s.2.1 s.2.2.1 s.2.2.2.1 s.2.2.2.2.1 s.2.2.2.2.2.1 s.2.2.2.2.2.2 o) s r → (fun (s : Int × Int × ByteArray × Int × (List JNd) × Int × Int) => ∀ (A59 : Option Addr) (n60 : Nat) (c61 : Nat) (h62 : Ow z8 A59 n60 c61 s.2.2.2.2.1), G (jps_four_C w F g2 Tb3 A4 n5 c6 z8 r) [.code q85c23, .inLoop q85c23, .inBlock 1, .code q85c19] [(0, .pointer (some ⟨g2, 0, none⟩)), (8, .int .i32 s.1), (20, .agg (encA 4 fun j => [.string ((arrL ([x27, x28, (⟨#[48, 49, 50, 51, 52, 53, 54, 55, 56, 57, 97, 98, 99, 100, 101, 102, 65, 66, 67, 68, 69, 70]⟩ : ByteArray), (⟨#[48, 49, 50, 51, 52, 53, 54, 55, 56, 57, 97, 98, 99, 100, 101, 102, 65, 66, 67, 68, 69, 70]⟩ : ByteArray)] : List ByteArray)) j)]).toArray), (21, .int .i64 s.2.1)] [.own (.slice A59 n60 c61) 31 4 n60 (s.2.2.2.2.1.flatMap eJN), .box g2 Tb3 [.string s.2.2.1, .int .i64 s.2.2.2.1, .slice A59 n60 c61, .int .i64 s.2.2.2.2.2.1, .int .i64 s.2.2.2.2.2.2]] [Sm w.heap.size F w [[g2], (Value.slice A4 n5 c6).ownBlock.toList], St w [[g2], (Value.slice A4 n5 c6).ownBlock.toList]]) s := by
   intro s hs
   refine Rounds.ind (mot := (fun (s : Int × Int × ByteArray × Int × (List JNd) × Int × Int) => ∀ (A59 : Option Addr) (n60 : Nat) (c61 : Nat) (h62 : Ow z8 A59 n60 c61 s.2.2.2.2.1), G (jps_four_C w F g2 Tb3 A4 n5 c6 z8 r) [.code q85c23, .inLoop q85c23, .inBlock 1, .code q85c19] [(0, .pointer (some ⟨g2, 0, none⟩)), (8, .int .i32 s.1), (20, .agg (encA 4 fun j => [.string ((arrL ([x27, x28, (⟨#[48, 49, 50, 51, 52, 53, 54, 55, 56, 57, 97, 98, 99, 100, 101, 102, 65, 66, 67, 68, 69, 70]⟩ : ByteArray), (⟨#[48, 49, 50, 51, 52, 53, 54, 55, 56, 57, 97, 98, 99, 100, 101, 102, 65, 66, 67, 68, 69, 70]⟩ : ByteArray)] : List ByteArray)) j)]).toArray), (21, .int .i64 s.2.1)] [.own (.slice A59 n60 c61) 31 4 n60 (s.2.2.2.2.1.flatMap eJN), .box g2 Tb3 [.string s.2.2.1, .int .i64 s.2.2.2.1, .slice A59 n60 c61, .int .i64 s.2.2.2.2.2.1, .int .i64 s.2.2.2.2.2.2]] [Sm w.heap.size F w [[g2], (Value.slice A4 n5 c6).ownBlock.toList], St w [[g2], (Value.slice A4 n5 c6).ownBlock.toList]])) ?_ hs
   clear hs s
   intro s o1 h hO1
   obtain ⟨x54, x55, x56, x57, x58, x63, x64⟩ := s
   show ∀ (A59 : Option Addr) (n60 : Nat) (c61 : Nat) (h62 : Ow z8 A59 n60 c61 x58), G (jps_four_C w F g2 Tb3 A4 n5 c6 z8 r) [.code q85c23, .inLoop q85c23, .inBlock 1, .code q85c19] [(0, .pointer (some ⟨g2, 0, none⟩)), (8, .int .i32 x54), (20, .agg (encA 4 fun j => [.string ((arrL ([x27, x28, (⟨#[48, 49, 50, 51, 52, 53, 54, 55, 56, 57, 97, 98, 99, 100, 101, 102, 65, 66, 67, 68, 69, 70]⟩ : ByteArray), (⟨#[48, 49, 50, 51, 52, 53, 54, 55, 56, 57, 97, 98, 99, 100, 101, 102, 65, 66, 67, 68, 69, 70]⟩ : ByteArray)] : List ByteArray)) j)]).toArray), (21, .int .i64 x55)] [.own (.slice A59 n60 c61) 31 4 n60 (x58.flatMap eJN), .box g2 Tb3 [.string x56, .int .i64 x57, .slice A59 n60 c61, .int .i64 x63, .int .i64 x64]] [Sm w.heap.size F w [[g2], (Value.slice A4 n5 c6).ownBlock.toList], St w [[g2], (Value.slice A4 n5 c6).ownBlock.toList]]
   intro A59 n60 c61 h62
   have h : jps_four_b2 x27 x28 x54 x55 x56 x57 x58 x63 x64 o1 := h
   unfold jps_four_b2 at h
   refine gSq (c := q85c23) rfl ?_
   refine gRg (c := q85c24) rfl rfl ?_
   refine wl_v 0 rfl (vBn rfl rfl rfl) gn rfl ?_
   refine w_end 1 rfl ?_
   refine gSq (c := q85c25) rfl ?_
   by_cases hp81 : x55 < 4
   ·have h := if_pos' hp81 h
    refine gTr (c := q85c26) rfl _ rfl ((decide_eq_true hp81)) ?_
    refine g_skip (c := q85c28) rfl ?_
    refine gSq (c := q85c27) rfl ?_
    refine g_block (c := q85c30) rfl ?_
    refine gSq (c := q85c32) rfl ?_
    refine gRg (c := q85c33) rfl rfl ?_
    obtain ⟨hb82, h⟩ := h
    refine wl_v 0 rfl (v_indexA (f := (arrL ([x27, x28, (⟨#[48, 49, 50, 51, 52, 53, 54, 55, 56, 57, 97, 98, 99, 100, 101, 102, 65, 66, 67, 68, 69, 70]⟩ : ByteArray), (⟨#[48, 49, 50, 51, 52, 53, 54, 55, 56, 57, 97, 98, 99, 100, 101, 102, 65, 66, 67, 68, 69, 70]⟩ : ByteArray)] : List ByteArray))) (enc := fun x => .string x) ai_42 rfl rfl hb82) gn rfl ?_
    refine wl_v 1 rfl (vAs rfl) gn rfl ?_
    refine w_end 2 rfl ?_
    refine gSq (c := q85c34) rfl ?_
    refine gRg (c := q85c35) rfl rfl ?_
    refine wl_v 0 rfl (vMv rfl) gn rfl ?_
    refine wl_v 1 rfl (vMv rfl) gn rfl ?_
    obtain ⟨r86, hv87, h⟩ := h
    refine wl_s 2 rfl (sCl [.pointer (some ⟨g2, 0, none⟩), .string ((arrL ([x27, x28, (⟨#[48, 49, 50, 51, 52, 53, 54, 55, 56, 57, 97, 98, 99, 100, 101, 102, 65, 66, 67, 68, 69, 70]⟩ : ByteArray), (⟨#[48, 49, 50, 51, 52, 53, 54, 55, 56, 57, 97, 98, 99, 100, 101, 102, 65, 66, 67, 68, 69, 70]⟩ : ByteArray)] : List ByteArray)) x55)] rfl Tryd.func95 rfl rfl rfl fun w83 hL84 => ?_) gn
    have hp85 : List.Perm ([.own (.slice A59 n60 c61) 31 4 n60 (x58.flatMap eJN), .box g2 Tb3 [.string x56, .int .i64 x57, .slice A59 n60 c61, .int .i64 x63, .int .i64 x64]] : List Ent) (([.box g2 Tb3 [.string x56, .int .i64 x57, .slice A59 n60 c61, .int .i64 x63, .int .i64 x64], .own (.slice A59 n60 c61) 31 4 n60 (x58.flatMap eJN)] : List Ent) ++ ([] : List Ent)) := pIx [1, 0] [] rfl rfl (by kernel_rfl)
    refine Calls.mono (jps_hex_calls w83 (Fl ([] : List Snap)) (⟨x56, x57, x58, x63, x64⟩ : jps) ((arrL ([x27, x28, (⟨#[48, 49, 50, 51, 52, 53, 54, 55, 56, 57, 97, 98, 99, 100, 101, 102, 65, 66, 67, 68, 69, 70]⟩ : ByteArray), (⟨#[48, 49, 50, 51, 52, 53, 54, 55, 56, 57, 97, 98, 99, 100, 101, 102, 65, 66, 67, 68, 69, 70]⟩ : ByteArray)] : List ByteArray)) x55) g2 Tb3 z8 A59 n60 c61 (Nat.le_trans hz9 hL84.env.size) h62 (hL84.hFl (Sl := ([] : List Snap)) hp85 (sels [] rfl)) (hL84.into hp85 (Fl ([] : List Snap))) r86 hv87) ?_
    rintro _ w93 ⟨A88, n89, c90, rfl, hM94, h91⟩
    have hL95 := hL84.call hp85 hM94
    refine ⟨_, _, _, rfl, hL95, ?_⟩
    refine wl_v 3 rfl (vMv rfl) gn rfl ?_
    refine wl_v 4 rfl (v_extract rfl rfl) gn rfl ?_
    refine wl_v 5 rfl (v_extract rfl rfl) gn rfl ?_
    refine wl_v 6 rfl (vAs rfl) gn rfl ?_
    refine wl_v 7 rfl (vAs rfl) gn rfl ?_
    refine w_end 8 rfl ?_
    refine gSq (c := q85c36) rfl ?_
    refine gSq (c := q85c37) rfl ?_
    refine gRg (c := q85c39) rfl rfl ?_
    refine wl_v 0 rfl (vMv rfl) gn rfl ?_
    refine wl_v 1 rfl (v_not rfl) gn rfl ?_
    refine w_end 2 rfl ?_
    by_cases hp96 : r86.2.1 = true
    ·have h := if_pos' hp96 h
     refine gFa (c := q85c40) rfl _ rfl ((nf hp96)) ?_
     refine g_skip (c := q85c42) rfl ?_
     refine gRg (c := q85c38) rfl rfl ?_
     refine wl_v 0 rfl (vMv rfl) gn rfl ?_
     refine wl_v 1 rfl (vBn rfl rfl rfl) gn rfl ?_
     refine wl_v 2 rfl (vMv rfl) gn rfl ?_
     refine wl_v 3 rfl (vBn rfl rfl rfl) gn rfl ?_
     refine wl_v 4 rfl (vAs rfl) gn rfl ?_
     refine w_end 5 rfl ?_
     refine g_inBlock ?_
     refine gRg (c := q85c31) rfl rfl ?_
     refine wl_v 0 rfl (vBn rfl rfl rfl) gn rfl ?_
     refine wl_v 1 rfl (vMv rfl) gn rfl ?_
     refine w_end 2 rfl ?_
     refine g_inLoop ?_
     refine gFr 0 rfl ?_
     refine gFr 1 rfl ?_
     have ih := Out.inl hO1 h
     exact g_go [0, 1] (ih A88 n89 c90 h91) ⟨rfl, rfl, rfl, rfl, trivial⟩ (.cons_cons _ (.cons_cons _ (.slnil))) rfl
    ·have h := if_neg' hp96 h
     refine gTr (c := q85c40) rfl _ rfl ((nt (bf hp96))) ?_
     refine gSq (c := q85c41) rfl ?_
     refine gRg (c := q85c43) rfl rfl ?_
     refine wl_v 0 rfl (vAs rfl) gn rfl ?_
     refine wl_v 1 rfl (vAs rfl) gn rfl ?_
     refine w_end 2 rfl ?_
     have h := Out.inr hO1 h
     refine g_retR (c := q85c44) [.int .i32 0, .bool false] rfl Tryd.func85 rfl (.tmp rfl (.tmp rfl (.nil))) fun wr hLr => ?_
     have hMr : B.Loc w wr [.box g2 Tb3 [.string r86.2.2.text, .int .i64 r86.2.2.at_, .slice A88 n89 c90, .int .i64 r86.2.2.in_, .int .i64 r86.2.2.code], .own (.slice A88 n89 c90) 31 4 n89 (r86.2.2.out.flatMap eJN)] [St w [[g2], (Value.slice A4 n5 c6).ownBlock.toList]] := hLr.pick (rest := []) (pIx [0, 1] [] rfl rfl (by kernel_rfl)) (sels [1] rfl)
     show jps_four_R w F g2 Tb3 A4 n5 c6 z8 r (.returned (packV [.int .i32 0, .bool false])) wr
     rw [h]
     exact ⟨A88, n89, c90, rfl, hMr, h91⟩
   ·have h := if_neg' hp81 h
    refine gFa (c := q85c26) rfl _ rfl ((decide_eq_false hp81)) ?_
    refine g_exit (c := q85c29) [.code q85c19] rfl rfl ?_
    refine gSq (c := q85c19) rfl ?_
    refine gRg (c := q85c45) rfl rfl ?_
    refine wl_v 0 rfl (vMv rfl) gn rfl ?_
    refine wl_v 1 rfl (vAs rfl) gn rfl ?_
    refine wl_v 2 rfl (vAs rfl) gn rfl ?_
    refine w_end 3 rfl ?_
    have h := Out.inr hO1 h
    refine g_retR (c := q85c46) [.int .i32 x54, .bool true] rfl Tryd.func85 rfl (.tmp rfl (.tmp rfl (.nil))) fun wr hLr => ?_
    have hMr : B.Loc w wr [.box g2 Tb3 [.string x56, .int .i64 x57, .slice A59 n60 c61, .int .i64 x63, .int .i64 x64], .own (.slice A59 n60 c61) 31 4 n60 (x58.flatMap eJN)] [St w [[g2], (Value.slice A4 n5 c6).ownBlock.toList]] := hLr.pick (rest := []) (pIx [1, 0] [] rfl rfl (by kernel_rfl)) (sels [1] rfl)
    show jps_four_R w F g2 Tb3 A4 n5 c6 z8 r (.returned (packV [.int .i32 x54, .bool true])) wr
    rw [h]
    exact ⟨A59, n60, c61, rfl, hMr, h62⟩
  exact g_go [0, 1] (key2 _ h A32 n33 c34 h35) ⟨rfl, rfl, rfl, rfl, trivial⟩ (.cons_cons _ (.cons_cons _ (.slnil))) rfl
 by_cases hp11 : x10 = true
 ·have h := if_pos' hp11 h
  refine gTr (c := q85c9) rfl _ rfl (hp11) ?_
  refine gRg (c := q85c10) rfl rfl ?_
  refine wl_v 0 rfl (vAs rfl) gn rfl ?_
  refine wl_v 1 rfl (vAs rfl) gn rfl ?_
  refine w_end 2 rfl ?_
  refine gFr 0 rfl ?_
  refine gFr 1 rfl ?_
  exact g_go [0, 1] (j1 (⟨#[100, 68]⟩ : ByteArray) (⟨#[99, 100, 101, 102, 67, 68, 69, 70]⟩ : ByteArray) x1.text x1.at_ x1.out x1.in_ x1.code h A4 n5 c6 h7) ⟨rfl, rfl, rfl, trivial⟩ (.cons_cons _ (.cons_cons _ (.slnil))) rfl
 ·have h := if_neg' hp11 h
  refine gFa (c := q85c9) rfl _ rfl ((bf hp11)) ?_
  refine gSq (c := q85c11) rfl ?_
  refine gRg (c := q85c12) rfl rfl ?_
  refine wl_v 0 rfl (vMv rfl) gn rfl ?_
  obtain ⟨r100, hv101, h⟩ := h
  refine wl_s 1 rfl (sCl [.pointer (some ⟨g2, 0, none⟩), .string (⟨#[100, 68]⟩ : ByteArray)] rfl Tryd.func55 rfl rfl rfl fun w97 hL98 => ?_) gn
  have hp99 : List.Perm ([.box g2 Tb3 [.string x1.text, .int .i64 x1.at_, .slice A4 n5 c6, .int .i64 x1.in_, .int .i64 x1.code], .own (.slice A4 n5 c6) 31 4 n5 (x1.out.flatMap eJN)] : List Ent) (([.box g2 Tb3 [.string x1.text, .int .i64 x1.at_, .slice A4 n5 c6, .int .i64 x1.in_, .int .i64 x1.code], .own (.slice A4 n5 c6) 31 4 n5 (x1.out.flatMap eJN)] : List Ent) ++ ([] : List Ent)) := pIx [0, 1] [] rfl rfl (by kernel_rfl)
  refine Calls.mono (jps_is_calls w97 (Fl ([] : List Snap)) x1 (⟨#[100, 68]⟩ : ByteArray) g2 Tb3 z8 A4 n5 c6 (Nat.le_trans hz9 hL98.env.size) h7 (hL98.hFl (Sl := ([] : List Snap)) hp99 (sels [] rfl)) (hL98.into hp99 (Fl ([] : List Snap))) r100 hv101) ?_
  rintro _ w107 ⟨A102, n103, c104, rfl, hM108, h105⟩
  have hL109 := hL98.call hp99 hM108
  refine ⟨_, _, _, rfl, hL109, ?_⟩
  refine wl_v 2 rfl (vAs rfl) gn rfl ?_
  refine w_end 3 rfl ?_
  by_cases hp110 : r100.1 = true
  ·have h := if_pos' hp110 h
   refine gTr (c := q85c13) rfl _ rfl (hp110) ?_
   refine gRg (c := q85c14) rfl rfl ?_
   refine wl_v 0 rfl (vAs rfl) gn rfl ?_
   refine w_end 1 rfl ?_
   refine gFr 0 rfl ?_
   refine gFr 1 rfl ?_
   exact g_go [0, 1] (j1 (⟨#[48, 49, 50, 51, 52, 53, 54, 55, 56, 57, 97, 98, 99, 100, 101, 102, 65, 66, 67, 68, 69, 70]⟩ : ByteArray) (⟨#[48, 49, 50, 51, 52, 53, 54, 55, 56, 57, 97, 98, 65, 66]⟩ : ByteArray) r100.2.text r100.2.at_ r100.2.out r100.2.in_ r100.2.code h A102 n103 c104 h105) ⟨rfl, rfl, rfl, trivial⟩ (.cons_cons _ (.cons_cons _ (.slnil))) rfl
  ·have h := if_neg' hp110 h
   refine gFa (c := q85c13) rfl _ rfl ((bf hp110)) ?_
   refine g_skip (c := q85c15) rfl ?_
   refine gFr 0 rfl ?_
   refine gFr 1 rfl ?_
   exact g_go [0, 1] (j1 (⟨#[48, 49, 50, 51, 52, 53, 54, 55, 56, 57, 97, 98, 99, 100, 101, 102, 65, 66, 67, 68, 69, 70]⟩ : ByteArray) (⟨#[48, 49, 50, 51, 52, 53, 54, 55, 56, 57, 97, 98, 99, 100, 101, 102, 65, 66, 67, 68, 69, 70]⟩ : ByteArray) r100.2.text r100.2.at_ r100.2.out r100.2.in_ r100.2.code h A102 n103 c104 h105) ⟨rfl, rfl, rfl, trivial⟩ (.cons_cons _ (.cons_cons _ (.slnil))) rfl
noncomputable abbrev q96c0 : Code := bodyOf Tryd.f96
noncomputable abbrev q96c1 := Code.fst q96c0
noncomputable abbrev q96c2 := Code.snd q96c0
noncomputable abbrev q96c3 := Code.fst q96c2
noncomputable abbrev q96c4 := Code.snd q96c2
noncomputable abbrev q96c5 := Code.fst q96c4
noncomputable abbrev q96c6 := Code.fst q96c5
noncomputable abbrev q96c7 := Code.snd q96c5
noncomputable abbrev q96c8 := Code.fst q96c7
noncomputable abbrev q96c9 := Code.snd q96c7
noncomputable abbrev q96c10 := Code.fst q96c8
noncomputable abbrev q96c11 := Code.snd q96c8
noncomputable abbrev q96c12 := Code.fst q96c9
noncomputable abbrev q96c13 := Code.snd q96c9
noncomputable abbrev q96c14 := Code.fst q96c12
noncomputable abbrev q96c15 := Code.snd q96c12
noncomputable abbrev q96c16 := Code.fst q96c15
noncomputable abbrev q96c17 := Code.snd q96c15
noncomputable abbrev q96c18 := Code.fst q96c13
noncomputable abbrev q96c19 := Code.snd q96c13
noncomputable abbrev q96c20 := Code.fst q96c18
noncomputable abbrev q96c21 := Code.snd q96c18
noncomputable abbrev q96c22 := Code.fst q96c19
noncomputable abbrev q96c23 := Code.snd q96c19
noncomputable abbrev q96c24 := Code.fst q96c23
noncomputable abbrev q96c25 := Code.snd q96c23
noncomputable abbrev q96c26 := Code.fst q96c24
noncomputable abbrev q96c27 := Code.snd q96c24
noncomputable abbrev q96c28 := Code.fst q96c25
noncomputable abbrev q96c29 := Code.snd q96c25
abbrev unicode_utf8_appendRuneNonASCII_R (w : World) (F : Nat → Prop) (A2 : Option Addr) (n3 : Nat) (c4 : Nat) (z6 : Nat) (r : List Int) : Ending → World → Prop := fun e w' => ∃ A0 : Option Addr, ∃ n0 : Nat, ∃ c0 : Nat, e = .returned (.slice A0 n0 c0) ∧ B.Loc w w' [.own (.slice A0 n0 c0) 5 1 n0 (r.flatMap (eI .u8))] [St w [(Value.slice A2 n3 c4).ownBlock.toList]] ∧ Ow z6 A0 n0 c0 r
noncomputable abbrev unicode_utf8_appendRuneNonASCII_C (w : World) (F : Nat → Prop) (A2 : Option Addr) (n3 : Nat) (c4 : Nat) (z6 : Nat) (r : List Int) : Cx := ⟨Tryd.prog, 96, Tryd.f96, 78, unicode_utf8_appendRuneNonASCII_R w F A2 n3 c4 z6 r, w⟩
theorem unicode_utf8_appendRuneNonASCII_calls (w : World) (F : Nat → Prop) (x1 : List Int) (x8 : Int) (z6 : Nat) (A2 : Option Addr) (n3 : Nat) (c4 : Nat) (hz7 : z6 ≤ w.heap.size) (h5 : Ow z6 A2 n3 c4 x1) (hF : ∀ b, F b → b < w.heap.size ∧ ∀ o ∈ ([(Value.slice A2 n3 c4).ownBlock.toList] : List (List Nat)), b ∉ o) (hL0 : B.Loc w w [.own (.slice A2 n3 c4) 5 1 n3 (x1.flatMap (eI .u8))] [Sm w.heap.size F w [(Value.slice A2 n3 c4).ownBlock.toList], St w [(Value.slice A2 n3 c4).ownBlock.toList]]) (r : List Int) (h : unicode_utf8_appendRuneNonASCII x1 x8 r) : Calls Tryd.prog 96 #[.slice A2 n3 c4, .int .i32 x8] w (unicode_utf8_appendRuneNonASCII_R w F A2 n3 c4 z6 r) := by
 unfold unicode_utf8_appendRuneNonASCII at h
 refine calls_of_Loc (vs := [.slice A2 n3 c4, .int .i32 x8]) 78 Tryd.func96 rfl Tryd.ntmps96 rfl hL0 ?_
 show G (unicode_utf8_appendRuneNonASCII_C w F A2 n3 c4 z6 r) _ _ _ _
 refine gSq (c := q96c0) rfl ?_
 refine gRg (c := q96c1) rfl rfl ?_
 refine wl_v 0 rfl (vAs rfl) gn rfl ?_
 refine w_end 1 rfl ?_
 refine gSq (c := q96c2) rfl ?_
 refine gRg (c := q96c3) rfl rfl ?_
 refine wl_v 0 rfl (vMv rfl) gn rfl ?_
 refine wl_v 1 rfl (v_conv ⟨_, un_21⟩ un_120 rfl) gn rfl ?_
 refine wl_v 2 rfl (vAs rfl) gn rfl ?_
 refine w_end 3 rfl ?_
 refine g_block (c := q96c4) rfl ?_
 refine gSq (c := q96c5) rfl ?_
 refine gRg (c := q96c6) rfl rfl ?_
 refine wl_v 0 rfl (vMv rfl) gn rfl ?_
 refine wl_v 1 rfl (vBn rfl rfl rfl) gn rfl ?_
 refine wl_v 2 rfl (vAs rfl) gn rfl ?_
 refine w_end 3 rfl ?_
 by_cases hp9 : IntKind.u32.wrap (x8) ≤ 2047
 ·have h := if_pos' hp9 h
  refine gTr (c := q96c7) rfl _ rfl ((decide_eq_true hp9)) ?_
  refine gSq (c := q96c8) rfl ?_
  refine gRg (c := q96c10) rfl rfl ?_
  refine wl_v 0 rfl (vMv rfl) gn rfl ?_
  refine wl_v 1 rfl (vMv rfl) gn rfl ?_
  refine wl_v 2 rfl (v_shr rfl rfl (by decide)) gn rfl ?_
  refine wl_v 3 rfl (v_conv ⟨_, un_21⟩ un_5 rfl) gn rfl ?_
  refine wl_v 4 rfl (vBn rfl rfl rfl) gn rfl ?_
  refine wl_v 5 rfl (vMv rfl) gn rfl ?_
  refine wl_v 6 rfl (v_conv ⟨_, un_21⟩ un_5 rfl) gn rfl ?_
  refine wl_v 7 rfl (vBn rfl rfl rfl) gn rfl ?_
  refine wl_v 8 rfl (vBn rfl rfl rfl) gn rfl ?_
  refine wl_s 9 rfl (s_litO (xs := ([bits .or .u8 192 (IntKind.u8.wrap (shrV .i32 x8 6)), bits .or .u8 128 (bits .and .u8 (IntKind.u8.wrap (x8)) 63)] : List Int)) [.int .u8 (bits .or .u8 192 (IntKind.u8.wrap (shrV .i32 x8 6))), .int .u8 (bits .or .u8 128 (bits .and .u8 (IntKind.u8.wrap (x8)) 63))] bs_54_2 rfl (by kernel_rfl) rfl rfl rfl rfl fun gb11 h12 => ?_) gn
  obtain ⟨x16, hv17, h⟩ := h
  obtain ⟨hb18, h⟩ := h
  refine wl_s 10 rfl (s_app (zs := x16) (cells' := x16.flatMap (eI .u8)) 1 ap_54 rfl rfl rfl h5 hz7 (Src.ownF (hl := (hlI .u8)) (h1 := (hone_int .u8)) 0 rfl h12) (by rw [hv17, List.flatMap_append] <;> rfl) (app_len hv17 h12.hq) hb18 rfl rfl fun A13 c14 h15 => ?_) gn
  refine wl_v 11 rfl (vAs rfl) gn rfl ?_
  refine w_end 12 rfl ?_
  refine g_retR (c := q96c11) [.slice A13 (n3 + 2) c14] rfl Tryd.func96 rfl (.tmp rfl (.nil)) fun wr hLr => ?_
  have hMr : B.Loc w wr [.own (.slice A13 (n3 + 2) c14) 5 1 (n3 + 2) (x16.flatMap (eI .u8))] [St w [(Value.slice A2 n3 c4).ownBlock.toList]] := hLr.pick (rest := [.own (.slice (some ⟨gb11, 0, none⟩) 2 2) 5 1 2 (([bits .or .u8 192 (IntKind.u8.wrap (shrV .i32 x8 6)), bits .or .u8 128 (bits .and .u8 (IntKind.u8.wrap (x8)) 63)] : List Int).flatMap (eI .u8))]) (pIx [1] [0] rfl rfl (by kernel_rfl)) (sels [1] rfl)
  show unicode_utf8_appendRuneNonASCII_R w F A2 n3 c4 z6 r (.returned (packV [.slice A13 (n3 + 2) c14])) wr
  rw [h]
  exact ⟨A13, n3 + 2, c14, rfl, hMr, h15⟩
 ·have h := if_neg' hp9 h
  refine gFa (c := q96c7) rfl _ rfl ((decide_eq_false hp9)) ?_
  refine gSq (c := q96c9) rfl ?_
  refine gSq (c := q96c12) rfl ?_
  refine gRg (c := q96c14) rfl rfl ?_
  refine wl_v 0 rfl (vMv rfl) gn rfl ?_
  refine wl_v 1 rfl (vBn rfl rfl rfl) gn rfl ?_
  refine wl_v 2 rfl (vAs rfl) gn rfl ?_
  refine w_end 3 rfl ?_
  have j1 : ∀ (x22 : Bool) (h : unicode_utf8_appendRuneNonASCII_j1 x1 x8 x22 r) , G (unicode_utf8_appendRuneNonASCII_C w F A2 n3 c4 z6 r) [.code q96c13, .inBlock 0] [(0, .slice A2 n3 c4), (1, .int .i32 x8), (5, .int .u32 (IntKind.u32.wrap (x8))), (25, .bool x22)] [.own (.slice A2 n3 c4) 5 1 n3 (x1.flatMap (eI .u8))] [Sm w.heap.size F w [(Value.slice A2 n3 c4).ownBlock.toList], St w [(Value.slice A2 n3 c4).ownBlock.toList]] := by
   intro x22 h
   unfold unicode_utf8_appendRuneNonASCII_j1 at h
   by_cases hp23 : x22 = true
   ·have h := if_pos' hp23 h
    refine gTr (c := q96c13) rfl _ rfl (hp23) ?_
    refine gSq (c := q96c18) rfl ?_
    refine gRg (c := q96c20) rfl rfl ?_
    refine wl_v 0 rfl (vMv rfl) gn rfl ?_
    refine wl_v 1 rfl (vMv rfl) gn rfl ?_
    refine wl_v 2 rfl (v_shr rfl rfl (by decide)) gn rfl ?_
    refine wl_v 3 rfl (v_conv ⟨_, un_21⟩ un_5 rfl) gn rfl ?_
    refine wl_v 4 rfl (vBn rfl rfl rfl) gn rfl ?_
    refine wl_v 5 rfl (vMv rfl) gn rfl ?_
    refine wl_v 6 rfl (v_shr rfl rfl (by decide)) gn rfl ?_
    refine wl_v 7 rfl (v_conv ⟨_, un_21⟩ un_5 rfl) gn rfl ?_
    refine wl_v 8 rfl (vBn rfl rfl rfl) gn rfl ?_
    refine wl_v 9 rfl (vBn rfl rfl rfl) gn rfl ?_
    refine wl_v 10 rfl (vMv rfl) gn rfl ?_
    refine wl_v 11 rfl (v_conv ⟨_, un_21⟩ un_5 rfl) gn rfl ?_
    refine wl_v 12 rfl (vBn rfl rfl rfl) gn rfl ?_
    refine wl_v 13 rfl (vBn rfl rfl rfl) gn rfl ?_
    refine wl_s 14 rfl (s_litO (xs := ([bits .or .u8 224 (IntKind.u8.wrap (shrV .i32 x8 12)), bits .or .u8 128 (bits .and .u8 (IntKind.u8.wrap (shrV .i32 x8 6)) 63), bits .or .u8 128 (bits .and .u8 (IntKind.u8.wrap (x8)) 63)] : List Int)) [.int .u8 (bits .or .u8 224 (IntKind.u8.wrap (shrV .i32 x8 12))), .int .u8 (bits .or .u8 128 (bits .and .u8 (IntKind.u8.wrap (shrV .i32 x8 6)) 63)), .int .u8 (bits .or .u8 128 (bits .and .u8 (IntKind.u8.wrap (x8)) 63))] bs_54_3 rfl (by kernel_rfl) rfl rfl rfl rfl fun gb25 h26 => ?_) gn
    obtain ⟨x30, hv31, h⟩ := h
    obtain ⟨hb32, h⟩ := h
    refine wl_s 15 rfl (s_app (zs := x30) (cells' := x30.flatMap (eI .u8)) 1 ap_54 rfl rfl rfl h5 hz7 (Src.ownF (hl := (hlI .u8)) (h1 := (hone_int .u8)) 0 rfl h26) (by rw [hv31, List.flatMap_append] <;> rfl) (app_len hv31 h26.hq) hb32 rfl rfl fun A27 c28 h29 => ?_) gn
    refine wl_v 16 rfl (vAs rfl) gn rfl ?_
    refine w_end 17 rfl ?_
    refine g_retR (c := q96c21) [.slice A27 (n3 + 3) c28] rfl Tryd.func96 rfl (.tmp rfl (.nil)) fun wr hLr => ?_
    have hMr : B.Loc w wr [.own (.slice A27 (n3 + 3) c28) 5 1 (n3 + 3) (x30.flatMap (eI .u8))] [St w [(Value.slice A2 n3 c4).ownBlock.toList]] := hLr.pick (rest := [.own (.slice (some ⟨gb25, 0, none⟩) 3 3) 5 1 3 (([bits .or .u8 224 (IntKind.u8.wrap (shrV .i32 x8 12)), bits .or .u8 128 (bits .and .u8 (IntKind.u8.wrap (shrV .i32 x8 6)) 63), bits .or .u8 128 (bits .and .u8 (IntKind.u8.wrap (x8)) 63)] : List Int).flatMap (eI .u8))]) (pIx [1] [0] rfl rfl (by kernel_rfl)) (sels [1] rfl)
    show unicode_utf8_appendRuneNonASCII_R w F A2 n3 c4 z6 r (.returned (packV [.slice A27 (n3 + 3) c28])) wr
    rw [h]
    exact ⟨A27, n3 + 3, c28, rfl, hMr, h29⟩
   ·have h := if_neg' hp23 h
    refine gFa (c := q96c13) rfl _ rfl ((bf hp23)) ?_
    refine gSq (c := q96c19) rfl ?_
    have j2 : ∀ (x35 : Bool) (h : unicode_utf8_appendRuneNonASCII_j2 x1 x8 x35 r) , G (unicode_utf8_appendRuneNonASCII_C w F A2 n3 c4 z6 r) [.code q96c23, .inBlock 0] [(0, .slice A2 n3 c4), (1, .int .i32 x8), (50, .bool x35)] [.own (.slice A2 n3 c4) 5 1 n3 (x1.flatMap (eI .u8))] [Sm w.heap.size F w [(Value.slice A2 n3 c4).ownBlock.toList], St w [(Value.slice A2 n3 c4).ownBlock.toList]] := by
     intro x35 h
     unfold unicode_utf8_appendRuneNonASCII_j2 at h
     by_cases hp36 : x35 = true
     ·have h := if_pos' hp36 h
      refine gTr (c := q96c23) rfl _ rfl (hp36) ?_
      refine gSq (c := q96c24) rfl ?_
      refine gRg (c := q96c26) rfl rfl ?_
      refine wl_v 0 rfl (vMv rfl) gn rfl ?_
      refine wl_v 1 rfl (vMv rfl) gn rfl ?_
      refine wl_v 2 rfl (v_shr rfl rfl (by decide)) gn rfl ?_
      refine wl_v 3 rfl (v_conv ⟨_, un_21⟩ un_5 rfl) gn rfl ?_
      refine wl_v 4 rfl (vBn rfl rfl rfl) gn rfl ?_
      refine wl_v 5 rfl (vMv rfl) gn rfl ?_
      refine wl_v 6 rfl (v_shr rfl rfl (by decide)) gn rfl ?_
      refine wl_v 7 rfl (v_conv ⟨_, un_21⟩ un_5 rfl) gn rfl ?_
      refine wl_v 8 rfl (vBn rfl rfl rfl) gn rfl ?_
      refine wl_v 9 rfl (vBn rfl rfl rfl) gn rfl ?_
      refine wl_v 10 rfl (vMv rfl) gn rfl ?_
      refine wl_v 11 rfl (v_shr rfl rfl (by decide)) gn rfl ?_
      refine wl_v 12 rfl (v_conv ⟨_, un_21⟩ un_5 rfl) gn rfl ?_
      refine wl_v 13 rfl (vBn rfl rfl rfl) gn rfl ?_
      refine wl_v 14 rfl (vBn rfl rfl rfl) gn rfl ?_
      refine wl_v 15 rfl (vMv rfl) gn rfl ?_
      refine wl_v 16 rfl (v_conv ⟨_, un_21⟩ un_5 rfl) gn rfl ?_
      refine wl_v 17 rfl (vBn rfl rfl rfl) gn rfl ?_
      refine wl_v 18 rfl (vBn rfl rfl rfl) gn rfl ?_
      refine wl_s 19 rfl (s_litO (xs := ([bits .or .u8 240 (IntKind.u8.wrap (shrV .i32 x8 18)), bits .or .u8 128 (bits .and .u8 (IntKind.u8.wrap (shrV .i32 x8 12)) 63), bits .or .u8 128 (bits .and .u8 (IntKind.u8.wrap (shrV .i32 x8 6)) 63), bits .or .u8 128 (bits .and .u8 (IntKind.u8.wrap (x8)) 63)] : List Int)) [.int .u8 (bits .or .u8 240 (IntKind.u8.wrap (shrV .i32 x8 18))), .int .u8 (bits .or .u8 128 (bits .and .u8 (IntKind.u8.wrap (shrV .i32 x8 12)) 63)), .int .u8 (bits .or .u8 128 (bits .and .u8 (IntKind.u8.wrap (shrV .i32 x8 6)) 63)), .int .u8 (bits .or .u8 128 (bits .and .u8 (IntKind.u8.wrap (x8)) 63))] bs_54_4 rfl (by kernel_rfl) rfl rfl rfl rfl fun gb38 h39 => ?_) gn
      obtain ⟨x43, hv44, h⟩ := h
      obtain ⟨hb45, h⟩ := h
      refine wl_s 20 rfl (s_app (zs := x43) (cells' := x43.flatMap (eI .u8)) 1 ap_54 rfl rfl rfl h5 hz7 (Src.ownF (hl := (hlI .u8)) (h1 := (hone_int .u8)) 0 rfl h39) (by rw [hv44, List.flatMap_append] <;> rfl) (app_len hv44 h39.hq) hb45 rfl rfl fun A40 c41 h42 => ?_) gn
      refine wl_v 21 rfl (vAs rfl) gn rfl ?_
      refine w_end 22 rfl ?_
      refine g_retR (c := q96c27) [.slice A40 (n3 + 4) c41] rfl Tryd.func96 rfl (.tmp rfl (.nil)) fun wr hLr => ?_
      have hMr : B.Loc w wr [.own (.slice A40 (n3 + 4) c41) 5 1 (n3 + 4) (x43.flatMap (eI .u8))] [St w [(Value.slice A2 n3 c4).ownBlock.toList]] := hLr.pick (rest := [.own (.slice (some ⟨gb38, 0, none⟩) 4 4) 5 1 4 (([bits .or .u8 240 (IntKind.u8.wrap (shrV .i32 x8 18)), bits .or .u8 128 (bits .and .u8 (IntKind.u8.wrap (shrV .i32 x8 12)) 63), bits .or .u8 128 (bits .and .u8 (IntKind.u8.wrap (shrV .i32 x8 6)) 63), bits .or .u8 128 (bits .and .u8 (IntKind.u8.wrap (x8)) 63)] : List Int).flatMap (eI .u8))]) (pIx [1] [0] rfl rfl (by kernel_rfl)) (sels [1] rfl)
      show unicode_utf8_appendRuneNonASCII_R w F A2 n3 c4 z6 r (.returned (packV [.slice A40 (n3 + 4) c41])) wr
      rw [h]
      exact ⟨A40, n3 + 4, c41, rfl, hMr, h42⟩
     ·have h := if_neg' hp36 h
      refine gFa (c := q96c23) rfl _ rfl ((bf hp36)) ?_
      refine gSq (c := q96c25) rfl ?_
      refine gRg (c := q96c28) rfl rfl ?_
      refine wl_v 0 rfl (vMv rfl) gn rfl ?_
      refine wl_s 1 rfl (s_litO (xs := ([239, 191, 189] : List Int)) [.int .u8 239, .int .u8 191, .int .u8 189] bs_54_3 rfl (by kernel_rfl) rfl rfl rfl rfl fun gb47 h48 => ?_) gn
      obtain ⟨x52, hv53, h⟩ := h
      obtain ⟨hb54, h⟩ := h
      refine wl_s 2 rfl (s_app (zs := x52) (cells' := x52.flatMap (eI .u8)) 1 ap_54 rfl rfl rfl h5 hz7 (Src.ownF (hl := (hlI .u8)) (h1 := (hone_int .u8)) 0 rfl h48) (by rw [hv53, List.flatMap_append] <;> rfl) (app_len hv53 h48.hq) hb54 rfl rfl fun A49 c50 h51 => ?_) gn
      refine wl_v 3 rfl (vAs rfl) gn rfl ?_
      refine w_end 4 rfl ?_
      refine g_retR (c := q96c29) [.slice A49 (n3 + 3) c50] rfl Tryd.func96 rfl (.tmp rfl (.nil)) fun wr hLr => ?_
      have hMr : B.Loc w wr [.own (.slice A49 (n3 + 3) c50) 5 1 (n3 + 3) (x52.flatMap (eI .u8))] [St w [(Value.slice A2 n3 c4).ownBlock.toList]] := hLr.pick (rest := [.own (.slice (some ⟨gb47, 0, none⟩) 3 3) 5 1 3 (([239, 191, 189] : List Int).flatMap (eI .u8))]) (pIx [1] [0] rfl rfl (by kernel_rfl)) (sels [1] rfl)
      show unicode_utf8_appendRuneNonASCII_R w F A2 n3 c4 z6 r (.returned (packV [.slice A49 (n3 + 3) c50])) wr
      rw [h]
      exact ⟨A49, n3 + 3, c50, rfl, hMr, h51⟩
    refine gRg (c := q96c22) rfl rfl ?_
    refine wl_v 0 rfl (vMv rfl) gn rfl ?_
    refine wl_v 1 rfl (vBn rfl rfl rfl) gn rfl ?_
    refine wl_v 2 rfl (vMv rfl) gn rfl ?_
    by_cases hp55 : IntKind.u32.wrap (x8) > 65535
    ·have h := if_pos' hp55 h
     refine w_bool 53 rfl ((decide_eq_true hp55)) ?_
     refine wl_v 3 rfl (vMv rfl) (gy 53 rfl rfl) rfl ?_
     refine wl_v 4 rfl (vBn rfl rfl rfl) (gy 53 rfl rfl) rfl ?_
     refine wl_v 5 rfl (v_pick (b := true) rfl rfl) gn rfl ?_
     refine wl_v 6 rfl (vAs rfl) gn rfl ?_
     refine w_end 7 rfl ?_
     exact g_go [0, 1] (j2 (decide (IntKind.u32.wrap (x8) ≤ 1114111)) h) ⟨rfl, rfl, rfl, trivial⟩ (.cons_cons _ (.slnil)) rfl
    ·have h := if_neg' hp55 h
     refine w_bool 53 rfl ((decide_eq_false hp55)) ?_
     refine wl_pass 3 rfl (ps 53 rfl rfl rfl) ?_
     refine wl_pass 4 rfl (ps 53 rfl rfl rfl) ?_
     refine wl_v 5 rfl (v_pick (b := false) rfl rfl) gn rfl ?_
     refine wl_v 6 rfl (vAs rfl) gn rfl ?_
     refine w_end 7 rfl ?_
     exact g_go [0, 1] (j2 false h) ⟨rfl, rfl, rfl, trivial⟩ (.cons_cons _ (.slnil)) rfl
  by_cases hp19 : IntKind.u32.wrap (x8) < 55296
  ·have h := if_pos' hp19 h
   refine gTr (c := q96c15) rfl _ rfl ((decide_eq_true hp19)) ?_
   refine g_skip (c := q96c16) rfl ?_
   exact g_go [0, 1] (j1 (decide (IntKind.u32.wrap (x8) < 55296)) h) ⟨rfl, rfl, rfl, rfl, trivial⟩ (.cons_cons _ (.slnil)) rfl
  ·have h := if_neg' hp19 h
   refine gFa (c := q96c15) rfl _ rfl ((decide_eq_false hp19)) ?_
   refine gRg (c := q96c17) rfl rfl ?_
   refine wl_v 0 rfl (vMv rfl) gn rfl ?_
   refine wl_v 1 rfl (vBn rfl rfl rfl) gn rfl ?_
   refine wl_v 2 rfl (vMv rfl) gn rfl ?_
   by_cases hp56 : 57343 < IntKind.u32.wrap (x8)
   ·have h := if_pos' hp56 h
    refine w_bool 30 rfl ((decide_eq_true hp56)) ?_
    refine wl_v 3 rfl (vMv rfl) (gy 30 rfl rfl) rfl ?_
    refine wl_v 4 rfl (vBn rfl rfl rfl) (gy 30 rfl rfl) rfl ?_
    refine wl_v 5 rfl (v_pick (b := true) rfl rfl) gn rfl ?_
    refine wl_v 6 rfl (vAs rfl) gn rfl ?_
    refine w_end 7 rfl ?_
    exact g_go [0, 1] (j1 (decide (IntKind.u32.wrap (x8) ≤ 65535)) h) ⟨rfl, rfl, rfl, rfl, trivial⟩ (.cons_cons _ (.slnil)) rfl
   ·have h := if_neg' hp56 h
    refine w_bool 30 rfl ((decide_eq_false hp56)) ?_
    refine wl_pass 3 rfl (ps 30 rfl rfl rfl) ?_
    refine wl_pass 4 rfl (ps 30 rfl rfl rfl) ?_
    refine wl_v 5 rfl (v_pick (b := false) rfl rfl) gn rfl ?_
    refine wl_v 6 rfl (vAs rfl) gn rfl ?_
    refine w_end 7 rfl ?_
    exact g_go [0, 1] (j1 false h) ⟨rfl, rfl, rfl, rfl, trivial⟩ (.cons_cons _ (.slnil)) rfl
noncomputable abbrev q86c0 : Code := bodyOf Tryd.f86
noncomputable abbrev q86c1 := Code.fst q86c0
noncomputable abbrev q86c2 := Code.snd q86c0
noncomputable abbrev q86c3 := Code.fst q86c2
noncomputable abbrev q86c4 := Code.snd q86c2
noncomputable abbrev q86c5 := Code.fst q86c3
noncomputable abbrev q86c6 := Code.snd q86c3
noncomputable abbrev q86c7 := Code.fst q86c6
noncomputable abbrev q86c8 := Code.snd q86c6
noncomputable abbrev q86c9 := Code.fst q86c7
noncomputable abbrev q86c10 := Code.snd q86c7
noncomputable abbrev q86c11 := Code.fst q86c4
noncomputable abbrev q86c12 := Code.snd q86c4
abbrev unicode_utf8_AppendRune_R (w : World) (F : Nat → Prop) (A2 : Option Addr) (n3 : Nat) (c4 : Nat) (z6 : Nat) (r : List Int) : Ending → World → Prop := fun e w' => ∃ A0 : Option Addr, ∃ n0 : Nat, ∃ c0 : Nat, e = .returned (.slice A0 n0 c0) ∧ B.Loc w w' [.own (.slice A0 n0 c0) 5 1 n0 (r.flatMap (eI .u8))] [St w [(Value.slice A2 n3 c4).ownBlock.toList]] ∧ Ow z6 A0 n0 c0 r
noncomputable abbrev unicode_utf8_AppendRune_C (w : World) (F : Nat → Prop) (A2 : Option Addr) (n3 : Nat) (c4 : Nat) (z6 : Nat) (r : List Int) : Cx := ⟨Tryd.prog, 86, Tryd.f86, 16, unicode_utf8_AppendRune_R w F A2 n3 c4 z6 r, w⟩
theorem unicode_utf8_AppendRune_calls (w : World) (F : Nat → Prop) (x1 : List Int) (x8 : Int) (z6 : Nat) (A2 : Option Addr) (n3 : Nat) (c4 : Nat) (hz7 : z6 ≤ w.heap.size) (h5 : Ow z6 A2 n3 c4 x1) (hF : ∀ b, F b → b < w.heap.size ∧ ∀ o ∈ ([(Value.slice A2 n3 c4).ownBlock.toList] : List (List Nat)), b ∉ o) (hL0 : B.Loc w w [.own (.slice A2 n3 c4) 5 1 n3 (x1.flatMap (eI .u8))] [Sm w.heap.size F w [(Value.slice A2 n3 c4).ownBlock.toList], St w [(Value.slice A2 n3 c4).ownBlock.toList]]) (r : List Int) (h : unicode_utf8_AppendRune x1 x8 r) : Calls Tryd.prog 86 #[.slice A2 n3 c4, .int .i32 x8] w (unicode_utf8_AppendRune_R w F A2 n3 c4 z6 r) := by
 unfold unicode_utf8_AppendRune at h
 refine calls_of_Loc (vs := [.slice A2 n3 c4, .int .i32 x8]) 16 Tryd.func86 rfl Tryd.ntmps86 rfl hL0 ?_
 show G (unicode_utf8_AppendRune_C w F A2 n3 c4 z6 r) _ _ _ _
 refine gSq (c := q86c0) rfl ?_
 refine gRg (c := q86c1) rfl rfl ?_
 refine wl_v 0 rfl (vAs rfl) gn rfl ?_
 refine w_end 1 rfl ?_
 refine gSq (c := q86c2) rfl ?_
 refine gSq (c := q86c3) rfl ?_
 refine gRg (c := q86c5) rfl rfl ?_
 refine wl_v 0 rfl (vMv rfl) gn rfl ?_
 refine wl_v 1 rfl (v_conv ⟨_, un_21⟩ un_120 rfl) gn rfl ?_
 refine wl_v 2 rfl (vBn rfl rfl rfl) gn rfl ?_
 refine w_end 3 rfl ?_
 by_cases hp9 : IntKind.u32.wrap (x8) ≤ 127
 ·have h := if_pos' hp9 h
  refine gTr (c := q86c6) rfl _ rfl ((decide_eq_true hp9)) ?_
  refine gSq (c := q86c7) rfl ?_
  refine gRg (c := q86c9) rfl rfl ?_
  refine wl_v 0 rfl (vMv rfl) gn rfl ?_
  refine wl_v 1 rfl (vMv rfl) gn rfl ?_
  refine wl_v 2 rfl (v_conv ⟨_, un_21⟩ un_5 rfl) gn rfl ?_
  refine wl_s 3 rfl (s_litO (xs := ([IntKind.u8.wrap (x8)] : List Int)) [.int .u8 (IntKind.u8.wrap (x8))] bs_54_1 rfl (by kernel_rfl) rfl rfl rfl rfl fun gb11 h12 => ?_) gn
  obtain ⟨x16, hv17, h⟩ := h
  obtain ⟨hb18, h⟩ := h
  refine wl_s 4 rfl (s_app (zs := x16) (cells' := x16.flatMap (eI .u8)) 1 ap_54 rfl rfl rfl h5 hz7 (Src.ownF (hl := (hlI .u8)) (h1 := (hone_int .u8)) 0 rfl h12) (by rw [hv17, List.flatMap_append] <;> rfl) (app_len hv17 h12.hq) hb18 rfl rfl fun A13 c14 h15 => ?_) gn
  refine wl_v 5 rfl (vAs rfl) gn rfl ?_
  refine w_end 6 rfl ?_
  refine g_retR (c := q86c10) [.slice A13 (n3 + 1) c14] rfl Tryd.func86 rfl (.tmp rfl (.nil)) fun wr hLr => ?_
  have hMr : B.Loc w wr [.own (.slice A13 (n3 + 1) c14) 5 1 (n3 + 1) (x16.flatMap (eI .u8))] [St w [(Value.slice A2 n3 c4).ownBlock.toList]] := hLr.pick (rest := [.own (.slice (some ⟨gb11, 0, none⟩) 1 1) 5 1 1 (([IntKind.u8.wrap (x8)] : List Int).flatMap (eI .u8))]) (pIx [1] [0] rfl rfl (by kernel_rfl)) (sels [1] rfl)
  show unicode_utf8_AppendRune_R w F A2 n3 c4 z6 r (.returned (packV [.slice A13 (n3 + 1) c14])) wr
  rw [h]
  exact ⟨A13, n3 + 1, c14, rfl, hMr, h15⟩
 ·have h := if_neg' hp9 h
  refine gFa (c := q86c6) rfl _ rfl ((decide_eq_false hp9)) ?_
  refine g_skip (c := q86c8) rfl ?_
  refine gSq (c := q86c4) rfl ?_
  refine gRg (c := q86c11) rfl rfl ?_
  refine wl_v 0 rfl (vMv rfl) gn rfl ?_
  refine wl_v 1 rfl (vMv rfl) gn rfl ?_
  obtain ⟨r22, hv23, h⟩ := h
  refine wl_s 2 rfl (sCl [.slice A2 n3 c4, .int .i32 x8] rfl Tryd.func96 rfl rfl rfl fun w19 hL20 => ?_) gn
  have hp21 : List.Perm ([.own (.slice A2 n3 c4) 5 1 n3 (x1.flatMap (eI .u8))] : List Ent) (([.own (.slice A2 n3 c4) 5 1 n3 (x1.flatMap (eI .u8))] : List Ent) ++ ([] : List Ent)) := pIx [0] [] rfl rfl (by kernel_rfl)
  refine Calls.mono (unicode_utf8_appendRuneNonASCII_calls w19 (Fl ([] : List Snap)) x1 x8 z6 A2 n3 c4 (Nat.le_trans hz7 hL20.env.size) h5 (hL20.hFl (Sl := ([] : List Snap)) hp21 (sels [] rfl)) (hL20.into hp21 (Fl ([] : List Snap))) r22 hv23) ?_
  rintro _ w29 ⟨A24, n25, c26, rfl, hM30, h27⟩
  have hL31 := hL20.call hp21 hM30
  refine ⟨_, _, _, rfl, hL31, ?_⟩
  refine wl_v 3 rfl (vAs rfl) gn rfl ?_
  refine w_end 4 rfl ?_
  refine g_retR (c := q86c12) [.slice A24 n25 c26] rfl Tryd.func86 rfl (.tmp rfl (.nil)) fun wr hLr => ?_
  have hMr : B.Loc w wr [.own (.slice A24 n25 c26) 5 1 n25 (r22.flatMap (eI .u8))] [St w [(Value.slice A2 n3 c4).ownBlock.toList]] := hLr.pick (rest := []) (pIx [0] [] rfl rfl (by kernel_rfl)) (sels [1] rfl)
  show unicode_utf8_AppendRune_R w F A2 n3 c4 z6 r (.returned (packV [.slice A24 n25 c26])) wr
  rw [h]
  exact ⟨A24, n25, c26, rfl, hMr, h27⟩
noncomputable abbrev q72c0 : Code := bodyOf Tryd.f72
noncomputable abbrev q72c1 := Code.fst q72c0
noncomputable abbrev q72c2 := Code.snd q72c0
noncomputable abbrev q72c3 := Code.fst q72c2
noncomputable abbrev q72c4 := Code.snd q72c2
noncomputable abbrev q72c5 := Code.fst q72c3
noncomputable abbrev q72c6 := Code.snd q72c3
noncomputable abbrev q72c7 := Code.fst q72c6
noncomputable abbrev q72c8 := Code.snd q72c6
noncomputable abbrev q72c9 := Code.fst q72c7
noncomputable abbrev q72c10 := Code.snd q72c7
noncomputable abbrev q72c11 := Code.fst q72c10
noncomputable abbrev q72c12 := Code.snd q72c10
noncomputable abbrev q72c13 := Code.fst q72c4
noncomputable abbrev q72c14 := Code.snd q72c4
noncomputable abbrev q72c15 := Code.fst q72c13
noncomputable abbrev q72c16 := Code.snd q72c13
noncomputable abbrev q72c17 := Code.fst q72c16
noncomputable abbrev q72c18 := Code.snd q72c16
noncomputable abbrev q72c19 := Code.fst q72c14
noncomputable abbrev q72c20 := Code.snd q72c14
noncomputable abbrev q72c21 := Code.fst q72c20
noncomputable abbrev q72c22 := Code.snd q72c20
noncomputable abbrev q72c23 := Code.fst q72c21
noncomputable abbrev q72c24 := Code.snd q72c21
noncomputable abbrev q72c25 := Code.fst q72c24
noncomputable abbrev q72c26 := Code.snd q72c24
noncomputable abbrev q72c27 := Code.fst q72c22
noncomputable abbrev q72c28 := Code.snd q72c22
noncomputable abbrev q72c29 := Code.fst q72c27
noncomputable abbrev q72c30 := Code.snd q72c27
noncomputable abbrev q72c31 := Code.fst q72c30
noncomputable abbrev q72c32 := Code.snd q72c30
noncomputable abbrev q72c33 := Code.fst q72c31
noncomputable abbrev q72c34 := Code.snd q72c31
noncomputable abbrev q72c35 := Code.fst q72c33
noncomputable abbrev q72c36 := Code.snd q72c33
noncomputable abbrev q72c37 := Code.fst q72c36
noncomputable abbrev q72c38 := Code.snd q72c36
noncomputable abbrev q72c39 := Code.fst q72c37
noncomputable abbrev q72c40 := Code.snd q72c37
noncomputable abbrev q72c41 := Code.fst q72c34
noncomputable abbrev q72c42 := Code.snd q72c34
noncomputable abbrev q72c43 := Code.fst q72c42
noncomputable abbrev q72c44 := Code.snd q72c42
noncomputable abbrev q72c45 := Code.fst q72c43
noncomputable abbrev q72c46 := Code.snd q72c43
noncomputable abbrev q72c47 := Code.fst q72c46
noncomputable abbrev q72c48 := Code.snd q72c46
noncomputable abbrev q72c49 := Code.fst q72c28
noncomputable abbrev q72c50 := Code.snd q72c28
noncomputable abbrev q72c51 := Code.fst q72c47
noncomputable abbrev q72c52 := Code.snd q72c47
noncomputable abbrev q72c53 := Code.fst q72c25
noncomputable abbrev q72c54 := Code.snd q72c25
noncomputable abbrev q72c55 := Code.fst q72c17
noncomputable abbrev q72c56 := Code.snd q72c17
abbrev jps_escape_R (w : World) (F : Nat → Prop) (g2 : Nat) (Tb3 : Nat) (A4 : Option Addr) (n5 : Nat) (c6 : Nat) (z8 : Nat) (A11 : Option Addr) (n12 : Nat) (c13 : Nat) (z15 : Nat) (r : (List Int) × Bool × jps) : Ending → World → Prop := fun e w' => ∃ A0 : Option Addr, ∃ n0 : Nat, ∃ c0 : Nat, ∃ A1 : Option Addr, ∃ n1 : Nat, ∃ c1 : Nat, e = .returned (.tuple #[.slice A0 n0 c0, .bool r.2.1]) ∧ B.Loc w w' [.box g2 Tb3 [.string r.2.2.text, .int .i64 r.2.2.at_, .slice A1 n1 c1, .int .i64 r.2.2.in_, .int .i64 r.2.2.code], .own (.slice A0 n0 c0) 5 1 n0 (r.1.flatMap (eI .u8)), .own (.slice A1 n1 c1) 31 4 n1 (r.2.2.out.flatMap eJN)] [St w [[g2], (Value.slice A4 n5 c6).ownBlock.toList, (Value.slice A11 n12 c13).ownBlock.toList]] ∧ Ow z15 A0 n0 c0 r.1 ∧ Ow z8 A1 n1 c1 r.2.2.out
noncomputable abbrev jps_escape_C (w : World) (F : Nat → Prop) (g2 : Nat) (Tb3 : Nat) (A4 : Option Addr) (n5 : Nat) (c6 : Nat) (z8 : Nat) (A11 : Option Addr) (n12 : Nat) (c13 : Nat) (z15 : Nat) (r : (List Int) × Bool × jps) : Cx := ⟨Tryd.prog, 72, Tryd.f72, 101, jps_escape_R w F g2 Tb3 A4 n5 c6 z8 A11 n12 c13 z15 r, w⟩
theorem jps_escape_calls (w : World) (F : Nat → Prop) (x1 : jps) (x10 : List Int) (g2 : Nat) (Tb3 : Nat) (z8 : Nat) (A4 : Option Addr) (n5 : Nat) (c6 : Nat) (z15 : Nat) (A11 : Option Addr) (n12 : Nat) (c13 : Nat) (hz9 : z8 ≤ w.heap.size) (h7 : Ow z8 A4 n5 c6 x1.out) (hz16 : z15 ≤ w.heap.size) (h14 : Ow z15 A11 n12 c13 x10) (hG3 : Tt .u8 tb_3 3 (St w [[g2], (Value.slice A4 n5 c6).ownBlock.toList, (Value.slice A11 n12 c13).ownBlock.toList])) (hF : ∀ b, F b → b < w.heap.size ∧ ∀ o ∈ ([[g2], (Value.slice A4 n5 c6).ownBlock.toList, (Value.slice A11 n12 c13).ownBlock.toList] : List (List Nat)), b ∉ o) (hL0 : B.Loc w w [.box g2 Tb3 [.string x1.text, .int .i64 x1.at_, .slice A4 n5 c6, .int .i64 x1.in_, .int .i64 x1.code], .own (.slice A4 n5 c6) 31 4 n5 (x1.out.flatMap eJN), .own (.slice A11 n12 c13) 5 1 n12 (x10.flatMap (eI .u8))] [Sm w.heap.size F w [[g2], (Value.slice A4 n5 c6).ownBlock.toList, (Value.slice A11 n12 c13).ownBlock.toList], St w [[g2], (Value.slice A4 n5 c6).ownBlock.toList, (Value.slice A11 n12 c13).ownBlock.toList]]) (r : (List Int) × Bool × jps) (h : jps_escape x1 x10 r) : Calls Tryd.prog 72 #[.pointer (some ⟨g2, 0, none⟩), .slice A11 n12 c13] w (jps_escape_R w F g2 Tb3 A4 n5 c6 z8 A11 n12 c13 z15 r) := by
 unfold jps_escape at h
 refine calls_of_Loc (vs := [.pointer (some ⟨g2, 0, none⟩), .slice A11 n12 c13]) 101 Tryd.func72 rfl Tryd.ntmps72 rfl hL0 ?_
 show G (jps_escape_C w F g2 Tb3 A4 n5 c6 z8 A11 n12 c13 z15 r) _ _ _ _
 refine gSq (c := q72c0) rfl ?_
 refine gRg (c := q72c1) rfl rfl ?_
 refine wl_v 0 rfl (vAs rfl) gn rfl ?_
 refine wl_v 1 rfl (vAs rfl) gn rfl ?_
 refine w_end 2 rfl ?_
 refine gSq (c := q72c2) rfl ?_
 refine gSq (c := q72c3) rfl ?_
 have j1 : ∀ (x21 : Bool) (h : jps_escape_j1 x1 x10 x21 r) , G (jps_escape_C w F g2 Tb3 A4 n5 c6 z8 A11 n12 c13 z15 r) [.code q72c6, .code q72c4] [(0, .pointer (some ⟨g2, 0, none⟩)), (1, .slice A11 n12 c13), (33, .bool x21)] [.box g2 Tb3 [.string x1.text, .int .i64 x1.at_, .slice A4 n5 c6, .int .i64 x1.in_, .int .i64 x1.code], .own (.slice A4 n5 c6) 31 4 n5 (x1.out.flatMap eJN), .own (.slice A11 n12 c13) 5 1 n12 (x10.flatMap (eI .u8))] [Sm w.heap.size F w [[g2], (Value.slice A4 n5 c6).ownBlock.toList, (Value.slice A11 n12 c13).ownBlock.toList], St w [[g2], (Value.slice A4 n5 c6).ownBlock.toList, (Value.slice A11 n12 c13).ownBlock.toList]] := by
  intro x21 h
  unfold jps_escape_j1 at h
  by_cases hp22 : x21 = true
  ·have h := if_pos' hp22 h
   refine gTr (c := q72c6) rfl _ rfl (hp22) ?_
   refine gSq (c := q72c7) rfl ?_
   refine gRg (c := q72c9) rfl rfl ?_
   refine wl_v 0 rfl (vMv rfl) gn rfl ?_
   refine wl_v 1 rfl (vNc rfl) gn rfl ?_
   refine wl_v 2 rfl (vFB fo_70_1 rfl) gn rfl ?_
   refine wl_v 3 rfl (v_ldB1 0 ld_3 rfl rfl rfl) gn rfl ?_
   refine wl_v 4 rfl (vBn rfl rfl rfl) gn rfl ?_
   refine wl_v 5 rfl (vNc rfl) gn rfl ?_
   refine wl_v 6 rfl (vFB fo_70_1 rfl) gn rfl ?_
   refine wl_s 7 rfl (s_stB (vs := [.int .i64 (w64 (x1.at_ + 1))]) (cs' := [.string x1.text, .int .i64 (w64 (x1.at_ + 1)), .slice A4 n5 c6, .int .i64 x1.in_, .int .i64 x1.code]) (M' := [.box g2 Tb3 [.string x1.text, .int .i64 (w64 (x1.at_ + 1)), .slice A4 n5 c6, .int .i64 x1.in_, .int .i64 x1.code], .own (.slice A4 n5 c6) 31 4 n5 (x1.out.flatMap eJN), .own (.slice A11 n12 c13) 5 1 n12 (x10.flatMap (eI .u8))]) 0 sz_3 rfl rfl rfl rfl rfl rfl rfl rfl rfl ?_) gn
   refine w_end 8 rfl ?_
   refine gSq (c := q72c10) rfl ?_
   obtain ⟨hb23, h⟩ := h
   obtain ⟨hb24, h⟩ := h
   obtain ⟨x31, hv32, h⟩ := h
   obtain ⟨hb33, h⟩ := h
   have hns : Region.noSelect (Code.ops q72c11) = true := by kernel_rfl
   refine g_drawF (c := q72c11) [.box g2 Tb3 [.string x1.text, .int .i64 (w64 (x1.at_ + 1)), .slice A4 n5 c6, .int .i64 x1.in_, .int .i64 x1.code], .own (.slice A4 n5 c6) 31 4 n5 (x1.out.flatMap eJN), .own (.slice A11 n12 c13) 5 1 n12 (x10.flatMap (eI .u8))] [Sm w.heap.size F w [[g2], (Value.slice A4 n5 c6).ownBlock.toList, (Value.slice A11 n12 c13).ownBlock.toList], St w [[g2], (Value.slice A4 n5 c6).ownBlock.toList, (Value.slice A11 n12 c13).ownBlock.toList]] [14, 15, 16] 17 rfl rfl mix rfl (.cons_cons _ (.cons_cons _ (.cons_cons _ (.slnil)))) (sels [0, 1] rfl) ?_
   refine wfv 0 rfl (vMv rfl) gn hns (by kernel_rfl) ?_
   refine wfv 1 rfl (vMv rfl) gn hns (by kernel_rfl) ?_
   refine wfv 2 rfl (vNc rfl) gn hns (by kernel_rfl) ?_
   refine wfv 3 rfl (vFB fo_70_0 rfl) gn hns (by kernel_rfl) ?_
   refine wfv 4 rfl (v_ldB1 0 ld_9 rfl rfl rfl) gn hns (by kernel_rfl) ?_
   refine wfv 5 rfl (vMv rfl) gn hns (by kernel_rfl) ?_
   refine wfv 6 rfl (vNc rfl) gn hns (by kernel_rfl) ?_
   refine wfv 7 rfl (vFB fo_70_1 rfl) gn hns (by kernel_rfl) ?_
   refine wfv 8 rfl (v_ldB1 0 ld_3 rfl rfl rfl) gn hns (by kernel_rfl) ?_
   refine wfv 9 rfl (vBn rfl rfl rfl) gn hns (by kernel_rfl) ?_
   refine wfv 10 rfl (v_indexS un_9 rfl rfl hb23) gn hns (by kernel_rfl) ?_
   refine wfv 11 rfl (v_idxB ar_78 rfl rfl hb24) gn hns (by kernel_rfl) ?_
   refine wfv 12 rfl (v_ldT (zs := tb_3) (j := bt x1.text (w64 ((w64 (x1.at_ + 1)) - 1))) (St w [[g2], (Value.slice A4 n5 c6).ownBlock.toList, (Value.slice A11 n12 c13).ownBlock.toList]) hG3 (me 1 rfl) ld_5 rfl (tbh rfl hb24)) gn hns (by kernel_rfl) ?_
   refine wf_all [13] (by kernel_rfl) rfl ⟨on_s 13 rfl gn rfl (s_litO (xs := ([ix tb_3 (bt x1.text (w64 ((w64 (x1.at_ + 1)) - 1)))] : List Int)) [.int .u8 (ix tb_3 (bt x1.text (w64 ((w64 (x1.at_ + 1)) - 1))))] bs_54_1 rfl (by kernel_rfl) rfl rfl rfl rfl fun gb43 h44 => ?_), trivial⟩
   refine ⟨sels [1, 2, 3] rfl, sels [0, 1] rfl, ?_⟩
   refine wf_all [14] (by kernel_rfl) rfl ⟨on_l 14 rfl gn rfl (s_app (zs := x31) (cells' := x31.flatMap (eI .u8)) 3 ap_54 rfl rfl rfl h14 hz16 (Src.ownF (hl := (hlI .u8)) (h1 := (hone_int .u8)) 0 rfl h44) (by rw [hv32, List.flatMap_append] <;> rfl) (app_len hv32 h44.hq) hb33 rfl rfl fun A45 c46 h47 => ?_), trivial⟩
   unfold NxL
   refine wf_all [15] (by kernel_rfl) rfl ⟨on_l 15 rfl gn rfl (s_val (vAs rfl) rfl ?_), trivial⟩
   unfold NxL
   refine wf_all [16] (by kernel_rfl) rfl ⟨on_l 16 rfl gn rfl (s_val (vAs rfl) rfl ?_), trivial⟩
   unfold NxL
   refine wf_end (by kernel_rfl) ?_
   refine g_retR (c := q72c12) [.slice A45 (n12 + 1) c46, .bool true] rfl Tryd.func72 rfl (.tmp rfl (.tmp rfl (.nil))) fun wr hLr => ?_
   have hMr : B.Loc w wr [.box g2 Tb3 [.string x1.text, .int .i64 (w64 (x1.at_ + 1)), .slice A4 n5 c6, .int .i64 x1.in_, .int .i64 x1.code], .own (.slice A45 (n12 + 1) c46) 5 1 (n12 + 1) (x31.flatMap (eI .u8)), .own (.slice A4 n5 c6) 31 4 n5 (x1.out.flatMap eJN)] [St w [[g2], (Value.slice A4 n5 c6).ownBlock.toList, (Value.slice A11 n12 c13).ownBlock.toList]] := hLr.pick (rest := [.own (.slice (some ⟨gb43, 0, none⟩) 1 1) 5 1 1 (([ix tb_3 (bt x1.text (w64 ((w64 (x1.at_ + 1)) - 1)))] : List Int).flatMap (eI .u8))]) (pIx [1, 3, 2] [0] rfl rfl (by kernel_rfl)) (sels [1] rfl)
   show jps_escape_R w F g2 Tb3 A4 n5 c6 z8 A11 n12 c13 z15 r (.returned (packV [.slice A45 (n12 + 1) c46, .bool true])) wr
   rw [h]
   exact ⟨A45, n12 + 1, c46, A4, n5, c6, rfl, hMr, h47, h7⟩
  ·have h := if_neg' hp22 h
   refine gFa (c := q72c6) rfl _ rfl ((bf hp22)) ?_
   refine g_skip (c := q72c8) rfl ?_
   refine gSq (c := q72c4) rfl ?_
   refine gSq (c := q72c13) rfl ?_
   refine gRg (c := q72c15) rfl rfl ?_
   refine wl_v 0 rfl (vMv rfl) gn rfl ?_
   obtain ⟨r51, hv52, h⟩ := h
   refine wl_s 1 rfl (sCl [.pointer (some ⟨g2, 0, none⟩), .string (⟨#[117]⟩ : ByteArray)] rfl Tryd.func71 rfl rfl rfl fun w48 hL49 => ?_) gn
   have hp50 : List.Perm ([.box g2 Tb3 [.string x1.text, .int .i64 x1.at_, .slice A4 n5 c6, .int .i64 x1.in_, .int .i64 x1.code], .own (.slice A4 n5 c6) 31 4 n5 (x1.out.flatMap eJN), .own (.slice A11 n12 c13) 5 1 n12 (x10.flatMap (eI .u8))] : List Ent) (([.box g2 Tb3 [.string x1.text, .int .i64 x1.at_, .slice A4 n5 c6, .int .i64 x1.in_, .int .i64 x1.code], .own (.slice A4 n5 c6) 31 4 n5 (x1.out.flatMap eJN)] : List Ent) ++ ([.own (.slice A11 n12 c13) 5 1 n12 (x10.flatMap (eI .u8))] : List Ent)) := pIx [0, 1] [2] rfl rfl (by kernel_rfl)
   refine Calls.mono (jps_take_calls w48 (Fl ([] : List Snap)) x1 (⟨#[117]⟩ : ByteArray) g2 Tb3 z8 A4 n5 c6 (Nat.le_trans hz9 hL49.env.size) h7 (hL49.hFl (Sl := ([] : List Snap)) hp50 (sels [] rfl)) (hL49.into hp50 (Fl ([] : List Snap))) r51 hv52) ?_
   rintro _ w58 ⟨A53, n54, c55, rfl, hM59, h56⟩
   have hL60 := hL49.call hp50 hM59
   refine ⟨_, _, _, rfl, hL60, ?_⟩
   refine wl_v 2 rfl (v_not rfl) gn rfl ?_
   refine w_end 3 rfl ?_
   by_cases hp61 : r51.1 = true
   ·have h := if_pos' hp61 h
    refine gFa (c := q72c16) rfl _ rfl ((nf hp61)) ?_
    refine g_skip (c := q72c18) rfl ?_
    refine gSq (c := q72c14) rfl ?_
    refine gRg (c := q72c19) rfl rfl ?_
    refine wl_v 0 rfl (vMv rfl) gn rfl ?_
    obtain ⟨r65, hv66, h⟩ := h
    refine wl_s 1 rfl (sCl [.pointer (some ⟨g2, 0, none⟩), .bool false] rfl Tryd.func85 rfl rfl rfl fun w62 hL63 => ?_) gn
    have hp64 : List.Perm ([.box g2 Tb3 [.string r51.2.text, .int .i64 r51.2.at_, .slice A53 n54 c55, .int .i64 r51.2.in_, .int .i64 r51.2.code], .own (.slice A53 n54 c55) 31 4 n54 (r51.2.out.flatMap eJN), .own (.slice A11 n12 c13) 5 1 n12 (x10.flatMap (eI .u8))] : List Ent) (([.box g2 Tb3 [.string r51.2.text, .int .i64 r51.2.at_, .slice A53 n54 c55, .int .i64 r51.2.in_, .int .i64 r51.2.code], .own (.slice A53 n54 c55) 31 4 n54 (r51.2.out.flatMap eJN)] : List Ent) ++ ([.own (.slice A11 n12 c13) 5 1 n12 (x10.flatMap (eI .u8))] : List Ent)) := pIx [0, 1] [2] rfl rfl (by kernel_rfl)
    refine Calls.mono (jps_four_calls w62 (Fl ([] : List Snap)) r51.2 false g2 Tb3 z8 A53 n54 c55 (Nat.le_trans hz9 hL63.env.size) h56 (hL63.hFl (Sl := ([] : List Snap)) hp64 (sels [] rfl)) (hL63.into hp64 (Fl ([] : List Snap))) r65 hv66) ?_
    rintro _ w72 ⟨A67, n68, c69, rfl, hM73, h70⟩
    have hL74 := hL63.call hp64 hM73
    refine ⟨_, _, _, rfl, hL74, ?_⟩
    refine wl_v 2 rfl (vMv rfl) gn rfl ?_
    refine wl_v 3 rfl (v_extract rfl rfl) gn rfl ?_
    refine wl_v 4 rfl (v_extract rfl rfl) gn rfl ?_
    refine wl_v 5 rfl (vAs rfl) gn rfl ?_
    refine wl_v 6 rfl (vAs rfl) gn rfl ?_
    refine w_end 7 rfl ?_
    refine gSq (c := q72c20) rfl ?_
    refine gSq (c := q72c21) rfl ?_
    refine gRg (c := q72c23) rfl rfl ?_
    refine wl_v 0 rfl (vMv rfl) gn rfl ?_
    refine wl_v 1 rfl (v_not rfl) gn rfl ?_
    refine w_end 2 rfl ?_
    by_cases hp75 : r65.2.1 = true
    ·have h := if_pos' hp75 h
     refine gFa (c := q72c24) rfl _ rfl ((nf hp75)) ?_
     refine g_skip (c := q72c26) rfl ?_
     refine gSq (c := q72c22) rfl ?_
     refine gSq (c := q72c27) rfl ?_
     have j2 : ∀ (x78 : Bool) (h : jps_escape_j2 r65 x10 x78 r) , G (jps_escape_C w F g2 Tb3 A4 n5 c6 z8 A11 n12 c13 z15 r) [.code q72c30, .code q72c28] [(0, .pointer (some ⟨g2, 0, none⟩)), (1, .slice A11 n12 c13), (6, .int .i32 r65.1), (73, .bool x78)] [.box g2 Tb3 [.string r65.2.2.text, .int .i64 r65.2.2.at_, .slice A67 n68 c69, .int .i64 r65.2.2.in_, .int .i64 r65.2.2.code], .own (.slice A67 n68 c69) 31 4 n68 (r65.2.2.out.flatMap eJN), .own (.slice A11 n12 c13) 5 1 n12 (x10.flatMap (eI .u8))] [Sm w.heap.size F w [[g2], (Value.slice A4 n5 c6).ownBlock.toList, (Value.slice A11 n12 c13).ownBlock.toList], St w [[g2], (Value.slice A4 n5 c6).ownBlock.toList, (Value.slice A11 n12 c13).ownBlock.toList]] := by
      intro x78 h
      unfold jps_escape_j2 at h
      by_cases hp79 : x78 = true
      ·have h := if_pos' hp79 h
       refine gTr (c := q72c30) rfl _ rfl (hp79) ?_
       refine gSq (c := q72c31) rfl ?_
       refine gSq (c := q72c33) rfl ?_
       have j3 : ∀ (x108 : Bool) (x109 : ByteArray) (x110 : Int) (x111 : List JNd) (x116 : Int) (x117 : Int) (h : jps_escape_j3 x10 r65 x108 x109 x110 x111 x116 x117 r) (A112 : Option Addr) (n113 : Nat) (c114 : Nat) (h115 : Ow z8 A112 n113 c114 x111), G (jps_escape_C w F g2 Tb3 A4 n5 c6 z8 A11 n12 c13 z15 r) [.code q72c36, .code q72c34, .code q72c28] [(0, .pointer (some ⟨g2, 0, none⟩)), (1, .slice A11 n12 c13), (6, .int .i32 r65.1), (81, .bool x108)] [.own (.slice A112 n113 c114) 31 4 n113 (x111.flatMap eJN), .box g2 Tb3 [.string x109, .int .i64 x110, .slice A112 n113 c114, .int .i64 x116, .int .i64 x117], .own (.slice A11 n12 c13) 5 1 n12 (x10.flatMap (eI .u8))] [Sm w.heap.size F w [[g2], (Value.slice A4 n5 c6).ownBlock.toList, (Value.slice A11 n12 c13).ownBlock.toList], St w [[g2], (Value.slice A4 n5 c6).ownBlock.toList, (Value.slice A11 n12 c13).ownBlock.toList]] := by
        intro x108 x109 x110 x111 x116 x117 h A112 n113 c114 h115
        unfold jps_escape_j3 at h
        by_cases hp118 : x108 = true
        ·have h := if_pos' hp118 h
         refine gTr (c := q72c36) rfl _ rfl (hp118) ?_
         refine gSq (c := q72c37) rfl ?_
         refine gRg (c := q72c39) rfl rfl ?_
         refine wl_v 0 rfl (vMv rfl) gn rfl ?_
         refine wl_v 1 rfl (vAs rfl) gn rfl ?_
         refine wl_v 2 rfl (vAs rfl) gn rfl ?_
         refine w_end 3 rfl ?_
         refine g_retR (c := q72c40) [.slice A11 n12 c13, .bool false] rfl Tryd.func72 rfl (.tmp rfl (.tmp rfl (.nil))) fun wr hLr => ?_
         have hMr : B.Loc w wr [.box g2 Tb3 [.string x109, .int .i64 x110, .slice A112 n113 c114, .int .i64 x116, .int .i64 x117], .own (.slice A11 n12 c13) 5 1 n12 (x10.flatMap (eI .u8)), .own (.slice A112 n113 c114) 31 4 n113 (x111.flatMap eJN)] [St w [[g2], (Value.slice A4 n5 c6).ownBlock.toList, (Value.slice A11 n12 c13).ownBlock.toList]] := hLr.pick (rest := []) (pIx [1, 2, 0] [] rfl rfl (by kernel_rfl)) (sels [1] rfl)
         show jps_escape_R w F g2 Tb3 A4 n5 c6 z8 A11 n12 c13 z15 r (.returned (packV [.slice A11 n12 c13, .bool false])) wr
         rw [h]
         exact ⟨A11, n12, c13, A112, n113, c114, rfl, hMr, h14, h115⟩
        ·have h := if_neg' hp118 h
         refine gFa (c := q72c36) rfl _ rfl ((bf hp118)) ?_
         refine g_skip (c := q72c38) rfl ?_
         refine gSq (c := q72c34) rfl ?_
         refine gRg (c := q72c41) rfl rfl ?_
         refine wl_v 0 rfl (vMv rfl) gn rfl ?_
         obtain ⟨r122, hv123, h⟩ := h
         refine wl_s 1 rfl (sCl [.pointer (some ⟨g2, 0, none⟩), .bool true] rfl Tryd.func85 rfl rfl rfl fun w119 hL120 => ?_) gn
         have hp121 : List.Perm ([.own (.slice A112 n113 c114) 31 4 n113 (x111.flatMap eJN), .box g2 Tb3 [.string x109, .int .i64 x110, .slice A112 n113 c114, .int .i64 x116, .int .i64 x117], .own (.slice A11 n12 c13) 5 1 n12 (x10.flatMap (eI .u8))] : List Ent) (([.box g2 Tb3 [.string x109, .int .i64 x110, .slice A112 n113 c114, .int .i64 x116, .int .i64 x117], .own (.slice A112 n113 c114) 31 4 n113 (x111.flatMap eJN)] : List Ent) ++ ([.own (.slice A11 n12 c13) 5 1 n12 (x10.flatMap (eI .u8))] : List Ent)) := pIx [1, 0] [2] rfl rfl (by kernel_rfl)
         refine Calls.mono (jps_four_calls w119 (Fl ([] : List Snap)) (⟨x109, x110, x111, x116, x117⟩ : jps) true g2 Tb3 z8 A112 n113 c114 (Nat.le_trans hz9 hL120.env.size) h115 (hL120.hFl (Sl := ([] : List Snap)) hp121 (sels [] rfl)) (hL120.into hp121 (Fl ([] : List Snap))) r122 hv123) ?_
         rintro _ w129 ⟨A124, n125, c126, rfl, hM130, h127⟩
         have hL131 := hL120.call hp121 hM130
         refine ⟨_, _, _, rfl, hL131, ?_⟩
         refine wl_v 2 rfl (vMv rfl) gn rfl ?_
         refine wl_v 3 rfl (v_extract rfl rfl) gn rfl ?_
         refine wl_v 4 rfl (v_extract rfl rfl) gn rfl ?_
         refine wl_v 5 rfl (vAs rfl) gn rfl ?_
         refine wl_v 6 rfl (vAs rfl) gn rfl ?_
         refine w_end 7 rfl ?_
         refine gSq (c := q72c42) rfl ?_
         refine gSq (c := q72c43) rfl ?_
         refine gRg (c := q72c45) rfl rfl ?_
         refine wl_v 0 rfl (vMv rfl) gn rfl ?_
         refine wl_v 1 rfl (v_not rfl) gn rfl ?_
         refine w_end 2 rfl ?_
         by_cases hp132 : r122.2.1 = true
         ·have h := if_pos' hp132 h
          refine gFa (c := q72c46) rfl _ rfl ((nf hp132)) ?_
          refine g_skip (c := q72c48) rfl ?_
          refine gRg (c := q72c44) rfl rfl ?_
          refine wl_v 0 rfl (vMv rfl) gn rfl ?_
          refine wl_v 1 rfl (vBn rfl rfl rfl) gn rfl ?_
          refine wl_v 2 rfl (v_shl rfl rfl (by decide)) gn rfl ?_
          refine wl_v 3 rfl (vBn rfl rfl rfl) gn rfl ?_
          refine wl_v 4 rfl (vMv rfl) gn rfl ?_
          refine wl_v 5 rfl (vBn rfl rfl rfl) gn rfl ?_
          refine wl_v 6 rfl (vBn rfl rfl rfl) gn rfl ?_
          refine wl_v 7 rfl (vAs rfl) gn rfl ?_
          refine w_end 8 rfl ?_
          refine gSq (c := q72c28) rfl ?_
          refine gRg (c := q72c49) rfl rfl ?_
          refine wl_v 0 rfl (vMv rfl) gn rfl ?_
          refine wl_v 1 rfl (vMv rfl) gn rfl ?_
          obtain ⟨r136, hv137, h⟩ := h
          refine wl_s 2 rfl (sCl [.slice A11 n12 c13, .int .i32 (IntKind.i32.wrap ((IntKind.i32.wrap (65536 + (shlV .i32 (IntKind.i32.wrap (r65.1 - 55296)) 10))) + (IntKind.i32.wrap (r122.1 - 56320))))] rfl Tryd.func86 rfl rfl rfl fun w133 hL134 => ?_) gn
          have hp135 : List.Perm ([.box g2 Tb3 [.string r122.2.2.text, .int .i64 r122.2.2.at_, .slice A124 n125 c126, .int .i64 r122.2.2.in_, .int .i64 r122.2.2.code], .own (.slice A124 n125 c126) 31 4 n125 (r122.2.2.out.flatMap eJN), .own (.slice A11 n12 c13) 5 1 n12 (x10.flatMap (eI .u8))] : List Ent) (([.own (.slice A11 n12 c13) 5 1 n12 (x10.flatMap (eI .u8))] : List Ent) ++ ([.box g2 Tb3 [.string r122.2.2.text, .int .i64 r122.2.2.at_, .slice A124 n125 c126, .int .i64 r122.2.2.in_, .int .i64 r122.2.2.code], .own (.slice A124 n125 c126) 31 4 n125 (r122.2.2.out.flatMap eJN)] : List Ent)) := pIx [2] [0, 1] rfl rfl (by kernel_rfl)
          refine Calls.mono (unicode_utf8_AppendRune_calls w133 (Fl ([] : List Snap)) x10 (IntKind.i32.wrap ((IntKind.i32.wrap (65536 + (shlV .i32 (IntKind.i32.wrap (r65.1 - 55296)) 10))) + (IntKind.i32.wrap (r122.1 - 56320)))) z15 A11 n12 c13 (Nat.le_trans hz16 hL134.env.size) h14 (hL134.hFl (Sl := ([] : List Snap)) hp135 (sels [] rfl)) (hL134.into hp135 (Fl ([] : List Snap))) r136 hv137) ?_
          rintro _ w143 ⟨A138, n139, c140, rfl, hM144, h141⟩
          have hL145 := hL134.call hp135 hM144
          refine ⟨_, _, _, rfl, hL145, ?_⟩
          refine wl_v 3 rfl (vAs rfl) gn rfl ?_
          refine wl_v 4 rfl (vAs rfl) gn rfl ?_
          refine w_end 5 rfl ?_
          refine g_retR (c := q72c50) [.slice A138 n139 c140, .bool true] rfl Tryd.func72 rfl (.tmp rfl (.tmp rfl (.nil))) fun wr hLr => ?_
          have hMr : B.Loc w wr [.box g2 Tb3 [.string r122.2.2.text, .int .i64 r122.2.2.at_, .slice A124 n125 c126, .int .i64 r122.2.2.in_, .int .i64 r122.2.2.code], .own (.slice A138 n139 c140) 5 1 n139 (r136.flatMap (eI .u8)), .own (.slice A124 n125 c126) 31 4 n125 (r122.2.2.out.flatMap eJN)] [St w [[g2], (Value.slice A4 n5 c6).ownBlock.toList, (Value.slice A11 n12 c13).ownBlock.toList]] := hLr.pick (rest := []) (pIx [1, 0, 2] [] rfl rfl (by kernel_rfl)) (sels [1] rfl)
          show jps_escape_R w F g2 Tb3 A4 n5 c6 z8 A11 n12 c13 z15 r (.returned (packV [.slice A138 n139 c140, .bool true])) wr
          rw [h]
          exact ⟨A138, n139, c140, A124, n125, c126, rfl, hMr, h141, h127⟩
         ·have h := if_neg' hp132 h
          refine gTr (c := q72c46) rfl _ rfl ((nt (bf hp132))) ?_
          refine gSq (c := q72c47) rfl ?_
          refine gRg (c := q72c51) rfl rfl ?_
          refine wl_v 0 rfl (vMv rfl) gn rfl ?_
          refine wl_v 1 rfl (vAs rfl) gn rfl ?_
          refine wl_v 2 rfl (vAs rfl) gn rfl ?_
          refine w_end 3 rfl ?_
          refine g_retR (c := q72c52) [.slice A11 n12 c13, .bool false] rfl Tryd.func72 rfl (.tmp rfl (.tmp rfl (.nil))) fun wr hLr => ?_
          have hMr : B.Loc w wr [.box g2 Tb3 [.string r122.2.2.text, .int .i64 r122.2.2.at_, .slice A124 n125 c126, .int .i64 r122.2.2.in_, .int .i64 r122.2.2.code], .own (.slice A11 n12 c13) 5 1 n12 (x10.flatMap (eI .u8)), .own (.slice A124 n125 c126) 31 4 n125 (r122.2.2.out.flatMap eJN)] [St w [[g2], (Value.slice A4 n5 c6).ownBlock.toList, (Value.slice A11 n12 c13).ownBlock.toList]] := hLr.pick (rest := []) (pIx [0, 2, 1] [] rfl rfl (by kernel_rfl)) (sels [1] rfl)
          show jps_escape_R w F g2 Tb3 A4 n5 c6 z8 A11 n12 c13 z15 r (.returned (packV [.slice A11 n12 c13, .bool false])) wr
          rw [h]
          exact ⟨A11, n12, c13, A124, n125, c126, rfl, hMr, h14, h127⟩
       refine gRg (c := q72c35) rfl rfl ?_
       refine wl_v 0 rfl (vMv rfl) gn rfl ?_
       obtain ⟨r149, hv150, h⟩ := h
       refine wl_s 1 rfl (sCl [.pointer (some ⟨g2, 0, none⟩), .string (⟨#[92]⟩ : ByteArray)] rfl Tryd.func71 rfl rfl rfl fun w146 hL147 => ?_) gn
       have hp148 : List.Perm ([.box g2 Tb3 [.string r65.2.2.text, .int .i64 r65.2.2.at_, .slice A67 n68 c69, .int .i64 r65.2.2.in_, .int .i64 r65.2.2.code], .own (.slice A67 n68 c69) 31 4 n68 (r65.2.2.out.flatMap eJN), .own (.slice A11 n12 c13) 5 1 n12 (x10.flatMap (eI .u8))] : List Ent) (([.box g2 Tb3 [.string r65.2.2.text, .int .i64 r65.2.2.at_, .slice A67 n68 c69, .int .i64 r65.2.2.in_, .int .i64 r65.2.2.code], .own (.slice A67 n68 c69) 31 4 n68 (r65.2.2.out.flatMap eJN)] : List Ent) ++ ([.own (.slice A11 n12 c13) 5 1 n12 (x10.flatMap (eI .u8))] : List Ent)) := pIx [0, 1] [2] rfl rfl (by kernel_rfl)
       refine Calls.mono (jps_take_calls w146 (Fl ([] : List Snap)) r65.2.2 (⟨#[92]⟩ : ByteArray) g2 Tb3 z8 A67 n68 c69 (Nat.le_trans hz9 hL147.env.size) h70 (hL147.hFl (Sl := ([] : List Snap)) hp148 (sels [] rfl)) (hL147.into hp148 (Fl ([] : List Snap))) r149 hv150) ?_
       rintro _ w156 ⟨A151, n152, c153, rfl, hM157, h154⟩
       have hL158 := hL147.call hp148 hM157
       refine ⟨_, _, _, rfl, hL158, ?_⟩
       refine wl_v 2 rfl (v_not rfl) gn rfl ?_
       refine wl_v 3 rfl (vMv rfl) gn rfl ?_
       by_cases hp159 : r149.1 = true
       ·have h := if_pos' hp159 h
        refine w_bool 77 rfl ((nf hp159)) ?_
        refine wl_v 4 rfl (vMv rfl) (gy 77 rfl rfl) rfl ?_
        obtain ⟨r163, hv164, h⟩ := h
        refine wl_s 5 rfl (sCl [.pointer (some ⟨g2, 0, none⟩), .string (⟨#[117]⟩ : ByteArray)] rfl Tryd.func71 rfl rfl rfl fun w160 hL161 => ?_) (gy 77 rfl rfl)
        have hp162 : List.Perm ([.box g2 Tb3 [.string r149.2.text, .int .i64 r149.2.at_, .slice A151 n152 c153, .int .i64 r149.2.in_, .int .i64 r149.2.code], .own (.slice A151 n152 c153) 31 4 n152 (r149.2.out.flatMap eJN), .own (.slice A11 n12 c13) 5 1 n12 (x10.flatMap (eI .u8))] : List Ent) (([.box g2 Tb3 [.string r149.2.text, .int .i64 r149.2.at_, .slice A151 n152 c153, .int .i64 r149.2.in_, .int .i64 r149.2.code], .own (.slice A151 n152 c153) 31 4 n152 (r149.2.out.flatMap eJN)] : List Ent) ++ ([.own (.slice A11 n12 c13) 5 1 n12 (x10.flatMap (eI .u8))] : List Ent)) := pIx [0, 1] [2] rfl rfl (by kernel_rfl)
        refine Calls.mono (jps_take_calls w160 (Fl ([] : List Snap)) r149.2 (⟨#[117]⟩ : ByteArray) g2 Tb3 z8 A151 n152 c153 (Nat.le_trans hz9 hL161.env.size) h154 (hL161.hFl (Sl := ([] : List Snap)) hp162 (sels [] rfl)) (hL161.into hp162 (Fl ([] : List Snap))) r163 hv164) ?_
        rintro _ w170 ⟨A165, n166, c167, rfl, hM171, h168⟩
        have hL172 := hL161.call hp162 hM171
        refine ⟨_, _, _, rfl, hL172, ?_⟩
        refine wl_v 6 rfl (v_not rfl) (gy 77 rfl rfl) rfl ?_
        refine wl_v 7 rfl (v_pick (b := false) rfl rfl) gn rfl ?_
        refine w_end 8 rfl ?_
        refine gFr 2 rfl ?_
        refine gFr 1 rfl ?_
        refine gFr 2 rfl ?_
        exact g_go [0, 1] (j3 (!r163.1) r163.2.text r163.2.at_ r163.2.out r163.2.in_ r163.2.code h A165 n166 c167 h168) ⟨rfl, rfl, rfl, rfl, trivial⟩ (.cons_cons _ (.cons_cons _ (.cons_cons _ (.slnil)))) rfl
       ·have h := if_neg' hp159 h
        refine w_bool 77 rfl ((nt (bf hp159))) ?_
        refine wl_pass 4 rfl (ps 77 rfl rfl rfl) ?_
        refine wl_pass 5 rfl (ps 77 rfl rfl rfl) ?_
        refine wl_pass 6 rfl (ps 77 rfl rfl rfl) ?_
        refine wl_v 7 rfl (v_pick (b := true) rfl rfl) gn rfl ?_
        refine w_end 8 rfl ?_
        refine gFr 2 rfl ?_
        refine gFr 1 rfl ?_
        refine gFr 2 rfl ?_
        exact g_go [0, 1] (j3 true r149.2.text r149.2.at_ r149.2.out r149.2.in_ r149.2.code h A151 n152 c153 h154) ⟨rfl, rfl, rfl, rfl, trivial⟩ (.cons_cons _ (.cons_cons _ (.cons_cons _ (.slnil)))) rfl
      ·have h := if_neg' hp79 h
       refine gFa (c := q72c30) rfl _ rfl ((bf hp79)) ?_
       refine g_skip (c := q72c32) rfl ?_
       refine gSq (c := q72c28) rfl ?_
       refine gRg (c := q72c49) rfl rfl ?_
       refine wl_v 0 rfl (vMv rfl) gn rfl ?_
       refine wl_v 1 rfl (vMv rfl) gn rfl ?_
       obtain ⟨r176, hv177, h⟩ := h
       refine wl_s 2 rfl (sCl [.slice A11 n12 c13, .int .i32 r65.1] rfl Tryd.func86 rfl rfl rfl fun w173 hL174 => ?_) gn
       have hp175 : List.Perm ([.box g2 Tb3 [.string r65.2.2.text, .int .i64 r65.2.2.at_, .slice A67 n68 c69, .int .i64 r65.2.2.in_, .int .i64 r65.2.2.code], .own (.slice A67 n68 c69) 31 4 n68 (r65.2.2.out.flatMap eJN), .own (.slice A11 n12 c13) 5 1 n12 (x10.flatMap (eI .u8))] : List Ent) (([.own (.slice A11 n12 c13) 5 1 n12 (x10.flatMap (eI .u8))] : List Ent) ++ ([.box g2 Tb3 [.string r65.2.2.text, .int .i64 r65.2.2.at_, .slice A67 n68 c69, .int .i64 r65.2.2.in_, .int .i64 r65.2.2.code], .own (.slice A67 n68 c69) 31 4 n68 (r65.2.2.out.flatMap eJN)] : List Ent)) := pIx [2] [0, 1] rfl rfl (by kernel_rfl)
       refine Calls.mono (unicode_utf8_AppendRune_calls w173 (Fl ([] : List Snap)) x10 r65.1 z15 A11 n12 c13 (Nat.le_trans hz16 hL174.env.size) h14 (hL174.hFl (Sl := ([] : List Snap)) hp175 (sels [] rfl)) (hL174.into hp175 (Fl ([] : List Snap))) r176 hv177) ?_
       rintro _ w183 ⟨A178, n179, c180, rfl, hM184, h181⟩
       have hL185 := hL174.call hp175 hM184
       refine ⟨_, _, _, rfl, hL185, ?_⟩
       refine wl_v 3 rfl (vAs rfl) gn rfl ?_
       refine wl_v 4 rfl (vAs rfl) gn rfl ?_
       refine w_end 5 rfl ?_
       refine g_retR (c := q72c50) [.slice A178 n179 c180, .bool true] rfl Tryd.func72 rfl (.tmp rfl (.tmp rfl (.nil))) fun wr hLr => ?_
       have hMr : B.Loc w wr [.box g2 Tb3 [.string r65.2.2.text, .int .i64 r65.2.2.at_, .slice A67 n68 c69, .int .i64 r65.2.2.in_, .int .i64 r65.2.2.code], .own (.slice A178 n179 c180) 5 1 n179 (r176.flatMap (eI .u8)), .own (.slice A67 n68 c69) 31 4 n68 (r65.2.2.out.flatMap eJN)] [St w [[g2], (Value.slice A4 n5 c6).ownBlock.toList, (Value.slice A11 n12 c13).ownBlock.toList]] := hLr.pick (rest := []) (pIx [1, 0, 2] [] rfl rfl (by kernel_rfl)) (sels [1] rfl)
       show jps_escape_R w F g2 Tb3 A4 n5 c6 z8 A11 n12 c13 z15 r (.returned (packV [.slice A178 n179 c180, .bool true])) wr
       rw [h]
       exact ⟨A178, n179, c180, A67, n68, c69, rfl, hMr, h181, h70⟩
     refine gRg (c := q72c29) rfl rfl ?_
     refine wl_v 0 rfl (vMv rfl) gn rfl ?_
     refine wl_v 1 rfl (vBn rfl rfl rfl) gn rfl ?_
     refine wl_v 2 rfl (vMv rfl) gn rfl ?_
     by_cases hp186 : r65.1 ≥ 55296
     ·have h := if_pos' hp186 h
      refine w_bool 70 rfl ((decide_eq_true hp186)) ?_
      refine wl_v 3 rfl (vMv rfl) (gy 70 rfl rfl) rfl ?_
      refine wl_v 4 rfl (vBn rfl rfl rfl) (gy 70 rfl rfl) rfl ?_
      refine wl_v 5 rfl (v_pick (b := true) rfl rfl) gn rfl ?_
      refine w_end 6 rfl ?_
      exact g_go [0, 1] (j2 (decide (r65.1 ≤ 56319)) h) ⟨rfl, rfl, rfl, rfl, trivial⟩ (.cons_cons _ (.cons_cons _ (.cons_cons _ (.slnil)))) rfl
     ·have h := if_neg' hp186 h
      refine w_bool 70 rfl ((decide_eq_false hp186)) ?_
      refine wl_pass 3 rfl (ps 70 rfl rfl rfl) ?_
      refine wl_pass 4 rfl (ps 70 rfl rfl rfl) ?_
      refine wl_v 5 rfl (v_pick (b := false) rfl rfl) gn rfl ?_
      refine w_end 6 rfl ?_
      exact g_go [0, 1] (j2 false h) ⟨rfl, rfl, rfl, rfl, trivial⟩ (.cons_cons _ (.cons_cons _ (.cons_cons _ (.slnil)))) rfl
    ·have h := if_neg' hp75 h
     refine gTr (c := q72c24) rfl _ rfl ((nt (bf hp75))) ?_
     refine gSq (c := q72c25) rfl ?_
     refine gRg (c := q72c53) rfl rfl ?_
     refine wl_v 0 rfl (vMv rfl) gn rfl ?_
     refine wl_v 1 rfl (vAs rfl) gn rfl ?_
     refine wl_v 2 rfl (vAs rfl) gn rfl ?_
     refine w_end 3 rfl ?_
     refine g_retR (c := q72c54) [.slice A11 n12 c13, .bool false] rfl Tryd.func72 rfl (.tmp rfl (.tmp rfl (.nil))) fun wr hLr => ?_
     have hMr : B.Loc w wr [.box g2 Tb3 [.string r65.2.2.text, .int .i64 r65.2.2.at_, .slice A67 n68 c69, .int .i64 r65.2.2.in_, .int .i64 r65.2.2.code], .own (.slice A11 n12 c13) 5 1 n12 (x10.flatMap (eI .u8)), .own (.slice A67 n68 c69) 31 4 n68 (r65.2.2.out.flatMap eJN)] [St w [[g2], (Value.slice A4 n5 c6).ownBlock.toList, (Value.slice A11 n12 c13).ownBlock.toList]] := hLr.pick (rest := []) (pIx [0, 2, 1] [] rfl rfl (by kernel_rfl)) (sels [1] rfl)
     show jps_escape_R w F g2 Tb3 A4 n5 c6 z8 A11 n12 c13 z15 r (.returned (packV [.slice A11 n12 c13, .bool false])) wr
     rw [h]
     exact ⟨A11, n12, c13, A67, n68, c69, rfl, hMr, h14, h70⟩
   ·have h := if_neg' hp61 h
    refine gTr (c := q72c16) rfl _ rfl ((nt (bf hp61))) ?_
    refine gSq (c := q72c17) rfl ?_
    refine gRg (c := q72c55) rfl rfl ?_
    refine wl_v 0 rfl (vMv rfl) gn rfl ?_
    refine wl_v 1 rfl (vAs rfl) gn rfl ?_
    refine wl_v 2 rfl (vAs rfl) gn rfl ?_
    refine w_end 3 rfl ?_
    refine g_retR (c := q72c56) [.slice A11 n12 c13, .bool false] rfl Tryd.func72 rfl (.tmp rfl (.tmp rfl (.nil))) fun wr hLr => ?_
    have hMr : B.Loc w wr [.box g2 Tb3 [.string r51.2.text, .int .i64 r51.2.at_, .slice A53 n54 c55, .int .i64 r51.2.in_, .int .i64 r51.2.code], .own (.slice A11 n12 c13) 5 1 n12 (x10.flatMap (eI .u8)), .own (.slice A53 n54 c55) 31 4 n54 (r51.2.out.flatMap eJN)] [St w [[g2], (Value.slice A4 n5 c6).ownBlock.toList, (Value.slice A11 n12 c13).ownBlock.toList]] := hLr.pick (rest := []) (pIx [0, 2, 1] [] rfl rfl (by kernel_rfl)) (sels [1] rfl)
    show jps_escape_R w F g2 Tb3 A4 n5 c6 z8 A11 n12 c13 z15 r (.returned (packV [.slice A11 n12 c13, .bool false])) wr
    rw [h]
    exact ⟨A11, n12, c13, A53, n54, c55, rfl, hMr, h14, h56⟩
 by_cases hp187 : x1.at_ < (x1.text.size : Int)
 ·have h := if_pos' hp187 h
  obtain ⟨hb188, h⟩ := h
  obtain ⟨hb189, h⟩ := h
  have hns : Region.noSelect (Code.ops q72c5) = true := by kernel_rfl
  refine g_drawF (c := q72c5) [.box g2 Tb3 [.string x1.text, .int .i64 x1.at_, .slice A4 n5 c6, .int .i64 x1.in_, .int .i64 x1.code], .own (.slice A4 n5 c6) 31 4 n5 (x1.out.flatMap eJN), .own (.slice A11 n12 c13) 5 1 n12 (x10.flatMap (eI .u8))] [Sm w.heap.size F w [[g2], (Value.slice A4 n5 c6).ownBlock.toList, (Value.slice A11 n12 c13).ownBlock.toList], St w [[g2], (Value.slice A4 n5 c6).ownBlock.toList, (Value.slice A11 n12 c13).ownBlock.toList]] [] 24 rfl rfl mix rfl (.cons_cons _ (.cons_cons _ (.cons_cons _ (.slnil)))) (sels [0, 1] rfl) ?_
  refine wfv 0 rfl (vMv rfl) gn hns rfl ?_
  refine wfv 1 rfl (vNc rfl) gn hns rfl ?_
  refine wfv 2 rfl (vFB fo_70_1 rfl) gn hns rfl ?_
  refine wfv 3 rfl (v_ldB1 0 ld_3 rfl rfl rfl) gn hns rfl ?_
  refine wfv 4 rfl (vMv rfl) gn hns rfl ?_
  refine wfv 5 rfl (vNc rfl) gn hns rfl ?_
  refine wfv 6 rfl (vFB fo_70_0 rfl) gn hns rfl ?_
  refine wfv 7 rfl (v_ldB1 0 ld_9 rfl rfl rfl) gn hns rfl ?_
  refine wfv 8 rfl (v_lenS un_9 rfl) gn hns rfl ?_
  refine wfv 9 rfl (vBn rfl rfl rfl) gn hns rfl ?_
  refine wfv 10 rfl (vMv rfl) gn hns rfl ?_
  refine wf_bool 20 rfl ((decide_eq_true hp187)) ?_
  refine wfv 11 rfl (vMv rfl) (gy 20 rfl rfl) hns rfl ?_
  refine wfv 12 rfl (vNc rfl) (gy 20 rfl rfl) hns rfl ?_
  refine wfv 13 rfl (vFB fo_70_0 rfl) (gy 20 rfl rfl) hns rfl ?_
  refine wfv 14 rfl (v_ldB1 0 ld_9 rfl rfl rfl) (gy 20 rfl rfl) hns rfl ?_
  refine wfv 15 rfl (vMv rfl) (gy 20 rfl rfl) hns rfl ?_
  refine wfv 16 rfl (vNc rfl) (gy 20 rfl rfl) hns rfl ?_
  refine wfv 17 rfl (vFB fo_70_1 rfl) (gy 20 rfl rfl) hns rfl ?_
  refine wfv 18 rfl (v_ldB1 0 ld_3 rfl rfl rfl) (gy 20 rfl rfl) hns rfl ?_
  refine wfv 19 rfl (v_indexS un_9 rfl rfl hb188) (gy 20 rfl rfl) hns rfl ?_
  refine wfv 20 rfl (v_idxB ar_78 rfl rfl hb189) (gy 20 rfl rfl) hns rfl ?_
  refine wfv 21 rfl (v_ldT (zs := tb_3) (j := bt x1.text x1.at_) (St w [[g2], (Value.slice A4 n5 c6).ownBlock.toList, (Value.slice A11 n12 c13).ownBlock.toList]) hG3 (me 1 rfl) ld_5 rfl (tbh rfl hb189)) (gy 20 rfl rfl) hns rfl ?_
  refine wfv 22 rfl (vBn rfl rfl rfl) (gy 20 rfl rfl) hns rfl ?_
  refine wfv 23 rfl (v_pick (b := true) rfl rfl) gn hns rfl ?_
  refine wf_end (by kernel_rfl) ?_
  exact g_go [0, 1] (j1 ((ix tb_3 (bt x1.text x1.at_)) != 0) h) ⟨rfl, rfl, rfl, trivial⟩ (.cons_cons _ (.cons_cons _ (.cons_cons _ (.slnil)))) rfl
 ·have h := if_neg' hp187 h
  have hns : Region.noSelect (Code.ops q72c5) = true := by kernel_rfl
  refine g_drawF (c := q72c5) [.box g2 Tb3 [.string x1.text, .int .i64 x1.at_, .slice A4 n5 c6, .int .i64 x1.in_, .int .i64 x1.code], .own (.slice A4 n5 c6) 31 4 n5 (x1.out.flatMap eJN), .own (.slice A11 n12 c13) 5 1 n12 (x10.flatMap (eI .u8))] [Sm w.heap.size F w [[g2], (Value.slice A4 n5 c6).ownBlock.toList, (Value.slice A11 n12 c13).ownBlock.toList], St w [[g2], (Value.slice A4 n5 c6).ownBlock.toList, (Value.slice A11 n12 c13).ownBlock.toList]] [] 24 rfl rfl mix rfl (.cons_cons _ (.cons_cons _ (.cons_cons _ (.slnil)))) (sels [0, 1] rfl) ?_
  refine wfv 0 rfl (vMv rfl) gn hns rfl ?_
  refine wfv 1 rfl (vNc rfl) gn hns rfl ?_
  refine wfv 2 rfl (vFB fo_70_1 rfl) gn hns rfl ?_
  refine wfv 3 rfl (v_ldB1 0 ld_3 rfl rfl rfl) gn hns rfl ?_
  refine wfv 4 rfl (vMv rfl) gn hns rfl ?_
  refine wfv 5 rfl (vNc rfl) gn hns rfl ?_
  refine wfv 6 rfl (vFB fo_70_0 rfl) gn hns rfl ?_
  refine wfv 7 rfl (v_ldB1 0 ld_9 rfl rfl rfl) gn hns rfl ?_
  refine wfv 8 rfl (v_lenS un_9 rfl) gn hns rfl ?_
  refine wfv 9 rfl (vBn rfl rfl rfl) gn hns rfl ?_
  refine wfv 10 rfl (vMv rfl) gn hns rfl ?_
  refine wf_bool 20 rfl ((decide_eq_false hp187)) ?_
  refine wfp 11 rfl (ps 20 rfl rfl rfl) hns rfl ?_
  refine wfp 12 rfl (ps 20 rfl rfl rfl) hns rfl ?_
  refine wfp 13 rfl (ps 20 rfl rfl rfl) hns rfl ?_
  refine wfp 14 rfl (ps 20 rfl rfl rfl) hns rfl ?_
  refine wfp 15 rfl (ps 20 rfl rfl rfl) hns rfl ?_
  refine wfp 16 rfl (ps 20 rfl rfl rfl) hns rfl ?_
  refine wfp 17 rfl (ps 20 rfl rfl rfl) hns rfl ?_
  refine wfp 18 rfl (ps 20 rfl rfl rfl) hns rfl ?_
  refine wfp 19 rfl (ps 20 rfl rfl rfl) hns rfl ?_
  refine wfp 20 rfl (ps 20 rfl rfl rfl) hns rfl ?_
  refine wfp 21 rfl (ps 20 rfl rfl rfl) hns rfl ?_
  refine wfp 22 rfl (ps 20 rfl rfl rfl) hns rfl ?_
  refine wfv 23 rfl (v_pick (b := false) rfl rfl) gn hns rfl ?_
  refine wf_end (by kernel_rfl) ?_
  exact g_go [0, 1] (j1 false h) ⟨rfl, rfl, rfl, trivial⟩ (.cons_cons _ (.cons_cons _ (.cons_cons _ (.slnil)))) rfl
noncomputable abbrev q73c0 : Code := bodyOf Tryd.f73
noncomputable abbrev q73c1 := Code.fst q73c0
noncomputable abbrev q73c2 := Code.snd q73c0
noncomputable abbrev q73c3 := Code.fst q73c2
noncomputable abbrev q73c4 := Code.snd q73c2
noncomputable abbrev q73c5 := Code.fst q73c4
noncomputable abbrev q73c6 := Code.snd q73c4
noncomputable abbrev q73c7 := Code.fst q73c6
noncomputable abbrev q73c8 := Code.snd q73c6
noncomputable abbrev q73c9 := Code.fst q73c7
noncomputable abbrev q73c10 := Code.fst q73c9
noncomputable abbrev q73c11 := Code.snd q73c9
noncomputable abbrev q73c12 := Code.fst q73c11
noncomputable abbrev q73c13 := Code.snd q73c11
noncomputable abbrev q73c14 := Code.fst q73c12
noncomputable abbrev q73c15 := Code.snd q73c12
noncomputable abbrev q73c16 := Code.fst q73c13
noncomputable abbrev q73c17 := Code.snd q73c13
noncomputable abbrev q73c18 := Code.fst q73c17
noncomputable abbrev q73c19 := Code.snd q73c17
noncomputable abbrev q73c20 := Code.fst q73c19
noncomputable abbrev q73c21 := Code.snd q73c19
noncomputable abbrev q73c22 := Code.fst q73c21
noncomputable abbrev q73c23 := Code.snd q73c21
noncomputable abbrev q73c24 := Code.fst q73c23
noncomputable abbrev q73c25 := Code.snd q73c23
noncomputable abbrev q73c26 := Code.fst q73c25
noncomputable abbrev q73c27 := Code.snd q73c25
noncomputable abbrev q73c28 := Code.fst q73c27
noncomputable abbrev q73c29 := Code.snd q73c27
noncomputable abbrev q73c30 := Code.fst q73c29
noncomputable abbrev q73c31 := Code.snd q73c29
noncomputable abbrev q73c32 := Code.fst q73c31
noncomputable abbrev q73c33 := Code.snd q73c31
noncomputable abbrev q73c34 := Code.fst q73c8
noncomputable abbrev q73c35 := Code.snd q73c8
noncomputable abbrev q73c36 := Code.fst q73c34
noncomputable abbrev q73c37 := Code.snd q73c34
noncomputable abbrev q73c38 := Code.fst q73c37
noncomputable abbrev q73c39 := Code.fst q73c38
noncomputable abbrev q73c40 := Code.snd q73c38
noncomputable abbrev q73c41 := Code.fst q73c40
noncomputable abbrev q73c42 := Code.snd q73c40
noncomputable abbrev q73c43 := Code.fst q73c42
noncomputable abbrev q73c44 := Code.snd q73c42
noncomputable abbrev q73c45 := Code.fst q73c44
noncomputable abbrev q73c46 := Code.snd q73c44
noncomputable abbrev q73c47 := Code.fst q73c46
noncomputable abbrev q73c48 := Code.snd q73c46
noncomputable abbrev q73c49 := Code.fst q73c48
noncomputable abbrev q73c50 := Code.snd q73c48
noncomputable abbrev q73c51 := Code.fst q73c50
noncomputable abbrev q73c52 := Code.snd q73c50
noncomputable abbrev q73c53 := Code.fst q73c52
noncomputable abbrev q73c54 := Code.snd q73c52
noncomputable abbrev q73c55 := Code.fst q73c35
noncomputable abbrev q73c56 := Code.snd q73c35
noncomputable abbrev q73c57 := Code.fst q73c56
noncomputable abbrev q73c58 := Code.snd q73c56
noncomputable abbrev q73c59 := Code.fst q73c57
noncomputable abbrev q73c60 := Code.snd q73c57
noncomputable abbrev q73c61 := Code.fst q73c60
noncomputable abbrev q73c62 := Code.fst q73c61
noncomputable abbrev q73c63 := Code.fst q73c62
noncomputable abbrev q73c64 := Code.snd q73c62
noncomputable abbrev q73c65 := Code.fst q73c63
noncomputable abbrev q73c66 := Code.snd q73c63
noncomputable abbrev q73c67 := Code.fst q73c66
noncomputable abbrev q73c68 := Code.snd q73c66
noncomputable abbrev q73c69 := Code.fst q73c64
noncomputable abbrev q73c70 := Code.snd q73c64
noncomputable abbrev q73c71 := Code.fst q73c69
noncomputable abbrev q73c72 := Code.fst q73c71
noncomputable abbrev q73c73 := Code.snd q73c71
noncomputable abbrev q73c74 := Code.fst q73c72
noncomputable abbrev q73c75 := Code.snd q73c72
noncomputable abbrev q73c76 := Code.fst q73c75
noncomputable abbrev q73c77 := Code.snd q73c75
noncomputable abbrev q73c78 := Code.fst q73c76
noncomputable abbrev q73c79 := Code.snd q73c76
noncomputable abbrev q73c80 := Code.fst q73c73
noncomputable abbrev q73c81 := Code.snd q73c73
noncomputable abbrev q73c82 := Code.fst q73c58
noncomputable abbrev q73c83 := Code.snd q73c58
abbrev jps_char_R (w : World) (F : Nat → Prop) (g2 : Nat) (Tb3 : Nat) (A4 : Option Addr) (n5 : Nat) (c6 : Nat) (z8 : Nat) (A11 : Option Addr) (n12 : Nat) (c13 : Nat) (z15 : Nat) (r : (List Int) × Bool × jps) : Ending → World → Prop := fun e w' => ∃ A0 : Option Addr, ∃ n0 : Nat, ∃ c0 : Nat, ∃ A1 : Option Addr, ∃ n1 : Nat, ∃ c1 : Nat, e = .returned (.tuple #[.slice A0 n0 c0, .bool r.2.1]) ∧ B.Loc w w' [.box g2 Tb3 [.string r.2.2.text, .int .i64 r.2.2.at_, .slice A1 n1 c1, .int .i64 r.2.2.in_, .int .i64 r.2.2.code], .own (.slice A0 n0 c0) 5 1 n0 (r.1.flatMap (eI .u8)), .own (.slice A1 n1 c1) 31 4 n1 (r.2.2.out.flatMap eJN)] [St w [[g2], (Value.slice A4 n5 c6).ownBlock.toList, (Value.slice A11 n12 c13).ownBlock.toList]] ∧ Ow z15 A0 n0 c0 r.1 ∧ Ow z8 A1 n1 c1 r.2.2.out
noncomputable abbrev jps_char_C (w : World) (F : Nat → Prop) (g2 : Nat) (Tb3 : Nat) (A4 : Option Addr) (n5 : Nat) (c6 : Nat) (z8 : Nat) (A11 : Option Addr) (n12 : Nat) (c13 : Nat) (z15 : Nat) (r : (List Int) × Bool × jps) : Cx := ⟨Tryd.prog, 73, Tryd.f73, 129, jps_char_R w F g2 Tb3 A4 n5 c6 z8 A11 n12 c13 z15 r, w⟩
theorem jps_char_calls (w : World) (F : Nat → Prop) (x1 : jps) (x10 : List Int) (g2 : Nat) (Tb3 : Nat) (z8 : Nat) (A4 : Option Addr) (n5 : Nat) (c6 : Nat) (z15 : Nat) (A11 : Option Addr) (n12 : Nat) (c13 : Nat) (hz9 : z8 ≤ w.heap.size) (h7 : Ow z8 A4 n5 c6 x1.out) (hz16 : z15 ≤ w.heap.size) (h14 : Ow z15 A11 n12 c13 x10) (hF : ∀ b, F b → b < w.heap.size ∧ ∀ o ∈ ([[g2], (Value.slice A4 n5 c6).ownBlock.toList, (Value.slice A11 n12 c13).ownBlock.toList] : List (List Nat)), b ∉ o) (hL0 : B.Loc w w [.box g2 Tb3 [.string x1.text, .int .i64 x1.at_, .slice A4 n5 c6, .int .i64 x1.in_, .int .i64 x1.code], .own (.slice A4 n5 c6) 31 4 n5 (x1.out.flatMap eJN), .own (.slice A11 n12 c13) 5 1 n12 (x10.flatMap (eI .u8))] [Sm w.heap.size F w [[g2], (Value.slice A4 n5 c6).ownBlock.toList, (Value.slice A11 n12 c13).ownBlock.toList], St w [[g2], (Value.slice A4 n5 c6).ownBlock.toList, (Value.slice A11 n12 c13).ownBlock.toList]]) (r : (List Int) × Bool × jps) (h : jps_char x1 x10 r) : Calls Tryd.prog 73 #[.pointer (some ⟨g2, 0, none⟩), .slice A11 n12 c13] w (jps_char_R w F g2 Tb3 A4 n5 c6 z8 A11 n12 c13 z15 r) := by
 unfold jps_char at h
 refine calls_of_Loc (vs := [.pointer (some ⟨g2, 0, none⟩), .slice A11 n12 c13]) 129 Tryd.func73 rfl Tryd.ntmps73 rfl hL0 ?_
 show G (jps_char_C w F g2 Tb3 A4 n5 c6 z8 A11 n12 c13 z15 r) _ _ _ _
 refine gSq (c := q73c0) rfl ?_
 refine gRg (c := q73c1) rfl rfl ?_
 refine wl_v 0 rfl (vAs rfl) gn rfl ?_
 refine wl_v 1 rfl (vAs rfl) gn rfl ?_
 refine w_end 2 rfl ?_
 refine gSq (c := q73c2) rfl ?_
 obtain ⟨hb17, h⟩ := h
 have hns : Region.noSelect (Code.ops q73c3) = true := by kernel_rfl
 refine g_drawF (c := q73c3) [.box g2 Tb3 [.string x1.text, .int .i64 x1.at_, .slice A4 n5 c6, .int .i64 x1.in_, .int .i64 x1.code], .own (.slice A4 n5 c6) 31 4 n5 (x1.out.flatMap eJN), .own (.slice A11 n12 c13) 5 1 n12 (x10.flatMap (eI .u8))] [Sm w.heap.size F w [[g2], (Value.slice A4 n5 c6).ownBlock.toList, (Value.slice A11 n12 c13).ownBlock.toList], St w [[g2], (Value.slice A4 n5 c6).ownBlock.toList, (Value.slice A11 n12 c13).ownBlock.toList]] [] 10 rfl rfl mix rfl (.cons_cons _ (.cons_cons _ (.cons_cons _ (.slnil)))) (sels [0, 1] rfl) ?_
 refine wfv 0 rfl (vMv rfl) gn hns rfl ?_
 refine wfv 1 rfl (vNc rfl) gn hns rfl ?_
 refine wfv 2 rfl (vFB fo_70_0 rfl) gn hns rfl ?_
 refine wfv 3 rfl (v_ldB1 0 ld_9 rfl rfl rfl) gn hns rfl ?_
 refine wfv 4 rfl (vMv rfl) gn hns rfl ?_
 refine wfv 5 rfl (vNc rfl) gn hns rfl ?_
 refine wfv 6 rfl (vFB fo_70_1 rfl) gn hns rfl ?_
 refine wfv 7 rfl (v_ldB1 0 ld_3 rfl rfl rfl) gn hns rfl ?_
 refine wfv 8 rfl (v_indexS un_9 rfl rfl hb17) gn hns rfl ?_
 refine wfv 9 rfl (vAs rfl) gn hns rfl ?_
 refine wf_end (by kernel_rfl) ?_
 refine gSq (c := q73c4) rfl ?_
 refine gRg (c := q73c5) rfl rfl ?_
 refine wl_v 0 rfl (vAs rfl) gn rfl ?_
 refine wl_v 1 rfl (vAs rfl) gn rfl ?_
 refine wl_v 2 rfl (vAs rfl) gn rfl ?_
 refine w_end 3 rfl ?_
 refine gSq (c := q73c6) rfl ?_
 refine g_block (c := q73c7) rfl ?_
 refine gSq (c := q73c9) rfl ?_
 refine gRg (c := q73c10) rfl rfl ?_
 refine wl_v 0 rfl (vMv rfl) gn rfl ?_
 refine wl_v 1 rfl (vBn rfl rfl rfl) gn rfl ?_
 refine wl_v 2 rfl (vAs rfl) gn rfl ?_
 refine w_end 3 rfl ?_
 by_cases hp18 : bt x1.text x1.at_ < 32
 ·have h := if_pos' hp18 h
  refine gTr (c := q73c11) rfl _ rfl ((decide_eq_true hp18)) ?_
  refine gSq (c := q73c12) rfl ?_
  refine gRg (c := q73c14) rfl rfl ?_
  refine wl_v 0 rfl (vMv rfl) gn rfl ?_
  refine wl_v 1 rfl (vAs rfl) gn rfl ?_
  refine wl_v 2 rfl (vAs rfl) gn rfl ?_
  refine w_end 3 rfl ?_
  refine g_retR (c := q73c15) [.slice A11 n12 c13, .bool false] rfl Tryd.func73 rfl (.tmp rfl (.tmp rfl (.nil))) fun wr hLr => ?_
  have hMr : B.Loc w wr [.box g2 Tb3 [.string x1.text, .int .i64 x1.at_, .slice A4 n5 c6, .int .i64 x1.in_, .int .i64 x1.code], .own (.slice A11 n12 c13) 5 1 n12 (x10.flatMap (eI .u8)), .own (.slice A4 n5 c6) 31 4 n5 (x1.out.flatMap eJN)] [St w [[g2], (Value.slice A4 n5 c6).ownBlock.toList, (Value.slice A11 n12 c13).ownBlock.toList]] := hLr.pick (rest := []) (pIx [0, 2, 1] [] rfl rfl (by kernel_rfl)) (sels [1] rfl)
  show jps_char_R w F g2 Tb3 A4 n5 c6 z8 A11 n12 c13 z15 r (.returned (packV [.slice A11 n12 c13, .bool false])) wr
  rw [h]
  exact ⟨A11, n12, c13, A4, n5, c6, rfl, hMr, h14, h7⟩
 ·have h := if_neg' hp18 h
  refine gFa (c := q73c11) rfl _ rfl ((decide_eq_false hp18)) ?_
  refine gSq (c := q73c13) rfl ?_
  refine gRg (c := q73c16) rfl rfl ?_
  refine wl_v 0 rfl (vMv rfl) gn rfl ?_
  refine wl_v 1 rfl (vBn rfl rfl rfl) gn rfl ?_
  refine wl_v 2 rfl (vAs rfl) gn rfl ?_
  refine w_end 3 rfl ?_
  have j1 : ∀ (x33 : Int) (h : jps_char_j1 x1 x10 x33 r) , G (jps_char_C w F g2 Tb3 A4 n5 c6 z8 A11 n12 c13 z15 r) [.inBlock 0, .code q73c8] [(0, .pointer (some ⟨g2, 0, none⟩)), (1, .slice A11 n12 c13), (6, .int .u8 (bt x1.text x1.at_)), (7, .int .i64 x33), (8, .int .u8 128), (9, .int .u8 191)] [.box g2 Tb3 [.string x1.text, .int .i64 x1.at_, .slice A4 n5 c6, .int .i64 x1.in_, .int .i64 x1.code], .own (.slice A4 n5 c6) 31 4 n5 (x1.out.flatMap eJN), .own (.slice A11 n12 c13) 5 1 n12 (x10.flatMap (eI .u8))] [Sm w.heap.size F w [[g2], (Value.slice A4 n5 c6).ownBlock.toList, (Value.slice A11 n12 c13).ownBlock.toList], St w [[g2], (Value.slice A4 n5 c6).ownBlock.toList, (Value.slice A11 n12 c13).ownBlock.toList]] := by
   intro x33 h
   unfold jps_char_j1 at h
   refine g_inBlock ?_
   refine gSq (c := q73c8) rfl ?_
   refine gSq (c := q73c34) rfl ?_
   refine gRg (c := q73c36) rfl rfl ?_
   refine wl_v 0 rfl (vMv rfl) gn rfl ?_
   refine w_end 1 rfl ?_
   refine g_block (c := q73c37) rfl ?_
   refine gSq (c := q73c38) rfl ?_
   refine gRg (c := q73c39) rfl rfl ?_
   refine wl_v 0 rfl (vBn rfl rfl rfl) gn rfl ?_
   refine wl_v 1 rfl (vAs rfl) gn rfl ?_
   refine w_end 2 rfl ?_
   have j2 : ∀ (x39 : Int) (x40 : Int) (h : jps_char_j2 x1 x10 x33 x39 x40 r) , G (jps_char_C w F g2 Tb3 A4 n5 c6 z8 A11 n12 c13 z15 r) [.inBlock 1, .code q73c35] [(0, .pointer (some ⟨g2, 0, none⟩)), (1, .slice A11 n12 c13), (7, .int .i64 x33), (8, .int .u8 x39), (9, .int .u8 x40)] [.box g2 Tb3 [.string x1.text, .int .i64 x1.at_, .slice A4 n5 c6, .int .i64 x1.in_, .int .i64 x1.code], .own (.slice A4 n5 c6) 31 4 n5 (x1.out.flatMap eJN), .own (.slice A11 n12 c13) 5 1 n12 (x10.flatMap (eI .u8))] [Sm w.heap.size F w [[g2], (Value.slice A4 n5 c6).ownBlock.toList, (Value.slice A11 n12 c13).ownBlock.toList], St w [[g2], (Value.slice A4 n5 c6).ownBlock.toList, (Value.slice A11 n12 c13).ownBlock.toList]] := by
    intro x39 x40 h
    unfold jps_char_j2 at h
    refine g_inBlock ?_
    refine gSq (c := q73c35) rfl ?_
    refine gRg (c := q73c55) rfl rfl ?_
    refine wl_v 0 rfl (vMv rfl) gn rfl ?_
    refine wl_v 1 rfl (vNc rfl) gn rfl ?_
    refine wl_v 2 rfl (vFB fo_70_1 rfl) gn rfl ?_
    refine wl_v 3 rfl (v_ldB1 0 ld_3 rfl rfl rfl) gn rfl ?_
    refine wl_v 4 rfl (vAs rfl) gn rfl ?_
    refine w_end 5 rfl ?_
    refine gSq (c := q73c56) rfl ?_
    refine gSq (c := q73c57) rfl ?_
    refine gRg (c := q73c59) rfl rfl ?_
    refine wl_v 0 rfl (vMv rfl) gn rfl ?_
    refine wl_v 1 rfl (vNc rfl) gn rfl ?_
    refine wl_v 2 rfl (vFB fo_70_1 rfl) gn rfl ?_
    refine wl_v 3 rfl (v_ldB1 0 ld_3 rfl rfl rfl) gn rfl ?_
    refine wl_v 4 rfl (vBn rfl rfl rfl) gn rfl ?_
    refine wl_v 5 rfl (vNc rfl) gn rfl ?_
    refine wl_v 6 rfl (vFB fo_70_1 rfl) gn rfl ?_
    refine wl_s 7 rfl (s_stB (vs := [.int .i64 (w64 (x1.at_ + 1))]) (cs' := [.string x1.text, .int .i64 (w64 (x1.at_ + 1)), .slice A4 n5 c6, .int .i64 x1.in_, .int .i64 x1.code]) (M' := [.box g2 Tb3 [.string x1.text, .int .i64 (w64 (x1.at_ + 1)), .slice A4 n5 c6, .int .i64 x1.in_, .int .i64 x1.code], .own (.slice A4 n5 c6) 31 4 n5 (x1.out.flatMap eJN), .own (.slice A11 n12 c13) 5 1 n12 (x10.flatMap (eI .u8))]) 0 sz_3 rfl rfl rfl rfl rfl rfl rfl rfl rfl ?_) gn
    refine w_end 8 rfl ?_
    refine g_block (c := q73c60) rfl ?_
    refine g_loop (c := q73c61) rfl ?_
    have key3 : ∀ s, Rounds (fun (s : Int × Int × Int × Int) o => jps_char_b3 x1 x10 s.1 s.2.1 s.2.2.1 s.2.2.2 o) s r → (fun (s : Int × Int × Int × Int) => ∀ (_ : Unit), G (jps_char_C w F g2 Tb3 A4 n5 c6 z8 A11 n12 c13 z15 r) [.code q73c62, .inLoop q73c62, .inBlock 2, .code q73c58] [(0, .pointer (some ⟨g2, 0, none⟩)), (1, .slice A11 n12 c13), (7, .int .i64 s.1), (8, .int .u8 s.2.1), (9, .int .u8 s.2.2.1), (10, .int .i64 x1.at_)] [.box g2 Tb3 [.string x1.text, .int .i64 s.2.2.2, .slice A4 n5 c6, .int .i64 x1.in_, .int .i64 x1.code], .own (.slice A4 n5 c6) 31 4 n5 (x1.out.flatMap eJN), .own (.slice A11 n12 c13) 5 1 n12 (x10.flatMap (eI .u8))] [Sm w.heap.size F w [[g2], (Value.slice A4 n5 c6).ownBlock.toList, (Value.slice A11 n12 c13).ownBlock.toList], St w [[g2], (Value.slice A4 n5 c6).ownBlock.toList, (Value.slice A11 n12 c13).ownBlock.toList]]) s := by
     intro s hs
     refine Rounds.ind (mot := (fun (s : Int × Int × Int × Int) => ∀ (_ : Unit), G (jps_char_C w F g2 Tb3 A4 n5 c6 z8 A11 n12 c13 z15 r) [.code q73c62, .inLoop q73c62, .inBlock 2, .code q73c58] [(0, .pointer (some ⟨g2, 0, none⟩)), (1, .slice A11 n12 c13), (7, .int .i64 s.1), (8, .int .u8 s.2.1), (9, .int .u8 s.2.2.1), (10, .int .i64 x1.at_)] [.box g2 Tb3 [.string x1.text, .int .i64 s.2.2.2, .slice A4 n5 c6, .int .i64 x1.in_, .int .i64 x1.code], .own (.slice A4 n5 c6) 31 4 n5 (x1.out.flatMap eJN), .own (.slice A11 n12 c13) 5 1 n12 (x10.flatMap (eI .u8))] [Sm w.heap.size F w [[g2], (Value.slice A4 n5 c6).ownBlock.toList, (Value.slice A11 n12 c13).ownBlock.toList], St w [[g2], (Value.slice A4 n5 c6).ownBlock.toList, (Value.slice A11 n12 c13).ownBlock.toList]])) ?_ hs
     clear hs s
     intro s o1 h hO1
     obtain ⟨x65, x66, x67, x68⟩ := s
     show ∀ (_ : Unit), G (jps_char_C w F g2 Tb3 A4 n5 c6 z8 A11 n12 c13 z15 r) [.code q73c62, .inLoop q73c62, .inBlock 2, .code q73c58] [(0, .pointer (some ⟨g2, 0, none⟩)), (1, .slice A11 n12 c13), (7, .int .i64 x65), (8, .int .u8 x66), (9, .int .u8 x67), (10, .int .i64 x1.at_)] [.box g2 Tb3 [.string x1.text, .int .i64 x68, .slice A4 n5 c6, .int .i64 x1.in_, .int .i64 x1.code], .own (.slice A4 n5 c6) 31 4 n5 (x1.out.flatMap eJN), .own (.slice A11 n12 c13) 5 1 n12 (x10.flatMap (eI .u8))] [Sm w.heap.size F w [[g2], (Value.slice A4 n5 c6).ownBlock.toList, (Value.slice A11 n12 c13).ownBlock.toList], St w [[g2], (Value.slice A4 n5 c6).ownBlock.toList, (Value.slice A11 n12 c13).ownBlock.toList]]
     intro _
     have h : jps_char_b3 x1 x10 x65 x66 x67 x68 o1 := h
     unfold jps_char_b3 at h
     refine gSq (c := q73c62) rfl ?_
     refine gSq (c := q73c63) rfl ?_
     refine gRg (c := q73c65) rfl rfl ?_
     refine wl_v 0 rfl (vMv rfl) gn rfl ?_
     refine wl_v 1 rfl (vBn rfl rfl rfl) gn rfl ?_
     refine w_end 2 rfl ?_
     by_cases hp92 : x65 > 0
     ·have h := if_pos' hp92 h
      refine gTr (c := q73c66) rfl _ rfl ((decide_eq_true hp92)) ?_
      refine g_skip (c := q73c67) rfl ?_
      refine gSq (c := q73c64) rfl ?_
      refine g_block (c := q73c69) rfl ?_
      refine gSq (c := q73c71) rfl ?_
      refine gSq (c := q73c72) rfl ?_
      have j4 : ∀ (x97 : Bool) (h : jps_char_j4 x10 x1 x68 x65 x97 o1) , G (jps_char_C w F g2 Tb3 A4 n5 c6 z8 A11 n12 c13 z15 r) [.code q73c75, .code q73c73, .inBlock 3, .code q73c70, .inLoop q73c62, .inBlock 2, .code q73c58] [(0, .pointer (some ⟨g2, 0, none⟩)), (1, .slice A11 n12 c13), (7, .int .i64 x65), (10, .int .i64 x1.at_), (108, .bool x97)] [.box g2 Tb3 [.string x1.text, .int .i64 x68, .slice A4 n5 c6, .int .i64 x1.in_, .int .i64 x1.code], .own (.slice A4 n5 c6) 31 4 n5 (x1.out.flatMap eJN), .own (.slice A11 n12 c13) 5 1 n12 (x10.flatMap (eI .u8))] [Sm w.heap.size F w [[g2], (Value.slice A4 n5 c6).ownBlock.toList, (Value.slice A11 n12 c13).ownBlock.toList], St w [[g2], (Value.slice A4 n5 c6).ownBlock.toList, (Value.slice A11 n12 c13).ownBlock.toList]] := by
       intro x97 h
       unfold jps_char_j4 at h
       by_cases hp98 : x97 = true
       ·have h := if_pos' hp98 h
        refine gTr (c := q73c75) rfl _ rfl (hp98) ?_
        refine gSq (c := q73c76) rfl ?_
        refine gRg (c := q73c78) rfl rfl ?_
        refine wl_v 0 rfl (vMv rfl) gn rfl ?_
        refine wl_v 1 rfl (vAs rfl) gn rfl ?_
        refine wl_v 2 rfl (vAs rfl) gn rfl ?_
        refine w_end 3 rfl ?_
        have h := Out.inr hO1 h
        refine g_retR (c := q73c79) [.slice A11 n12 c13, .bool false] rfl Tryd.func73 rfl (.tmp rfl (.tmp rfl (.nil))) fun wr hLr => ?_
        have hMr : B.Loc w wr [.box g2 Tb3 [.string x1.text, .int .i64 x68, .slice A4 n5 c6, .int .i64 x1.in_, .int .i64 x1.code], .own (.slice A11 n12 c13) 5 1 n12 (x10.flatMap (eI .u8)), .own (.slice A4 n5 c6) 31 4 n5 (x1.out.flatMap eJN)] [St w [[g2], (Value.slice A4 n5 c6).ownBlock.toList, (Value.slice A11 n12 c13).ownBlock.toList]] := hLr.pick (rest := []) (pIx [0, 2, 1] [] rfl rfl (by kernel_rfl)) (sels [1] rfl)
        show jps_char_R w F g2 Tb3 A4 n5 c6 z8 A11 n12 c13 z15 r (.returned (packV [.slice A11 n12 c13, .bool false])) wr
        rw [h]
        exact ⟨A11, n12, c13, A4, n5, c6, rfl, hMr, h14, h7⟩
       ·have h := if_neg' hp98 h
        refine gFa (c := q73c75) rfl _ rfl ((bf hp98)) ?_
        refine g_skip (c := q73c77) rfl ?_
        refine gSq (c := q73c73) rfl ?_
        refine gRg (c := q73c80) rfl rfl ?_
        refine wl_v 0 rfl (vMv rfl) gn rfl ?_
        refine wl_v 1 rfl (vNc rfl) gn rfl ?_
        refine wl_v 2 rfl (vFB fo_70_1 rfl) gn rfl ?_
        refine wl_v 3 rfl (v_ldB1 0 ld_3 rfl rfl rfl) gn rfl ?_
        refine wl_v 4 rfl (vBn rfl rfl rfl) gn rfl ?_
        refine wl_v 5 rfl (vNc rfl) gn rfl ?_
        refine wl_v 6 rfl (vFB fo_70_1 rfl) gn rfl ?_
        refine wl_s 7 rfl (s_stB (vs := [.int .i64 (w64 (x68 + 1))]) (cs' := [.string x1.text, .int .i64 (w64 (x68 + 1)), .slice A4 n5 c6, .int .i64 x1.in_, .int .i64 x1.code]) (M' := [.box g2 Tb3 [.string x1.text, .int .i64 (w64 (x68 + 1)), .slice A4 n5 c6, .int .i64 x1.in_, .int .i64 x1.code], .own (.slice A4 n5 c6) 31 4 n5 (x1.out.flatMap eJN), .own (.slice A11 n12 c13) 5 1 n12 (x10.flatMap (eI .u8))]) 0 sz_3 rfl rfl rfl rfl rfl rfl rfl rfl rfl ?_) gn
        refine w_end 8 rfl ?_
        refine gRg (c := q73c81) rfl rfl ?_
        refine wl_v 0 rfl (vAs rfl) gn rfl ?_
        refine wl_v 1 rfl (vAs rfl) gn rfl ?_
        refine w_end 2 rfl ?_
        refine g_inBlock ?_
        refine gRg (c := q73c70) rfl rfl ?_
        refine wl_v 0 rfl (vMv rfl) gn rfl ?_
        refine wl_v 1 rfl (vBn rfl rfl rfl) gn rfl ?_
        refine wl_v 2 rfl (vAs rfl) gn rfl ?_
        refine w_end 3 rfl ?_
        refine g_inLoop ?_
        have ih := Out.inl hO1 h
        exact g_go [0, 1] (ih ()) ⟨rfl, rfl, rfl, rfl, rfl, rfl, trivial⟩ (.cons_cons _ (.cons_cons _ (.cons_cons _ (.slnil)))) rfl
      by_cases hp99 : x68 = (x1.text.size : Int)
      ·have h := if_pos' hp99 h
       have hns : Region.noSelect (Code.ops q73c74) = true := by kernel_rfl
       refine g_drawF (c := q73c74) [.box g2 Tb3 [.string x1.text, .int .i64 x68, .slice A4 n5 c6, .int .i64 x1.in_, .int .i64 x1.code], .own (.slice A4 n5 c6) 31 4 n5 (x1.out.flatMap eJN), .own (.slice A11 n12 c13) 5 1 n12 (x10.flatMap (eI .u8))] [Sm w.heap.size F w [[g2], (Value.slice A4 n5 c6).ownBlock.toList, (Value.slice A11 n12 c13).ownBlock.toList], St w [[g2], (Value.slice A4 n5 c6).ownBlock.toList, (Value.slice A11 n12 c13).ownBlock.toList]] [] 36 rfl rfl mix rfl (.cons_cons _ (.cons_cons _ (.cons_cons _ (.slnil)))) (sels [0, 1] rfl) ?_
       refine wfv 0 rfl (vMv rfl) gn hns rfl ?_
       refine wfv 1 rfl (vNc rfl) gn hns rfl ?_
       refine wfv 2 rfl (vFB fo_70_1 rfl) gn hns rfl ?_
       refine wfv 3 rfl (v_ldB1 0 ld_3 rfl rfl rfl) gn hns rfl ?_
       refine wfv 4 rfl (vMv rfl) gn hns rfl ?_
       refine wfv 5 rfl (vNc rfl) gn hns rfl ?_
       refine wfv 6 rfl (vFB fo_70_0 rfl) gn hns rfl ?_
       refine wfv 7 rfl (v_ldB1 0 ld_9 rfl rfl rfl) gn hns rfl ?_
       refine wfv 8 rfl (v_lenS un_9 rfl) gn hns rfl ?_
       refine wfv 9 rfl (vBn rfl rfl rfl) gn hns rfl ?_
       refine wfv 10 rfl (vMv rfl) gn hns rfl ?_
       refine wf_bool 83 rfl ((eqi hp99)) ?_
       refine wfp 11 rfl (ps 83 rfl rfl rfl) hns rfl ?_
       refine wfp 12 rfl (ps 83 rfl rfl rfl) hns rfl ?_
       refine wfp 13 rfl (ps 83 rfl rfl rfl) hns rfl ?_
       refine wfp 14 rfl (ps 83 rfl rfl rfl) hns rfl ?_
       refine wfp 15 rfl (ps 83 rfl rfl rfl) hns rfl ?_
       refine wfp 16 rfl (ps 83 rfl rfl rfl) hns rfl ?_
       refine wfp 17 rfl (ps 83 rfl rfl rfl) hns rfl ?_
       refine wfp 18 rfl (ps 83 rfl rfl rfl) hns rfl ?_
       refine wfp 19 rfl (ps 83 rfl rfl rfl) hns rfl ?_
       refine wfp 20 rfl (ps 83 rfl rfl rfl) hns rfl ?_
       refine wfp 21 rfl (ps 83 rfl rfl rfl) hns rfl ?_
       refine wfv 22 rfl (v_pick (b := true) rfl rfl) gn hns rfl ?_
       refine wfv 23 rfl (vMv rfl) gn hns rfl ?_
       refine wfp 24 rfl (ps 96 rfl rfl rfl) hns rfl ?_
       refine wfp 25 rfl (ps 96 rfl rfl rfl) hns rfl ?_
       refine wfp 26 rfl (ps 96 rfl rfl rfl) hns rfl ?_
       refine wfp 27 rfl (ps 96 rfl rfl rfl) hns rfl ?_
       refine wfp 28 rfl (ps 96 rfl rfl rfl) hns rfl ?_
       refine wfp 29 rfl (ps 96 rfl rfl rfl) hns rfl ?_
       refine wfp 30 rfl (ps 96 rfl rfl rfl) hns rfl ?_
       refine wfp 31 rfl (ps 96 rfl rfl rfl) hns rfl ?_
       refine wfp 32 rfl (ps 96 rfl rfl rfl) hns rfl ?_
       refine wfp 33 rfl (ps 96 rfl rfl rfl) hns rfl ?_
       refine wfp 34 rfl (ps 96 rfl rfl rfl) hns rfl ?_
       refine wfv 35 rfl (v_pick (b := true) rfl rfl) gn hns rfl ?_
       refine wf_end (by kernel_rfl) ?_
       exact g_go [0, 1] (j4 true h) ⟨rfl, rfl, rfl, rfl, rfl, trivial⟩ (.cons_cons _ (.cons_cons _ (.cons_cons _ (.slnil)))) rfl
      ·have h := if_neg' hp99 h
       obtain ⟨hb100, h⟩ := h
       by_cases hp101 : bt x1.text x68 < x66
       ·have h := if_pos' hp101 h
        have hns : Region.noSelect (Code.ops q73c74) = true := by kernel_rfl
        refine g_drawF (c := q73c74) [.box g2 Tb3 [.string x1.text, .int .i64 x68, .slice A4 n5 c6, .int .i64 x1.in_, .int .i64 x1.code], .own (.slice A4 n5 c6) 31 4 n5 (x1.out.flatMap eJN), .own (.slice A11 n12 c13) 5 1 n12 (x10.flatMap (eI .u8))] [Sm w.heap.size F w [[g2], (Value.slice A4 n5 c6).ownBlock.toList, (Value.slice A11 n12 c13).ownBlock.toList], St w [[g2], (Value.slice A4 n5 c6).ownBlock.toList, (Value.slice A11 n12 c13).ownBlock.toList]] [] 36 rfl rfl mix rfl (.cons_cons _ (.cons_cons _ (.cons_cons _ (.slnil)))) (sels [0, 1] rfl) ?_
        refine wfv 0 rfl (vMv rfl) gn hns rfl ?_
        refine wfv 1 rfl (vNc rfl) gn hns rfl ?_
        refine wfv 2 rfl (vFB fo_70_1 rfl) gn hns rfl ?_
        refine wfv 3 rfl (v_ldB1 0 ld_3 rfl rfl rfl) gn hns rfl ?_
        refine wfv 4 rfl (vMv rfl) gn hns rfl ?_
        refine wfv 5 rfl (vNc rfl) gn hns rfl ?_
        refine wfv 6 rfl (vFB fo_70_0 rfl) gn hns rfl ?_
        refine wfv 7 rfl (v_ldB1 0 ld_9 rfl rfl rfl) gn hns rfl ?_
        refine wfv 8 rfl (v_lenS un_9 rfl) gn hns rfl ?_
        refine wfv 9 rfl (vBn rfl rfl rfl) gn hns rfl ?_
        refine wfv 10 rfl (vMv rfl) gn hns rfl ?_
        refine wf_bool 83 rfl ((nei hp99)) ?_
        refine wfv 11 rfl (vMv rfl) (gy 83 rfl rfl) hns rfl ?_
        refine wfv 12 rfl (vNc rfl) (gy 83 rfl rfl) hns rfl ?_
        refine wfv 13 rfl (vFB fo_70_0 rfl) (gy 83 rfl rfl) hns rfl ?_
        refine wfv 14 rfl (v_ldB1 0 ld_9 rfl rfl rfl) (gy 83 rfl rfl) hns rfl ?_
        refine wfv 15 rfl (vMv rfl) (gy 83 rfl rfl) hns rfl ?_
        refine wfv 16 rfl (vNc rfl) (gy 83 rfl rfl) hns rfl ?_
        refine wfv 17 rfl (vFB fo_70_1 rfl) (gy 83 rfl rfl) hns rfl ?_
        refine wfv 18 rfl (v_ldB1 0 ld_3 rfl rfl rfl) (gy 83 rfl rfl) hns rfl ?_
        refine wfv 19 rfl (v_indexS un_9 rfl rfl hb100) (gy 83 rfl rfl) hns rfl ?_
        refine wfv 20 rfl (vMv rfl) (gy 83 rfl rfl) hns rfl ?_
        refine wfv 21 rfl (vBn rfl rfl rfl) (gy 83 rfl rfl) hns rfl ?_
        refine wfv 22 rfl (v_pick (b := false) rfl rfl) gn hns rfl ?_
        refine wfv 23 rfl (vMv rfl) gn hns rfl ?_
        refine wf_bool 96 rfl ((decide_eq_true hp101)) ?_
        refine wfp 24 rfl (ps 96 rfl rfl rfl) hns rfl ?_
        refine wfp 25 rfl (ps 96 rfl rfl rfl) hns rfl ?_
        refine wfp 26 rfl (ps 96 rfl rfl rfl) hns rfl ?_
        refine wfp 27 rfl (ps 96 rfl rfl rfl) hns rfl ?_
        refine wfp 28 rfl (ps 96 rfl rfl rfl) hns rfl ?_
        refine wfp 29 rfl (ps 96 rfl rfl rfl) hns rfl ?_
        refine wfp 30 rfl (ps 96 rfl rfl rfl) hns rfl ?_
        refine wfp 31 rfl (ps 96 rfl rfl rfl) hns rfl ?_
        refine wfp 32 rfl (ps 96 rfl rfl rfl) hns rfl ?_
        refine wfp 33 rfl (ps 96 rfl rfl rfl) hns rfl ?_
        refine wfp 34 rfl (ps 96 rfl rfl rfl) hns rfl ?_
        refine wfv 35 rfl (v_pick (b := true) rfl rfl) gn hns rfl ?_
        refine wf_end (by kernel_rfl) ?_
        exact g_go [0, 1] (j4 true h) ⟨rfl, rfl, rfl, rfl, rfl, trivial⟩ (.cons_cons _ (.cons_cons _ (.cons_cons _ (.slnil)))) rfl
       ·have h := if_neg' hp101 h
        have hns : Region.noSelect (Code.ops q73c74) = true := by kernel_rfl
        refine g_drawF (c := q73c74) [.box g2 Tb3 [.string x1.text, .int .i64 x68, .slice A4 n5 c6, .int .i64 x1.in_, .int .i64 x1.code], .own (.slice A4 n5 c6) 31 4 n5 (x1.out.flatMap eJN), .own (.slice A11 n12 c13) 5 1 n12 (x10.flatMap (eI .u8))] [Sm w.heap.size F w [[g2], (Value.slice A4 n5 c6).ownBlock.toList, (Value.slice A11 n12 c13).ownBlock.toList], St w [[g2], (Value.slice A4 n5 c6).ownBlock.toList, (Value.slice A11 n12 c13).ownBlock.toList]] [] 36 rfl rfl mix rfl (.cons_cons _ (.cons_cons _ (.cons_cons _ (.slnil)))) (sels [0, 1] rfl) ?_
        refine wfv 0 rfl (vMv rfl) gn hns rfl ?_
        refine wfv 1 rfl (vNc rfl) gn hns rfl ?_
        refine wfv 2 rfl (vFB fo_70_1 rfl) gn hns rfl ?_
        refine wfv 3 rfl (v_ldB1 0 ld_3 rfl rfl rfl) gn hns rfl ?_
        refine wfv 4 rfl (vMv rfl) gn hns rfl ?_
        refine wfv 5 rfl (vNc rfl) gn hns rfl ?_
        refine wfv 6 rfl (vFB fo_70_0 rfl) gn hns rfl ?_
        refine wfv 7 rfl (v_ldB1 0 ld_9 rfl rfl rfl) gn hns rfl ?_
        refine wfv 8 rfl (v_lenS un_9 rfl) gn hns rfl ?_
        refine wfv 9 rfl (vBn rfl rfl rfl) gn hns rfl ?_
        refine wfv 10 rfl (vMv rfl) gn hns rfl ?_
        refine wf_bool 83 rfl ((nei hp99)) ?_
        refine wfv 11 rfl (vMv rfl) (gy 83 rfl rfl) hns rfl ?_
        refine wfv 12 rfl (vNc rfl) (gy 83 rfl rfl) hns rfl ?_
        refine wfv 13 rfl (vFB fo_70_0 rfl) (gy 83 rfl rfl) hns rfl ?_
        refine wfv 14 rfl (v_ldB1 0 ld_9 rfl rfl rfl) (gy 83 rfl rfl) hns rfl ?_
        refine wfv 15 rfl (vMv rfl) (gy 83 rfl rfl) hns rfl ?_
        refine wfv 16 rfl (vNc rfl) (gy 83 rfl rfl) hns rfl ?_
        refine wfv 17 rfl (vFB fo_70_1 rfl) (gy 83 rfl rfl) hns rfl ?_
        refine wfv 18 rfl (v_ldB1 0 ld_3 rfl rfl rfl) (gy 83 rfl rfl) hns rfl ?_
        refine wfv 19 rfl (v_indexS un_9 rfl rfl hb100) (gy 83 rfl rfl) hns rfl ?_
        refine wfv 20 rfl (vMv rfl) (gy 83 rfl rfl) hns rfl ?_
        refine wfv 21 rfl (vBn rfl rfl rfl) (gy 83 rfl rfl) hns rfl ?_
        refine wfv 22 rfl (v_pick (b := false) rfl rfl) gn hns rfl ?_
        refine wfv 23 rfl (vMv rfl) gn hns rfl ?_
        refine wf_bool 96 rfl ((decide_eq_false hp101)) ?_
        refine wfv 24 rfl (vMv rfl) (gy 96 rfl rfl) hns rfl ?_
        refine wfv 25 rfl (vNc rfl) (gy 96 rfl rfl) hns rfl ?_
        refine wfv 26 rfl (vFB fo_70_0 rfl) (gy 96 rfl rfl) hns rfl ?_
        refine wfv 27 rfl (v_ldB1 0 ld_9 rfl rfl rfl) (gy 96 rfl rfl) hns rfl ?_
        refine wfv 28 rfl (vMv rfl) (gy 96 rfl rfl) hns rfl ?_
        refine wfv 29 rfl (vNc rfl) (gy 96 rfl rfl) hns rfl ?_
        refine wfv 30 rfl (vFB fo_70_1 rfl) (gy 96 rfl rfl) hns rfl ?_
        refine wfv 31 rfl (v_ldB1 0 ld_3 rfl rfl rfl) (gy 96 rfl rfl) hns rfl ?_
        refine wfv 32 rfl (v_indexS un_9 rfl rfl hb100) (gy 96 rfl rfl) hns rfl ?_
        refine wfv 33 rfl (vMv rfl) (gy 96 rfl rfl) hns rfl ?_
        refine wfv 34 rfl (vBn rfl rfl rfl) (gy 96 rfl rfl) hns rfl ?_
        refine wfv 35 rfl (v_pick (b := false) rfl rfl) gn hns rfl ?_
        refine wf_end (by kernel_rfl) ?_
        exact g_go [0, 1] (j4 (decide (bt x1.text x68 > x67)) h) ⟨rfl, rfl, rfl, rfl, rfl, trivial⟩ (.cons_cons _ (.cons_cons _ (.cons_cons _ (.slnil)))) rfl
     ·have h := if_neg' hp92 h
      refine gFa (c := q73c66) rfl _ rfl ((decide_eq_false hp92)) ?_
      refine g_exit (c := q73c68) [.code q73c58] rfl rfl ?_
      refine gSq (c := q73c58) rfl ?_
      obtain ⟨hb102, h⟩ := h
      obtain ⟨x106, hv107, h⟩ := h
      obtain ⟨hb108, h⟩ := h
      have hns : Region.noSelect (Code.ops q73c82) = true := by kernel_rfl
      refine g_drawF (c := q73c82) [.box g2 Tb3 [.string x1.text, .int .i64 x68, .slice A4 n5 c6, .int .i64 x1.in_, .int .i64 x1.code], .own (.slice A4 n5 c6) 31 4 n5 (x1.out.flatMap eJN), .own (.slice A11 n12 c13) 5 1 n12 (x10.flatMap (eI .u8))] [Sm w.heap.size F w [[g2], (Value.slice A4 n5 c6).ownBlock.toList, (Value.slice A11 n12 c13).ownBlock.toList], St w [[g2], (Value.slice A4 n5 c6).ownBlock.toList, (Value.slice A11 n12 c13).ownBlock.toList]] [11, 12, 13] 14 rfl rfl mix rfl (.cons_cons _ (.cons_cons _ (.cons_cons _ (.slnil)))) (sels [0, 1] rfl) ?_
      refine wfv 0 rfl (vMv rfl) gn hns (by kernel_rfl) ?_
      refine wfv 1 rfl (vMv rfl) gn hns (by kernel_rfl) ?_
      refine wfv 2 rfl (vNc rfl) gn hns (by kernel_rfl) ?_
      refine wfv 3 rfl (vFB fo_70_0 rfl) gn hns (by kernel_rfl) ?_
      refine wfv 4 rfl (v_ldB1 0 ld_9 rfl rfl rfl) gn hns (by kernel_rfl) ?_
      refine wfv 5 rfl (vMv rfl) gn hns (by kernel_rfl) ?_
      refine wfv 6 rfl (vMv rfl) gn hns (by kernel_rfl) ?_
      refine wfv 7 rfl (vNc rfl) gn hns (by kernel_rfl) ?_
      refine wfv 8 rfl (vFB fo_70_1 rfl) gn hns (by kernel_rfl) ?_
      refine wfv 9 rfl (v_ldB1 0 ld_3 rfl rfl rfl) gn hns (by kernel_rfl) ?_
      refine wfv 10 rfl (v_cutS x1.at_ x68 un_9 rfl (.inr ⟨_, _, rfl, rfl⟩) (.inr ⟨_, _, rfl, rfl⟩) ⟨hb102.1, hb102.2.1⟩ hb102.2.2) gn hns (by kernel_rfl) ?_
      refine wf_all [11] (by kernel_rfl) rfl ⟨on_l 11 rfl gn rfl (s_appS (zs := x106) 2 as_54_9 rfl rfl rfl h14 hz16 hv107 hb108 rfl fun A112 c113 h114 => ?_), trivial⟩
      unfold NxL
      refine wf_all [12] (by kernel_rfl) rfl ⟨on_l 12 rfl gn rfl (s_val (vAs rfl) rfl ?_), trivial⟩
      unfold NxL
      refine wf_all [13] (by kernel_rfl) rfl ⟨on_l 13 rfl gn rfl (s_val (vAs rfl) rfl ?_), trivial⟩
      unfold NxL
      refine wf_end (by kernel_rfl) ?_
      have h := Out.inr hO1 h
      refine g_retR (c := q73c83) [.slice A112 (n12 + (x1.text.extract (x1.at_ : Int).toNat (x68 : Int).toNat).size) c113, .bool true] rfl Tryd.func73 rfl (.tmp rfl (.tmp rfl (.nil))) fun wr hLr => ?_
      have hMr : B.Loc w wr [.box g2 Tb3 [.string x1.text, .int .i64 x68, .slice A4 n5 c6, .int .i64 x1.in_, .int .i64 x1.code], .own (.slice A112 (n12 + (x1.text.extract (x1.at_ : Int).toNat (x68 : Int).toNat).size) c113) 5 1 (n12 + (x1.text.extract (x1.at_ : Int).toNat (x68 : Int).toNat).size) (x106.flatMap (eI .u8)), .own (.slice A4 n5 c6) 31 4 n5 (x1.out.flatMap eJN)] [St w [[g2], (Value.slice A4 n5 c6).ownBlock.toList, (Value.slice A11 n12 c13).ownBlock.toList]] := hLr.pick (rest := []) (pIx [0, 2, 1] [] rfl rfl (by kernel_rfl)) (sels [1] rfl)
      show jps_char_R w F g2 Tb3 A4 n5 c6 z8 A11 n12 c13 z15 r (.returned (packV [.slice A112 (n12 + (x1.text.extract (x1.at_ : Int).toNat (x68 : Int).toNat).size) c113, .bool true])) wr
      rw [h]
      exact ⟨A112, n12 + (x1.text.extract (x1.at_ : Int).toNat (x68 : Int).toNat).size, c113, A4, n5, c6, rfl, hMr, h114, h7⟩
    exact g_go [0, 1] (key3 _ h ()) ⟨rfl, rfl, rfl, rfl, rfl, rfl, trivial⟩ (.cons_cons _ (.cons_cons _ (.cons_cons _ (.slnil)))) rfl
   by_cases hp34 : bt x1.text x1.at_ = 224
   ·have h := if_pos' hp34 h
    refine gTr (c := q73c40) rfl _ rfl ((eqi hp34)) ?_
    refine gRg (c := q73c41) rfl rfl ?_
    refine wl_v 0 rfl (vAs rfl) gn rfl ?_
    refine w_end 1 rfl ?_
    exact g_go [0, 1] (j2 160 191 h) ⟨rfl, rfl, rfl, rfl, rfl, trivial⟩ (.cons_cons _ (.cons_cons _ (.cons_cons _ (.slnil)))) rfl
   ·have h := if_neg' hp34 h
    refine gFa (c := q73c40) rfl _ rfl ((nei hp34)) ?_
    refine gSq (c := q73c42) rfl ?_
    refine gRg (c := q73c43) rfl rfl ?_
    refine wl_v 0 rfl (vBn rfl rfl rfl) gn rfl ?_
    refine wl_v 1 rfl (vAs rfl) gn rfl ?_
    refine w_end 2 rfl ?_
    by_cases hp115 : bt x1.text x1.at_ = 237
    ·have h := if_pos' hp115 h
     refine gTr (c := q73c44) rfl _ rfl ((eqi hp115)) ?_
     refine gRg (c := q73c45) rfl rfl ?_
     refine wl_v 0 rfl (vAs rfl) gn rfl ?_
     refine w_end 1 rfl ?_
     exact g_go [0, 1] (j2 128 159 h) ⟨rfl, rfl, rfl, rfl, rfl, trivial⟩ (.cons_cons _ (.cons_cons _ (.cons_cons _ (.slnil)))) rfl
    ·have h := if_neg' hp115 h
     refine gFa (c := q73c44) rfl _ rfl ((nei hp115)) ?_
     refine gSq (c := q73c46) rfl ?_
     refine gRg (c := q73c47) rfl rfl ?_
     refine wl_v 0 rfl (vBn rfl rfl rfl) gn rfl ?_
     refine wl_v 1 rfl (vAs rfl) gn rfl ?_
     refine w_end 2 rfl ?_
     by_cases hp116 : bt x1.text x1.at_ = 240
     ·have h := if_pos' hp116 h
      refine gTr (c := q73c48) rfl _ rfl ((eqi hp116)) ?_
      refine gRg (c := q73c49) rfl rfl ?_
      refine wl_v 0 rfl (vAs rfl) gn rfl ?_
      refine w_end 1 rfl ?_
      exact g_go [0, 1] (j2 144 191 h) ⟨rfl, rfl, rfl, rfl, rfl, trivial⟩ (.cons_cons _ (.cons_cons _ (.cons_cons _ (.slnil)))) rfl
     ·have h := if_neg' hp116 h
      refine gFa (c := q73c48) rfl _ rfl ((nei hp116)) ?_
      refine gSq (c := q73c50) rfl ?_
      refine gRg (c := q73c51) rfl rfl ?_
      refine wl_v 0 rfl (vBn rfl rfl rfl) gn rfl ?_
      refine wl_v 1 rfl (vAs rfl) gn rfl ?_
      refine w_end 2 rfl ?_
      by_cases hp117 : bt x1.text x1.at_ = 244
      ·have h := if_pos' hp117 h
       refine gTr (c := q73c52) rfl _ rfl ((eqi hp117)) ?_
       refine gRg (c := q73c53) rfl rfl ?_
       refine wl_v 0 rfl (vAs rfl) gn rfl ?_
       refine w_end 1 rfl ?_
       exact g_go [0, 1] (j2 128 143 h) ⟨rfl, rfl, rfl, rfl, rfl, trivial⟩ (.cons_cons _ (.cons_cons _ (.cons_cons _ (.slnil)))) rfl
      ·have h := if_neg' hp117 h
       refine gFa (c := q73c52) rfl _ rfl ((nei hp117)) ?_
       refine g_skip (c := q73c54) rfl ?_
       exact g_go [0, 1] (j2 128 191 h) ⟨rfl, rfl, rfl, rfl, rfl, trivial⟩ (.cons_cons _ (.cons_cons _ (.cons_cons _ (.slnil)))) rfl
  by_cases hp19 : bt x1.text x1.at_ < 128
  ·have h := if_pos' hp19 h
   refine gTr (c := q73c17) rfl _ rfl ((decide_eq_true hp19)) ?_
   refine g_skip (c := q73c18) rfl ?_
   exact g_go [0, 1] (j1 0 h) ⟨rfl, rfl, rfl, rfl, rfl, rfl, trivial⟩ (.cons_cons _ (.cons_cons _ (.cons_cons _ (.slnil)))) rfl
  ·have h := if_neg' hp19 h
   refine gFa (c := q73c17) rfl _ rfl ((decide_eq_false hp19)) ?_
   refine gSq (c := q73c19) rfl ?_
   have j5 : ∀ (x120 : Bool) (h : jps_char_j5 x1 x10 x120 r) , G (jps_char_C w F g2 Tb3 A4 n5 c6 z8 A11 n12 c13 z15 r) [.code q73c21, .inBlock 0, .code q73c8] [(0, .pointer (some ⟨g2, 0, none⟩)), (1, .slice A11 n12 c13), (6, .int .u8 (bt x1.text x1.at_)), (8, .int .u8 128), (9, .int .u8 191), (28, .bool x120)] [.box g2 Tb3 [.string x1.text, .int .i64 x1.at_, .slice A4 n5 c6, .int .i64 x1.in_, .int .i64 x1.code], .own (.slice A4 n5 c6) 31 4 n5 (x1.out.flatMap eJN), .own (.slice A11 n12 c13) 5 1 n12 (x10.flatMap (eI .u8))] [Sm w.heap.size F w [[g2], (Value.slice A4 n5 c6).ownBlock.toList, (Value.slice A11 n12 c13).ownBlock.toList], St w [[g2], (Value.slice A4 n5 c6).ownBlock.toList, (Value.slice A11 n12 c13).ownBlock.toList]] := by
    intro x120 h
    unfold jps_char_j5 at h
    by_cases hp121 : x120 = true
    ·have h := if_pos' hp121 h
     refine gTr (c := q73c21) rfl _ rfl (hp121) ?_
     refine gRg (c := q73c22) rfl rfl ?_
     refine wl_v 0 rfl (vAs rfl) gn rfl ?_
     refine w_end 1 rfl ?_
     exact g_go [0, 1] (j1 1 h) ⟨rfl, rfl, rfl, rfl, rfl, rfl, trivial⟩ (.cons_cons _ (.cons_cons _ (.cons_cons _ (.slnil)))) rfl
    ·have h := if_neg' hp121 h
     refine gFa (c := q73c21) rfl _ rfl ((bf hp121)) ?_
     refine gSq (c := q73c23) rfl ?_
     have j6 : ∀ (x124 : Bool) (h : jps_char_j6 x1 x10 x124 r) , G (jps_char_C w F g2 Tb3 A4 n5 c6 z8 A11 n12 c13 z15 r) [.code q73c25, .inBlock 0, .code q73c8] [(0, .pointer (some ⟨g2, 0, none⟩)), (1, .slice A11 n12 c13), (6, .int .u8 (bt x1.text x1.at_)), (8, .int .u8 128), (9, .int .u8 191), (35, .bool x124)] [.box g2 Tb3 [.string x1.text, .int .i64 x1.at_, .slice A4 n5 c6, .int .i64 x1.in_, .int .i64 x1.code], .own (.slice A4 n5 c6) 31 4 n5 (x1.out.flatMap eJN), .own (.slice A11 n12 c13) 5 1 n12 (x10.flatMap (eI .u8))] [Sm w.heap.size F w [[g2], (Value.slice A4 n5 c6).ownBlock.toList, (Value.slice A11 n12 c13).ownBlock.toList], St w [[g2], (Value.slice A4 n5 c6).ownBlock.toList, (Value.slice A11 n12 c13).ownBlock.toList]] := by
      intro x124 h
      unfold jps_char_j6 at h
      by_cases hp125 : x124 = true
      ·have h := if_pos' hp125 h
       refine gTr (c := q73c25) rfl _ rfl (hp125) ?_
       refine gRg (c := q73c26) rfl rfl ?_
       refine wl_v 0 rfl (vAs rfl) gn rfl ?_
       refine w_end 1 rfl ?_
       exact g_go [0, 1] (j1 2 h) ⟨rfl, rfl, rfl, rfl, rfl, rfl, trivial⟩ (.cons_cons _ (.cons_cons _ (.cons_cons _ (.slnil)))) rfl
      ·have h := if_neg' hp125 h
       refine gFa (c := q73c25) rfl _ rfl ((bf hp125)) ?_
       refine gSq (c := q73c27) rfl ?_
       refine gRg (c := q73c28) rfl rfl ?_
       refine wl_v 0 rfl (vMv rfl) gn rfl ?_
       refine wl_v 1 rfl (vBn rfl rfl rfl) gn rfl ?_
       refine wl_v 2 rfl (vMv rfl) gn rfl ?_
       by_cases hp126 : bt x1.text x1.at_ ≥ 240
       ·have h := if_pos' hp126 h
        refine w_bool 45 rfl ((decide_eq_true hp126)) ?_
        refine wl_v 3 rfl (vMv rfl) (gy 45 rfl rfl) rfl ?_
        refine wl_v 4 rfl (vBn rfl rfl rfl) (gy 45 rfl rfl) rfl ?_
        refine wl_v 5 rfl (v_pick (b := true) rfl rfl) gn rfl ?_
        refine wl_v 6 rfl (vAs rfl) gn rfl ?_
        refine w_end 7 rfl ?_
        by_cases hp127 : bt x1.text x1.at_ ≤ 244
        ·have h := if_pos' hp127 h
         refine gTr (c := q73c29) rfl _ rfl ((decide_eq_true hp127)) ?_
         refine gRg (c := q73c30) rfl rfl ?_
         refine wl_v 0 rfl (vAs rfl) gn rfl ?_
         refine w_end 1 rfl ?_
         exact g_go [0, 1] (j1 3 h) ⟨rfl, rfl, rfl, rfl, rfl, rfl, trivial⟩ (.cons_cons _ (.cons_cons _ (.cons_cons _ (.slnil)))) rfl
        ·have h := if_neg' hp127 h
         refine gFa (c := q73c29) rfl _ rfl ((decide_eq_false hp127)) ?_
         refine gSq (c := q73c31) rfl ?_
         refine gRg (c := q73c32) rfl rfl ?_
         refine wl_v 0 rfl (vMv rfl) gn rfl ?_
         refine wl_v 1 rfl (vAs rfl) gn rfl ?_
         refine wl_v 2 rfl (vAs rfl) gn rfl ?_
         refine w_end 3 rfl ?_
         refine g_retR (c := q73c33) [.slice A11 n12 c13, .bool false] rfl Tryd.func73 rfl (.tmp rfl (.tmp rfl (.nil))) fun wr hLr => ?_
         have hMr : B.Loc w wr [.box g2 Tb3 [.string x1.text, .int .i64 x1.at_, .slice A4 n5 c6, .int .i64 x1.in_, .int .i64 x1.code], .own (.slice A11 n12 c13) 5 1 n12 (x10.flatMap (eI .u8)), .own (.slice A4 n5 c6) 31 4 n5 (x1.out.flatMap eJN)] [St w [[g2], (Value.slice A4 n5 c6).ownBlock.toList, (Value.slice A11 n12 c13).ownBlock.toList]] := hLr.pick (rest := []) (pIx [0, 2, 1] [] rfl rfl (by kernel_rfl)) (sels [1] rfl)
         show jps_char_R w F g2 Tb3 A4 n5 c6 z8 A11 n12 c13 z15 r (.returned (packV [.slice A11 n12 c13, .bool false])) wr
         rw [h]
         exact ⟨A11, n12, c13, A4, n5, c6, rfl, hMr, h14, h7⟩
       ·have h := if_neg' hp126 h
        refine w_bool 45 rfl ((decide_eq_false hp126)) ?_
        refine wl_pass 3 rfl (ps 45 rfl rfl rfl) ?_
        refine wl_pass 4 rfl (ps 45 rfl rfl rfl) ?_
        refine wl_v 5 rfl (v_pick (b := false) rfl rfl) gn rfl ?_
        refine wl_v 6 rfl (vAs rfl) gn rfl ?_
        refine w_end 7 rfl ?_
        refine gFa (c := q73c29) rfl _ rfl (rfl) ?_
        refine gSq (c := q73c31) rfl ?_
        refine gRg (c := q73c32) rfl rfl ?_
        refine wl_v 0 rfl (vMv rfl) gn rfl ?_
        refine wl_v 1 rfl (vAs rfl) gn rfl ?_
        refine wl_v 2 rfl (vAs rfl) gn rfl ?_
        refine w_end 3 rfl ?_
        refine g_retR (c := q73c33) [.slice A11 n12 c13, .bool false] rfl Tryd.func73 rfl (.tmp rfl (.tmp rfl (.nil))) fun wr hLr => ?_
        have hMr : B.Loc w wr [.box g2 Tb3 [.string x1.text, .int .i64 x1.at_, .slice A4 n5 c6, .int .i64 x1.in_, .int .i64 x1.code], .own (.slice A11 n12 c13) 5 1 n12 (x10.flatMap (eI .u8)), .own (.slice A4 n5 c6) 31 4 n5 (x1.out.flatMap eJN)] [St w [[g2], (Value.slice A4 n5 c6).ownBlock.toList, (Value.slice A11 n12 c13).ownBlock.toList]] := hLr.pick (rest := []) (pIx [0, 2, 1] [] rfl rfl (by kernel_rfl)) (sels [1] rfl)
        show jps_char_R w F g2 Tb3 A4 n5 c6 z8 A11 n12 c13 z15 r (.returned (packV [.slice A11 n12 c13, .bool false])) wr
        rw [h]
        exact ⟨A11, n12, c13, A4, n5, c6, rfl, hMr, h14, h7⟩
     refine gRg (c := q73c24) rfl rfl ?_
     refine wl_v 0 rfl (vMv rfl) gn rfl ?_
     refine wl_v 1 rfl (vBn rfl rfl rfl) gn rfl ?_
     refine wl_v 2 rfl (vMv rfl) gn rfl ?_
     by_cases hp128 : bt x1.text x1.at_ ≥ 224
     ·have h := if_pos' hp128 h
      refine w_bool 38 rfl ((decide_eq_true hp128)) ?_
      refine wl_v 3 rfl (vMv rfl) (gy 38 rfl rfl) rfl ?_
      refine wl_v 4 rfl (vBn rfl rfl rfl) (gy 38 rfl rfl) rfl ?_
      refine wl_v 5 rfl (v_pick (b := true) rfl rfl) gn rfl ?_
      refine wl_v 6 rfl (vAs rfl) gn rfl ?_
      refine w_end 7 rfl ?_
      exact g_go [0, 1] (j6 (decide (bt x1.text x1.at_ ≤ 239)) h) ⟨rfl, rfl, rfl, rfl, rfl, rfl, trivial⟩ (.cons_cons _ (.cons_cons _ (.cons_cons _ (.slnil)))) rfl
     ·have h := if_neg' hp128 h
      refine w_bool 38 rfl ((decide_eq_false hp128)) ?_
      refine wl_pass 3 rfl (ps 38 rfl rfl rfl) ?_
      refine wl_pass 4 rfl (ps 38 rfl rfl rfl) ?_
      refine wl_v 5 rfl (v_pick (b := false) rfl rfl) gn rfl ?_
      refine wl_v 6 rfl (vAs rfl) gn rfl ?_
      refine w_end 7 rfl ?_
      exact g_go [0, 1] (j6 false h) ⟨rfl, rfl, rfl, rfl, rfl, rfl, trivial⟩ (.cons_cons _ (.cons_cons _ (.cons_cons _ (.slnil)))) rfl
   refine gRg (c := q73c20) rfl rfl ?_
   refine wl_v 0 rfl (vMv rfl) gn rfl ?_
   refine wl_v 1 rfl (vBn rfl rfl rfl) gn rfl ?_
   refine wl_v 2 rfl (vMv rfl) gn rfl ?_
   by_cases hp129 : bt x1.text x1.at_ ≥ 194
   ·have h := if_pos' hp129 h
    refine w_bool 31 rfl ((decide_eq_true hp129)) ?_
    refine wl_v 3 rfl (vMv rfl) (gy 31 rfl rfl) rfl ?_
    refine wl_v 4 rfl (vBn rfl rfl rfl) (gy 31 rfl rfl) rfl ?_
    refine wl_v 5 rfl (v_pick (b := true) rfl rfl) gn rfl ?_
    refine wl_v 6 rfl (vAs rfl) gn rfl ?_
    refine w_end 7 rfl ?_
    exact g_go [0, 1] (j5 (decide (bt x1.text x1.at_ ≤ 223)) h) ⟨rfl, rfl, rfl, rfl, rfl, rfl, trivial⟩ (.cons_cons _ (.cons_cons _ (.cons_cons _ (.slnil)))) rfl
   ·have h := if_neg' hp129 h
    refine w_bool 31 rfl ((decide_eq_false hp129)) ?_
    refine wl_pass 3 rfl (ps 31 rfl rfl rfl) ?_
    refine wl_pass 4 rfl (ps 31 rfl rfl rfl) ?_
    refine wl_v 5 rfl (v_pick (b := false) rfl rfl) gn rfl ?_
    refine wl_v 6 rfl (vAs rfl) gn rfl ?_
    refine w_end 7 rfl ?_
    exact g_go [0, 1] (j5 false h) ⟨rfl, rfl, rfl, rfl, rfl, rfl, trivial⟩ (.cons_cons _ (.cons_cons _ (.cons_cons _ (.slnil)))) rfl
end Go.Proofs.YtmfopcbjgbphaaaDoor.K
