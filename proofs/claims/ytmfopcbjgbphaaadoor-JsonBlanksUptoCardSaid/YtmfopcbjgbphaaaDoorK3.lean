/- What the machine's calls do, function by function, printed by my own tool. Condition of each: its relation holds of the answer, and what is handed in lies in memory as told. -/
import Derived.Test.YtmfopcbjgbphaaaDoorK2
set_option linter.unusedVariables false
set_option maxRecDepth 100000
set_option maxHeartbeats 4000000
namespace Go.Proofs.YtmfopcbjgbphaaaDoor.K
open Go.Proofs.YtmfopcbjgbphaaaDoor.B Go.Proofs.YtmfopcbjgbphaaaDoor.R Go.RowKit
noncomputable abbrev q30c0 : Code := bodyOf Tryd.f30
noncomputable abbrev q30c1 := Code.fst q30c0
noncomputable abbrev q30c2 := Code.snd q30c0
noncomputable abbrev q30c3 := Code.fst q30c2
noncomputable abbrev q30c4 := Code.snd q30c2
noncomputable abbrev q30c5 := Code.fst q30c4
noncomputable abbrev q30c6 := Code.snd q30c4
noncomputable abbrev q30c7 := Code.fst q30c5
noncomputable abbrev q30c8 := Code.snd q30c5
noncomputable abbrev q30c9 := Code.fst q30c8
noncomputable abbrev q30c10 := Code.fst q30c9
noncomputable abbrev q30c11 := Code.fst q30c10
noncomputable abbrev q30c12 := Code.snd q30c10
noncomputable abbrev q30c13 := Code.fst q30c11
noncomputable abbrev q30c14 := Code.snd q30c11
noncomputable abbrev q30c15 := Code.fst q30c14
noncomputable abbrev q30c16 := Code.snd q30c14
noncomputable abbrev q30c17 := Code.fst q30c12
noncomputable abbrev q30c18 := Code.snd q30c12
noncomputable abbrev q30c19 := Code.fst q30c17
noncomputable abbrev q30c20 := Code.fst q30c19
noncomputable abbrev q30c21 := Code.snd q30c19
noncomputable abbrev q30c22 := Code.fst q30c6
noncomputable abbrev q30c23 := Code.snd q30c6
abbrev json_size_R (w : World) (F : Nat → Prop) (r : Int) : Ending → World → Prop := fun e w' => e = .returned (.int .i64 r) ∧ B.Loc w w' [] [St w []]
noncomputable abbrev json_size_C (w : World) (F : Nat → Prop) (r : Int) : Cx := ⟨Tryd.prog, 30, Tryd.f30, 28, json_size_R w F  r, w⟩
theorem json_size_calls (w : World) (F : Nat → Prop) (x1 : List JNd) (x6 : Int) (A2 : Option Addr) (n3 : Nat) (c4 : Nat) (h5 : Rw k_api_JNode w (St w []).av A2 n3 c4 x1) (hF : ∀ b, F b → b < w.heap.size ∧ ∀ o ∈ ([] : List (List Nat)), b ∉ o) (hL0 : B.Loc w w [] [Sm w.heap.size F w [], St w []]) (r : Int) (h : json_size x1 x6 r) : Calls Tryd.prog 30 #[.slice A2 n3 c4, .int .i64 x6] w (json_size_R w F  r) := by
 unfold json_size at h
 refine calls_of_Loc (vs := [.slice A2 n3 c4, .int .i64 x6]) 28 Tryd.func30 rfl Tryd.ntmps30 rfl hL0 ?_
 show G (json_size_C w F r) _ _ _ _
 refine gSq (c := q30c0) rfl ?_
 refine gRg (c := q30c1) rfl rfl ?_
 refine wl_v 0 rfl (vAs rfl) gn rfl ?_
 refine w_end 1 rfl ?_
 refine gSq (c := q30c2) rfl ?_
 refine gRg (c := q30c3) rfl rfl ?_
 refine wl_v 0 rfl (vAs rfl) gn rfl ?_
 refine w_end 1 rfl ?_
 refine gSq (c := q30c4) rfl ?_
 refine gSq (c := q30c5) rfl ?_
 refine gRg (c := q30c7) rfl rfl ?_
 refine wl_v 0 rfl (vMv rfl) gn rfl ?_
 refine wl_v 1 rfl (vMv rfl) gn rfl ?_
 obtain ⟨hb7, h⟩ := h
 have hr8 := Rw.readF (s := St w []) (hl := hl_api_JNode) (h1 := h1_api_JNode) h5 hb7
 refine wl_v 2 rfl (v_idxR (s := St w []) slE_22 rfl rfl h5 hb7) gn rfl ?_
 refine wl_v 3 rfl (v_fldA fo_31_3 rfl) gn rfl ?_
 refine wl_v 4 rfl (v_ldA1 (kk := (x6 : Int).toNat * 4) (j := 3) (St w []) ld_3 rfl hr8 rfl (me 1 rfl)) gn rfl ?_
 refine wl_v 5 rfl (vAs rfl) gn rfl ?_
 refine w_end 6 rfl ?_
 refine g_block (c := q30c8) rfl ?_
 refine g_loop (c := q30c9) rfl ?_
 have key1 : ∀ s, Rounds (fun (s : Int × Int) o => json_size_b1 x6 x1 s.1 s.2 o) s r → (fun (s : Int × Int) => ∀ (_ : Unit), G (json_size_C w F r) [.code q30c10, .inLoop q30c10, .inBlock 0, .code q30c6] [(0, .slice A2 n3 c4), (1, .int .i64 x6), (5, .int .i64 s.1), (6, .int .i64 s.2)] [] [Sm w.heap.size F w [], St w []]) s := by
  intro s hs
  refine Rounds.ind (mot := (fun (s : Int × Int) => ∀ (_ : Unit), G (json_size_C w F r) [.code q30c10, .inLoop q30c10, .inBlock 0, .code q30c6] [(0, .slice A2 n3 c4), (1, .int .i64 x6), (5, .int .i64 s.1), (6, .int .i64 s.2)] [] [Sm w.heap.size F w [], St w []])) ?_ hs
  clear hs s
  intro s o1 h hO1
  obtain ⟨x13, x14⟩ := s
  show ∀ (_ : Unit), G (json_size_C w F r) [.code q30c10, .inLoop q30c10, .inBlock 0, .code q30c6] [(0, .slice A2 n3 c4), (1, .int .i64 x6), (5, .int .i64 x13), (6, .int .i64 x14)] [] [Sm w.heap.size F w [], St w []]
  intro _
  have h : json_size_b1 x6 x1 x13 x14 o1 := h
  unfold json_size_b1 at h
  refine gSq (c := q30c10) rfl ?_
  refine gSq (c := q30c11) rfl ?_
  refine gRg (c := q30c13) rfl rfl ?_
  refine wl_v 0 rfl (vMv rfl) gn rfl ?_
  refine wl_v 1 rfl (vBn rfl rfl rfl) gn rfl ?_
  refine w_end 2 rfl ?_
  by_cases hp18 : x14 > 0
  ·have h := if_pos' hp18 h
   refine gTr (c := q30c14) rfl _ rfl ((decide_eq_true hp18)) ?_
   refine g_skip (c := q30c15) rfl ?_
   refine gSq (c := q30c12) rfl ?_
   refine g_block (c := q30c17) rfl ?_
   refine gSq (c := q30c19) rfl ?_
   refine gRg (c := q30c20) rfl rfl ?_
   refine wl_v 0 rfl (vMv rfl) gn rfl ?_
   refine wl_v 1 rfl (vMv rfl) gn rfl ?_
   refine wl_v 2 rfl (vMv rfl) gn rfl ?_
   refine wl_v 3 rfl (vMv rfl) gn rfl ?_
   refine wl_v 4 rfl (vBn rfl rfl rfl) gn rfl ?_
   obtain ⟨hb19, h⟩ := h
   have hr20 := Rw.readF (s := St w []) (hl := hl_api_JNode) (h1 := h1_api_JNode) h5 hb19
   refine wl_v 5 rfl (v_idxR (s := St w []) slE_22 rfl rfl h5 hb19) gn rfl ?_
   refine wl_v 6 rfl (v_fldA fo_31_3 rfl) gn rfl ?_
   refine wl_v 7 rfl (v_ldA1 (kk := (w64 (x6 + x13) : Int).toNat * 4) (j := 3) (St w []) ld_3 rfl hr20 rfl (me 1 rfl)) gn rfl ?_
   refine wl_v 8 rfl (vBn rfl rfl rfl) gn rfl ?_
   refine wl_v 9 rfl (vAs rfl) gn rfl ?_
   refine w_end 10 rfl ?_
   refine gRg (c := q30c21) rfl rfl ?_
   refine wl_v 0 rfl (vMv rfl) gn rfl ?_
   refine wl_v 1 rfl (vBn rfl rfl rfl) gn rfl ?_
   refine wl_v 2 rfl (vAs rfl) gn rfl ?_
   refine w_end 3 rfl ?_
   refine g_inBlock ?_
   refine gRg (c := q30c18) rfl rfl ?_
   refine wl_v 0 rfl (vMv rfl) gn rfl ?_
   refine wl_v 1 rfl (vBn rfl rfl rfl) gn rfl ?_
   refine wl_v 2 rfl (vAs rfl) gn rfl ?_
   refine w_end 3 rfl ?_
   refine g_inLoop ?_
   have ih := Out.inl hO1 h
   exact g_go [0, 1] (ih ()) ⟨rfl, rfl, rfl, rfl, trivial⟩ (.slnil) rfl
  ·have h := if_neg' hp18 h
   refine gFa (c := q30c14) rfl _ rfl ((decide_eq_false hp18)) ?_
   refine g_exit (c := q30c16) [.code q30c6] rfl rfl ?_
   refine gSq (c := q30c6) rfl ?_
   refine gRg (c := q30c22) rfl rfl ?_
   refine wl_v 0 rfl (vMv rfl) gn rfl ?_
   refine wl_v 1 rfl (vAs rfl) gn rfl ?_
   refine w_end 2 rfl ?_
   have h := Out.inr hO1 h
   refine g_retR (c := q30c23) [.int .i64 x13] rfl Tryd.func30 rfl (.tmp rfl (.nil)) fun wr hLr => ?_
   have hMr : B.Loc w wr [] [St w []] := hLr.pick0 (sels [1] rfl)
   show json_size_R w F  r (.returned (packV [.int .i64 x13])) wr
   rw [h]
   exact ⟨rfl, hMr⟩
 exact g_go [0, 1] (key1 _ h ()) ⟨rfl, rfl, rfl, rfl, trivial⟩ (.slnil) rfl
noncomputable abbrev q15c0 : Code := bodyOf Tryd.f15
noncomputable abbrev q15c1 := Code.fst q15c0
noncomputable abbrev q15c2 := Code.snd q15c0
noncomputable abbrev q15c3 := Code.fst q15c2
noncomputable abbrev q15c4 := Code.snd q15c2
noncomputable abbrev q15c5 := Code.fst q15c3
noncomputable abbrev q15c6 := Code.snd q15c3
noncomputable abbrev q15c7 := Code.fst q15c6
noncomputable abbrev q15c8 := Code.snd q15c6
noncomputable abbrev q15c9 := Code.fst q15c7
noncomputable abbrev q15c10 := Code.snd q15c7
noncomputable abbrev q15c11 := Code.fst q15c4
noncomputable abbrev q15c12 := Code.snd q15c4
noncomputable abbrev q15c13 := Code.fst q15c12
noncomputable abbrev q15c14 := Code.snd q15c12
noncomputable abbrev q15c15 := Code.fst q15c13
noncomputable abbrev q15c16 := Code.snd q15c13
noncomputable abbrev q15c17 := Code.fst q15c16
noncomputable abbrev q15c18 := Code.fst q15c17
noncomputable abbrev q15c19 := Code.fst q15c18
noncomputable abbrev q15c20 := Code.snd q15c18
noncomputable abbrev q15c21 := Code.fst q15c20
noncomputable abbrev q15c22 := Code.snd q15c20
noncomputable abbrev q15c23 := Code.fst q15c21
noncomputable abbrev q15c24 := Code.snd q15c21
noncomputable abbrev q15c25 := Code.fst q15c22
noncomputable abbrev q15c26 := Code.snd q15c22
noncomputable abbrev q15c27 := Code.fst q15c25
noncomputable abbrev q15c28 := Code.fst q15c27
noncomputable abbrev q15c29 := Code.snd q15c27
noncomputable abbrev q15c30 := Code.fst q15c28
noncomputable abbrev q15c31 := Code.snd q15c28
noncomputable abbrev q15c32 := Code.fst q15c31
noncomputable abbrev q15c33 := Code.snd q15c31
noncomputable abbrev q15c34 := Code.fst q15c32
noncomputable abbrev q15c35 := Code.snd q15c32
noncomputable abbrev q15c36 := Code.fst q15c14
noncomputable abbrev q15c37 := Code.snd q15c14
abbrev json_Member_R (w : World) (F : Nat → Prop) (r : Int) : Ending → World → Prop := fun e w' => e = .returned (.int .i64 r) ∧ B.Loc w w' [] [St w []]
noncomputable abbrev json_Member_C (w : World) (F : Nat → Prop) (r : Int) : Cx := ⟨Tryd.prog, 15, Tryd.f15, 52, json_Member_R w F  r, w⟩
theorem json_Member_calls (w : World) (F : Nat → Prop) (x1 : List JNd) (x6 : Int) (x7 : ByteArray) (A2 : Option Addr) (n3 : Nat) (c4 : Nat) (h5 : Rw k_api_JNode w (St w []).av A2 n3 c4 x1) (hG1 : Tt .u8 tb_1 1 (St w [])) (hG2 : Tt .u8 tb_2 2 (St w [])) (hF : ∀ b, F b → b < w.heap.size ∧ ∀ o ∈ ([] : List (List Nat)), b ∉ o) (hL0 : B.Loc w w [] [Sm w.heap.size F w [], St w []]) (r : Int) (h : json_Member x1 x6 x7 r) : Calls Tryd.prog 15 #[.slice A2 n3 c4, .int .i64 x6, .string x7] w (json_Member_R w F  r) := by
 unfold json_Member at h
 refine calls_of_Loc (vs := [.slice A2 n3 c4, .int .i64 x6, .string x7]) 52 Tryd.func15 rfl Tryd.ntmps15 rfl hL0 ?_
 show G (json_Member_C w F r) _ _ _ _
 refine gSq (c := q15c0) rfl ?_
 refine gRg (c := q15c1) rfl rfl ?_
 refine wl_v 0 rfl (vAs rfl) gn rfl ?_
 refine w_end 1 rfl ?_
 refine gSq (c := q15c2) rfl ?_
 refine gSq (c := q15c3) rfl ?_
 have j1 : ∀ (x22 : Bool) (h : json_Member_j1 x6 x1 x7 x22 r) , G (json_Member_C w F r) [.code q15c6, .code q15c4] [(0, .slice A2 n3 c4), (1, .int .i64 x6), (2, .string x7), (28, .bool x22)] [] [Sm w.heap.size F w [], St w []] := by
  intro x22 h
  unfold json_Member_j1 at h
  by_cases hp23 : x22 = true
  ·have h := if_pos' hp23 h
   refine gTr (c := q15c6) rfl _ rfl (hp23) ?_
   refine gSq (c := q15c7) rfl ?_
   refine gRg (c := q15c9) rfl rfl ?_
   refine wl_v 0 rfl (vAs rfl) gn rfl ?_
   refine w_end 1 rfl ?_
   refine g_retR (c := q15c10) [.int .i64 (-1)] rfl Tryd.func15 rfl (.tmp rfl (.nil)) fun wr hLr => ?_
   have hMr : B.Loc w wr [] [St w []] := hLr.pick0 (sels [1] rfl)
   show json_Member_R w F  r (.returned (packV [.int .i64 (-1)])) wr
   rw [h]
   exact ⟨rfl, hMr⟩
  ·have h := if_neg' hp23 h
   refine gFa (c := q15c6) rfl _ rfl ((bf hp23)) ?_
   refine g_skip (c := q15c8) rfl ?_
   refine gSq (c := q15c4) rfl ?_
   refine gRg (c := q15c11) rfl rfl ?_
   refine wl_v 0 rfl (vMv rfl) gn rfl ?_
   refine wl_v 1 rfl (vBn rfl rfl rfl) gn rfl ?_
   refine wl_v 2 rfl (vAs rfl) gn rfl ?_
   refine w_end 3 rfl ?_
   refine gSq (c := q15c12) rfl ?_
   refine gSq (c := q15c13) rfl ?_
   refine gRg (c := q15c15) rfl rfl ?_
   refine wl_v 0 rfl (vMv rfl) gn rfl ?_
   refine wl_v 1 rfl (vMv rfl) gn rfl ?_
   obtain ⟨hb24, h⟩ := h
   have hr25 := Rw.readF (s := St w []) (hl := hl_api_JNode) (h1 := h1_api_JNode) h5 hb24
   refine wl_v 2 rfl (v_idxR (s := St w []) slE_22 rfl rfl h5 hb24) gn rfl ?_
   refine wl_v 3 rfl (v_fldA fo_31_3 rfl) gn rfl ?_
   refine wl_v 4 rfl (v_ldA1 (kk := (x6 : Int).toNat * 4) (j := 3) (St w []) ld_3 rfl hr25 rfl (me 1 rfl)) gn rfl ?_
   refine wl_v 5 rfl (vMv rfl) gn rfl ?_
   refine w_end 6 rfl ?_
   refine g_block (c := q15c16) rfl ?_
   refine g_loop (c := q15c17) rfl ?_
   have key2 : ∀ s, Rounds (fun (s : Int × Int) o => json_Member_b2 x1 x6 x7 s.1 s.2 o) s r → (fun (s : Int × Int) => ∀ (_ : Unit), G (json_Member_C w F r) [.code q15c18, .inLoop q15c18, .inBlock 0, .code q15c14] [(0, .slice A2 n3 c4), (2, .string x7), (7, .int .i64 s.1), (35, .int .i64 ((ix x1 x6).kids)), (36, .int .i64 s.2)] [] [Sm w.heap.size F w [], St w []]) s := by
    intro s hs
    refine Rounds.ind (mot := (fun (s : Int × Int) => ∀ (_ : Unit), G (json_Member_C w F r) [.code q15c18, .inLoop q15c18, .inBlock 0, .code q15c14] [(0, .slice A2 n3 c4), (2, .string x7), (7, .int .i64 s.1), (35, .int .i64 ((ix x1 x6).kids)), (36, .int .i64 s.2)] [] [Sm w.heap.size F w [], St w []])) ?_ hs
    clear hs s
    intro s o1 h hO1
    obtain ⟨x39, x40⟩ := s
    show ∀ (_ : Unit), G (json_Member_C w F r) [.code q15c18, .inLoop q15c18, .inBlock 0, .code q15c14] [(0, .slice A2 n3 c4), (2, .string x7), (7, .int .i64 x39), (35, .int .i64 ((ix x1 x6).kids)), (36, .int .i64 x40)] [] [Sm w.heap.size F w [], St w []]
    intro _
    have h : json_Member_b2 x1 x6 x7 x39 x40 o1 := h
    unfold json_Member_b2 at h
    refine gSq (c := q15c18) rfl ?_
    refine gRg (c := q15c19) rfl rfl ?_
    refine wl_v 0 rfl (vBn rfl rfl rfl) gn rfl ?_
    refine w_end 1 rfl ?_
    refine gSq (c := q15c20) rfl ?_
    by_cases hp53 : x40 < (ix x1 x6).kids
    ·have h := if_pos' hp53 h
     refine gTr (c := q15c21) rfl _ rfl ((decide_eq_true hp53)) ?_
     refine g_skip (c := q15c23) rfl ?_
     refine gSq (c := q15c22) rfl ?_
     refine g_block (c := q15c25) rfl ?_
     refine gSq (c := q15c27) rfl ?_
     refine gSq (c := q15c28) rfl ?_
     refine gRg (c := q15c30) rfl rfl ?_
     refine wl_v 0 rfl (vMv rfl) gn rfl ?_
     refine wl_v 1 rfl (vMv rfl) gn rfl ?_
     obtain ⟨hb54, h⟩ := h
     have hr55 := Rw.readF (s := St w []) (hl := hl_api_JNode) (h1 := h1_api_JNode) h5 hb54
     refine wl_v 2 rfl (v_idxR (s := St w []) slE_22 rfl rfl h5 hb54) gn rfl ?_
     refine wl_v 3 rfl (v_fldA fo_31_1 rfl) gn rfl ?_
     refine wl_v 4 rfl (v_ldA1 (kk := (x39 : Int).toNat * 4) (j := 1) (St w []) ld_9 rfl hr55 rfl (me 1 rfl)) gn rfl ?_
     refine wl_v 5 rfl (vMv rfl) gn rfl ?_
     refine wl_v 6 rfl (v_eqS rfl rfl) gn rfl ?_
     refine w_end 7 rfl ?_
     by_cases hp56 : (ix x1 x39).key = x7
     ·have h := if_pos' hp56 h
      refine gTr (c := q15c31) rfl _ rfl ((seq_t hp56)) ?_
      refine gSq (c := q15c32) rfl ?_
      refine gRg (c := q15c34) rfl rfl ?_
      refine wl_v 0 rfl (vMv rfl) gn rfl ?_
      refine wl_v 1 rfl (vAs rfl) gn rfl ?_
      refine w_end 2 rfl ?_
      have h := Out.inr hO1 h
      refine g_retR (c := q15c35) [.int .i64 x39] rfl Tryd.func15 rfl (.tmp rfl (.nil)) fun wr hLr => ?_
      have hMr : B.Loc w wr [] [St w []] := hLr.pick0 (sels [1] rfl)
      show json_Member_R w F  r (.returned (packV [.int .i64 x39])) wr
      rw [h]
      exact ⟨rfl, hMr⟩
     ·have h := if_neg' hp56 h
      refine gFa (c := q15c31) rfl _ rfl ((seq_f hp56)) ?_
      refine g_skip (c := q15c33) rfl ?_
      refine gRg (c := q15c29) rfl rfl ?_
      refine wl_v 0 rfl (vMv rfl) gn rfl ?_
      refine wl_v 1 rfl (vMv rfl) gn rfl ?_
      refine wl_v 2 rfl (vMv rfl) gn rfl ?_
      obtain ⟨r60, hv61, h⟩ := h
      refine wl_s 3 rfl (sCl [.slice A2 n3 c4, .int .i64 x39] rfl Tryd.func30 rfl rfl rfl fun w57 hL58 => ?_) gn
      have hp59 : List.Perm ([] : List Ent) (([] : List Ent) ++ ([] : List Ent)) := pIx [] [] rfl rfl (by kernel_rfl)
      refine Calls.mono (json_size_calls w57 (Fl ([] : List Snap)) x1 x39 A2 n3 c4 (Rw.mono h5 (hL58.toSt hp59 (me 1 rfl))) (hL58.hFl (Sl := ([] : List Snap)) hp59 (sels [] rfl)) (hL58.into hp59 (Fl ([] : List Snap))) r60 hv61) ?_
      rintro _ w62 ⟨rfl, hM63⟩
      have hL64 := hL58.call hp59 hM63
      refine ⟨_, _, _, rfl, hL64, ?_⟩
      refine wl_v 4 rfl (vBn rfl rfl rfl) gn rfl ?_
      refine wl_v 5 rfl (vAs rfl) gn rfl ?_
      refine w_end 6 rfl ?_
      refine g_inBlock ?_
      refine gRg (c := q15c26) rfl rfl ?_
      refine wl_v 0 rfl (vBn rfl rfl rfl) gn rfl ?_
      refine wl_v 1 rfl (vMv rfl) gn rfl ?_
      refine w_end 2 rfl ?_
      refine g_inLoop ?_
      have ih := Out.inl hO1 h
      exact g_go [0, 1] (ih ()) ⟨rfl, rfl, rfl, rfl, rfl, trivial⟩ (.slnil) rfl
    ·have h := if_neg' hp53 h
     refine gFa (c := q15c21) rfl _ rfl ((decide_eq_false hp53)) ?_
     refine g_exit (c := q15c24) [.code q15c14] rfl rfl ?_
     refine gSq (c := q15c14) rfl ?_
     refine gRg (c := q15c36) rfl rfl ?_
     refine wl_v 0 rfl (vAs rfl) gn rfl ?_
     refine w_end 1 rfl ?_
     have h := Out.inr hO1 h
     refine g_retR (c := q15c37) [.int .i64 (-1)] rfl Tryd.func15 rfl (.tmp rfl (.nil)) fun wr hLr => ?_
     have hMr : B.Loc w wr [] [St w []] := hLr.pick0 (sels [1] rfl)
     show json_Member_R w F  r (.returned (packV [.int .i64 (-1)])) wr
     rw [h]
     exact ⟨rfl, hMr⟩
   exact g_go [0, 1] (key2 _ h ()) ⟨rfl, rfl, rfl, rfl, rfl, trivial⟩ (.slnil) rfl
 refine gRg (c := q15c5) rfl rfl ?_
 refine wl_v 0 rfl (vMv rfl) gn rfl ?_
 refine wl_v 1 rfl (vBn rfl rfl rfl) gn rfl ?_
 refine wl_v 2 rfl (vMv rfl) gn rfl ?_
 by_cases hp65 : x6 < 0
 ·have h := if_pos' hp65 h
  refine w_bool 10 rfl ((decide_eq_true hp65)) ?_
  refine wl_pass 3 rfl (ps 10 rfl rfl rfl) ?_
  refine wl_pass 4 rfl (ps 10 rfl rfl rfl) ?_
  refine wl_pass 5 rfl (ps 10 rfl rfl rfl) ?_
  refine wl_pass 6 rfl (ps 10 rfl rfl rfl) ?_
  refine wl_v 7 rfl (v_pick (b := true) rfl rfl) gn rfl ?_
  refine wl_v 8 rfl (vMv rfl) gn rfl ?_
  refine wl_pass 9 rfl (ps 16 rfl rfl rfl) ?_
  refine wl_pass 10 rfl (ps 16 rfl rfl rfl) ?_
  refine wl_pass 11 rfl (ps 16 rfl rfl rfl) ?_
  refine wl_pass 12 rfl (ps 16 rfl rfl rfl) ?_
  refine wl_pass 13 rfl (ps 16 rfl rfl rfl) ?_
  refine wl_pass 14 rfl (ps 16 rfl rfl rfl) ?_
  refine wl_v 15 rfl (v_pick (b := true) rfl rfl) gn rfl ?_
  refine wl_v 16 rfl (vMv rfl) gn rfl ?_
  refine wl_pass 17 rfl (ps 24 rfl rfl rfl) ?_
  refine wl_pass 18 rfl (ps 24 rfl rfl rfl) ?_
  refine wl_pass 19 rfl (ps 24 rfl rfl rfl) ?_
  refine wl_v 20 rfl (v_pick (b := true) rfl rfl) gn rfl ?_
  refine w_end 21 rfl ?_
  exact g_go [0, 1] (j1 true h) ⟨rfl, rfl, rfl, rfl, trivial⟩ (.slnil) rfl
 ·have h := if_neg' hp65 h
  refine w_bool 10 rfl ((decide_eq_false hp65)) ?_
  refine wl_v 3 rfl (vMv rfl) (gy 10 rfl rfl) rfl ?_
  refine wl_v 4 rfl (vMv rfl) (gy 10 rfl rfl) rfl ?_
  refine wl_v 5 rfl (v_lenQ un_22 rfl h5.hq) (gy 10 rfl rfl) rfl ?_
  refine wl_v 6 rfl (vBn rfl rfl rfl) (gy 10 rfl rfl) rfl ?_
  refine wl_v 7 rfl (v_pick (b := false) rfl rfl) gn rfl ?_
  refine wl_v 8 rfl (vMv rfl) gn rfl ?_
  by_cases hp66 : x6 ≥ (x1.length : Int)
  ·have h := if_pos' hp66 h
   refine w_bool 16 rfl ((decide_eq_true hp66)) ?_
   refine wl_pass 9 rfl (ps 16 rfl rfl rfl) ?_
   refine wl_pass 10 rfl (ps 16 rfl rfl rfl) ?_
   refine wl_pass 11 rfl (ps 16 rfl rfl rfl) ?_
   refine wl_pass 12 rfl (ps 16 rfl rfl rfl) ?_
   refine wl_pass 13 rfl (ps 16 rfl rfl rfl) ?_
   refine wl_pass 14 rfl (ps 16 rfl rfl rfl) ?_
   refine wl_v 15 rfl (v_pick (b := true) rfl rfl) gn rfl ?_
   refine wl_v 16 rfl (vMv rfl) gn rfl ?_
   refine wl_pass 17 rfl (ps 24 rfl rfl rfl) ?_
   refine wl_pass 18 rfl (ps 24 rfl rfl rfl) ?_
   refine wl_pass 19 rfl (ps 24 rfl rfl rfl) ?_
   refine wl_v 20 rfl (v_pick (b := true) rfl rfl) gn rfl ?_
   refine w_end 21 rfl ?_
   exact g_go [0, 1] (j1 true h) ⟨rfl, rfl, rfl, rfl, trivial⟩ (.slnil) rfl
  ·have h := if_neg' hp66 h
   refine w_bool 16 rfl ((decide_eq_false hp66)) ?_
   refine wl_v 9 rfl (vMv rfl) (gy 16 rfl rfl) rfl ?_
   refine wl_v 10 rfl (vMv rfl) (gy 16 rfl rfl) rfl ?_
   obtain ⟨hb67, h⟩ := h
   have hr68 := Rw.readF (s := St w []) (hl := hl_api_JNode) (h1 := h1_api_JNode) h5 hb67
   refine wl_v 11 rfl (v_idxR (s := St w []) slE_22 rfl rfl h5 hb67) (gy 16 rfl rfl) rfl ?_
   refine wl_v 12 rfl (v_fldA fo_31_0 rfl) (gy 16 rfl rfl) rfl ?_
   refine wl_v 13 rfl (v_ldA1 (kk := (x6 : Int).toNat * 4) (j := 0) (St w []) ld_29 rfl hr68 rfl (me 1 rfl)) (gy 16 rfl rfl) rfl ?_
   refine wl_v 14 rfl (vBn rfl rfl rfl) (gy 16 rfl rfl) rfl ?_
   refine wl_v 15 rfl (v_pick (b := false) rfl rfl) gn rfl ?_
   refine wl_v 16 rfl (vMv rfl) gn rfl ?_
   by_cases hp69 : (ix x1 x6).kind = 7
   ·have h := if_pos' hp69 h
    refine w_bool 24 rfl ((eqib hp69)) ?_
    refine wl_v 17 rfl (vMv rfl) (gy 24 rfl rfl) rfl ?_
    obtain ⟨r73, hv74, h⟩ := h
    refine wl_s 18 rfl (sCl [.slice A2 n3 c4] rfl Tryd.func21 rfl rfl rfl fun w70 hL71 => ?_) (gy 24 rfl rfl)
    have hp72 : List.Perm ([] : List Ent) (([] : List Ent) ++ ([] : List Ent)) := pIx [] [] rfl rfl (by kernel_rfl)
    refine Calls.mono (json_Shaped_calls w70 (Fl ([] : List Snap)) x1 A2 n3 c4 (Rw.mono h5 (hL71.toSt hp72 (me 1 rfl))) (hL71.tt hp72 hG1 (me 1 rfl)) (hL71.tt hp72 hG2 (me 1 rfl)) (hL71.hFl (Sl := ([] : List Snap)) hp72 (sels [] rfl)) (hL71.into hp72 (Fl ([] : List Snap))) r73 hv74) ?_
    rintro _ w75 ⟨rfl, hM76⟩
    have hL77 := hL71.call hp72 hM76
    refine ⟨_, _, _, rfl, hL77, ?_⟩
    refine wl_v 19 rfl (v_not rfl) (gy 24 rfl rfl) rfl ?_
    refine wl_v 20 rfl (v_pick (b := false) rfl rfl) gn rfl ?_
    refine w_end 21 rfl ?_
    exact g_go [0, 1] (j1 (!r73) h) ⟨rfl, rfl, rfl, rfl, trivial⟩ (.slnil) rfl
   ·have h := if_neg' hp69 h
    refine w_bool 24 rfl ((neib hp69)) ?_
    refine wl_pass 17 rfl (ps 24 rfl rfl rfl) ?_
    refine wl_pass 18 rfl (ps 24 rfl rfl rfl) ?_
    refine wl_pass 19 rfl (ps 24 rfl rfl rfl) ?_
    refine wl_v 20 rfl (v_pick (b := true) rfl rfl) gn rfl ?_
    refine w_end 21 rfl ?_
    exact g_go [0, 1] (j1 true h) ⟨rfl, rfl, rfl, rfl, trivial⟩ (.slnil) rfl
noncomputable abbrev q66c0 : Code := bodyOf Tryd.f66
noncomputable abbrev q66c1 := Code.fst q66c0
noncomputable abbrev q66c2 := Code.snd q66c0
noncomputable abbrev q66c3 := Code.fst q66c2
noncomputable abbrev q66c4 := Code.snd q66c2
abbrev internal_stringslite_HasPrefix_R (w : World) (F : Nat → Prop) (r : Bool) : Ending → World → Prop := fun e w' => e = .returned (.bool r) ∧ B.Loc w w' [] [St w []]
noncomputable abbrev internal_stringslite_HasPrefix_C (w : World) (F : Nat → Prop) (r : Bool) : Cx := ⟨Tryd.prog, 66, Tryd.f66, 18, internal_stringslite_HasPrefix_R w F  r, w⟩
theorem internal_stringslite_HasPrefix_calls (w : World) (F : Nat → Prop) (x1 : ByteArray) (x2 : ByteArray) (hF : ∀ b, F b → b < w.heap.size ∧ ∀ o ∈ ([] : List (List Nat)), b ∉ o) (hL0 : B.Loc w w [] [Sm w.heap.size F w [], St w []]) (r : Bool) (h : internal_stringslite_HasPrefix x1 x2 r) : Calls Tryd.prog 66 #[.string x1, .string x2] w (internal_stringslite_HasPrefix_R w F  r) := by
 unfold internal_stringslite_HasPrefix at h
 refine calls_of_Loc (vs := [.string x1, .string x2]) 18 Tryd.func66 rfl Tryd.ntmps66 rfl hL0 ?_
 show G (internal_stringslite_HasPrefix_C w F r) _ _ _ _
 refine gSq (c := q66c0) rfl ?_
 refine gRg (c := q66c1) rfl rfl ?_
 refine wl_v 0 rfl (vAs rfl) gn rfl ?_
 refine w_end 1 rfl ?_
 refine gSq (c := q66c2) rfl ?_
 refine gRg (c := q66c3) rfl rfl ?_
 refine wl_v 0 rfl (vMv rfl) gn rfl ?_
 refine wl_v 1 rfl (v_lenS un_9 rfl) gn rfl ?_
 refine wl_v 2 rfl (vMv rfl) gn rfl ?_
 refine wl_v 3 rfl (v_lenS un_9 rfl) gn rfl ?_
 refine wl_v 4 rfl (vBn rfl rfl rfl) gn rfl ?_
 refine wl_v 5 rfl (vMv rfl) gn rfl ?_
 by_cases hp3 : (x1.size : Int) ≥ (x2.size : Int)
 ·have h := if_pos' hp3 h
  refine w_bool 10 rfl ((decide_eq_true hp3)) ?_
  refine wl_v 6 rfl (vMv rfl) (gy 10 rfl rfl) rfl ?_
  refine wl_v 7 rfl (vMv rfl) (gy 10 rfl rfl) rfl ?_
  refine wl_v 8 rfl (v_lenS un_9 rfl) (gy 10 rfl rfl) rfl ?_
  obtain ⟨hb4, h⟩ := h
  refine wl_v 9 rfl (v_cutS 0 (x2.size : Int) un_9 rfl (.inl ⟨rfl, rfl⟩) (.inr ⟨_, _, rfl, rfl⟩) ⟨hb4.1, hb4.2.1⟩ hb4.2.2) (gy 10 rfl rfl) rfl ?_
  refine wl_v 10 rfl (vMv rfl) (gy 10 rfl rfl) rfl ?_
  refine wl_v 11 rfl (v_eqS rfl rfl) (gy 10 rfl rfl) rfl ?_
  refine wl_v 12 rfl (v_pick (b := true) rfl rfl) gn rfl ?_
  refine wl_v 13 rfl (vAs rfl) gn rfl ?_
  refine w_end 14 rfl ?_
  refine g_retR (c := q66c4) [.bool (seq (x1.extract (0 : Int).toNat ((x2.size : Int) : Int).toNat) x2)] rfl Tryd.func66 rfl (.tmp rfl (.nil)) fun wr hLr => ?_
  have hMr : B.Loc w wr [] [St w []] := hLr.pick0 (sels [1] rfl)
  show internal_stringslite_HasPrefix_R w F  r (.returned (packV [.bool (seq (x1.extract (0 : Int).toNat ((x2.size : Int) : Int).toNat) x2)])) wr
  rw [h]
  exact ⟨rfl, hMr⟩
 ·have h := if_neg' hp3 h
  refine w_bool 10 rfl ((decide_eq_false hp3)) ?_
  refine wl_pass 6 rfl (ps 10 rfl rfl rfl) ?_
  refine wl_pass 7 rfl (ps 10 rfl rfl rfl) ?_
  refine wl_pass 8 rfl (ps 10 rfl rfl rfl) ?_
  refine wl_pass 9 rfl (ps 10 rfl rfl rfl) ?_
  refine wl_pass 10 rfl (ps 10 rfl rfl rfl) ?_
  refine wl_pass 11 rfl (ps 10 rfl rfl rfl) ?_
  refine wl_v 12 rfl (v_pick (b := false) rfl rfl) gn rfl ?_
  refine wl_v 13 rfl (vAs rfl) gn rfl ?_
  refine w_end 14 rfl ?_
  refine g_retR (c := q66c4) [.bool false] rfl Tryd.func66 rfl (.tmp rfl (.nil)) fun wr hLr => ?_
  have hMr : B.Loc w wr [] [St w []] := hLr.pick0 (sels [1] rfl)
  show internal_stringslite_HasPrefix_R w F  r (.returned (packV [.bool false])) wr
  rw [h]
  exact ⟨rfl, hMr⟩
noncomputable abbrev q49c0 : Code := bodyOf Tryd.f49
noncomputable abbrev q49c1 := Code.fst q49c0
noncomputable abbrev q49c2 := Code.snd q49c0
noncomputable abbrev q49c3 := Code.fst q49c2
noncomputable abbrev q49c4 := Code.snd q49c2
noncomputable abbrev q49c5 := Code.fst q49c3
noncomputable abbrev q49c6 := Code.snd q49c3
noncomputable abbrev q49c7 := Code.fst q49c6
noncomputable abbrev q49c8 := Code.snd q49c6
noncomputable abbrev q49c9 := Code.fst q49c4
noncomputable abbrev q49c10 := Code.snd q49c4
noncomputable abbrev q49c11 := Code.fst q49c7
noncomputable abbrev q49c12 := Code.snd q49c7
abbrev internal_stringslite_CutPrefix_R (w : World) (F : Nat → Prop) (r : ByteArray × Bool) : Ending → World → Prop := fun e w' => e = .returned (.tuple #[.string r.1, .bool r.2]) ∧ B.Loc w w' [] [St w []]
noncomputable abbrev internal_stringslite_CutPrefix_C (w : World) (F : Nat → Prop) (r : ByteArray × Bool) : Cx := ⟨Tryd.prog, 49, Tryd.f49, 15, internal_stringslite_CutPrefix_R w F  r, w⟩
theorem internal_stringslite_CutPrefix_calls (w : World) (F : Nat → Prop) (x1 : ByteArray) (x2 : ByteArray) (hF : ∀ b, F b → b < w.heap.size ∧ ∀ o ∈ ([] : List (List Nat)), b ∉ o) (hL0 : B.Loc w w [] [Sm w.heap.size F w [], St w []]) (r : ByteArray × Bool) (h : internal_stringslite_CutPrefix x1 x2 r) : Calls Tryd.prog 49 #[.string x1, .string x2] w (internal_stringslite_CutPrefix_R w F  r) := by
 unfold internal_stringslite_CutPrefix at h
 refine calls_of_Loc (vs := [.string x1, .string x2]) 15 Tryd.func49 rfl Tryd.ntmps49 rfl hL0 ?_
 show G (internal_stringslite_CutPrefix_C w F r) _ _ _ _
 refine gSq (c := q49c0) rfl ?_
 refine gRg (c := q49c1) rfl rfl ?_
 refine wl_v 0 rfl (vAs rfl) gn rfl ?_
 refine wl_v 1 rfl (vAs rfl) gn rfl ?_
 refine w_end 2 rfl ?_
 refine gSq (c := q49c2) rfl ?_
 refine gSq (c := q49c3) rfl ?_
 refine gRg (c := q49c5) rfl rfl ?_
 refine wl_v 0 rfl (vMv rfl) gn rfl ?_
 refine wl_v 1 rfl (vMv rfl) gn rfl ?_
 obtain ⟨r6, hv7, h⟩ := h
 refine wl_s 2 rfl (sCl [.string x1, .string x2] rfl Tryd.func66 rfl rfl rfl fun w3 hL4 => ?_) gn
 have hp5 : List.Perm ([] : List Ent) (([] : List Ent) ++ ([] : List Ent)) := pIx [] [] rfl rfl (by kernel_rfl)
 refine Calls.mono (internal_stringslite_HasPrefix_calls w3 (Fl ([] : List Snap)) x1 x2 (hL4.hFl (Sl := ([] : List Snap)) hp5 (sels [] rfl)) (hL4.into hp5 (Fl ([] : List Snap))) r6 hv7) ?_
 rintro _ w8 ⟨rfl, hM9⟩
 have hL10 := hL4.call hp5 hM9
 refine ⟨_, _, _, rfl, hL10, ?_⟩
 refine wl_v 3 rfl (v_not rfl) gn rfl ?_
 refine w_end 4 rfl ?_
 by_cases hp11 : r6 = true
 ·have h := if_pos' hp11 h
  refine gFa (c := q49c6) rfl _ rfl ((nf hp11)) ?_
  refine g_skip (c := q49c8) rfl ?_
  refine gSq (c := q49c4) rfl ?_
  refine gRg (c := q49c9) rfl rfl ?_
  refine wl_v 0 rfl (vMv rfl) gn rfl ?_
  refine wl_v 1 rfl (vMv rfl) gn rfl ?_
  refine wl_v 2 rfl (v_lenS un_9 rfl) gn rfl ?_
  obtain ⟨hb12, h⟩ := h
  refine wl_v 3 rfl (v_cutS (x2.size : Int) (x1.size : Int) un_9 rfl (.inr ⟨_, _, rfl, rfl⟩) (.inl ⟨rfl, rfl⟩) ⟨hb12.1, hb12.2.1⟩ hb12.2.2) gn rfl ?_
  refine wl_v 4 rfl (vAs rfl) gn rfl ?_
  refine wl_v 5 rfl (vAs rfl) gn rfl ?_
  refine w_end 6 rfl ?_
  refine g_retR (c := q49c10) [.string (x1.extract ((x2.size : Int) : Int).toNat ((x1.size : Int) : Int).toNat), .bool true] rfl Tryd.func49 rfl (.tmp rfl (.tmp rfl (.nil))) fun wr hLr => ?_
  have hMr : B.Loc w wr [] [St w []] := hLr.pick0 (sels [1] rfl)
  show internal_stringslite_CutPrefix_R w F  r (.returned (packV [.string (x1.extract ((x2.size : Int) : Int).toNat ((x1.size : Int) : Int).toNat), .bool true])) wr
  rw [h]
  exact ⟨rfl, hMr⟩
 ·have h := if_neg' hp11 h
  refine gTr (c := q49c6) rfl _ rfl ((nt (bf hp11))) ?_
  refine gSq (c := q49c7) rfl ?_
  refine gRg (c := q49c11) rfl rfl ?_
  refine wl_v 0 rfl (vMv rfl) gn rfl ?_
  refine wl_v 1 rfl (vAs rfl) gn rfl ?_
  refine wl_v 2 rfl (vAs rfl) gn rfl ?_
  refine w_end 3 rfl ?_
  refine g_retR (c := q49c12) [.string x1, .bool false] rfl Tryd.func49 rfl (.tmp rfl (.tmp rfl (.nil))) fun wr hLr => ?_
  have hMr : B.Loc w wr [] [St w []] := hLr.pick0 (sels [1] rfl)
  show internal_stringslite_CutPrefix_R w F  r (.returned (packV [.string x1, .bool false])) wr
  rw [h]
  exact ⟨rfl, hMr⟩
noncomputable abbrev q31c0 : Code := bodyOf Tryd.f31
noncomputable abbrev q31c1 := Code.fst q31c0
noncomputable abbrev q31c2 := Code.snd q31c0
noncomputable abbrev q31c3 := Code.fst q31c2
noncomputable abbrev q31c4 := Code.snd q31c2
abbrev strings_CutPrefix_R (w : World) (F : Nat → Prop) (r : ByteArray × Bool) : Ending → World → Prop := fun e w' => e = .returned (.tuple #[.string r.1, .bool r.2]) ∧ B.Loc w w' [] [St w []]
noncomputable abbrev strings_CutPrefix_C (w : World) (F : Nat → Prop) (r : ByteArray × Bool) : Cx := ⟨Tryd.prog, 31, Tryd.f31, 11, strings_CutPrefix_R w F  r, w⟩
theorem strings_CutPrefix_calls (w : World) (F : Nat → Prop) (x1 : ByteArray) (x2 : ByteArray) (hF : ∀ b, F b → b < w.heap.size ∧ ∀ o ∈ ([] : List (List Nat)), b ∉ o) (hL0 : B.Loc w w [] [Sm w.heap.size F w [], St w []]) (r : ByteArray × Bool) (h : strings_CutPrefix x1 x2 r) : Calls Tryd.prog 31 #[.string x1, .string x2] w (strings_CutPrefix_R w F  r) := by
 unfold strings_CutPrefix at h
 refine calls_of_Loc (vs := [.string x1, .string x2]) 11 Tryd.func31 rfl Tryd.ntmps31 rfl hL0 ?_
 show G (strings_CutPrefix_C w F r) _ _ _ _
 refine gSq (c := q31c0) rfl ?_
 refine gRg (c := q31c1) rfl rfl ?_
 refine wl_v 0 rfl (vAs rfl) gn rfl ?_
 refine wl_v 1 rfl (vAs rfl) gn rfl ?_
 refine w_end 2 rfl ?_
 refine gSq (c := q31c2) rfl ?_
 refine gRg (c := q31c3) rfl rfl ?_
 refine wl_v 0 rfl (vMv rfl) gn rfl ?_
 refine wl_v 1 rfl (vMv rfl) gn rfl ?_
 obtain ⟨r6, hv7, h⟩ := h
 refine wl_s 2 rfl (sCl [.string x1, .string x2] rfl Tryd.func49 rfl rfl rfl fun w3 hL4 => ?_) gn
 have hp5 : List.Perm ([] : List Ent) (([] : List Ent) ++ ([] : List Ent)) := pIx [] [] rfl rfl (by kernel_rfl)
 refine Calls.mono (internal_stringslite_CutPrefix_calls w3 (Fl ([] : List Snap)) x1 x2 (hL4.hFl (Sl := ([] : List Snap)) hp5 (sels [] rfl)) (hL4.into hp5 (Fl ([] : List Snap))) r6 hv7) ?_
 rintro _ w8 ⟨rfl, hM9⟩
 have hL10 := hL4.call hp5 hM9
 refine ⟨_, _, _, rfl, hL10, ?_⟩
 refine wl_v 3 rfl (v_extract rfl rfl) gn rfl ?_
 refine wl_v 4 rfl (v_extract rfl rfl) gn rfl ?_
 refine wl_v 5 rfl (vAs rfl) gn rfl ?_
 refine wl_v 6 rfl (vAs rfl) gn rfl ?_
 refine w_end 7 rfl ?_
 refine g_retR (c := q31c4) [.string r6.1, .bool r6.2] rfl Tryd.func31 rfl (.tmp rfl (.tmp rfl (.nil))) fun wr hLr => ?_
 have hMr : B.Loc w wr [] [St w []] := hLr.pick0 (sels [1] rfl)
 show strings_CutPrefix_R w F  r (.returned (packV [.string r6.1, .bool r6.2])) wr
 rw [h]
 exact ⟨rfl, hMr⟩
noncomputable abbrev q16c0 : Code := bodyOf Tryd.f16
noncomputable abbrev q16c1 := Code.fst q16c0
noncomputable abbrev q16c2 := Code.snd q16c0
noncomputable abbrev q16c3 := Code.fst q16c2
noncomputable abbrev q16c4 := Code.snd q16c2
noncomputable abbrev q16c5 := Code.fst q16c3
noncomputable abbrev q16c6 := Code.snd q16c3
noncomputable abbrev q16c7 := Code.fst q16c6
noncomputable abbrev q16c8 := Code.snd q16c6
noncomputable abbrev q16c9 := Code.fst q16c7
noncomputable abbrev q16c10 := Code.snd q16c7
noncomputable abbrev q16c11 := Code.fst q16c4
noncomputable abbrev q16c12 := Code.snd q16c4
noncomputable abbrev q16c13 := Code.fst q16c12
noncomputable abbrev q16c14 := Code.snd q16c12
noncomputable abbrev q16c15 := Code.fst q16c14
noncomputable abbrev q16c16 := Code.snd q16c14
noncomputable abbrev q16c17 := Code.fst q16c15
noncomputable abbrev q16c18 := Code.snd q16c15
noncomputable abbrev q16c19 := Code.fst q16c18
noncomputable abbrev q16c20 := Code.fst q16c19
noncomputable abbrev q16c21 := Code.fst q16c20
noncomputable abbrev q16c22 := Code.snd q16c20
noncomputable abbrev q16c23 := Code.fst q16c21
noncomputable abbrev q16c24 := Code.snd q16c21
noncomputable abbrev q16c25 := Code.fst q16c24
noncomputable abbrev q16c26 := Code.snd q16c24
noncomputable abbrev q16c27 := Code.fst q16c22
noncomputable abbrev q16c28 := Code.snd q16c22
noncomputable abbrev q16c29 := Code.fst q16c27
noncomputable abbrev q16c30 := Code.fst q16c29
noncomputable abbrev q16c31 := Code.snd q16c29
noncomputable abbrev q16c32 := Code.fst q16c30
noncomputable abbrev q16c33 := Code.snd q16c30
noncomputable abbrev q16c34 := Code.fst q16c33
noncomputable abbrev q16c35 := Code.snd q16c33
noncomputable abbrev q16c36 := Code.fst q16c34
noncomputable abbrev q16c37 := Code.snd q16c34
noncomputable abbrev q16c38 := Code.fst q16c31
noncomputable abbrev q16c39 := Code.snd q16c31
noncomputable abbrev q16c40 := Code.fst q16c39
noncomputable abbrev q16c41 := Code.snd q16c39
noncomputable abbrev q16c42 := Code.fst q16c40
noncomputable abbrev q16c43 := Code.snd q16c40
noncomputable abbrev q16c44 := Code.fst q16c43
noncomputable abbrev q16c45 := Code.snd q16c43
noncomputable abbrev q16c46 := Code.fst q16c44
noncomputable abbrev q16c47 := Code.snd q16c44
noncomputable abbrev q16c48 := Code.fst q16c16
noncomputable abbrev q16c49 := Code.snd q16c16
noncomputable abbrev q16c50 := Code.fst q16c48
noncomputable abbrev q16c51 := Code.fst q16c50
noncomputable abbrev q16c52 := Code.snd q16c50
noncomputable abbrev q16c53 := Code.fst q16c52
noncomputable abbrev q16c54 := Code.snd q16c52
noncomputable abbrev q16c55 := Code.fst q16c53
noncomputable abbrev q16c56 := Code.snd q16c53
noncomputable abbrev q16c57 := Code.fst q16c54
noncomputable abbrev q16c58 := Code.snd q16c54
noncomputable abbrev q16c59 := Code.fst q16c58
noncomputable abbrev q16c60 := Code.snd q16c58
noncomputable abbrev q16c61 := Code.fst q16c49
noncomputable abbrev q16c62 := Code.snd q16c49
noncomputable abbrev q16c63 := Code.fst q16c59
noncomputable abbrev q16c64 := Code.snd q16c59
abbrev json_Int_R (w : World) (F : Nat → Prop) (r : Int × Bool) : Ending → World → Prop := fun e w' => e = .returned (.tuple #[.int .i64 r.1, .bool r.2]) ∧ B.Loc w w' [] [St w []]
noncomputable abbrev json_Int_C (w : World) (F : Nat → Prop) (r : Int × Bool) : Cx := ⟨Tryd.prog, 16, Tryd.f16, 81, json_Int_R w F  r, w⟩
theorem json_Int_calls (w : World) (F : Nat → Prop) (x1 : List JNd) (x6 : Int) (A2 : Option Addr) (n3 : Nat) (c4 : Nat) (h5 : Rw k_api_JNode w (St w []).av A2 n3 c4 x1) (hG1 : Tt .u8 tb_1 1 (St w [])) (hG2 : Tt .u8 tb_2 2 (St w [])) (hF : ∀ b, F b → b < w.heap.size ∧ ∀ o ∈ ([] : List (List Nat)), b ∉ o) (hL0 : B.Loc w w [] [Sm w.heap.size F w [], St w []]) (r : Int × Bool) (h : json_Int x1 x6 r) : Calls Tryd.prog 16 #[.slice A2 n3 c4, .int .i64 x6] w (json_Int_R w F  r) := by
 unfold json_Int at h
 refine calls_of_Loc (vs := [.slice A2 n3 c4, .int .i64 x6]) 81 Tryd.func16 rfl Tryd.ntmps16 rfl hL0 ?_
 show G (json_Int_C w F r) _ _ _ _
 refine gSq (c := q16c0) rfl ?_
 refine gRg (c := q16c1) rfl rfl ?_
 refine wl_v 0 rfl (vAs rfl) gn rfl ?_
 refine wl_v 1 rfl (vAs rfl) gn rfl ?_
 refine w_end 2 rfl ?_
 refine gSq (c := q16c2) rfl ?_
 refine gSq (c := q16c3) rfl ?_
 have j1 : ∀ (x21 : Bool) (h : json_Int_j1 x6 x1 x21 r) , G (json_Int_C w F r) [.code q16c6, .code q16c4] [(0, .slice A2 n3 c4), (1, .int .i64 x6), (31, .bool x21)] [] [Sm w.heap.size F w [], St w []] := by
  intro x21 h
  unfold json_Int_j1 at h
  by_cases hp22 : x21 = true
  ·have h := if_pos' hp22 h
   refine gTr (c := q16c6) rfl _ rfl (hp22) ?_
   refine gSq (c := q16c7) rfl ?_
   refine gRg (c := q16c9) rfl rfl ?_
   refine wl_v 0 rfl (vAs rfl) gn rfl ?_
   refine wl_v 1 rfl (vAs rfl) gn rfl ?_
   refine w_end 2 rfl ?_
   refine g_retR (c := q16c10) [.int .i64 0, .bool false] rfl Tryd.func16 rfl (.tmp rfl (.tmp rfl (.nil))) fun wr hLr => ?_
   have hMr : B.Loc w wr [] [St w []] := hLr.pick0 (sels [1] rfl)
   show json_Int_R w F  r (.returned (packV [.int .i64 0, .bool false])) wr
   rw [h]
   exact ⟨rfl, hMr⟩
  ·have h := if_neg' hp22 h
   refine gFa (c := q16c6) rfl _ rfl ((bf hp22)) ?_
   refine g_skip (c := q16c8) rfl ?_
   refine gSq (c := q16c4) rfl ?_
   refine gRg (c := q16c11) rfl rfl ?_
   refine wl_v 0 rfl (vMv rfl) gn rfl ?_
   refine wl_v 1 rfl (vMv rfl) gn rfl ?_
   obtain ⟨hb23, h⟩ := h
   have hr24 := Rw.readF (s := St w []) (hl := hl_api_JNode) (h1 := h1_api_JNode) h5 hb23
   refine wl_v 2 rfl (v_idxR (s := St w []) slE_22 rfl rfl h5 hb23) gn rfl ?_
   refine wl_v 3 rfl (v_fldA fo_31_2 rfl) gn rfl ?_
   refine wl_v 4 rfl (v_ldA1 (kk := (x6 : Int).toNat * 4) (j := 2) (St w []) ld_9 rfl hr24 rfl (me 1 rfl)) gn rfl ?_
   obtain ⟨r28, hv29, h⟩ := h
   refine wl_s 5 rfl (sCl [.string ((ix x1 x6).text), .string (⟨#[45]⟩ : ByteArray)] rfl Tryd.func31 rfl rfl rfl fun w25 hL26 => ?_) gn
   have hp27 : List.Perm ([] : List Ent) (([] : List Ent) ++ ([] : List Ent)) := pIx [] [] rfl rfl (by kernel_rfl)
   refine Calls.mono (strings_CutPrefix_calls w25 (Fl ([] : List Snap)) ((ix x1 x6).text) (⟨#[45]⟩ : ByteArray) (hL26.hFl (Sl := ([] : List Snap)) hp27 (sels [] rfl)) (hL26.into hp27 (Fl ([] : List Snap))) r28 hv29) ?_
   rintro _ w30 ⟨rfl, hM31⟩
   have hL32 := hL26.call hp27 hM31
   refine ⟨_, _, _, rfl, hL32, ?_⟩
   refine wl_v 6 rfl (vMv rfl) gn rfl ?_
   refine wl_v 7 rfl (v_extract rfl rfl) gn rfl ?_
   refine wl_v 8 rfl (v_extract rfl rfl) gn rfl ?_
   refine wl_v 9 rfl (vAs rfl) gn rfl ?_
   refine wl_v 10 rfl (vAs rfl) gn rfl ?_
   refine w_end 11 rfl ?_
   refine gSq (c := q16c12) rfl ?_
   refine gRg (c := q16c13) rfl rfl ?_
   refine wl_v 0 rfl (vAs rfl) gn rfl ?_
   refine w_end 1 rfl ?_
   refine gSq (c := q16c14) rfl ?_
   refine gSq (c := q16c15) rfl ?_
   refine gRg (c := q16c17) rfl rfl ?_
   refine wl_v 0 rfl (vAs rfl) gn rfl ?_
   refine w_end 1 rfl ?_
   refine g_block (c := q16c18) rfl ?_
   refine g_loop (c := q16c19) rfl ?_
   have key2 : ∀ s, Rounds (fun (s : Int × Int) o => json_Int_b2 r28 s.1 s.2 o) s r → (fun (s : Int × Int) => ∀ (_ : Unit), G (json_Int_C w F r) [.code q16c20, .inLoop q16c20, .inBlock 0, .code q16c16] [(6, .string r28.1), (7, .bool r28.2), (8, .int .u64 s.1), (9, .int .i64 s.2)] [] [Sm w.heap.size F w [], St w []]) s := by
    intro s hs
    refine Rounds.ind (mot := (fun (s : Int × Int) => ∀ (_ : Unit), G (json_Int_C w F r) [.code q16c20, .inLoop q16c20, .inBlock 0, .code q16c16] [(6, .string r28.1), (7, .bool r28.2), (8, .int .u64 s.1), (9, .int .i64 s.2)] [] [Sm w.heap.size F w [], St w []])) ?_ hs
    clear hs s
    intro s o1 h hO1
    obtain ⟨x45, x46⟩ := s
    show ∀ (_ : Unit), G (json_Int_C w F r) [.code q16c20, .inLoop q16c20, .inBlock 0, .code q16c16] [(6, .string r28.1), (7, .bool r28.2), (8, .int .u64 x45), (9, .int .i64 x46)] [] [Sm w.heap.size F w [], St w []]
    intro _
    have h : json_Int_b2 r28 x45 x46 o1 := h
    unfold json_Int_b2 at h
    refine gSq (c := q16c20) rfl ?_
    refine gSq (c := q16c21) rfl ?_
    refine gRg (c := q16c23) rfl rfl ?_
    refine wl_v 0 rfl (vMv rfl) gn rfl ?_
    refine wl_v 1 rfl (vMv rfl) gn rfl ?_
    refine wl_v 2 rfl (v_lenS un_9 rfl) gn rfl ?_
    refine wl_v 3 rfl (vBn rfl rfl rfl) gn rfl ?_
    refine w_end 4 rfl ?_
    by_cases hp59 : x46 < (r28.1.size : Int)
    ·have h := if_pos' hp59 h
     refine gTr (c := q16c24) rfl _ rfl ((decide_eq_true hp59)) ?_
     refine g_skip (c := q16c25) rfl ?_
     refine gSq (c := q16c22) rfl ?_
     refine g_block (c := q16c27) rfl ?_
     refine gSq (c := q16c29) rfl ?_
     refine gSq (c := q16c30) rfl ?_
     have j3 : ∀ (x63 : Bool) (h : json_Int_j3 x46 r28 x45 x63 o1) , G (json_Int_C w F r) [.code q16c33, .code q16c31, .inBlock 1, .code q16c28, .inLoop q16c20, .inBlock 0, .code q16c16] [(6, .string r28.1), (7, .bool r28.2), (8, .int .u64 x45), (9, .int .i64 x46), (56, .bool x63)] [] [Sm w.heap.size F w [], St w []] := by
      intro x63 h
      unfold json_Int_j3 at h
      by_cases hp64 : x63 = true
      ·have h := if_pos' hp64 h
       refine gTr (c := q16c33) rfl _ rfl (hp64) ?_
       refine gSq (c := q16c34) rfl ?_
       refine gRg (c := q16c36) rfl rfl ?_
       refine wl_v 0 rfl (vAs rfl) gn rfl ?_
       refine wl_v 1 rfl (vAs rfl) gn rfl ?_
       refine w_end 2 rfl ?_
       have h := Out.inr hO1 h
       refine g_retR (c := q16c37) [.int .i64 0, .bool false] rfl Tryd.func16 rfl (.tmp rfl (.tmp rfl (.nil))) fun wr hLr => ?_
       have hMr : B.Loc w wr [] [St w []] := hLr.pick0 (sels [1] rfl)
       show json_Int_R w F  r (.returned (packV [.int .i64 0, .bool false])) wr
       rw [h]
       exact ⟨rfl, hMr⟩
      ·have h := if_neg' hp64 h
       refine gFa (c := q16c33) rfl _ rfl ((bf hp64)) ?_
       refine g_skip (c := q16c35) rfl ?_
       refine gSq (c := q16c31) rfl ?_
       refine gRg (c := q16c38) rfl rfl ?_
       refine wl_v 0 rfl (vMv rfl) gn rfl ?_
       refine wl_v 1 rfl (vMv rfl) gn rfl ?_
       obtain ⟨hb65, h⟩ := h
       refine wl_v 2 rfl (v_indexS un_9 rfl rfl hb65) gn rfl ?_
       refine wl_v 3 rfl (vBn rfl rfl rfl) gn rfl ?_
       refine wl_v 4 rfl (v_conv ⟨_, un_5⟩ un_50 rfl) gn rfl ?_
       refine wl_v 5 rfl (vAs rfl) gn rfl ?_
       refine w_end 6 rfl ?_
       refine gSq (c := q16c39) rfl ?_
       refine gSq (c := q16c40) rfl ?_
       refine gRg (c := q16c42) rfl rfl ?_
       refine wl_v 0 rfl (vMv rfl) gn rfl ?_
       refine wl_v 1 rfl (vMv rfl) gn rfl ?_
       refine wl_v 2 rfl (vBn rfl rfl rfl) gn rfl ?_
       refine wl_v 3 rfl (v_quo rfl rfl (by decide)) gn rfl ?_
       refine wl_v 4 rfl (vBn rfl rfl rfl) gn rfl ?_
       refine w_end 5 rfl ?_
       by_cases hp66 : x45 > IntKind.u64.wrap (Int.tdiv (IntKind.u64.wrap (9223372036854775808 - (IntKind.u64.wrap (IntKind.u8.wrap ((bt r28.1 x46) - 48))))) 10)
       ·have h := if_pos' hp66 h
        refine gTr (c := q16c43) rfl _ rfl ((decide_eq_true hp66)) ?_
        refine gSq (c := q16c44) rfl ?_
        refine gRg (c := q16c46) rfl rfl ?_
        refine wl_v 0 rfl (vAs rfl) gn rfl ?_
        refine wl_v 1 rfl (vAs rfl) gn rfl ?_
        refine w_end 2 rfl ?_
        have h := Out.inr hO1 h
        refine g_retR (c := q16c47) [.int .i64 0, .bool false] rfl Tryd.func16 rfl (.tmp rfl (.tmp rfl (.nil))) fun wr hLr => ?_
        have hMr : B.Loc w wr [] [St w []] := hLr.pick0 (sels [1] rfl)
        show json_Int_R w F  r (.returned (packV [.int .i64 0, .bool false])) wr
        rw [h]
        exact ⟨rfl, hMr⟩
       ·have h := if_neg' hp66 h
        refine gFa (c := q16c43) rfl _ rfl ((decide_eq_false hp66)) ?_
        refine g_skip (c := q16c45) rfl ?_
        refine gRg (c := q16c41) rfl rfl ?_
        refine wl_v 0 rfl (vMv rfl) gn rfl ?_
        refine wl_v 1 rfl (vBn rfl rfl rfl) gn rfl ?_
        refine wl_v 2 rfl (vMv rfl) gn rfl ?_
        refine wl_v 3 rfl (vBn rfl rfl rfl) gn rfl ?_
        refine wl_v 4 rfl (vAs rfl) gn rfl ?_
        refine w_end 5 rfl ?_
        refine g_inBlock ?_
        refine gRg (c := q16c28) rfl rfl ?_
        refine wl_v 0 rfl (vMv rfl) gn rfl ?_
        refine wl_v 1 rfl (vBn rfl rfl rfl) gn rfl ?_
        refine wl_v 2 rfl (vAs rfl) gn rfl ?_
        refine w_end 3 rfl ?_
        refine g_inLoop ?_
        have ih := Out.inl hO1 h
        exact g_go [0, 1] (ih ()) ⟨rfl, rfl, rfl, rfl, trivial⟩ (.slnil) rfl
     refine gRg (c := q16c32) rfl rfl ?_
     refine wl_v 0 rfl (vMv rfl) gn rfl ?_
     refine wl_v 1 rfl (vMv rfl) gn rfl ?_
     obtain ⟨hb67, h⟩ := h
     refine wl_v 2 rfl (v_indexS un_9 rfl rfl hb67) gn rfl ?_
     refine wl_v 3 rfl (vBn rfl rfl rfl) gn rfl ?_
     refine wl_v 4 rfl (vMv rfl) gn rfl ?_
     by_cases hp68 : bt r28.1 x46 < 48
     ·have h := if_pos' hp68 h
      refine w_bool 51 rfl ((decide_eq_true hp68)) ?_
      refine wl_pass 5 rfl (ps 51 rfl rfl rfl) ?_
      refine wl_pass 6 rfl (ps 51 rfl rfl rfl) ?_
      refine wl_pass 7 rfl (ps 51 rfl rfl rfl) ?_
      refine wl_pass 8 rfl (ps 51 rfl rfl rfl) ?_
      refine wl_v 9 rfl (v_pick (b := true) rfl rfl) gn rfl ?_
      refine w_end 10 rfl ?_
      exact g_go [0, 1] (j3 true h) ⟨rfl, rfl, rfl, rfl, rfl, trivial⟩ (.slnil) rfl
     ·have h := if_neg' hp68 h
      refine w_bool 51 rfl ((decide_eq_false hp68)) ?_
      refine wl_v 5 rfl (vMv rfl) (gy 51 rfl rfl) rfl ?_
      refine wl_v 6 rfl (vMv rfl) (gy 51 rfl rfl) rfl ?_
      refine wl_v 7 rfl (v_indexS un_9 rfl rfl hb67) (gy 51 rfl rfl) rfl ?_
      refine wl_v 8 rfl (vBn rfl rfl rfl) (gy 51 rfl rfl) rfl ?_
      refine wl_v 9 rfl (v_pick (b := false) rfl rfl) gn rfl ?_
      refine w_end 10 rfl ?_
      exact g_go [0, 1] (j3 (decide (bt r28.1 x46 > 57)) h) ⟨rfl, rfl, rfl, rfl, rfl, trivial⟩ (.slnil) rfl
    ·have h := if_neg' hp59 h
     refine gFa (c := q16c24) rfl _ rfl ((decide_eq_false hp59)) ?_
     refine g_exit (c := q16c26) [.code q16c16] rfl rfl ?_
     refine gSq (c := q16c16) rfl ?_
     refine g_block (c := q16c48) rfl ?_
     refine gSq (c := q16c50) rfl ?_
     refine gRg (c := q16c51) rfl rfl ?_
     refine wl_v 0 rfl (vMv rfl) gn rfl ?_
     refine wl_v 1 rfl (vAs rfl) gn rfl ?_
     refine w_end 2 rfl ?_
     by_cases hp69 : r28.2 = true
     ·have h := if_pos' hp69 h
      refine gTr (c := q16c52) rfl _ rfl (hp69) ?_
      refine gSq (c := q16c53) rfl ?_
      refine gRg (c := q16c55) rfl rfl ?_
      refine wl_v 0 rfl (vMv rfl) gn rfl ?_
      refine wl_v 1 rfl (v_neg rfl) gn rfl ?_
      refine wl_v 2 rfl (v_conv ⟨_, un_50⟩ un_3 rfl) gn rfl ?_
      refine wl_v 3 rfl (vAs rfl) gn rfl ?_
      refine wl_v 4 rfl (vAs rfl) gn rfl ?_
      refine w_end 5 rfl ?_
      have h := Out.inr hO1 h
      refine g_retR (c := q16c56) [.int .i64 (w64 (IntKind.u64.wrap (0 - x45))), .bool true] rfl Tryd.func16 rfl (.tmp rfl (.tmp rfl (.nil))) fun wr hLr => ?_
      have hMr : B.Loc w wr [] [St w []] := hLr.pick0 (sels [1] rfl)
      show json_Int_R w F  r (.returned (packV [.int .i64 (w64 (IntKind.u64.wrap (0 - x45))), .bool true])) wr
      rw [h]
      exact ⟨rfl, hMr⟩
     ·have h := if_neg' hp69 h
      refine gFa (c := q16c52) rfl _ rfl ((bf hp69)) ?_
      refine gSq (c := q16c54) rfl ?_
      refine gRg (c := q16c57) rfl rfl ?_
      refine wl_v 0 rfl (vMv rfl) gn rfl ?_
      refine wl_v 1 rfl (vBn rfl rfl rfl) gn rfl ?_
      refine wl_v 2 rfl (vAs rfl) gn rfl ?_
      refine w_end 3 rfl ?_
      by_cases hp70 : x45 > 9223372036854775807
      ·have h := if_pos' hp70 h
       refine gTr (c := q16c58) rfl _ rfl ((decide_eq_true hp70)) ?_
       refine gSq (c := q16c59) rfl ?_
       refine gRg (c := q16c63) rfl rfl ?_
       refine wl_v 0 rfl (vAs rfl) gn rfl ?_
       refine wl_v 1 rfl (vAs rfl) gn rfl ?_
       refine w_end 2 rfl ?_
       have h := Out.inr hO1 h
       refine g_retR (c := q16c64) [.int .i64 0, .bool false] rfl Tryd.func16 rfl (.tmp rfl (.tmp rfl (.nil))) fun wr hLr => ?_
       have hMr : B.Loc w wr [] [St w []] := hLr.pick0 (sels [1] rfl)
       show json_Int_R w F  r (.returned (packV [.int .i64 0, .bool false])) wr
       rw [h]
       exact ⟨rfl, hMr⟩
      ·have h := if_neg' hp70 h
       refine gFa (c := q16c58) rfl _ rfl ((decide_eq_false hp70)) ?_
       refine g_skip (c := q16c60) rfl ?_
       refine g_inBlock ?_
       refine gSq (c := q16c49) rfl ?_
       refine gRg (c := q16c61) rfl rfl ?_
       refine wl_v 0 rfl (vMv rfl) gn rfl ?_
       refine wl_v 1 rfl (v_conv ⟨_, un_50⟩ un_3 rfl) gn rfl ?_
       refine wl_v 2 rfl (vAs rfl) gn rfl ?_
       refine wl_v 3 rfl (vAs rfl) gn rfl ?_
       refine w_end 4 rfl ?_
       have h := Out.inr hO1 h
       refine g_retR (c := q16c62) [.int .i64 (w64 (x45)), .bool true] rfl Tryd.func16 rfl (.tmp rfl (.tmp rfl (.nil))) fun wr hLr => ?_
       have hMr : B.Loc w wr [] [St w []] := hLr.pick0 (sels [1] rfl)
       show json_Int_R w F  r (.returned (packV [.int .i64 (w64 (x45)), .bool true])) wr
       rw [h]
       exact ⟨rfl, hMr⟩
   exact g_go [0, 1] (key2 _ h ()) ⟨rfl, rfl, rfl, rfl, trivial⟩ (.slnil) rfl
 refine gRg (c := q16c5) rfl rfl ?_
 refine wl_v 0 rfl (vMv rfl) gn rfl ?_
 refine wl_v 1 rfl (vBn rfl rfl rfl) gn rfl ?_
 refine wl_v 2 rfl (vMv rfl) gn rfl ?_
 by_cases hp71 : x6 < 0
 ·have h := if_pos' hp71 h
  refine w_bool 13 rfl ((decide_eq_true hp71)) ?_
  refine wl_pass 3 rfl (ps 13 rfl rfl rfl) ?_
  refine wl_pass 4 rfl (ps 13 rfl rfl rfl) ?_
  refine wl_pass 5 rfl (ps 13 rfl rfl rfl) ?_
  refine wl_pass 6 rfl (ps 13 rfl rfl rfl) ?_
  refine wl_v 7 rfl (v_pick (b := true) rfl rfl) gn rfl ?_
  refine wl_v 8 rfl (vMv rfl) gn rfl ?_
  refine wl_pass 9 rfl (ps 19 rfl rfl rfl) ?_
  refine wl_pass 10 rfl (ps 19 rfl rfl rfl) ?_
  refine wl_pass 11 rfl (ps 19 rfl rfl rfl) ?_
  refine wl_pass 12 rfl (ps 19 rfl rfl rfl) ?_
  refine wl_pass 13 rfl (ps 19 rfl rfl rfl) ?_
  refine wl_pass 14 rfl (ps 19 rfl rfl rfl) ?_
  refine wl_v 15 rfl (v_pick (b := true) rfl rfl) gn rfl ?_
  refine wl_v 16 rfl (vMv rfl) gn rfl ?_
  refine wl_pass 17 rfl (ps 27 rfl rfl rfl) ?_
  refine wl_pass 18 rfl (ps 27 rfl rfl rfl) ?_
  refine wl_pass 19 rfl (ps 27 rfl rfl rfl) ?_
  refine wl_v 20 rfl (v_pick (b := true) rfl rfl) gn rfl ?_
  refine w_end 21 rfl ?_
  exact g_go [0, 1] (j1 true h) ⟨rfl, rfl, rfl, trivial⟩ (.slnil) rfl
 ·have h := if_neg' hp71 h
  refine w_bool 13 rfl ((decide_eq_false hp71)) ?_
  refine wl_v 3 rfl (vMv rfl) (gy 13 rfl rfl) rfl ?_
  refine wl_v 4 rfl (vMv rfl) (gy 13 rfl rfl) rfl ?_
  refine wl_v 5 rfl (v_lenQ un_22 rfl h5.hq) (gy 13 rfl rfl) rfl ?_
  refine wl_v 6 rfl (vBn rfl rfl rfl) (gy 13 rfl rfl) rfl ?_
  refine wl_v 7 rfl (v_pick (b := false) rfl rfl) gn rfl ?_
  refine wl_v 8 rfl (vMv rfl) gn rfl ?_
  by_cases hp72 : x6 ≥ (x1.length : Int)
  ·have h := if_pos' hp72 h
   refine w_bool 19 rfl ((decide_eq_true hp72)) ?_
   refine wl_pass 9 rfl (ps 19 rfl rfl rfl) ?_
   refine wl_pass 10 rfl (ps 19 rfl rfl rfl) ?_
   refine wl_pass 11 rfl (ps 19 rfl rfl rfl) ?_
   refine wl_pass 12 rfl (ps 19 rfl rfl rfl) ?_
   refine wl_pass 13 rfl (ps 19 rfl rfl rfl) ?_
   refine wl_pass 14 rfl (ps 19 rfl rfl rfl) ?_
   refine wl_v 15 rfl (v_pick (b := true) rfl rfl) gn rfl ?_
   refine wl_v 16 rfl (vMv rfl) gn rfl ?_
   refine wl_pass 17 rfl (ps 27 rfl rfl rfl) ?_
   refine wl_pass 18 rfl (ps 27 rfl rfl rfl) ?_
   refine wl_pass 19 rfl (ps 27 rfl rfl rfl) ?_
   refine wl_v 20 rfl (v_pick (b := true) rfl rfl) gn rfl ?_
   refine w_end 21 rfl ?_
   exact g_go [0, 1] (j1 true h) ⟨rfl, rfl, rfl, trivial⟩ (.slnil) rfl
  ·have h := if_neg' hp72 h
   refine w_bool 19 rfl ((decide_eq_false hp72)) ?_
   refine wl_v 9 rfl (vMv rfl) (gy 19 rfl rfl) rfl ?_
   refine wl_v 10 rfl (vMv rfl) (gy 19 rfl rfl) rfl ?_
   obtain ⟨hb73, h⟩ := h
   have hr74 := Rw.readF (s := St w []) (hl := hl_api_JNode) (h1 := h1_api_JNode) h5 hb73
   refine wl_v 11 rfl (v_idxR (s := St w []) slE_22 rfl rfl h5 hb73) (gy 19 rfl rfl) rfl ?_
   refine wl_v 12 rfl (v_fldA fo_31_0 rfl) (gy 19 rfl rfl) rfl ?_
   refine wl_v 13 rfl (v_ldA1 (kk := (x6 : Int).toNat * 4) (j := 0) (St w []) ld_29 rfl hr74 rfl (me 1 rfl)) (gy 19 rfl rfl) rfl ?_
   refine wl_v 14 rfl (vBn rfl rfl rfl) (gy 19 rfl rfl) rfl ?_
   refine wl_v 15 rfl (v_pick (b := false) rfl rfl) gn rfl ?_
   refine wl_v 16 rfl (vMv rfl) gn rfl ?_
   by_cases hp75 : (ix x1 x6).kind = 4
   ·have h := if_pos' hp75 h
    refine w_bool 27 rfl ((eqib hp75)) ?_
    refine wl_v 17 rfl (vMv rfl) (gy 27 rfl rfl) rfl ?_
    obtain ⟨r79, hv80, h⟩ := h
    refine wl_s 18 rfl (sCl [.slice A2 n3 c4] rfl Tryd.func21 rfl rfl rfl fun w76 hL77 => ?_) (gy 27 rfl rfl)
    have hp78 : List.Perm ([] : List Ent) (([] : List Ent) ++ ([] : List Ent)) := pIx [] [] rfl rfl (by kernel_rfl)
    refine Calls.mono (json_Shaped_calls w76 (Fl ([] : List Snap)) x1 A2 n3 c4 (Rw.mono h5 (hL77.toSt hp78 (me 1 rfl))) (hL77.tt hp78 hG1 (me 1 rfl)) (hL77.tt hp78 hG2 (me 1 rfl)) (hL77.hFl (Sl := ([] : List Snap)) hp78 (sels [] rfl)) (hL77.into hp78 (Fl ([] : List Snap))) r79 hv80) ?_
    rintro _ w81 ⟨rfl, hM82⟩
    have hL83 := hL77.call hp78 hM82
    refine ⟨_, _, _, rfl, hL83, ?_⟩
    refine wl_v 19 rfl (v_not rfl) (gy 27 rfl rfl) rfl ?_
    refine wl_v 20 rfl (v_pick (b := false) rfl rfl) gn rfl ?_
    refine w_end 21 rfl ?_
    exact g_go [0, 1] (j1 (!r79) h) ⟨rfl, rfl, rfl, trivial⟩ (.slnil) rfl
   ·have h := if_neg' hp75 h
    refine w_bool 27 rfl ((neib hp75)) ?_
    refine wl_pass 17 rfl (ps 27 rfl rfl rfl) ?_
    refine wl_pass 18 rfl (ps 27 rfl rfl rfl) ?_
    refine wl_pass 19 rfl (ps 27 rfl rfl rfl) ?_
    refine wl_v 20 rfl (v_pick (b := true) rfl rfl) gn rfl ?_
    refine w_end 21 rfl ?_
    exact g_go [0, 1] (j1 true h) ⟨rfl, rfl, rfl, trivial⟩ (.slnil) rfl
noncomputable abbrev q27c0 : Code := bodyOf Tryd.f27
noncomputable abbrev q27c1 := Code.fst q27c0
noncomputable abbrev q27c2 := Code.snd q27c0
noncomputable abbrev q27c3 := Code.fst q27c2
noncomputable abbrev q27c4 := Code.snd q27c2
noncomputable abbrev q27c5 := Code.fst q27c3
noncomputable abbrev q27c6 := Code.snd q27c3
noncomputable abbrev q27c7 := Code.fst q27c6
noncomputable abbrev q27c8 := Code.snd q27c6
noncomputable abbrev q27c9 := Code.fst q27c4
noncomputable abbrev q27c10 := Code.snd q27c4
noncomputable abbrev q27c11 := Code.fst q27c9
noncomputable abbrev q27c12 := Code.snd q27c9
noncomputable abbrev q27c13 := Code.fst q27c12
noncomputable abbrev q27c14 := Code.fst q27c13
noncomputable abbrev q27c15 := Code.fst q27c14
noncomputable abbrev q27c16 := Code.snd q27c14
noncomputable abbrev q27c17 := Code.fst q27c15
noncomputable abbrev q27c18 := Code.snd q27c15
noncomputable abbrev q27c19 := Code.fst q27c18
noncomputable abbrev q27c20 := Code.snd q27c18
noncomputable abbrev q27c21 := Code.fst q27c16
noncomputable abbrev q27c22 := Code.snd q27c16
noncomputable abbrev q27c23 := Code.fst q27c21
noncomputable abbrev q27c24 := Code.fst q27c23
noncomputable abbrev q27c25 := Code.snd q27c23
noncomputable abbrev q27c26 := Code.fst q27c25
noncomputable abbrev q27c27 := Code.snd q27c25
noncomputable abbrev q27c28 := Code.fst q27c26
noncomputable abbrev q27c29 := Code.snd q27c26
noncomputable abbrev q27c30 := Code.fst q27c10
noncomputable abbrev q27c31 := Code.snd q27c10
noncomputable abbrev q27c32 := Code.fst q27c7
noncomputable abbrev q27c33 := Code.snd q27c7
abbrev tl_same_R (w : World) (F : Nat → Prop) (r : Bool) : Ending → World → Prop := fun e w' => e = .returned (.bool r) ∧ B.Loc w w' [] [St w []]
noncomputable abbrev tl_same_C (w : World) (F : Nat → Prop) (r : Bool) : Cx := ⟨Tryd.prog, 27, Tryd.f27, 26, tl_same_R w F  r, w⟩
theorem tl_same_calls (w : World) (F : Nat → Prop) (x1 : List JNd) (x6 : List JNd) (A2 : Option Addr) (n3 : Nat) (c4 : Nat) (A7 : Option Addr) (n8 : Nat) (c9 : Nat) (h5 : Rw k_api_JNode w (St w []).av A2 n3 c4 x1) (h10 : Rw k_api_JNode w (St w []).av A7 n8 c9 x6) (hF : ∀ b, F b → b < w.heap.size ∧ ∀ o ∈ ([] : List (List Nat)), b ∉ o) (hL0 : B.Loc w w [] [Sm w.heap.size F w [], St w []]) (r : Bool) (h : tl_same x1 x6 r) : Calls Tryd.prog 27 #[.slice A2 n3 c4, .slice A7 n8 c9] w (tl_same_R w F  r) := by
 unfold tl_same at h
 refine calls_of_Loc (vs := [.slice A2 n3 c4, .slice A7 n8 c9]) 26 Tryd.func27 rfl Tryd.ntmps27 rfl hL0 ?_
 show G (tl_same_C w F r) _ _ _ _
 refine gSq (c := q27c0) rfl ?_
 refine gRg (c := q27c1) rfl rfl ?_
 refine wl_v 0 rfl (vAs rfl) gn rfl ?_
 refine w_end 1 rfl ?_
 refine gSq (c := q27c2) rfl ?_
 refine gSq (c := q27c3) rfl ?_
 refine gRg (c := q27c5) rfl rfl ?_
 refine wl_v 0 rfl (vMv rfl) gn rfl ?_
 refine wl_v 1 rfl (v_lenQ un_22 rfl h5.hq) gn rfl ?_
 refine wl_v 2 rfl (vMv rfl) gn rfl ?_
 refine wl_v 3 rfl (v_lenQ un_22 rfl h10.hq) gn rfl ?_
 refine wl_v 4 rfl (vBn rfl rfl rfl) gn rfl ?_
 refine w_end 5 rfl ?_
 by_cases hp11 : (x1.length : Int) = (x6.length : Int)
 ·have h := if_pos' hp11 h
  refine gFa (c := q27c6) rfl _ rfl ((eqib hp11)) ?_
  refine g_skip (c := q27c8) rfl ?_
  refine gSq (c := q27c4) rfl ?_
  refine gSq (c := q27c9) rfl ?_
  refine gRg (c := q27c11) rfl rfl ?_
  refine wl_v 0 rfl (vAs rfl) gn rfl ?_
  refine w_end 1 rfl ?_
  refine g_block (c := q27c12) rfl ?_
  refine g_loop (c := q27c13) rfl ?_
  have key1 : ∀ s, Rounds (fun (s : Int) o => tl_same_b1 x1 x6 s o) s r → (fun (s : Int) => ∀ (_ : Unit), G (tl_same_C w F r) [.code q27c14, .inLoop q27c14, .inBlock 0, .code q27c10] [(0, .slice A2 n3 c4), (1, .slice A7 n8 c9), (5, .int .i64 s)] [] [Sm w.heap.size F w [], St w []]) s := by
   intro s hs
   refine Rounds.ind (mot := (fun (s : Int) => ∀ (_ : Unit), G (tl_same_C w F r) [.code q27c14, .inLoop q27c14, .inBlock 0, .code q27c10] [(0, .slice A2 n3 c4), (1, .slice A7 n8 c9), (5, .int .i64 s)] [] [Sm w.heap.size F w [], St w []])) ?_ hs
   clear hs s
   intro x23 o1 h hO1
   show ∀ (_ : Unit), G (tl_same_C w F r) [.code q27c14, .inLoop q27c14, .inBlock 0, .code q27c10] [(0, .slice A2 n3 c4), (1, .slice A7 n8 c9), (5, .int .i64 x23)] [] [Sm w.heap.size F w [], St w []]
   intro _
   have h : tl_same_b1 x1 x6 x23 o1 := h
   unfold tl_same_b1 at h
   refine gSq (c := q27c14) rfl ?_
   refine gSq (c := q27c15) rfl ?_
   refine gRg (c := q27c17) rfl rfl ?_
   refine wl_v 0 rfl (vMv rfl) gn rfl ?_
   refine wl_v 1 rfl (vMv rfl) gn rfl ?_
   refine wl_v 2 rfl (v_lenQ un_22 rfl h5.hq) gn rfl ?_
   refine wl_v 3 rfl (vBn rfl rfl rfl) gn rfl ?_
   refine w_end 4 rfl ?_
   by_cases hp34 : x23 < (x1.length : Int)
   ·have h := if_pos' hp34 h
    refine gTr (c := q27c18) rfl _ rfl ((decide_eq_true hp34)) ?_
    refine g_skip (c := q27c19) rfl ?_
    refine gSq (c := q27c16) rfl ?_
    refine g_block (c := q27c21) rfl ?_
    refine gSq (c := q27c23) rfl ?_
    obtain ⟨hb35, h⟩ := h
    obtain ⟨hb37, h⟩ := h
    have hns : Region.noSelect (Code.ops q27c24) = true := by kernel_rfl
    refine g_drawF (c := q27c24) [] [Sm w.heap.size F w [], St w []] [] 9 rfl rfl mix rfl (.slnil) (sels [0, 1] rfl) ?_
    refine wfv 0 rfl (vMv rfl) gn hns rfl ?_
    refine wfv 1 rfl (vMv rfl) gn hns rfl ?_
    have hr41 := Rw.readF (s := St w []) (hl := hl_api_JNode) (h1 := h1_api_JNode) h5 hb35
    refine wfv 2 rfl (v_idxR (s := St w []) slE_22 rfl rfl h5 hb35) gn hns rfl ?_
    refine wfv 3 rfl (v_ldA (St w []) ld_31 rfl hr41 rfl (me 1 rfl)) gn hns rfl ?_
    refine wfv 4 rfl (vMv rfl) gn hns rfl ?_
    refine wfv 5 rfl (vMv rfl) gn hns rfl ?_
    have hr42 := Rw.readF (s := St w []) (hl := hl_api_JNode) (h1 := h1_api_JNode) h10 hb37
    refine wfv 6 rfl (v_idxR (s := St w []) slE_22 rfl rfl h10 hb37) gn hns rfl ?_
    refine wfv 7 rfl (v_ldA (St w []) ld_31 rfl hr42 rfl (me 1 rfl)) gn hns rfl ?_
    refine wfv 8 rfl (v_neSt eq_31 rfl rfl (eqd_api_JNode (ix x1 x23) (ix x6 x23))) gn hns rfl ?_
    refine wf_end (by kernel_rfl) ?_
    by_cases hp43 : ix x1 x23 = ix x6 x23
    ·have h := if_pos' hp43 h
     refine gFa (c := q27c25) rfl _ rfl ((nf (decide_eq_true hp43))) ?_
     refine g_skip (c := q27c27) rfl ?_
     refine g_inBlock ?_
     refine gRg (c := q27c22) rfl rfl ?_
     refine wl_v 0 rfl (vMv rfl) gn rfl ?_
     refine wl_v 1 rfl (vBn rfl rfl rfl) gn rfl ?_
     refine wl_v 2 rfl (vAs rfl) gn rfl ?_
     refine w_end 3 rfl ?_
     refine g_inLoop ?_
     have ih := Out.inl hO1 h
     exact g_go [0, 1] (ih ()) ⟨rfl, rfl, rfl, trivial⟩ (.slnil) rfl
    ·have h := if_neg' hp43 h
     refine gTr (c := q27c25) rfl _ rfl ((nt (decide_eq_false hp43))) ?_
     refine gSq (c := q27c26) rfl ?_
     refine gRg (c := q27c28) rfl rfl ?_
     refine wl_v 0 rfl (vAs rfl) gn rfl ?_
     refine w_end 1 rfl ?_
     have h := Out.inr hO1 h
     refine g_retR (c := q27c29) [.bool false] rfl Tryd.func27 rfl (.tmp rfl (.nil)) fun wr hLr => ?_
     have hMr : B.Loc w wr [] [St w []] := hLr.pick0 (sels [1] rfl)
     show tl_same_R w F  r (.returned (packV [.bool false])) wr
     rw [h]
     exact ⟨rfl, hMr⟩
   ·have h := if_neg' hp34 h
    refine gFa (c := q27c18) rfl _ rfl ((decide_eq_false hp34)) ?_
    refine g_exit (c := q27c20) [.code q27c10] rfl rfl ?_
    refine gSq (c := q27c10) rfl ?_
    refine gRg (c := q27c30) rfl rfl ?_
    refine wl_v 0 rfl (vAs rfl) gn rfl ?_
    refine w_end 1 rfl ?_
    have h := Out.inr hO1 h
    refine g_retR (c := q27c31) [.bool true] rfl Tryd.func27 rfl (.tmp rfl (.nil)) fun wr hLr => ?_
    have hMr : B.Loc w wr [] [St w []] := hLr.pick0 (sels [1] rfl)
    show tl_same_R w F  r (.returned (packV [.bool true])) wr
    rw [h]
    exact ⟨rfl, hMr⟩
  exact g_go [0, 1] (key1 _ h ()) ⟨rfl, rfl, rfl, trivial⟩ (.slnil) rfl
 ·have h := if_neg' hp11 h
  refine gTr (c := q27c6) rfl _ rfl ((neib hp11)) ?_
  refine gSq (c := q27c7) rfl ?_
  refine gRg (c := q27c32) rfl rfl ?_
  refine wl_v 0 rfl (vAs rfl) gn rfl ?_
  refine w_end 1 rfl ?_
  refine g_retR (c := q27c33) [.bool false] rfl Tryd.func27 rfl (.tmp rfl (.nil)) fun wr hLr => ?_
  have hMr : B.Loc w wr [] [St w []] := hLr.pick0 (sels [1] rfl)
  show tl_same_R w F  r (.returned (packV [.bool false])) wr
  rw [h]
  exact ⟨rfl, hMr⟩
noncomputable abbrev q51c0 : Code := bodyOf Tryd.f51
noncomputable abbrev q51c1 := Code.fst q51c0
noncomputable abbrev q51c2 := Code.snd q51c0
noncomputable abbrev q51c3 := Code.fst q51c2
noncomputable abbrev q51c4 := Code.snd q51c2
noncomputable abbrev q51c5 := Code.fst q51c4
noncomputable abbrev q51c6 := Code.snd q51c4
noncomputable abbrev q51c8 := Code.snd q51c6
abbrev strings_Builder_copyCheck_R (w : World) (F : Nat → Prop) (g2 : Nat) (v3 : Value) (r : strings_Builder) : Ending → World → Prop := fun e w' => e = .returned (.tuple #[]) ∧ B.Loc w w' [.box g2 56 [selfP g2 r.addr, v3]] [St w [[g2]]]
noncomputable abbrev strings_Builder_copyCheck_C (w : World) (F : Nat → Prop) (g2 : Nat) (v3 : Value) (r : strings_Builder) : Cx := ⟨Tryd.prog, 51, Tryd.f51, 20, strings_Builder_copyCheck_R w F g2 v3 r, w⟩
theorem strings_Builder_copyCheck_calls (w : World) (F : Nat → Prop) (x1 : strings_Builder) (g2 : Nat) (v3 : Value) (hF : ∀ b, F b → b < w.heap.size ∧ ∀ o ∈ ([[g2]] : List (List Nat)), b ∉ o) (hL0 : B.Loc w w [.box g2 56 [selfP g2 x1.addr, v3]] [Sm w.heap.size F w [[g2]], St w [[g2]]]) (r : strings_Builder) (h : strings_Builder_copyCheck x1 r) : Calls Tryd.prog 51 #[.pointer (some ⟨g2, 0, none⟩)] w (strings_Builder_copyCheck_R w F g2 v3 r) := by
 unfold strings_Builder_copyCheck at h
 refine calls_of_Loc (vs := [.pointer (some ⟨g2, 0, none⟩)]) 20 Tryd.func51 rfl Tryd.ntmps51 rfl hL0 ?_
 show G (strings_Builder_copyCheck_C w F g2 v3 r) _ _ _ _
 refine gSq (c := q51c0) rfl ?_
 refine gRg (c := q51c1) rfl rfl ?_
 refine wl_v 0 rfl (vMv rfl) gn rfl ?_
 refine wl_v 1 rfl (vNc rfl) gn rfl ?_
 refine wl_v 2 rfl (vFB fo_56_0 rfl) gn rfl ?_
 refine wl_v 3 rfl (v_ldB1 0 ld_53 rfl rfl rfl) gn rfl ?_
 refine wl_v 4 rfl (v_eqSelf (gb := g2) (b := x1.addr) un_53 rfl rfl) gn rfl ?_
 refine w_end 5 rfl ?_
 by_cases hp4 : x1.addr = true
 ·have h := if_pos' hp4 h
  refine gFa (c := q51c2) rfl _ rfl ((nf hp4)) ?_
  refine gSq (c := q51c4) rfl ?_
  refine gRg (c := q51c5) rfl rfl ?_
  refine wl_v 0 rfl (vMv rfl) gn rfl ?_
  refine wl_v 1 rfl (vNc rfl) gn rfl ?_
  refine wl_v 2 rfl (vFB fo_56_0 rfl) gn rfl ?_
  refine wl_v 3 rfl (v_ldB1 0 ld_53 rfl rfl rfl) gn rfl ?_
  refine wl_v 4 rfl (vMv rfl) gn rfl ?_
  refine wl_v 5 rfl (v_neSelf (gb := g2) (b := x1.addr) pt_53 rfl rfl) gn rfl ?_
  refine w_end 6 rfl ?_
  refine gFa (c := q51c6) rfl _ rfl ((nf hp4)) ?_
  refine g_skip (c := q51c8) rfl ?_
  refine g_endR [] Tryd.func51 rfl (.nil) fun wr hLr => ?_
  have hMr : B.Loc w wr [.box g2 56 [selfP g2 x1.addr, v3]] [St w [[g2]]] := hLr.pick (rest := []) (pIx [0] [] rfl rfl (by kernel_rfl)) (sels [1] rfl)
  show strings_Builder_copyCheck_R w F g2 v3 r (.returned (packV [])) wr
  rw [h]
  exact ⟨rfl, hMr⟩
 ·have h := if_neg' hp4 h
  refine gTr (c := q51c2) rfl _ rfl ((nt (bf hp4))) ?_
  refine gRg (c := q51c3) rfl rfl ?_
  refine wl_v 0 rfl (vMv rfl) gn rfl ?_
  refine wl_v 1 rfl (vMv rfl) gn rfl ?_
  refine wl_v 2 rfl (v_toU 0 pt_53 un_92 rfl rfl rfl) gn rfl ?_
  refine wl_v 3 rfl (v_ext [.pointer (some ⟨g2, 0, none⟩)] rfl Tryd.func68 rfl rfl (by kernel_rfl) (by kernel_rfl) (fun w => x_noEscape _ w)) gn rfl ?_
  refine wl_v 4 rfl (v_fromU 0 un_92 li_53_56_0 rfl rfl rfl) gn rfl ?_
  refine wl_v 5 rfl (vNc rfl) gn rfl ?_
  refine wl_v 6 rfl (vFB fo_56_0 rfl) gn rfl ?_
  refine wl_s 7 rfl (s_stB (vs := [.pointer (some ⟨g2, 0, none⟩)]) (cs' := [.pointer (some ⟨g2, 0, none⟩), v3]) (M' := [.box g2 56 [.pointer (some ⟨g2, 0, none⟩), v3]]) 0 sz_53 rfl rfl rfl rfl rfl rfl rfl rfl rfl ?_) gn
  refine w_end 8 rfl ?_
  refine g_endR [] Tryd.func51 rfl (.nil) fun wr hLr => ?_
  have hMr : B.Loc w wr [.box g2 56 [.pointer (some ⟨g2, 0, none⟩), v3]] [St w [[g2]]] := hLr.pick (rest := []) (pIx [0] [] rfl rfl (by kernel_rfl)) (sels [1] rfl)
  show strings_Builder_copyCheck_R w F g2 v3 r (.returned (packV [])) wr
  rw [h]
  exact ⟨rfl, hMr⟩
noncomputable abbrev q36c0 : Code := bodyOf Tryd.f36
noncomputable abbrev q36c1 := Code.fst q36c0
noncomputable abbrev q36c2 := Code.snd q36c0
noncomputable abbrev q36c3 := Code.fst q36c2
noncomputable abbrev q36c4 := Code.snd q36c2
noncomputable abbrev q36c5 := Code.fst q36c4
noncomputable abbrev q36c6 := Code.snd q36c4
noncomputable abbrev q36c7 := Code.fst q36c6
noncomputable abbrev q36c8 := Code.snd q36c6
abbrev strings_Builder_WriteByte_R (w : World) (F : Nat → Prop) (g2 : Nat) (A3 : Option Addr) (n4 : Nat) (c5 : Nat) (z7 : Nat) (r : strings_Builder) : Ending → World → Prop := fun e w' => ∃ A0 : Option Addr, ∃ n0 : Nat, ∃ c0 : Nat, e = .returned (.nilIface) ∧ B.Loc w w' [.box g2 56 [selfP g2 r.addr, .slice A0 n0 c0], .own (.slice A0 n0 c0) 5 1 n0 (r.buf.flatMap (eI .u8))] [St w [[g2], (Value.slice A3 n4 c5).ownBlock.toList]] ∧ Ow z7 A0 n0 c0 r.buf
noncomputable abbrev strings_Builder_WriteByte_C (w : World) (F : Nat → Prop) (g2 : Nat) (A3 : Option Addr) (n4 : Nat) (c5 : Nat) (z7 : Nat) (r : strings_Builder) : Cx := ⟨Tryd.prog, 36, Tryd.f36, 17, strings_Builder_WriteByte_R w F g2 A3 n4 c5 z7 r, w⟩
theorem strings_Builder_WriteByte_calls (w : World) (F : Nat → Prop) (x1 : strings_Builder) (x9 : Int) (g2 : Nat) (z7 : Nat) (A3 : Option Addr) (n4 : Nat) (c5 : Nat) (hz8 : z7 ≤ w.heap.size) (h6 : Ow z7 A3 n4 c5 x1.buf) (hF : ∀ b, F b → b < w.heap.size ∧ ∀ o ∈ ([[g2], (Value.slice A3 n4 c5).ownBlock.toList] : List (List Nat)), b ∉ o) (hL0 : B.Loc w w [.box g2 56 [selfP g2 x1.addr, .slice A3 n4 c5], .own (.slice A3 n4 c5) 5 1 n4 (x1.buf.flatMap (eI .u8))] [Sm w.heap.size F w [[g2], (Value.slice A3 n4 c5).ownBlock.toList], St w [[g2], (Value.slice A3 n4 c5).ownBlock.toList]]) (r : strings_Builder) (h : strings_Builder_WriteByte x1 x9 r) : Calls Tryd.prog 36 #[.pointer (some ⟨g2, 0, none⟩), .int .u8 x9] w (strings_Builder_WriteByte_R w F g2 A3 n4 c5 z7 r) := by
 unfold strings_Builder_WriteByte at h
 refine calls_of_Loc (vs := [.pointer (some ⟨g2, 0, none⟩), .int .u8 x9]) 17 Tryd.func36 rfl Tryd.ntmps36 rfl hL0 ?_
 show G (strings_Builder_WriteByte_C w F g2 A3 n4 c5 z7 r) _ _ _ _
 refine gSq (c := q36c0) rfl ?_
 refine gRg (c := q36c1) rfl rfl ?_
 refine wl_v 0 rfl (vAs rfl) gn rfl ?_
 refine w_end 1 rfl ?_
 refine gSq (c := q36c2) rfl ?_
 refine gRg (c := q36c3) rfl rfl ?_
 refine wl_v 0 rfl (vMv rfl) gn rfl ?_
 obtain ⟨r13, hv14, h⟩ := h
 refine wl_s 1 rfl (sCl [.pointer (some ⟨g2, 0, none⟩)] rfl Tryd.func51 rfl rfl rfl fun w10 hL11 => ?_) gn
 have hp12 : List.Perm ([.box g2 56 [selfP g2 x1.addr, .slice A3 n4 c5], .own (.slice A3 n4 c5) 5 1 n4 (x1.buf.flatMap (eI .u8))] : List Ent) (([.box g2 56 [selfP g2 x1.addr, .slice A3 n4 c5]] : List Ent) ++ ([.own (.slice A3 n4 c5) 5 1 n4 (x1.buf.flatMap (eI .u8))] : List Ent)) := pIx [0] [1] rfl rfl (by kernel_rfl)
 refine Calls.mono (strings_Builder_copyCheck_calls w10 (Fl ([] : List Snap)) x1 g2 (.slice A3 n4 c5) (hL11.hFl (Sl := ([] : List Snap)) hp12 (sels [] rfl)) (hL11.into hp12 (Fl ([] : List Snap))) r13 hv14) ?_
 rintro _ w15 ⟨rfl, hM16⟩
 have hL17 := hL11.call hp12 hM16
 refine ⟨_, _, _, rfl, hL17, ?_⟩
 refine w_end 2 rfl ?_
 refine gSq (c := q36c4) rfl ?_
 refine gRg (c := q36c5) rfl rfl ?_
 refine wl_v 0 rfl (vMv rfl) gn rfl ?_
 refine wl_v 1 rfl (vMv rfl) gn rfl ?_
 refine wl_v 2 rfl (vNc rfl) gn rfl ?_
 refine wl_v 3 rfl (vFB fo_56_1 rfl) gn rfl ?_
 refine wl_v 4 rfl (v_ldB1 0 ld_54 rfl rfl rfl) gn rfl ?_
 refine wl_v 5 rfl (vMv rfl) gn rfl ?_
 refine wl_s 6 rfl (s_litO (xs := ([x9] : List Int)) [.int .u8 x9] bs_54_1 rfl (by kernel_rfl) rfl rfl rfl rfl fun gb19 h20 => ?_) gn
 obtain ⟨x24, hv25, h⟩ := h
 obtain ⟨hb26, h⟩ := h
 refine wl_s 7 rfl (s_app (zs := x24) (cells' := x24.flatMap (eI .u8)) 2 ap_54 rfl rfl rfl h6 hz8 (Src.ownF (hl := (hlI .u8)) (h1 := (hone_int .u8)) 0 rfl h20) (by rw [hv25, List.flatMap_append] <;> rfl) (app_len hv25 h20.hq) hb26 rfl rfl fun A21 c22 h23 => ?_) gn
 refine wl_v 8 rfl (vNc rfl) gn rfl ?_
 refine wl_v 9 rfl (vFB fo_56_1 rfl) gn rfl ?_
 refine wl_s 10 rfl (s_stB (vs := [.slice A21 (n4 + 1) c22]) (cs' := [selfP g2 r13.addr, .slice A21 (n4 + 1) c22]) (M' := [.own (.slice (some ⟨gb19, 0, none⟩) 1 1) 5 1 1 (([x9] : List Int).flatMap (eI .u8)), .box g2 56 [selfP g2 r13.addr, .slice A21 (n4 + 1) c22], .own (.slice A21 (n4 + 1) c22) 5 1 (n4 + 1) (x24.flatMap (eI .u8))]) 1 sz_54 rfl rfl rfl rfl rfl rfl rfl rfl rfl ?_) gn
 refine w_end 11 rfl ?_
 refine gSq (c := q36c6) rfl ?_
 refine gRg (c := q36c7) rfl rfl ?_
 refine wl_v 0 rfl (vAs rfl) gn rfl ?_
 refine w_end 1 rfl ?_
 refine g_retR (c := q36c8) [.nilIface] rfl Tryd.func36 rfl (.tmp rfl (.nil)) fun wr hLr => ?_
 have hMr : B.Loc w wr [.box g2 56 [selfP g2 r13.addr, .slice A21 (n4 + 1) c22], .own (.slice A21 (n4 + 1) c22) 5 1 (n4 + 1) (x24.flatMap (eI .u8))] [St w [[g2], (Value.slice A3 n4 c5).ownBlock.toList]] := hLr.pick (rest := [.own (.slice (some ⟨gb19, 0, none⟩) 1 1) 5 1 1 (([x9] : List Int).flatMap (eI .u8))]) (pIx [1, 2] [0] rfl rfl (by kernel_rfl)) (sels [1] rfl)
 show strings_Builder_WriteByte_R w F g2 A3 n4 c5 z7 r (.returned (packV [.nilIface])) wr
 rw [h]
 exact ⟨A21, n4 + 1, c22, rfl, hMr, h23⟩
noncomputable abbrev q37c0 : Code := bodyOf Tryd.f37
noncomputable abbrev q37c1 := Code.fst q37c0
noncomputable abbrev q37c2 := Code.snd q37c0
noncomputable abbrev q37c3 := Code.fst q37c2
noncomputable abbrev q37c4 := Code.snd q37c2
noncomputable abbrev q37c5 := Code.fst q37c4
noncomputable abbrev q37c6 := Code.snd q37c4
noncomputable abbrev q37c7 := Code.fst q37c6
noncomputable abbrev q37c8 := Code.snd q37c6
abbrev strings_Builder_WriteString_R (w : World) (F : Nat → Prop) (g2 : Nat) (A3 : Option Addr) (n4 : Nat) (c5 : Nat) (z7 : Nat) (r : Int × strings_Builder) : Ending → World → Prop := fun e w' => ∃ A0 : Option Addr, ∃ n0 : Nat, ∃ c0 : Nat, e = .returned (.tuple #[.int .i64 r.1, .nilIface]) ∧ B.Loc w w' [.box g2 56 [selfP g2 r.2.addr, .slice A0 n0 c0], .own (.slice A0 n0 c0) 5 1 n0 (r.2.buf.flatMap (eI .u8))] [St w [[g2], (Value.slice A3 n4 c5).ownBlock.toList]] ∧ Ow z7 A0 n0 c0 r.2.buf
noncomputable abbrev strings_Builder_WriteString_C (w : World) (F : Nat → Prop) (g2 : Nat) (A3 : Option Addr) (n4 : Nat) (c5 : Nat) (z7 : Nat) (r : Int × strings_Builder) : Cx := ⟨Tryd.prog, 37, Tryd.f37, 19, strings_Builder_WriteString_R w F g2 A3 n4 c5 z7 r, w⟩
theorem strings_Builder_WriteString_calls (w : World) (F : Nat → Prop) (x1 : strings_Builder) (x9 : ByteArray) (g2 : Nat) (z7 : Nat) (A3 : Option Addr) (n4 : Nat) (c5 : Nat) (hz8 : z7 ≤ w.heap.size) (h6 : Ow z7 A3 n4 c5 x1.buf) (hF : ∀ b, F b → b < w.heap.size ∧ ∀ o ∈ ([[g2], (Value.slice A3 n4 c5).ownBlock.toList] : List (List Nat)), b ∉ o) (hL0 : B.Loc w w [.box g2 56 [selfP g2 x1.addr, .slice A3 n4 c5], .own (.slice A3 n4 c5) 5 1 n4 (x1.buf.flatMap (eI .u8))] [Sm w.heap.size F w [[g2], (Value.slice A3 n4 c5).ownBlock.toList], St w [[g2], (Value.slice A3 n4 c5).ownBlock.toList]]) (r : Int × strings_Builder) (h : strings_Builder_WriteString x1 x9 r) : Calls Tryd.prog 37 #[.pointer (some ⟨g2, 0, none⟩), .string x9] w (strings_Builder_WriteString_R w F g2 A3 n4 c5 z7 r) := by
 unfold strings_Builder_WriteString at h
 refine calls_of_Loc (vs := [.pointer (some ⟨g2, 0, none⟩), .string x9]) 19 Tryd.func37 rfl Tryd.ntmps37 rfl hL0 ?_
 show G (strings_Builder_WriteString_C w F g2 A3 n4 c5 z7 r) _ _ _ _
 refine gSq (c := q37c0) rfl ?_
 refine gRg (c := q37c1) rfl rfl ?_
 refine wl_v 0 rfl (vAs rfl) gn rfl ?_
 refine wl_v 1 rfl (vAs rfl) gn rfl ?_
 refine w_end 2 rfl ?_
 refine gSq (c := q37c2) rfl ?_
 refine gRg (c := q37c3) rfl rfl ?_
 refine wl_v 0 rfl (vMv rfl) gn rfl ?_
 obtain ⟨r13, hv14, h⟩ := h
 refine wl_s 1 rfl (sCl [.pointer (some ⟨g2, 0, none⟩)] rfl Tryd.func51 rfl rfl rfl fun w10 hL11 => ?_) gn
 have hp12 : List.Perm ([.box g2 56 [selfP g2 x1.addr, .slice A3 n4 c5], .own (.slice A3 n4 c5) 5 1 n4 (x1.buf.flatMap (eI .u8))] : List Ent) (([.box g2 56 [selfP g2 x1.addr, .slice A3 n4 c5]] : List Ent) ++ ([.own (.slice A3 n4 c5) 5 1 n4 (x1.buf.flatMap (eI .u8))] : List Ent)) := pIx [0] [1] rfl rfl (by kernel_rfl)
 refine Calls.mono (strings_Builder_copyCheck_calls w10 (Fl ([] : List Snap)) x1 g2 (.slice A3 n4 c5) (hL11.hFl (Sl := ([] : List Snap)) hp12 (sels [] rfl)) (hL11.into hp12 (Fl ([] : List Snap))) r13 hv14) ?_
 rintro _ w15 ⟨rfl, hM16⟩
 have hL17 := hL11.call hp12 hM16
 refine ⟨_, _, _, rfl, hL17, ?_⟩
 refine w_end 2 rfl ?_
 refine gSq (c := q37c4) rfl ?_
 refine gRg (c := q37c5) rfl rfl ?_
 refine wl_v 0 rfl (vMv rfl) gn rfl ?_
 refine wl_v 1 rfl (vMv rfl) gn rfl ?_
 refine wl_v 2 rfl (vNc rfl) gn rfl ?_
 refine wl_v 3 rfl (vFB fo_56_1 rfl) gn rfl ?_
 refine wl_v 4 rfl (v_ldB1 0 ld_54 rfl rfl rfl) gn rfl ?_
 refine wl_v 5 rfl (vMv rfl) gn rfl ?_
 obtain ⟨x21, hv22, h⟩ := h
 obtain ⟨hb23, h⟩ := h
 refine wl_s 6 rfl (s_appS (zs := x21) 1 as_54_9 rfl rfl rfl h6 hz8 hv22 hb23 rfl fun A18 c19 h20 => ?_) gn
 refine wl_v 7 rfl (vNc rfl) gn rfl ?_
 refine wl_v 8 rfl (vFB fo_56_1 rfl) gn rfl ?_
 refine wl_s 9 rfl (s_stB (vs := [.slice A18 (n4 + x9.size) c19]) (cs' := [selfP g2 r13.addr, .slice A18 (n4 + x9.size) c19]) (M' := [.box g2 56 [selfP g2 r13.addr, .slice A18 (n4 + x9.size) c19], .own (.slice A18 (n4 + x9.size) c19) 5 1 (n4 + x9.size) (x21.flatMap (eI .u8))]) 0 sz_54 rfl rfl rfl rfl rfl rfl rfl rfl rfl ?_) gn
 refine w_end 10 rfl ?_
 refine gSq (c := q37c6) rfl ?_
 refine gRg (c := q37c7) rfl rfl ?_
 refine wl_v 0 rfl (vMv rfl) gn rfl ?_
 refine wl_v 1 rfl (v_lenS un_9 rfl) gn rfl ?_
 refine wl_v 2 rfl (vAs rfl) gn rfl ?_
 refine wl_v 3 rfl (vAs rfl) gn rfl ?_
 refine w_end 4 rfl ?_
 refine g_retR (c := q37c8) [.int .i64 (x9.size : Int), .nilIface] rfl Tryd.func37 rfl (.tmp rfl (.tmp rfl (.nil))) fun wr hLr => ?_
 have hMr : B.Loc w wr [.box g2 56 [selfP g2 r13.addr, .slice A18 (n4 + x9.size) c19], .own (.slice A18 (n4 + x9.size) c19) 5 1 (n4 + x9.size) (x21.flatMap (eI .u8))] [St w [[g2], (Value.slice A3 n4 c5).ownBlock.toList]] := hLr.pick (rest := []) (pIx [0, 1] [] rfl rfl (by kernel_rfl)) (sels [1] rfl)
 show strings_Builder_WriteString_R w F g2 A3 n4 c5 z7 r (.returned (packV [.int .i64 (x9.size : Int), .nilIface])) wr
 rw [h]
 exact ⟨A18, n4 + x9.size, c19, rfl, hMr, h20⟩
noncomputable abbrev q35c0 : Code := bodyOf Tryd.f35
noncomputable abbrev q35c1 := Code.fst q35c0
noncomputable abbrev q35c2 := Code.snd q35c0
noncomputable abbrev q35c3 := Code.fst q35c2
noncomputable abbrev q35c4 := Code.snd q35c2
noncomputable abbrev q35c5 := Code.fst q35c3
noncomputable abbrev q35c6 := Code.snd q35c3
noncomputable abbrev q35c7 := Code.fst q35c6
noncomputable abbrev q35c8 := Code.fst q35c7
noncomputable abbrev q35c9 := Code.fst q35c8
noncomputable abbrev q35c10 := Code.snd q35c8
noncomputable abbrev q35c11 := Code.fst q35c9
noncomputable abbrev q35c12 := Code.snd q35c9
noncomputable abbrev q35c13 := Code.fst q35c12
noncomputable abbrev q35c14 := Code.snd q35c12
noncomputable abbrev q35c15 := Code.fst q35c10
noncomputable abbrev q35c16 := Code.snd q35c10
noncomputable abbrev q35c17 := Code.fst q35c15
noncomputable abbrev q35c18 := Code.fst q35c17
noncomputable abbrev q35c19 := Code.snd q35c17
noncomputable abbrev q35c20 := Code.fst q35c19
noncomputable abbrev q35c21 := Code.fst q35c20
noncomputable abbrev q35c22 := Code.snd q35c20
noncomputable abbrev q35c23 := Code.fst q35c22
noncomputable abbrev q35c24 := Code.snd q35c22
noncomputable abbrev q35c25 := Code.fst q35c24
noncomputable abbrev q35c26 := Code.snd q35c24
noncomputable abbrev q35c27 := Code.fst q35c26
noncomputable abbrev q35c28 := Code.snd q35c26
noncomputable abbrev q35c29 := Code.fst q35c27
noncomputable abbrev q35c30 := Code.snd q35c27
noncomputable abbrev q35c31 := Code.fst q35c30
noncomputable abbrev q35c32 := Code.snd q35c30
noncomputable abbrev q35c33 := Code.fst q35c23
noncomputable abbrev q35c34 := Code.snd q35c23
abbrev json_quote_R (w : World) (F : Nat → Prop) (g2 : Nat) (A3 : Option Addr) (n4 : Nat) (c5 : Nat) (z7 : Nat) (r : strings_Builder) : Ending → World → Prop := fun e w' => ∃ A0 : Option Addr, ∃ n0 : Nat, ∃ c0 : Nat, e = .returned (.tuple #[]) ∧ B.Loc w w' [.box g2 56 [selfP g2 r.addr, .slice A0 n0 c0], .own (.slice A0 n0 c0) 5 1 n0 (r.buf.flatMap (eI .u8))] [St w [[g2], (Value.slice A3 n4 c5).ownBlock.toList]] ∧ Ow z7 A0 n0 c0 r.buf
noncomputable abbrev json_quote_C (w : World) (F : Nat → Prop) (g2 : Nat) (A3 : Option Addr) (n4 : Nat) (c5 : Nat) (z7 : Nat) (r : strings_Builder) : Cx := ⟨Tryd.prog, 35, Tryd.f35, 49, json_quote_R w F g2 A3 n4 c5 z7 r, w⟩
theorem json_quote_calls (w : World) (F : Nat → Prop) (x1 : strings_Builder) (x9 : ByteArray) (g2 : Nat) (z7 : Nat) (A3 : Option Addr) (n4 : Nat) (c5 : Nat) (hz8 : z7 ≤ w.heap.size) (h6 : Ow z7 A3 n4 c5 x1.buf) (hG0 : Tt .u8 tb_0 0 (St w [[g2], (Value.slice A3 n4 c5).ownBlock.toList])) (hF : ∀ b, F b → b < w.heap.size ∧ ∀ o ∈ ([[g2], (Value.slice A3 n4 c5).ownBlock.toList] : List (List Nat)), b ∉ o) (hL0 : B.Loc w w [.box g2 56 [selfP g2 x1.addr, .slice A3 n4 c5], .own (.slice A3 n4 c5) 5 1 n4 (x1.buf.flatMap (eI .u8))] [Sm w.heap.size F w [[g2], (Value.slice A3 n4 c5).ownBlock.toList], St w [[g2], (Value.slice A3 n4 c5).ownBlock.toList]]) (r : strings_Builder) (h : json_quote x1 x9 r) : Calls Tryd.prog 35 #[.pointer (some ⟨g2, 0, none⟩), .string x9] w (json_quote_R w F g2 A3 n4 c5 z7 r) := by
 unfold json_quote at h
 refine calls_of_Loc (vs := [.pointer (some ⟨g2, 0, none⟩), .string x9]) 49 Tryd.func35 rfl Tryd.ntmps35 rfl hL0 ?_
 show G (json_quote_C w F g2 A3 n4 c5 z7 r) _ _ _ _
 refine gSq (c := q35c0) rfl ?_
 refine gRg (c := q35c1) rfl rfl ?_
 refine wl_v 0 rfl (vMv rfl) gn rfl ?_
 obtain ⟨r13, hv14, h⟩ := h
 refine wl_s 1 rfl (sCl [.pointer (some ⟨g2, 0, none⟩), .int .u8 34] rfl Tryd.func36 rfl rfl rfl fun w10 hL11 => ?_) gn
 have hp12 : List.Perm ([.box g2 56 [selfP g2 x1.addr, .slice A3 n4 c5], .own (.slice A3 n4 c5) 5 1 n4 (x1.buf.flatMap (eI .u8))] : List Ent) (([.box g2 56 [selfP g2 x1.addr, .slice A3 n4 c5], .own (.slice A3 n4 c5) 5 1 n4 (x1.buf.flatMap (eI .u8))] : List Ent) ++ ([] : List Ent)) := pIx [0, 1] [] rfl rfl (by kernel_rfl)
 refine Calls.mono (strings_Builder_WriteByte_calls w10 (Fl ([] : List Snap)) x1 34 g2 z7 A3 n4 c5 (Nat.le_trans hz8 hL11.env.size) h6 (hL11.hFl (Sl := ([] : List Snap)) hp12 (sels [] rfl)) (hL11.into hp12 (Fl ([] : List Snap))) r13 hv14) ?_
 rintro _ w20 ⟨A15, n16, c17, rfl, hM21, h18⟩
 have hL22 := hL11.call hp12 hM21
 refine ⟨_, _, _, rfl, hL22, ?_⟩
 refine w_end 2 rfl ?_
 refine gSq (c := q35c2) rfl ?_
 refine gSq (c := q35c3) rfl ?_
 refine gRg (c := q35c5) rfl rfl ?_
 refine wl_v 0 rfl (vAs rfl) gn rfl ?_
 refine w_end 1 rfl ?_
 refine g_block (c := q35c6) rfl ?_
 refine g_loop (c := q35c7) rfl ?_
 have key1 : ∀ s, Rounds (fun (s : Int × Bool × (List Int)) o => json_quote_b1 x9 s.1 s.2.1 s.2.2 o) s r → (fun (s : Int × Bool × (List Int)) => ∀ (A125 : Option Addr) (n126 : Nat) (c127 : Nat) (h128 : Ow z7 A125 n126 c127 s.2.2), G (json_quote_C w F g2 A3 n4 c5 z7 r) [.code q35c8, .inLoop q35c8, .inBlock 0, .code q35c4] [(0, .pointer (some ⟨g2, 0, none⟩)), (1, .string x9), (4, .int .i64 s.1)] [.own (.slice A125 n126 c127) 5 1 n126 (s.2.2.flatMap (eI .u8)), .box g2 56 [selfP g2 s.2.1, .slice A125 n126 c127]] [Sm w.heap.size F w [[g2], (Value.slice A3 n4 c5).ownBlock.toList], St w [[g2], (Value.slice A3 n4 c5).ownBlock.toList]]) s := by
  intro s hs
  refine Rounds.ind (mot := (fun (s : Int × Bool × (List Int)) => ∀ (A125 : Option Addr) (n126 : Nat) (c127 : Nat) (h128 : Ow z7 A125 n126 c127 s.2.2), G (json_quote_C w F g2 A3 n4 c5 z7 r) [.code q35c8, .inLoop q35c8, .inBlock 0, .code q35c4] [(0, .pointer (some ⟨g2, 0, none⟩)), (1, .string x9), (4, .int .i64 s.1)] [.own (.slice A125 n126 c127) 5 1 n126 (s.2.2.flatMap (eI .u8)), .box g2 56 [selfP g2 s.2.1, .slice A125 n126 c127]] [Sm w.heap.size F w [[g2], (Value.slice A3 n4 c5).ownBlock.toList], St w [[g2], (Value.slice A3 n4 c5).ownBlock.toList]])) ?_ hs
  clear hs s
  intro s o1 h hO1
  obtain ⟨x122, x123, x124⟩ := s
  show ∀ (A125 : Option Addr) (n126 : Nat) (c127 : Nat) (h128 : Ow z7 A125 n126 c127 x124), G (json_quote_C w F g2 A3 n4 c5 z7 r) [.code q35c8, .inLoop q35c8, .inBlock 0, .code q35c4] [(0, .pointer (some ⟨g2, 0, none⟩)), (1, .string x9), (4, .int .i64 x122)] [.own (.slice A125 n126 c127) 5 1 n126 (x124.flatMap (eI .u8)), .box g2 56 [selfP g2 x123, .slice A125 n126 c127]] [Sm w.heap.size F w [[g2], (Value.slice A3 n4 c5).ownBlock.toList], St w [[g2], (Value.slice A3 n4 c5).ownBlock.toList]]
  intro A125 n126 c127 h128
  have h : json_quote_b1 x9 x122 x123 x124 o1 := h
  unfold json_quote_b1 at h
  refine gSq (c := q35c8) rfl ?_
  refine gSq (c := q35c9) rfl ?_
  refine gRg (c := q35c11) rfl rfl ?_
  refine wl_v 0 rfl (vMv rfl) gn rfl ?_
  refine wl_v 1 rfl (vMv rfl) gn rfl ?_
  refine wl_v 2 rfl (v_lenS un_9 rfl) gn rfl ?_
  refine wl_v 3 rfl (vBn rfl rfl rfl) gn rfl ?_
  refine w_end 4 rfl ?_
  by_cases hp227 : x122 < (x9.size : Int)
  ·have h := if_pos' hp227 h
   refine gTr (c := q35c12) rfl _ rfl ((decide_eq_true hp227)) ?_
   refine g_skip (c := q35c13) rfl ?_
   refine gSq (c := q35c10) rfl ?_
   refine g_block (c := q35c15) rfl ?_
   refine gSq (c := q35c17) rfl ?_
   refine gRg (c := q35c18) rfl rfl ?_
   refine wl_v 0 rfl (vMv rfl) gn rfl ?_
   refine wl_v 1 rfl (vMv rfl) gn rfl ?_
   obtain ⟨hb228, h⟩ := h
   refine wl_v 2 rfl (v_indexS un_9 rfl rfl hb228) gn rfl ?_
   refine wl_v 3 rfl (vAs rfl) gn rfl ?_
   refine w_end 4 rfl ?_
   refine g_block (c := q35c19) rfl ?_
   refine gSq (c := q35c20) rfl ?_
   refine gRg (c := q35c21) rfl rfl ?_
   refine wl_v 0 rfl (vMv rfl) gn rfl ?_
   obtain ⟨hb229, h⟩ := h
   refine wl_v 1 rfl (v_idxB ar_78 rfl rfl hb229) gn rfl ?_
   refine wl_v 2 rfl (v_ldT (zs := tb_0) (j := bt x9 x122) (St w [[g2], (Value.slice A3 n4 c5).ownBlock.toList]) hG0 (me 1 rfl) ld_5 rfl (tbh rfl hb229)) gn rfl ?_
   refine wl_v 3 rfl (vBn rfl rfl rfl) gn rfl ?_
   refine wl_v 4 rfl (vAs rfl) gn rfl ?_
   refine w_end 5 rfl ?_
   by_cases hp230 : ix tb_0 (bt x9 x122) = 0
   ·have h := if_pos' hp230 h
    refine gFa (c := q35c22) rfl _ rfl ((eqib hp230)) ?_
    refine gSq (c := q35c24) rfl ?_
    refine gRg (c := q35c25) rfl rfl ?_
    refine wl_v 0 rfl (vMv rfl) gn rfl ?_
    refine wl_v 1 rfl (vBn rfl rfl rfl) gn rfl ?_
    refine wl_v 2 rfl (vAs rfl) gn rfl ?_
    refine w_end 3 rfl ?_
    by_cases hp231 : bt x9 x122 < 32
    ·have h := if_pos' hp231 h
     refine gTr (c := q35c26) rfl _ rfl ((decide_eq_true hp231)) ?_
     refine gSq (c := q35c27) rfl ?_
     refine gRg (c := q35c29) rfl rfl ?_
     refine wl_v 0 rfl (vMv rfl) gn rfl ?_
     obtain ⟨r235, hv236, h⟩ := h
     refine wl_s 1 rfl (sCl [.pointer (some ⟨g2, 0, none⟩), .string (⟨#[92, 117, 48, 48]⟩ : ByteArray)] rfl Tryd.func37 rfl rfl rfl fun w232 hL233 => ?_) gn
     have hp234 : List.Perm ([.own (.slice A125 n126 c127) 5 1 n126 (x124.flatMap (eI .u8)), .box g2 56 [selfP g2 x123, .slice A125 n126 c127]] : List Ent) (([.box g2 56 [selfP g2 x123, .slice A125 n126 c127], .own (.slice A125 n126 c127) 5 1 n126 (x124.flatMap (eI .u8))] : List Ent) ++ ([] : List Ent)) := pIx [1, 0] [] rfl rfl (by kernel_rfl)
     refine Calls.mono (strings_Builder_WriteString_calls w232 (Fl ([] : List Snap)) (⟨x123, x124⟩ : strings_Builder) (⟨#[92, 117, 48, 48]⟩ : ByteArray) g2 z7 A125 n126 c127 (Nat.le_trans hz8 hL233.env.size) h128 (hL233.hFl (Sl := ([] : List Snap)) hp234 (sels [] rfl)) (hL233.into hp234 (Fl ([] : List Snap))) r235 hv236) ?_
     rintro _ w242 ⟨A237, n238, c239, rfl, hM243, h240⟩
     have hL244 := hL233.call hp234 hM243
     refine ⟨_, _, _, rfl, hL244, ?_⟩
     refine w_end 2 rfl ?_
     refine gSq (c := q35c30) rfl ?_
     refine gRg (c := q35c31) rfl rfl ?_
     refine wl_v 0 rfl (vMv rfl) gn rfl ?_
     refine wl_v 1 rfl (vMv rfl) gn rfl ?_
     refine wl_v 2 rfl (v_quo rfl rfl (by decide)) gn rfl ?_
     obtain ⟨hb245, h⟩ := h
     refine wl_v 3 rfl (v_indexS un_9 rfl rfl hb245) gn rfl ?_
     obtain ⟨r249, hv250, h⟩ := h
     refine wl_s 4 rfl (sCl [.pointer (some ⟨g2, 0, none⟩), .int .u8 (bt (⟨#[48, 49, 50, 51, 52, 53, 54, 55, 56, 57, 97, 98, 99, 100, 101, 102]⟩ : ByteArray) (IntKind.u8.wrap (Int.tdiv (bt x9 x122) 16)))] rfl Tryd.func36 rfl rfl rfl fun w246 hL247 => ?_) gn
     have hp248 : List.Perm ([.box g2 56 [selfP g2 r235.2.addr, .slice A237 n238 c239], .own (.slice A237 n238 c239) 5 1 n238 (r235.2.buf.flatMap (eI .u8))] : List Ent) (([.box g2 56 [selfP g2 r235.2.addr, .slice A237 n238 c239], .own (.slice A237 n238 c239) 5 1 n238 (r235.2.buf.flatMap (eI .u8))] : List Ent) ++ ([] : List Ent)) := pIx [0, 1] [] rfl rfl (by kernel_rfl)
     refine Calls.mono (strings_Builder_WriteByte_calls w246 (Fl ([] : List Snap)) r235.2 (bt (⟨#[48, 49, 50, 51, 52, 53, 54, 55, 56, 57, 97, 98, 99, 100, 101, 102]⟩ : ByteArray) (IntKind.u8.wrap (Int.tdiv (bt x9 x122) 16))) g2 z7 A237 n238 c239 (Nat.le_trans hz8 hL247.env.size) h240 (hL247.hFl (Sl := ([] : List Snap)) hp248 (sels [] rfl)) (hL247.into hp248 (Fl ([] : List Snap))) r249 hv250) ?_
     rintro _ w256 ⟨A251, n252, c253, rfl, hM257, h254⟩
     have hL258 := hL247.call hp248 hM257
     refine ⟨_, _, _, rfl, hL258, ?_⟩
     refine w_end 5 rfl ?_
     refine gRg (c := q35c32) rfl rfl ?_
     refine wl_v 0 rfl (vMv rfl) gn rfl ?_
     refine wl_v 1 rfl (vMv rfl) gn rfl ?_
     refine wl_v 2 rfl (v_rem rfl rfl (by decide)) gn rfl ?_
     obtain ⟨hb259, h⟩ := h
     refine wl_v 3 rfl (v_indexS un_9 rfl rfl hb259) gn rfl ?_
     obtain ⟨r263, hv264, h⟩ := h
     refine wl_s 4 rfl (sCl [.pointer (some ⟨g2, 0, none⟩), .int .u8 (bt (⟨#[48, 49, 50, 51, 52, 53, 54, 55, 56, 57, 97, 98, 99, 100, 101, 102]⟩ : ByteArray) (Int.tmod (bt x9 x122) 16))] rfl Tryd.func36 rfl rfl rfl fun w260 hL261 => ?_) gn
     have hp262 : List.Perm ([.box g2 56 [selfP g2 r249.addr, .slice A251 n252 c253], .own (.slice A251 n252 c253) 5 1 n252 (r249.buf.flatMap (eI .u8))] : List Ent) (([.box g2 56 [selfP g2 r249.addr, .slice A251 n252 c253], .own (.slice A251 n252 c253) 5 1 n252 (r249.buf.flatMap (eI .u8))] : List Ent) ++ ([] : List Ent)) := pIx [0, 1] [] rfl rfl (by kernel_rfl)
     refine Calls.mono (strings_Builder_WriteByte_calls w260 (Fl ([] : List Snap)) r249 (bt (⟨#[48, 49, 50, 51, 52, 53, 54, 55, 56, 57, 97, 98, 99, 100, 101, 102]⟩ : ByteArray) (Int.tmod (bt x9 x122) 16)) g2 z7 A251 n252 c253 (Nat.le_trans hz8 hL261.env.size) h254 (hL261.hFl (Sl := ([] : List Snap)) hp262 (sels [] rfl)) (hL261.into hp262 (Fl ([] : List Snap))) r263 hv264) ?_
     rintro _ w270 ⟨A265, n266, c267, rfl, hM271, h268⟩
     have hL272 := hL261.call hp262 hM271
     refine ⟨_, _, _, rfl, hL272, ?_⟩
     refine w_end 5 rfl ?_
     refine g_inBlock ?_
     refine g_inBlock ?_
     refine gRg (c := q35c16) rfl rfl ?_
     refine wl_v 0 rfl (vMv rfl) gn rfl ?_
     refine wl_v 1 rfl (vBn rfl rfl rfl) gn rfl ?_
     refine wl_v 2 rfl (vAs rfl) gn rfl ?_
     refine w_end 3 rfl ?_
     refine g_inLoop ?_
     refine gFr 0 rfl ?_
     refine gFr 1 rfl ?_
     have ih := Out.inl hO1 h
     exact g_go [0, 1] (ih A265 n266 c267 h268) ⟨rfl, rfl, rfl, trivial⟩ (.cons_cons _ (.cons_cons _ (.slnil))) rfl
    ·have h := if_neg' hp231 h
     refine gFa (c := q35c26) rfl _ rfl ((decide_eq_false hp231)) ?_
     refine gRg (c := q35c28) rfl rfl ?_
     refine wl_v 0 rfl (vMv rfl) gn rfl ?_
     refine wl_v 1 rfl (vMv rfl) gn rfl ?_
     obtain ⟨r276, hv277, h⟩ := h
     refine wl_s 2 rfl (sCl [.pointer (some ⟨g2, 0, none⟩), .int .u8 (bt x9 x122)] rfl Tryd.func36 rfl rfl rfl fun w273 hL274 => ?_) gn
     have hp275 : List.Perm ([.own (.slice A125 n126 c127) 5 1 n126 (x124.flatMap (eI .u8)), .box g2 56 [selfP g2 x123, .slice A125 n126 c127]] : List Ent) (([.box g2 56 [selfP g2 x123, .slice A125 n126 c127], .own (.slice A125 n126 c127) 5 1 n126 (x124.flatMap (eI .u8))] : List Ent) ++ ([] : List Ent)) := pIx [1, 0] [] rfl rfl (by kernel_rfl)
     refine Calls.mono (strings_Builder_WriteByte_calls w273 (Fl ([] : List Snap)) (⟨x123, x124⟩ : strings_Builder) (bt x9 x122) g2 z7 A125 n126 c127 (Nat.le_trans hz8 hL274.env.size) h128 (hL274.hFl (Sl := ([] : List Snap)) hp275 (sels [] rfl)) (hL274.into hp275 (Fl ([] : List Snap))) r276 hv277) ?_
     rintro _ w283 ⟨A278, n279, c280, rfl, hM284, h281⟩
     have hL285 := hL274.call hp275 hM284
     refine ⟨_, _, _, rfl, hL285, ?_⟩
     refine w_end 3 rfl ?_
     refine g_inBlock ?_
     refine g_inBlock ?_
     refine gRg (c := q35c16) rfl rfl ?_
     refine wl_v 0 rfl (vMv rfl) gn rfl ?_
     refine wl_v 1 rfl (vBn rfl rfl rfl) gn rfl ?_
     refine wl_v 2 rfl (vAs rfl) gn rfl ?_
     refine w_end 3 rfl ?_
     refine g_inLoop ?_
     refine gFr 0 rfl ?_
     refine gFr 1 rfl ?_
     have ih := Out.inl hO1 h
     exact g_go [0, 1] (ih A278 n279 c280 h281) ⟨rfl, rfl, rfl, trivial⟩ (.cons_cons _ (.cons_cons _ (.slnil))) rfl
   ·have h := if_neg' hp230 h
    refine gTr (c := q35c22) rfl _ rfl ((neib hp230)) ?_
    refine gSq (c := q35c23) rfl ?_
    refine gRg (c := q35c33) rfl rfl ?_
    refine wl_v 0 rfl (vMv rfl) gn rfl ?_
    obtain ⟨r289, hv290, h⟩ := h
    refine wl_s 1 rfl (sCl [.pointer (some ⟨g2, 0, none⟩), .int .u8 92] rfl Tryd.func36 rfl rfl rfl fun w286 hL287 => ?_) gn
    have hp288 : List.Perm ([.own (.slice A125 n126 c127) 5 1 n126 (x124.flatMap (eI .u8)), .box g2 56 [selfP g2 x123, .slice A125 n126 c127]] : List Ent) (([.box g2 56 [selfP g2 x123, .slice A125 n126 c127], .own (.slice A125 n126 c127) 5 1 n126 (x124.flatMap (eI .u8))] : List Ent) ++ ([] : List Ent)) := pIx [1, 0] [] rfl rfl (by kernel_rfl)
    refine Calls.mono (strings_Builder_WriteByte_calls w286 (Fl ([] : List Snap)) (⟨x123, x124⟩ : strings_Builder) 92 g2 z7 A125 n126 c127 (Nat.le_trans hz8 hL287.env.size) h128 (hL287.hFl (Sl := ([] : List Snap)) hp288 (sels [] rfl)) (hL287.into hp288 (Fl ([] : List Snap))) r289 hv290) ?_
    rintro _ w296 ⟨A291, n292, c293, rfl, hM297, h294⟩
    have hL298 := hL287.call hp288 hM297
    refine ⟨_, _, _, rfl, hL298, ?_⟩
    refine w_end 2 rfl ?_
    refine gRg (c := q35c34) rfl rfl ?_
    refine wl_v 0 rfl (vMv rfl) gn rfl ?_
    refine wl_v 1 rfl (vMv rfl) gn rfl ?_
    refine wl_v 2 rfl (v_idxB ar_78 rfl rfl hb229) gn rfl ?_
    refine wl_v 3 rfl (v_ldT (zs := tb_0) (j := bt x9 x122) (St w [[g2], (Value.slice A3 n4 c5).ownBlock.toList]) hG0 (me 1 rfl) ld_5 rfl (tbh rfl hb229)) gn rfl ?_
    obtain ⟨r302, hv303, h⟩ := h
    refine wl_s 4 rfl (sCl [.pointer (some ⟨g2, 0, none⟩), .int .u8 (ix tb_0 (bt x9 x122))] rfl Tryd.func36 rfl rfl rfl fun w299 hL300 => ?_) gn
    have hp301 : List.Perm ([.box g2 56 [selfP g2 r289.addr, .slice A291 n292 c293], .own (.slice A291 n292 c293) 5 1 n292 (r289.buf.flatMap (eI .u8))] : List Ent) (([.box g2 56 [selfP g2 r289.addr, .slice A291 n292 c293], .own (.slice A291 n292 c293) 5 1 n292 (r289.buf.flatMap (eI .u8))] : List Ent) ++ ([] : List Ent)) := pIx [0, 1] [] rfl rfl (by kernel_rfl)
    refine Calls.mono (strings_Builder_WriteByte_calls w299 (Fl ([] : List Snap)) r289 (ix tb_0 (bt x9 x122)) g2 z7 A291 n292 c293 (Nat.le_trans hz8 hL300.env.size) h294 (hL300.hFl (Sl := ([] : List Snap)) hp301 (sels [] rfl)) (hL300.into hp301 (Fl ([] : List Snap))) r302 hv303) ?_
    rintro _ w309 ⟨A304, n305, c306, rfl, hM310, h307⟩
    have hL311 := hL300.call hp301 hM310
    refine ⟨_, _, _, rfl, hL311, ?_⟩
    refine w_end 5 rfl ?_
    refine g_inBlock ?_
    refine g_inBlock ?_
    refine gRg (c := q35c16) rfl rfl ?_
    refine wl_v 0 rfl (vMv rfl) gn rfl ?_
    refine wl_v 1 rfl (vBn rfl rfl rfl) gn rfl ?_
    refine wl_v 2 rfl (vAs rfl) gn rfl ?_
    refine w_end 3 rfl ?_
    refine g_inLoop ?_
    refine gFr 0 rfl ?_
    refine gFr 1 rfl ?_
    have ih := Out.inl hO1 h
    exact g_go [0, 1] (ih A304 n305 c306 h307) ⟨rfl, rfl, rfl, trivial⟩ (.cons_cons _ (.cons_cons _ (.slnil))) rfl
  ·have h := if_neg' hp227 h
   refine gFa (c := q35c12) rfl _ rfl ((decide_eq_false hp227)) ?_
   refine g_exit (c := q35c14) [.code q35c4] rfl rfl ?_
   refine gRg (c := q35c4) rfl rfl ?_
   refine wl_v 0 rfl (vMv rfl) gn rfl ?_
   obtain ⟨r315, hv316, h⟩ := h
   refine wl_s 1 rfl (sCl [.pointer (some ⟨g2, 0, none⟩), .int .u8 34] rfl Tryd.func36 rfl rfl rfl fun w312 hL313 => ?_) gn
   have hp314 : List.Perm ([.own (.slice A125 n126 c127) 5 1 n126 (x124.flatMap (eI .u8)), .box g2 56 [selfP g2 x123, .slice A125 n126 c127]] : List Ent) (([.box g2 56 [selfP g2 x123, .slice A125 n126 c127], .own (.slice A125 n126 c127) 5 1 n126 (x124.flatMap (eI .u8))] : List Ent) ++ ([] : List Ent)) := pIx [1, 0] [] rfl rfl (by kernel_rfl)
   refine Calls.mono (strings_Builder_WriteByte_calls w312 (Fl ([] : List Snap)) (⟨x123, x124⟩ : strings_Builder) 34 g2 z7 A125 n126 c127 (Nat.le_trans hz8 hL313.env.size) h128 (hL313.hFl (Sl := ([] : List Snap)) hp314 (sels [] rfl)) (hL313.into hp314 (Fl ([] : List Snap))) r315 hv316) ?_
   rintro _ w322 ⟨A317, n318, c319, rfl, hM323, h320⟩
   have hL324 := hL313.call hp314 hM323
   refine ⟨_, _, _, rfl, hL324, ?_⟩
   refine w_end 2 rfl ?_
   have h := Out.inr hO1 h
   refine g_endR [] Tryd.func35 rfl (.nil) fun wr hLr => ?_
   have hMr : B.Loc w wr [.box g2 56 [selfP g2 r315.addr, .slice A317 n318 c319], .own (.slice A317 n318 c319) 5 1 n318 (r315.buf.flatMap (eI .u8))] [St w [[g2], (Value.slice A3 n4 c5).ownBlock.toList]] := hLr.pick (rest := []) (pIx [0, 1] [] rfl rfl (by kernel_rfl)) (sels [1] rfl)
   show json_quote_R w F g2 A3 n4 c5 z7 r (.returned (packV [])) wr
   rw [h]
   exact ⟨A317, n318, c319, rfl, hMr, h320⟩
 refine gFr 0 rfl ?_
 refine gFr 1 rfl ?_
 exact g_go [0, 1] (key1 _ h A15 n16 c17 h18) ⟨rfl, rfl, rfl, trivial⟩ (.cons_cons _ (.cons_cons _ (.slnil))) rfl
noncomputable abbrev q34c0 : Code := bodyOf Tryd.f34
noncomputable abbrev q34c1 := Code.fst q34c0
noncomputable abbrev q34c2 := Code.snd q34c0
noncomputable abbrev q34c3 := Code.fst q34c2
noncomputable abbrev q34c4 := Code.snd q34c2
noncomputable abbrev q34c5 := Code.fst q34c4
noncomputable abbrev q34c6 := Code.snd q34c4
noncomputable abbrev q34c7 := Code.fst q34c5
noncomputable abbrev q34c8 := Code.snd q34c5
noncomputable abbrev q34c9 := Code.fst q34c8
noncomputable abbrev q34c10 := Code.snd q34c8
noncomputable abbrev q34c11 := Code.fst q34c9
noncomputable abbrev q34c12 := Code.snd q34c9
noncomputable abbrev q34c13 := Code.fst q34c6
noncomputable abbrev q34c14 := Code.snd q34c6
noncomputable abbrev q34c15 := Code.fst q34c14
noncomputable abbrev q34c16 := Code.fst q34c15
noncomputable abbrev q34c17 := Code.snd q34c15
noncomputable abbrev q34c18 := Code.fst q34c17
noncomputable abbrev q34c19 := Code.snd q34c17
noncomputable abbrev q34c20 := Code.fst q34c19
noncomputable abbrev q34c21 := Code.snd q34c19
noncomputable abbrev q34c22 := Code.fst q34c21
noncomputable abbrev q34c23 := Code.snd q34c21
noncomputable abbrev q34c24 := Code.fst q34c23
noncomputable abbrev q34c25 := Code.snd q34c23
noncomputable abbrev q34c26 := Code.fst q34c25
noncomputable abbrev q34c27 := Code.snd q34c25
noncomputable abbrev q34c28 := Code.fst q34c27
noncomputable abbrev q34c29 := Code.snd q34c27
noncomputable abbrev q34c30 := Code.fst q34c29
noncomputable abbrev q34c31 := Code.snd q34c29
noncomputable abbrev q34c32 := Code.fst q34c31
noncomputable abbrev q34c33 := Code.snd q34c31
noncomputable abbrev q34c34 := Code.fst q34c33
noncomputable abbrev q34c35 := Code.snd q34c33
noncomputable abbrev q34c36 := Code.fst q34c35
noncomputable abbrev q34c37 := Code.snd q34c35
noncomputable abbrev q34c38 := Code.fst q34c37
noncomputable abbrev q34c39 := Code.snd q34c37
noncomputable abbrev q34c40 := Code.fst q34c38
noncomputable abbrev q34c41 := Code.snd q34c38
noncomputable abbrev q34c42 := Code.fst q34c41
noncomputable abbrev q34c43 := Code.snd q34c41
noncomputable abbrev q34c44 := Code.fst q34c39
noncomputable abbrev q34c45 := Code.snd q34c39
noncomputable abbrev q34c46 := Code.fst q34c45
noncomputable abbrev q34c47 := Code.snd q34c45
noncomputable abbrev q34c48 := Code.fst q34c46
noncomputable abbrev q34c49 := Code.snd q34c46
noncomputable abbrev q34c50 := Code.fst q34c49
noncomputable abbrev q34c51 := Code.fst q34c50
noncomputable abbrev q34c52 := Code.fst q34c51
noncomputable abbrev q34c53 := Code.snd q34c51
noncomputable abbrev q34c54 := Code.fst q34c53
noncomputable abbrev q34c55 := Code.snd q34c53
noncomputable abbrev q34c56 := Code.fst q34c54
noncomputable abbrev q34c57 := Code.snd q34c54
noncomputable abbrev q34c58 := Code.fst q34c55
noncomputable abbrev q34c59 := Code.snd q34c55
noncomputable abbrev q34c60 := Code.fst q34c58
noncomputable abbrev q34c61 := Code.fst q34c60
noncomputable abbrev q34c62 := Code.snd q34c60
noncomputable abbrev q34c63 := Code.fst q34c62
noncomputable abbrev q34c64 := Code.snd q34c62
noncomputable abbrev q34c65 := Code.fst q34c63
noncomputable abbrev q34c66 := Code.snd q34c63
noncomputable abbrev q34c67 := Code.fst q34c66
noncomputable abbrev q34c68 := Code.snd q34c66
abbrev json_Print_1_R (w : World) (F : Nat → Prop) (g3 : Nat) (g10 : Nat) (g13 : Nat) (g20 : Nat) (Tb4 : Nat) (Tb11 : Nat) (Tb21 : Nat) (A14 : Option Addr) (n15 : Nat) (c16 : Nat) (z18 : Nat) (r : (List JNd) × Int × strings_Builder) : Ending → World → Prop := fun e w' => ∃ A1 : Option Addr, ∃ n1 : Nat, ∃ c1 : Nat, ∃ A0 : Option Addr, ∃ n0 : Nat, ∃ c0 : Nat, e = .returned (.tuple #[]) ∧ B.Loc w w' [.box g3 Tb4 [.slice A0 n0 c0], .box g10 Tb11 [.int .i64 r.2.1], .box g13 56 [selfP g13 r.2.2.addr, .slice A1 n1 c1], .box g20 Tb21 [.func (.func 34) #[] #[.pointer (some ⟨g3, 0, none⟩), .pointer (some ⟨g10, 0, none⟩), .pointer (some ⟨g13, 0, none⟩), .pointer (some ⟨g20, 0, none⟩)]], .own (.slice A1 n1 c1) 5 1 n1 (r.2.2.buf.flatMap (eI .u8))] [St w [[g3], [g10], [g13], (Value.slice A14 n15 c16).ownBlock.toList, [g20]]] ∧ Ow z18 A1 n1 c1 r.2.2.buf ∧ Rw k_api_JNode w' (Nw w w' F [.box g3 Tb4 [.slice A0 n0 c0], .box g10 Tb11 [.int .i64 r.2.1], .box g13 56 [selfP g13 r.2.2.addr, .slice A1 n1 c1], .box g20 Tb21 [.func (.func 34) #[] #[.pointer (some ⟨g3, 0, none⟩), .pointer (some ⟨g10, 0, none⟩), .pointer (some ⟨g13, 0, none⟩), .pointer (some ⟨g20, 0, none⟩)]], .own (.slice A1 n1 c1) 5 1 n1 (r.2.2.buf.flatMap (eI .u8))]) A0 n0 c0 r.1
noncomputable abbrev json_Print_1_C (w : World) (F : Nat → Prop) (g3 : Nat) (g10 : Nat) (g13 : Nat) (g20 : Nat) (Tb4 : Nat) (Tb11 : Nat) (Tb21 : Nat) (A14 : Option Addr) (n15 : Nat) (c16 : Nat) (z18 : Nat) (r : (List JNd) × Int × strings_Builder) : Cx := ⟨Tryd.prog, 34, Tryd.f34, 64, json_Print_1_R w F g3 g10 g13 g20 Tb4 Tb11 Tb21 A14 n15 c16 z18 r, w⟩
def json_Print_1_st (rl : Bool → (List JNd) → Int → strings_Builder → ((List JNd) × Int × strings_Builder) → Prop) : Prop := ∀ (w : World) (F : Nat → Prop) (x1 : Bool) (x2 : List JNd) (x9 : Int) (x12 : strings_Builder) (g3 : Nat) (Tb4 : Nat) (A5 : Option Addr) (n6 : Nat) (c7 : Nat) (g10 : Nat) (Tb11 : Nat) (g13 : Nat) (z18 : Nat) (A14 : Option Addr) (n15 : Nat) (c16 : Nat) (g20 : Nat) (Tb21 : Nat) (h8 : Rw k_api_JNode w F A5 n6 c7 x2) (hz19 : z18 ≤ w.heap.size) (h17 : Ow z18 A14 n15 c16 x12.buf) (hG0 : Tt .u8 tb_0 0 (St w [[g3], [g10], [g13], (Value.slice A14 n15 c16).ownBlock.toList, [g20]])) (hF : ∀ b, F b → b < w.heap.size ∧ ∀ o ∈ ([[g3], [g10], [g13], (Value.slice A14 n15 c16).ownBlock.toList, [g20]] : List (List Nat)), b ∉ o) (hL0 : B.Loc w w [.box g3 Tb4 [.slice A5 n6 c7], .box g10 Tb11 [.int .i64 x9], .box g13 56 [selfP g13 x12.addr, .slice A14 n15 c16], .own (.slice A14 n15 c16) 5 1 n15 (x12.buf.flatMap (eI .u8)), .box g20 Tb21 [.func (.func 34) #[] #[.pointer (some ⟨g3, 0, none⟩), .pointer (some ⟨g10, 0, none⟩), .pointer (some ⟨g13, 0, none⟩), .pointer (some ⟨g20, 0, none⟩)]]] [Sm w.heap.size F w [[g3], [g10], [g13], (Value.slice A14 n15 c16).ownBlock.toList, [g20]], St w [[g3], [g10], [g13], (Value.slice A14 n15 c16).ownBlock.toList, [g20]]]) (r : (List JNd) × Int × strings_Builder) (h : rl x1 x2 x9 x12 r), Calls Tryd.prog 34 #[.bool x1, .pointer (some ⟨g3, 0, none⟩), .pointer (some ⟨g10, 0, none⟩), .pointer (some ⟨g13, 0, none⟩), .pointer (some ⟨g20, 0, none⟩)] w (json_Print_1_R w F g3 g10 g13 g20 Tb4 Tb11 Tb21 A14 n15 c16 z18 r)
theorem json_Print_1_step (rc_json_Print_1 : Bool → (List JNd) → Int → strings_Builder → ((List JNd) × Int × strings_Builder) → Prop) (ih_json_Print_1 : json_Print_1_st rc_json_Print_1) : json_Print_1_st (json_Print_1_body rc_json_Print_1) := by
 intro w F x1 x2 x9 x12 g3 Tb4 A5 n6 c7 g10 Tb11 g13 z18 A14 n15 c16 g20 Tb21 h8 hz19 h17 hG0 hF hL0 r h
 unfold json_Print_1_body at h
 have h8 := Rw.into (bs := [[g3], [g10], [g13], (Value.slice A14 n15 c16).ownBlock.toList, [g20]]) hF h8
 refine calls_of_Loc (vs := [.bool x1, .pointer (some ⟨g3, 0, none⟩), .pointer (some ⟨g10, 0, none⟩), .pointer (some ⟨g13, 0, none⟩), .pointer (some ⟨g20, 0, none⟩)]) 64 Tryd.func34 rfl Tryd.ntmps34 rfl hL0 ?_
 show G (json_Print_1_C w F g3 g10 g13 g20 Tb4 Tb11 Tb21 A14 n15 c16 z18 r) _ _ _ _
 refine gSq (c := q34c0) rfl ?_
 refine gRg (c := q34c1) rfl rfl ?_
 refine wl_v 0 rfl (v_ldB1 0 ld_22 rfl rfl rfl) gn rfl ?_
 refine wl_v 1 rfl (v_ldB1 1 ld_3 rfl rfl rfl) gn rfl ?_
 obtain ⟨hb22, h⟩ := h
 have hr23 := Rw.readF (s := Sm w.heap.size F w [[g3], [g10], [g13], (Value.slice A14 n15 c16).ownBlock.toList, [g20]]) (hl := hl_api_JNode) (h1 := h1_api_JNode) h8 hb22
 refine wl_v 2 rfl (v_idxR (s := Sm w.heap.size F w [[g3], [g10], [g13], (Value.slice A14 n15 c16).ownBlock.toList, [g20]]) slE_22 rfl rfl h8 hb22) gn rfl ?_
 refine wl_v 3 rfl (v_ldA (Sm w.heap.size F w [[g3], [g10], [g13], (Value.slice A14 n15 c16).ownBlock.toList, [g20]]) ld_31 rfl hr23 rfl (me 0 rfl)) gn rfl ?_
 refine wl_s 4 rfl (s_alloc [.int .i64 0, .string (⟨#[]⟩ : ByteArray), .string (⟨#[]⟩ : ByteArray), .int .i64 0] zr_31 rfl fun gb24 => ?_) gn
 refine wl_s 5 rfl (s_stB (vs := [.int .i64 ((ix x2 x9).kind), .string ((ix x2 x9).key), .string ((ix x2 x9).text), .int .i64 ((ix x2 x9).kids)]) (cs' := [.int .i64 ((ix x2 x9).kind), .string ((ix x2 x9).key), .string ((ix x2 x9).text), .int .i64 ((ix x2 x9).kids)]) (M' := [.box gb24 31 [.int .i64 ((ix x2 x9).kind), .string ((ix x2 x9).key), .string ((ix x2 x9).text), .int .i64 ((ix x2 x9).kids)], .box g3 Tb4 [.slice A5 n6 c7], .box g10 Tb11 [.int .i64 x9], .box g13 56 [selfP g13 x12.addr, .slice A14 n15 c16], .own (.slice A14 n15 c16) 5 1 n15 (x12.buf.flatMap (eI .u8)), .box g20 Tb21 [.func (.func 34) #[] #[.pointer (some ⟨g3, 0, none⟩), .pointer (some ⟨g10, 0, none⟩), .pointer (some ⟨g13, 0, none⟩), .pointer (some ⟨g20, 0, none⟩)]]]) 0 sz_31 rfl rfl rfl rfl rfl rfl rfl rfl rfl ?_) gn
 refine w_end 6 rfl ?_
 refine gSq (c := q34c2) rfl ?_
 refine gRg (c := q34c3) rfl rfl ?_
 refine wl_v 0 rfl (v_ldB1 2 ld_3 rfl rfl rfl) gn rfl ?_
 refine wl_v 1 rfl (vBn rfl rfl rfl) gn rfl ?_
 refine wl_s 2 rfl (s_stB (vs := [.int .i64 (w64 (x9 + 1))]) (cs' := [.int .i64 (w64 (x9 + 1))]) (M' := [.box gb24 31 [.int .i64 ((ix x2 x9).kind), .string ((ix x2 x9).key), .string ((ix x2 x9).text), .int .i64 ((ix x2 x9).kids)], .box g3 Tb4 [.slice A5 n6 c7], .box g10 Tb11 [.int .i64 (w64 (x9 + 1))], .box g13 56 [selfP g13 x12.addr, .slice A14 n15 c16], .own (.slice A14 n15 c16) 5 1 n15 (x12.buf.flatMap (eI .u8)), .box g20 Tb21 [.func (.func 34) #[] #[.pointer (some ⟨g3, 0, none⟩), .pointer (some ⟨g10, 0, none⟩), .pointer (some ⟨g13, 0, none⟩), .pointer (some ⟨g20, 0, none⟩)]]]) 2 sz_3 rfl rfl rfl rfl rfl rfl rfl rfl rfl ?_) gn
 refine w_end 3 rfl ?_
 refine gSq (c := q34c4) rfl ?_
 refine gSq (c := q34c5) rfl ?_
 refine gRg (c := q34c7) rfl rfl ?_
 refine wl_v 0 rfl (vMv rfl) gn rfl ?_
 refine w_end 1 rfl ?_
 have j1 : ∀ (x54 : Bool) (x55 : List Int) (h : json_Print_1_j1 x2 x9 rc_json_Print_1 x54 x55 r) (A56 : Option Addr) (n57 : Nat) (c58 : Nat) (h59 : Ow z18 A56 n57 c58 x55), G (json_Print_1_C w F g3 g10 g13 g20 Tb4 Tb11 Tb21 A14 n15 c16 z18 r) [.code q34c6] [(3, .pointer (some ⟨g13, 0, none⟩)), (4, .pointer (some ⟨g20, 0, none⟩)), (6, .pointer (some ⟨gb24, 0, none⟩))] [.own (.slice A56 n57 c58) 5 1 n57 (x55.flatMap (eI .u8)), .box g13 56 [selfP g13 x54, .slice A56 n57 c58], .box gb24 31 [.int .i64 ((ix x2 x9).kind), .string ((ix x2 x9).key), .string ((ix x2 x9).text), .int .i64 ((ix x2 x9).kids)], .box g3 Tb4 [.slice A5 n6 c7], .box g10 Tb11 [.int .i64 (w64 (x9 + 1))], .box g20 Tb21 [.func (.func 34) #[] #[.pointer (some ⟨g3, 0, none⟩), .pointer (some ⟨g10, 0, none⟩), .pointer (some ⟨g13, 0, none⟩), .pointer (some ⟨g20, 0, none⟩)]]] [Sm w.heap.size F w [[g3], [g10], [g13], (Value.slice A14 n15 c16).ownBlock.toList, [g20]], St w [[g3], [g10], [g13], (Value.slice A14 n15 c16).ownBlock.toList, [g20]]] := by
  intro x54 x55 h A56 n57 c58 h59
  unfold json_Print_1_j1 at h
  refine gSq (c := q34c6) rfl ?_
  refine gRg (c := q34c13) rfl rfl ?_
  refine wl_v 0 rfl (vFB fo_31_0 rfl) gn rfl ?_
  refine wl_v 1 rfl (v_ldB1 2 ld_29 rfl rfl rfl) gn rfl ?_
  refine w_end 2 rfl ?_
  refine g_block (c := q34c14) rfl ?_
  refine gSq (c := q34c15) rfl ?_
  refine gRg (c := q34c16) rfl rfl ?_
  refine wl_v 0 rfl (vBn rfl rfl rfl) gn rfl ?_
  refine wl_v 1 rfl (vAs rfl) gn rfl ?_
  refine w_end 2 rfl ?_
  by_cases hp60 : (ix x2 x9).kind = 1
  ·have h := if_pos' hp60 h
   refine gTr (c := q34c17) rfl _ rfl ((eqi hp60)) ?_
   refine gRg (c := q34c18) rfl rfl ?_
   obtain ⟨r64, hv65, h⟩ := h
   refine wl_s 0 rfl (sCl [.pointer (some ⟨g13, 0, none⟩), .string (⟨#[110, 117, 108, 108]⟩ : ByteArray)] rfl Tryd.func37 rfl rfl rfl fun w61 hL62 => ?_) gn
   have hp63 : List.Perm ([.own (.slice A56 n57 c58) 5 1 n57 (x55.flatMap (eI .u8)), .box g13 56 [selfP g13 x54, .slice A56 n57 c58], .box gb24 31 [.int .i64 ((ix x2 x9).kind), .string ((ix x2 x9).key), .string ((ix x2 x9).text), .int .i64 ((ix x2 x9).kids)], .box g3 Tb4 [.slice A5 n6 c7], .box g10 Tb11 [.int .i64 (w64 (x9 + 1))], .box g20 Tb21 [.func (.func 34) #[] #[.pointer (some ⟨g3, 0, none⟩), .pointer (some ⟨g10, 0, none⟩), .pointer (some ⟨g13, 0, none⟩), .pointer (some ⟨g20, 0, none⟩)]]] : List Ent) (([.box g13 56 [selfP g13 x54, .slice A56 n57 c58], .own (.slice A56 n57 c58) 5 1 n57 (x55.flatMap (eI .u8))] : List Ent) ++ ([.box gb24 31 [.int .i64 ((ix x2 x9).kind), .string ((ix x2 x9).key), .string ((ix x2 x9).text), .int .i64 ((ix x2 x9).kids)], .box g3 Tb4 [.slice A5 n6 c7], .box g10 Tb11 [.int .i64 (w64 (x9 + 1))], .box g20 Tb21 [.func (.func 34) #[] #[.pointer (some ⟨g3, 0, none⟩), .pointer (some ⟨g10, 0, none⟩), .pointer (some ⟨g13, 0, none⟩), .pointer (some ⟨g20, 0, none⟩)]]] : List Ent)) := pIx [1, 0] [2, 3, 4, 5] rfl rfl (by kernel_rfl)
   refine Calls.mono (strings_Builder_WriteString_calls w61 (Fl ([] : List Snap)) (⟨x54, x55⟩ : strings_Builder) (⟨#[110, 117, 108, 108]⟩ : ByteArray) g13 z18 A56 n57 c58 (Nat.le_trans hz19 hL62.env.size) h59 (hL62.hFl (Sl := ([] : List Snap)) hp63 (sels [] rfl)) (hL62.into hp63 (Fl ([] : List Snap))) r64 hv65) ?_
   rintro _ w71 ⟨A66, n67, c68, rfl, hM72, h69⟩
   have hL73 := hL62.call hp63 hM72
   refine ⟨_, _, _, rfl, hL73, ?_⟩
   refine w_end 1 rfl ?_
   refine g_inBlock ?_
   refine g_endR [] Tryd.func34 rfl (.nil) fun wr hLr => ?_
   have hMr : B.Loc w wr [.box g3 Tb4 [.slice A5 n6 c7], .box g10 Tb11 [.int .i64 (w64 (x9 + 1))], .box g13 56 [selfP g13 r64.2.addr, .slice A66 n67 c68], .box g20 Tb21 [.func (.func 34) #[] #[.pointer (some ⟨g3, 0, none⟩), .pointer (some ⟨g10, 0, none⟩), .pointer (some ⟨g13, 0, none⟩), .pointer (some ⟨g20, 0, none⟩)]], .own (.slice A66 n67 c68) 5 1 n67 (r64.2.buf.flatMap (eI .u8))] [St w [[g3], [g10], [g13], (Value.slice A14 n15 c16).ownBlock.toList, [g20]]] := hLr.pick (rest := [.box gb24 31 [.int .i64 ((ix x2 x9).kind), .string ((ix x2 x9).key), .string ((ix x2 x9).text), .int .i64 ((ix x2 x9).kids)]]) (pIx [3, 4, 0, 5, 1] [2] rfl rfl (by kernel_rfl)) (sels [1] rfl)
   have hMi : ∀ e ∈ ([.box g3 Tb4 [.slice A5 n6 c7], .box g10 Tb11 [.int .i64 (w64 (x9 + 1))], .box g13 56 [selfP g13 r64.2.addr, .slice A66 n67 c68], .box g20 Tb21 [.func (.func 34) #[] #[.pointer (some ⟨g3, 0, none⟩), .pointer (some ⟨g10, 0, none⟩), .pointer (some ⟨g13, 0, none⟩), .pointer (some ⟨g20, 0, none⟩)]], .own (.slice A66 n67 c68) 5 1 n67 (r64.2.buf.flatMap (eI .u8))] : List Ent), e ∈ ([.box g13 56 [selfP g13 r64.2.addr, .slice A66 n67 c68], .own (.slice A66 n67 c68) 5 1 n67 (r64.2.buf.flatMap (eI .u8)), .box gb24 31 [.int .i64 ((ix x2 x9).kind), .string ((ix x2 x9).key), .string ((ix x2 x9).text), .int .i64 ((ix x2 x9).kids)], .box g3 Tb4 [.slice A5 n6 c7], .box g10 Tb11 [.int .i64 (w64 (x9 + 1))], .box g20 Tb21 [.func (.func 34) #[] #[.pointer (some ⟨g3, 0, none⟩), .pointer (some ⟨g10, 0, none⟩), .pointer (some ⟨g13, 0, none⟩), .pointer (some ⟨g20, 0, none⟩)]]] : List Ent) := sels [3, 4, 0, 5, 1] rfl
   show json_Print_1_R w F g3 g10 g13 g20 Tb4 Tb11 Tb21 A14 n15 c16 z18 r (.returned (packV [])) wr
   rw [h]
   exact ⟨A66, n67, c68, A5, n6, c7, rfl, hMr, h69, (hLr.outR (s := Sm w.heap.size F w [[g3], [g10], [g13], (Value.slice A14 n15 c16).ownBlock.toList, [g20]]) hMi (me 0 rfl) Sm.ok h8)⟩
  ·have h := if_neg' hp60 h
   refine gFa (c := q34c17) rfl _ rfl ((nei hp60)) ?_
   refine gSq (c := q34c19) rfl ?_
   refine gRg (c := q34c20) rfl rfl ?_
   refine wl_v 0 rfl (vBn rfl rfl rfl) gn rfl ?_
   refine wl_v 1 rfl (vAs rfl) gn rfl ?_
   refine w_end 2 rfl ?_
   by_cases hp74 : (ix x2 x9).kind = 2
   ·have h := if_pos' hp74 h
    refine gTr (c := q34c21) rfl _ rfl ((eqi hp74)) ?_
    refine gRg (c := q34c22) rfl rfl ?_
    obtain ⟨r78, hv79, h⟩ := h
    refine wl_s 0 rfl (sCl [.pointer (some ⟨g13, 0, none⟩), .string (⟨#[102, 97, 108, 115, 101]⟩ : ByteArray)] rfl Tryd.func37 rfl rfl rfl fun w75 hL76 => ?_) gn
    have hp77 : List.Perm ([.own (.slice A56 n57 c58) 5 1 n57 (x55.flatMap (eI .u8)), .box g13 56 [selfP g13 x54, .slice A56 n57 c58], .box gb24 31 [.int .i64 ((ix x2 x9).kind), .string ((ix x2 x9).key), .string ((ix x2 x9).text), .int .i64 ((ix x2 x9).kids)], .box g3 Tb4 [.slice A5 n6 c7], .box g10 Tb11 [.int .i64 (w64 (x9 + 1))], .box g20 Tb21 [.func (.func 34) #[] #[.pointer (some ⟨g3, 0, none⟩), .pointer (some ⟨g10, 0, none⟩), .pointer (some ⟨g13, 0, none⟩), .pointer (some ⟨g20, 0, none⟩)]]] : List Ent) (([.box g13 56 [selfP g13 x54, .slice A56 n57 c58], .own (.slice A56 n57 c58) 5 1 n57 (x55.flatMap (eI .u8))] : List Ent) ++ ([.box gb24 31 [.int .i64 ((ix x2 x9).kind), .string ((ix x2 x9).key), .string ((ix x2 x9).text), .int .i64 ((ix x2 x9).kids)], .box g3 Tb4 [.slice A5 n6 c7], .box g10 Tb11 [.int .i64 (w64 (x9 + 1))], .box g20 Tb21 [.func (.func 34) #[] #[.pointer (some ⟨g3, 0, none⟩), .pointer (some ⟨g10, 0, none⟩), .pointer (some ⟨g13, 0, none⟩), .pointer (some ⟨g20, 0, none⟩)]]] : List Ent)) := pIx [1, 0] [2, 3, 4, 5] rfl rfl (by kernel_rfl)
    refine Calls.mono (strings_Builder_WriteString_calls w75 (Fl ([] : List Snap)) (⟨x54, x55⟩ : strings_Builder) (⟨#[102, 97, 108, 115, 101]⟩ : ByteArray) g13 z18 A56 n57 c58 (Nat.le_trans hz19 hL76.env.size) h59 (hL76.hFl (Sl := ([] : List Snap)) hp77 (sels [] rfl)) (hL76.into hp77 (Fl ([] : List Snap))) r78 hv79) ?_
    rintro _ w85 ⟨A80, n81, c82, rfl, hM86, h83⟩
    have hL87 := hL76.call hp77 hM86
    refine ⟨_, _, _, rfl, hL87, ?_⟩
    refine w_end 1 rfl ?_
    refine g_inBlock ?_
    refine g_endR [] Tryd.func34 rfl (.nil) fun wr hLr => ?_
    have hMr : B.Loc w wr [.box g3 Tb4 [.slice A5 n6 c7], .box g10 Tb11 [.int .i64 (w64 (x9 + 1))], .box g13 56 [selfP g13 r78.2.addr, .slice A80 n81 c82], .box g20 Tb21 [.func (.func 34) #[] #[.pointer (some ⟨g3, 0, none⟩), .pointer (some ⟨g10, 0, none⟩), .pointer (some ⟨g13, 0, none⟩), .pointer (some ⟨g20, 0, none⟩)]], .own (.slice A80 n81 c82) 5 1 n81 (r78.2.buf.flatMap (eI .u8))] [St w [[g3], [g10], [g13], (Value.slice A14 n15 c16).ownBlock.toList, [g20]]] := hLr.pick (rest := [.box gb24 31 [.int .i64 ((ix x2 x9).kind), .string ((ix x2 x9).key), .string ((ix x2 x9).text), .int .i64 ((ix x2 x9).kids)]]) (pIx [3, 4, 0, 5, 1] [2] rfl rfl (by kernel_rfl)) (sels [1] rfl)
    have hMi : ∀ e ∈ ([.box g3 Tb4 [.slice A5 n6 c7], .box g10 Tb11 [.int .i64 (w64 (x9 + 1))], .box g13 56 [selfP g13 r78.2.addr, .slice A80 n81 c82], .box g20 Tb21 [.func (.func 34) #[] #[.pointer (some ⟨g3, 0, none⟩), .pointer (some ⟨g10, 0, none⟩), .pointer (some ⟨g13, 0, none⟩), .pointer (some ⟨g20, 0, none⟩)]], .own (.slice A80 n81 c82) 5 1 n81 (r78.2.buf.flatMap (eI .u8))] : List Ent), e ∈ ([.box g13 56 [selfP g13 r78.2.addr, .slice A80 n81 c82], .own (.slice A80 n81 c82) 5 1 n81 (r78.2.buf.flatMap (eI .u8)), .box gb24 31 [.int .i64 ((ix x2 x9).kind), .string ((ix x2 x9).key), .string ((ix x2 x9).text), .int .i64 ((ix x2 x9).kids)], .box g3 Tb4 [.slice A5 n6 c7], .box g10 Tb11 [.int .i64 (w64 (x9 + 1))], .box g20 Tb21 [.func (.func 34) #[] #[.pointer (some ⟨g3, 0, none⟩), .pointer (some ⟨g10, 0, none⟩), .pointer (some ⟨g13, 0, none⟩), .pointer (some ⟨g20, 0, none⟩)]]] : List Ent) := sels [3, 4, 0, 5, 1] rfl
    show json_Print_1_R w F g3 g10 g13 g20 Tb4 Tb11 Tb21 A14 n15 c16 z18 r (.returned (packV [])) wr
    rw [h]
    exact ⟨A80, n81, c82, A5, n6, c7, rfl, hMr, h83, (hLr.outR (s := Sm w.heap.size F w [[g3], [g10], [g13], (Value.slice A14 n15 c16).ownBlock.toList, [g20]]) hMi (me 0 rfl) Sm.ok h8)⟩
   ·have h := if_neg' hp74 h
    refine gFa (c := q34c21) rfl _ rfl ((nei hp74)) ?_
    refine gSq (c := q34c23) rfl ?_
    refine gRg (c := q34c24) rfl rfl ?_
    refine wl_v 0 rfl (vBn rfl rfl rfl) gn rfl ?_
    refine wl_v 1 rfl (vAs rfl) gn rfl ?_
    refine w_end 2 rfl ?_
    by_cases hp88 : (ix x2 x9).kind = 3
    ·have h := if_pos' hp88 h
     refine gTr (c := q34c25) rfl _ rfl ((eqi hp88)) ?_
     refine gRg (c := q34c26) rfl rfl ?_
     obtain ⟨r92, hv93, h⟩ := h
     refine wl_s 0 rfl (sCl [.pointer (some ⟨g13, 0, none⟩), .string (⟨#[116, 114, 117, 101]⟩ : ByteArray)] rfl Tryd.func37 rfl rfl rfl fun w89 hL90 => ?_) gn
     have hp91 : List.Perm ([.own (.slice A56 n57 c58) 5 1 n57 (x55.flatMap (eI .u8)), .box g13 56 [selfP g13 x54, .slice A56 n57 c58], .box gb24 31 [.int .i64 ((ix x2 x9).kind), .string ((ix x2 x9).key), .string ((ix x2 x9).text), .int .i64 ((ix x2 x9).kids)], .box g3 Tb4 [.slice A5 n6 c7], .box g10 Tb11 [.int .i64 (w64 (x9 + 1))], .box g20 Tb21 [.func (.func 34) #[] #[.pointer (some ⟨g3, 0, none⟩), .pointer (some ⟨g10, 0, none⟩), .pointer (some ⟨g13, 0, none⟩), .pointer (some ⟨g20, 0, none⟩)]]] : List Ent) (([.box g13 56 [selfP g13 x54, .slice A56 n57 c58], .own (.slice A56 n57 c58) 5 1 n57 (x55.flatMap (eI .u8))] : List Ent) ++ ([.box gb24 31 [.int .i64 ((ix x2 x9).kind), .string ((ix x2 x9).key), .string ((ix x2 x9).text), .int .i64 ((ix x2 x9).kids)], .box g3 Tb4 [.slice A5 n6 c7], .box g10 Tb11 [.int .i64 (w64 (x9 + 1))], .box g20 Tb21 [.func (.func 34) #[] #[.pointer (some ⟨g3, 0, none⟩), .pointer (some ⟨g10, 0, none⟩), .pointer (some ⟨g13, 0, none⟩), .pointer (some ⟨g20, 0, none⟩)]]] : List Ent)) := pIx [1, 0] [2, 3, 4, 5] rfl rfl (by kernel_rfl)
     refine Calls.mono (strings_Builder_WriteString_calls w89 (Fl ([] : List Snap)) (⟨x54, x55⟩ : strings_Builder) (⟨#[116, 114, 117, 101]⟩ : ByteArray) g13 z18 A56 n57 c58 (Nat.le_trans hz19 hL90.env.size) h59 (hL90.hFl (Sl := ([] : List Snap)) hp91 (sels [] rfl)) (hL90.into hp91 (Fl ([] : List Snap))) r92 hv93) ?_
     rintro _ w99 ⟨A94, n95, c96, rfl, hM100, h97⟩
     have hL101 := hL90.call hp91 hM100
     refine ⟨_, _, _, rfl, hL101, ?_⟩
     refine w_end 1 rfl ?_
     refine g_inBlock ?_
     refine g_endR [] Tryd.func34 rfl (.nil) fun wr hLr => ?_
     have hMr : B.Loc w wr [.box g3 Tb4 [.slice A5 n6 c7], .box g10 Tb11 [.int .i64 (w64 (x9 + 1))], .box g13 56 [selfP g13 r92.2.addr, .slice A94 n95 c96], .box g20 Tb21 [.func (.func 34) #[] #[.pointer (some ⟨g3, 0, none⟩), .pointer (some ⟨g10, 0, none⟩), .pointer (some ⟨g13, 0, none⟩), .pointer (some ⟨g20, 0, none⟩)]], .own (.slice A94 n95 c96) 5 1 n95 (r92.2.buf.flatMap (eI .u8))] [St w [[g3], [g10], [g13], (Value.slice A14 n15 c16).ownBlock.toList, [g20]]] := hLr.pick (rest := [.box gb24 31 [.int .i64 ((ix x2 x9).kind), .string ((ix x2 x9).key), .string ((ix x2 x9).text), .int .i64 ((ix x2 x9).kids)]]) (pIx [3, 4, 0, 5, 1] [2] rfl rfl (by kernel_rfl)) (sels [1] rfl)
     have hMi : ∀ e ∈ ([.box g3 Tb4 [.slice A5 n6 c7], .box g10 Tb11 [.int .i64 (w64 (x9 + 1))], .box g13 56 [selfP g13 r92.2.addr, .slice A94 n95 c96], .box g20 Tb21 [.func (.func 34) #[] #[.pointer (some ⟨g3, 0, none⟩), .pointer (some ⟨g10, 0, none⟩), .pointer (some ⟨g13, 0, none⟩), .pointer (some ⟨g20, 0, none⟩)]], .own (.slice A94 n95 c96) 5 1 n95 (r92.2.buf.flatMap (eI .u8))] : List Ent), e ∈ ([.box g13 56 [selfP g13 r92.2.addr, .slice A94 n95 c96], .own (.slice A94 n95 c96) 5 1 n95 (r92.2.buf.flatMap (eI .u8)), .box gb24 31 [.int .i64 ((ix x2 x9).kind), .string ((ix x2 x9).key), .string ((ix x2 x9).text), .int .i64 ((ix x2 x9).kids)], .box g3 Tb4 [.slice A5 n6 c7], .box g10 Tb11 [.int .i64 (w64 (x9 + 1))], .box g20 Tb21 [.func (.func 34) #[] #[.pointer (some ⟨g3, 0, none⟩), .pointer (some ⟨g10, 0, none⟩), .pointer (some ⟨g13, 0, none⟩), .pointer (some ⟨g20, 0, none⟩)]]] : List Ent) := sels [3, 4, 0, 5, 1] rfl
     show json_Print_1_R w F g3 g10 g13 g20 Tb4 Tb11 Tb21 A14 n15 c16 z18 r (.returned (packV [])) wr
     rw [h]
     exact ⟨A94, n95, c96, A5, n6, c7, rfl, hMr, h97, (hLr.outR (s := Sm w.heap.size F w [[g3], [g10], [g13], (Value.slice A14 n15 c16).ownBlock.toList, [g20]]) hMi (me 0 rfl) Sm.ok h8)⟩
    ·have h := if_neg' hp88 h
     refine gFa (c := q34c25) rfl _ rfl ((nei hp88)) ?_
     refine gSq (c := q34c27) rfl ?_
     refine gRg (c := q34c28) rfl rfl ?_
     refine wl_v 0 rfl (vBn rfl rfl rfl) gn rfl ?_
     refine wl_v 1 rfl (vAs rfl) gn rfl ?_
     refine w_end 2 rfl ?_
     by_cases hp102 : (ix x2 x9).kind = 4
     ·have h := if_pos' hp102 h
      refine gTr (c := q34c29) rfl _ rfl ((eqi hp102)) ?_
      refine gRg (c := q34c30) rfl rfl ?_
      refine wl_v 0 rfl (vFB fo_31_2 rfl) gn rfl ?_
      refine wl_v 1 rfl (v_ldB1 2 ld_9 rfl rfl rfl) gn rfl ?_
      obtain ⟨r106, hv107, h⟩ := h
      refine wl_s 2 rfl (sCl [.pointer (some ⟨g13, 0, none⟩), .string ((ix x2 x9).text)] rfl Tryd.func37 rfl rfl rfl fun w103 hL104 => ?_) gn
      have hp105 : List.Perm ([.own (.slice A56 n57 c58) 5 1 n57 (x55.flatMap (eI .u8)), .box g13 56 [selfP g13 x54, .slice A56 n57 c58], .box gb24 31 [.int .i64 ((ix x2 x9).kind), .string ((ix x2 x9).key), .string ((ix x2 x9).text), .int .i64 ((ix x2 x9).kids)], .box g3 Tb4 [.slice A5 n6 c7], .box g10 Tb11 [.int .i64 (w64 (x9 + 1))], .box g20 Tb21 [.func (.func 34) #[] #[.pointer (some ⟨g3, 0, none⟩), .pointer (some ⟨g10, 0, none⟩), .pointer (some ⟨g13, 0, none⟩), .pointer (some ⟨g20, 0, none⟩)]]] : List Ent) (([.box g13 56 [selfP g13 x54, .slice A56 n57 c58], .own (.slice A56 n57 c58) 5 1 n57 (x55.flatMap (eI .u8))] : List Ent) ++ ([.box gb24 31 [.int .i64 ((ix x2 x9).kind), .string ((ix x2 x9).key), .string ((ix x2 x9).text), .int .i64 ((ix x2 x9).kids)], .box g3 Tb4 [.slice A5 n6 c7], .box g10 Tb11 [.int .i64 (w64 (x9 + 1))], .box g20 Tb21 [.func (.func 34) #[] #[.pointer (some ⟨g3, 0, none⟩), .pointer (some ⟨g10, 0, none⟩), .pointer (some ⟨g13, 0, none⟩), .pointer (some ⟨g20, 0, none⟩)]]] : List Ent)) := pIx [1, 0] [2, 3, 4, 5] rfl rfl (by kernel_rfl)
      refine Calls.mono (strings_Builder_WriteString_calls w103 (Fl ([] : List Snap)) (⟨x54, x55⟩ : strings_Builder) ((ix x2 x9).text) g13 z18 A56 n57 c58 (Nat.le_trans hz19 hL104.env.size) h59 (hL104.hFl (Sl := ([] : List Snap)) hp105 (sels [] rfl)) (hL104.into hp105 (Fl ([] : List Snap))) r106 hv107) ?_
      rintro _ w113 ⟨A108, n109, c110, rfl, hM114, h111⟩
      have hL115 := hL104.call hp105 hM114
      refine ⟨_, _, _, rfl, hL115, ?_⟩
      refine w_end 3 rfl ?_
      refine g_inBlock ?_
      refine g_endR [] Tryd.func34 rfl (.nil) fun wr hLr => ?_
      have hMr : B.Loc w wr [.box g3 Tb4 [.slice A5 n6 c7], .box g10 Tb11 [.int .i64 (w64 (x9 + 1))], .box g13 56 [selfP g13 r106.2.addr, .slice A108 n109 c110], .box g20 Tb21 [.func (.func 34) #[] #[.pointer (some ⟨g3, 0, none⟩), .pointer (some ⟨g10, 0, none⟩), .pointer (some ⟨g13, 0, none⟩), .pointer (some ⟨g20, 0, none⟩)]], .own (.slice A108 n109 c110) 5 1 n109 (r106.2.buf.flatMap (eI .u8))] [St w [[g3], [g10], [g13], (Value.slice A14 n15 c16).ownBlock.toList, [g20]]] := hLr.pick (rest := [.box gb24 31 [.int .i64 ((ix x2 x9).kind), .string ((ix x2 x9).key), .string ((ix x2 x9).text), .int .i64 ((ix x2 x9).kids)]]) (pIx [3, 4, 0, 5, 1] [2] rfl rfl (by kernel_rfl)) (sels [1] rfl)
      have hMi : ∀ e ∈ ([.box g3 Tb4 [.slice A5 n6 c7], .box g10 Tb11 [.int .i64 (w64 (x9 + 1))], .box g13 56 [selfP g13 r106.2.addr, .slice A108 n109 c110], .box g20 Tb21 [.func (.func 34) #[] #[.pointer (some ⟨g3, 0, none⟩), .pointer (some ⟨g10, 0, none⟩), .pointer (some ⟨g13, 0, none⟩), .pointer (some ⟨g20, 0, none⟩)]], .own (.slice A108 n109 c110) 5 1 n109 (r106.2.buf.flatMap (eI .u8))] : List Ent), e ∈ ([.box g13 56 [selfP g13 r106.2.addr, .slice A108 n109 c110], .own (.slice A108 n109 c110) 5 1 n109 (r106.2.buf.flatMap (eI .u8)), .box gb24 31 [.int .i64 ((ix x2 x9).kind), .string ((ix x2 x9).key), .string ((ix x2 x9).text), .int .i64 ((ix x2 x9).kids)], .box g3 Tb4 [.slice A5 n6 c7], .box g10 Tb11 [.int .i64 (w64 (x9 + 1))], .box g20 Tb21 [.func (.func 34) #[] #[.pointer (some ⟨g3, 0, none⟩), .pointer (some ⟨g10, 0, none⟩), .pointer (some ⟨g13, 0, none⟩), .pointer (some ⟨g20, 0, none⟩)]]] : List Ent) := sels [3, 4, 0, 5, 1] rfl
      show json_Print_1_R w F g3 g10 g13 g20 Tb4 Tb11 Tb21 A14 n15 c16 z18 r (.returned (packV [])) wr
      rw [h]
      exact ⟨A108, n109, c110, A5, n6, c7, rfl, hMr, h111, (hLr.outR (s := Sm w.heap.size F w [[g3], [g10], [g13], (Value.slice A14 n15 c16).ownBlock.toList, [g20]]) hMi (me 0 rfl) Sm.ok h8)⟩
     ·have h := if_neg' hp102 h
      refine gFa (c := q34c29) rfl _ rfl ((nei hp102)) ?_
      refine gSq (c := q34c31) rfl ?_
      refine gRg (c := q34c32) rfl rfl ?_
      refine wl_v 0 rfl (vBn rfl rfl rfl) gn rfl ?_
      refine wl_v 1 rfl (vAs rfl) gn rfl ?_
      refine w_end 2 rfl ?_
      by_cases hp116 : (ix x2 x9).kind = 5
      ·have h := if_pos' hp116 h
       refine gTr (c := q34c33) rfl _ rfl ((eqi hp116)) ?_
       refine gRg (c := q34c34) rfl rfl ?_
       refine wl_v 0 rfl (vFB fo_31_2 rfl) gn rfl ?_
       refine wl_v 1 rfl (v_ldB1 2 ld_9 rfl rfl rfl) gn rfl ?_
       obtain ⟨r120, hv121, h⟩ := h
       refine wl_s 2 rfl (sCl [.pointer (some ⟨g13, 0, none⟩), .string ((ix x2 x9).text)] rfl Tryd.func35 rfl rfl rfl fun w117 hL118 => ?_) gn
       have hp119 : List.Perm ([.own (.slice A56 n57 c58) 5 1 n57 (x55.flatMap (eI .u8)), .box g13 56 [selfP g13 x54, .slice A56 n57 c58], .box gb24 31 [.int .i64 ((ix x2 x9).kind), .string ((ix x2 x9).key), .string ((ix x2 x9).text), .int .i64 ((ix x2 x9).kids)], .box g3 Tb4 [.slice A5 n6 c7], .box g10 Tb11 [.int .i64 (w64 (x9 + 1))], .box g20 Tb21 [.func (.func 34) #[] #[.pointer (some ⟨g3, 0, none⟩), .pointer (some ⟨g10, 0, none⟩), .pointer (some ⟨g13, 0, none⟩), .pointer (some ⟨g20, 0, none⟩)]]] : List Ent) (([.box g13 56 [selfP g13 x54, .slice A56 n57 c58], .own (.slice A56 n57 c58) 5 1 n57 (x55.flatMap (eI .u8))] : List Ent) ++ ([.box gb24 31 [.int .i64 ((ix x2 x9).kind), .string ((ix x2 x9).key), .string ((ix x2 x9).text), .int .i64 ((ix x2 x9).kids)], .box g3 Tb4 [.slice A5 n6 c7], .box g10 Tb11 [.int .i64 (w64 (x9 + 1))], .box g20 Tb21 [.func (.func 34) #[] #[.pointer (some ⟨g3, 0, none⟩), .pointer (some ⟨g10, 0, none⟩), .pointer (some ⟨g13, 0, none⟩), .pointer (some ⟨g20, 0, none⟩)]]] : List Ent)) := pIx [1, 0] [2, 3, 4, 5] rfl rfl (by kernel_rfl)
       refine Calls.mono (json_quote_calls w117 (Fl ([] : List Snap)) (⟨x54, x55⟩ : strings_Builder) ((ix x2 x9).text) g13 z18 A56 n57 c58 (Nat.le_trans hz19 hL118.env.size) h59 (hL118.tt hp119 hG0 (me 1 rfl)) (hL118.hFl (Sl := ([] : List Snap)) hp119 (sels [] rfl)) (hL118.into hp119 (Fl ([] : List Snap))) r120 hv121) ?_
       rintro _ w127 ⟨A122, n123, c124, rfl, hM128, h125⟩
       have hL129 := hL118.call hp119 hM128
       refine ⟨_, _, _, rfl, hL129, ?_⟩
       refine w_end 3 rfl ?_
       refine g_inBlock ?_
       refine g_endR [] Tryd.func34 rfl (.nil) fun wr hLr => ?_
       have hMr : B.Loc w wr [.box g3 Tb4 [.slice A5 n6 c7], .box g10 Tb11 [.int .i64 (w64 (x9 + 1))], .box g13 56 [selfP g13 r120.addr, .slice A122 n123 c124], .box g20 Tb21 [.func (.func 34) #[] #[.pointer (some ⟨g3, 0, none⟩), .pointer (some ⟨g10, 0, none⟩), .pointer (some ⟨g13, 0, none⟩), .pointer (some ⟨g20, 0, none⟩)]], .own (.slice A122 n123 c124) 5 1 n123 (r120.buf.flatMap (eI .u8))] [St w [[g3], [g10], [g13], (Value.slice A14 n15 c16).ownBlock.toList, [g20]]] := hLr.pick (rest := [.box gb24 31 [.int .i64 ((ix x2 x9).kind), .string ((ix x2 x9).key), .string ((ix x2 x9).text), .int .i64 ((ix x2 x9).kids)]]) (pIx [3, 4, 0, 5, 1] [2] rfl rfl (by kernel_rfl)) (sels [1] rfl)
       have hMi : ∀ e ∈ ([.box g3 Tb4 [.slice A5 n6 c7], .box g10 Tb11 [.int .i64 (w64 (x9 + 1))], .box g13 56 [selfP g13 r120.addr, .slice A122 n123 c124], .box g20 Tb21 [.func (.func 34) #[] #[.pointer (some ⟨g3, 0, none⟩), .pointer (some ⟨g10, 0, none⟩), .pointer (some ⟨g13, 0, none⟩), .pointer (some ⟨g20, 0, none⟩)]], .own (.slice A122 n123 c124) 5 1 n123 (r120.buf.flatMap (eI .u8))] : List Ent), e ∈ ([.box g13 56 [selfP g13 r120.addr, .slice A122 n123 c124], .own (.slice A122 n123 c124) 5 1 n123 (r120.buf.flatMap (eI .u8)), .box gb24 31 [.int .i64 ((ix x2 x9).kind), .string ((ix x2 x9).key), .string ((ix x2 x9).text), .int .i64 ((ix x2 x9).kids)], .box g3 Tb4 [.slice A5 n6 c7], .box g10 Tb11 [.int .i64 (w64 (x9 + 1))], .box g20 Tb21 [.func (.func 34) #[] #[.pointer (some ⟨g3, 0, none⟩), .pointer (some ⟨g10, 0, none⟩), .pointer (some ⟨g13, 0, none⟩), .pointer (some ⟨g20, 0, none⟩)]]] : List Ent) := sels [3, 4, 0, 5, 1] rfl
       show json_Print_1_R w F g3 g10 g13 g20 Tb4 Tb11 Tb21 A14 n15 c16 z18 r (.returned (packV [])) wr
       rw [h]
       exact ⟨A122, n123, c124, A5, n6, c7, rfl, hMr, h125, (hLr.outR (s := Sm w.heap.size F w [[g3], [g10], [g13], (Value.slice A14 n15 c16).ownBlock.toList, [g20]]) hMi (me 0 rfl) Sm.ok h8)⟩
      ·have h := if_neg' hp116 h
       refine gFa (c := q34c33) rfl _ rfl ((nei hp116)) ?_
       refine gSq (c := q34c35) rfl ?_
       refine gRg (c := q34c36) rfl rfl ?_
       refine wl_v 0 rfl (vAs rfl) gn rfl ?_
       refine w_end 1 rfl ?_
       refine gSq (c := q34c37) rfl ?_
       refine gSq (c := q34c38) rfl ?_
       refine gRg (c := q34c40) rfl rfl ?_
       refine wl_v 0 rfl (vFB fo_31_0 rfl) gn rfl ?_
       refine wl_v 1 rfl (v_ldB1 2 ld_29 rfl rfl rfl) gn rfl ?_
       refine wl_v 2 rfl (vBn rfl rfl rfl) gn rfl ?_
       refine w_end 3 rfl ?_
       have j2 : ∀ (x132 : ByteArray) (h : json_Print_1_j2 x54 x55 x2 x9 rc_json_Print_1 x132 r) , G (json_Print_1_C w F g3 g10 g13 g20 Tb4 Tb11 Tb21 A14 n15 c16 z18 r) [.code q34c39, .inBlock 0] [(3, .pointer (some ⟨g13, 0, none⟩)), (4, .pointer (some ⟨g20, 0, none⟩)), (6, .pointer (some ⟨gb24, 0, none⟩)), (7, .string x132)] [.own (.slice A56 n57 c58) 5 1 n57 (x55.flatMap (eI .u8)), .box g13 56 [selfP g13 x54, .slice A56 n57 c58], .box gb24 31 [.int .i64 ((ix x2 x9).kind), .string ((ix x2 x9).key), .string ((ix x2 x9).text), .int .i64 ((ix x2 x9).kids)], .box g3 Tb4 [.slice A5 n6 c7], .box g10 Tb11 [.int .i64 (w64 (x9 + 1))], .box g20 Tb21 [.func (.func 34) #[] #[.pointer (some ⟨g3, 0, none⟩), .pointer (some ⟨g10, 0, none⟩), .pointer (some ⟨g13, 0, none⟩), .pointer (some ⟨g20, 0, none⟩)]]] [Sm w.heap.size F w [[g3], [g10], [g13], (Value.slice A14 n15 c16).ownBlock.toList, [g20]], St w [[g3], [g10], [g13], (Value.slice A14 n15 c16).ownBlock.toList, [g20]]] := by
        intro x132 h
        unfold json_Print_1_j2 at h
        refine gSq (c := q34c39) rfl ?_
        refine gRg (c := q34c44) rfl rfl ?_
        refine wl_v 0 rfl (vMv rfl) gn rfl ?_
        obtain ⟨hb133, h⟩ := h
        refine wl_v 1 rfl (v_indexS un_9 rfl rfl hb133) gn rfl ?_
        obtain ⟨r137, hv138, h⟩ := h
        refine wl_s 2 rfl (sCl [.pointer (some ⟨g13, 0, none⟩), .int .u8 (bt x132 0)] rfl Tryd.func36 rfl rfl rfl fun w134 hL135 => ?_) gn
        have hp136 : List.Perm ([.own (.slice A56 n57 c58) 5 1 n57 (x55.flatMap (eI .u8)), .box g13 56 [selfP g13 x54, .slice A56 n57 c58], .box gb24 31 [.int .i64 ((ix x2 x9).kind), .string ((ix x2 x9).key), .string ((ix x2 x9).text), .int .i64 ((ix x2 x9).kids)], .box g3 Tb4 [.slice A5 n6 c7], .box g10 Tb11 [.int .i64 (w64 (x9 + 1))], .box g20 Tb21 [.func (.func 34) #[] #[.pointer (some ⟨g3, 0, none⟩), .pointer (some ⟨g10, 0, none⟩), .pointer (some ⟨g13, 0, none⟩), .pointer (some ⟨g20, 0, none⟩)]]] : List Ent) (([.box g13 56 [selfP g13 x54, .slice A56 n57 c58], .own (.slice A56 n57 c58) 5 1 n57 (x55.flatMap (eI .u8))] : List Ent) ++ ([.box gb24 31 [.int .i64 ((ix x2 x9).kind), .string ((ix x2 x9).key), .string ((ix x2 x9).text), .int .i64 ((ix x2 x9).kids)], .box g3 Tb4 [.slice A5 n6 c7], .box g10 Tb11 [.int .i64 (w64 (x9 + 1))], .box g20 Tb21 [.func (.func 34) #[] #[.pointer (some ⟨g3, 0, none⟩), .pointer (some ⟨g10, 0, none⟩), .pointer (some ⟨g13, 0, none⟩), .pointer (some ⟨g20, 0, none⟩)]]] : List Ent)) := pIx [1, 0] [2, 3, 4, 5] rfl rfl (by kernel_rfl)
        refine Calls.mono (strings_Builder_WriteByte_calls w134 (Fl ([] : List Snap)) (⟨x54, x55⟩ : strings_Builder) (bt x132 0) g13 z18 A56 n57 c58 (Nat.le_trans hz19 hL135.env.size) h59 (hL135.hFl (Sl := ([] : List Snap)) hp136 (sels [] rfl)) (hL135.into hp136 (Fl ([] : List Snap))) r137 hv138) ?_
        rintro _ w144 ⟨A139, n140, c141, rfl, hM145, h142⟩
        have hL146 := hL135.call hp136 hM145
        refine ⟨_, _, _, rfl, hL146, ?_⟩
        refine w_end 3 rfl ?_
        refine gSq (c := q34c45) rfl ?_
        refine gSq (c := q34c46) rfl ?_
        refine gRg (c := q34c48) rfl rfl ?_
        refine wl_v 0 rfl (vFB fo_31_3 rfl) gn rfl ?_
        refine wl_v 1 rfl (v_ldB1 2 ld_3 rfl rfl rfl) gn rfl ?_
        refine wl_v 2 rfl (vMv rfl) gn rfl ?_
        refine w_end 3 rfl ?_
        refine g_block (c := q34c49) rfl ?_
        refine g_loop (c := q34c50) rfl ?_
        have key3 : ∀ s, Rounds (fun (s : Int × Bool × (List Int) × (List JNd) × Int) o => json_Print_1_b3 x2 x9 rc_json_Print_1 x132 s.1 s.2.1 s.2.2.1 s.2.2.2.1 s.2.2.2.2 o) s r → (fun (s : Int × Bool × (List Int) × (List JNd) × Int) => ∀ (A185 : Option Addr) (n186 : Nat) (c187 : Nat) (h188 : Ow z18 A185 n186 c187 s.2.2.1) (A190 : Option Addr) (n191 : Nat) (c192 : Nat) (sw193 : World) (sb194 : List (List Nat)) (h195 : At k_api_JNode (Sm w.heap.size F sw193 sb194) A190 n191 c192 s.2.2.2.1), G (json_Print_1_C w F g3 g10 g13 g20 Tb4 Tb11 Tb21 A14 n15 c16 z18 r) [.code q34c51, .inLoop q34c51, .inBlock 1, .code q34c47, .inBlock 0] [(3, .pointer (some ⟨g13, 0, none⟩)), (4, .pointer (some ⟨g20, 0, none⟩)), (6, .pointer (some ⟨gb24, 0, none⟩)), (7, .string x132), (29, .int .i64 ((ix x2 x9).kids)), (30, .int .i64 s.1)] [.own (.slice A185 n186 c187) 5 1 n186 (s.2.2.1.flatMap (eI .u8)), .box g13 56 [selfP g13 s.2.1, .slice A185 n186 c187], .box gb24 31 [.int .i64 ((ix x2 x9).kind), .string ((ix x2 x9).key), .string ((ix x2 x9).text), .int .i64 ((ix x2 x9).kids)], .box g3 Tb4 [.slice A190 n191 c192], .box g10 Tb11 [.int .i64 s.2.2.2.2], .box g20 Tb21 [.func (.func 34) #[] #[.pointer (some ⟨g3, 0, none⟩), .pointer (some ⟨g10, 0, none⟩), .pointer (some ⟨g13, 0, none⟩), .pointer (some ⟨g20, 0, none⟩)]]] [Sm w.heap.size F sw193 sb194, Sm w.heap.size F w [[g3], [g10], [g13], (Value.slice A14 n15 c16).ownBlock.toList, [g20]], St w [[g3], [g10], [g13], (Value.slice A14 n15 c16).ownBlock.toList, [g20]]]) s := by
         intro s hs
         refine Rounds.ind (mot := (fun (s : Int × Bool × (List Int) × (List JNd) × Int) => ∀ (A185 : Option Addr) (n186 : Nat) (c187 : Nat) (h188 : Ow z18 A185 n186 c187 s.2.2.1) (A190 : Option Addr) (n191 : Nat) (c192 : Nat) (sw193 : World) (sb194 : List (List Nat)) (h195 : At k_api_JNode (Sm w.heap.size F sw193 sb194) A190 n191 c192 s.2.2.2.1), G (json_Print_1_C w F g3 g10 g13 g20 Tb4 Tb11 Tb21 A14 n15 c16 z18 r) [.code q34c51, .inLoop q34c51, .inBlock 1, .code q34c47, .inBlock 0] [(3, .pointer (some ⟨g13, 0, none⟩)), (4, .pointer (some ⟨g20, 0, none⟩)), (6, .pointer (some ⟨gb24, 0, none⟩)), (7, .string x132), (29, .int .i64 ((ix x2 x9).kids)), (30, .int .i64 s.1)] [.own (.slice A185 n186 c187) 5 1 n186 (s.2.2.1.flatMap (eI .u8)), .box g13 56 [selfP g13 s.2.1, .slice A185 n186 c187], .box gb24 31 [.int .i64 ((ix x2 x9).kind), .string ((ix x2 x9).key), .string ((ix x2 x9).text), .int .i64 ((ix x2 x9).kids)], .box g3 Tb4 [.slice A190 n191 c192], .box g10 Tb11 [.int .i64 s.2.2.2.2], .box g20 Tb21 [.func (.func 34) #[] #[.pointer (some ⟨g3, 0, none⟩), .pointer (some ⟨g10, 0, none⟩), .pointer (some ⟨g13, 0, none⟩), .pointer (some ⟨g20, 0, none⟩)]]] [Sm w.heap.size F sw193 sb194, Sm w.heap.size F w [[g3], [g10], [g13], (Value.slice A14 n15 c16).ownBlock.toList, [g20]], St w [[g3], [g10], [g13], (Value.slice A14 n15 c16).ownBlock.toList, [g20]]])) ?_ hs
         clear hs s
         intro s o1 h hO1
         obtain ⟨x182, x183, x184, x189, x196⟩ := s
         show ∀ (A185 : Option Addr) (n186 : Nat) (c187 : Nat) (h188 : Ow z18 A185 n186 c187 x184) (A190 : Option Addr) (n191 : Nat) (c192 : Nat) (sw193 : World) (sb194 : List (List Nat)) (h195 : At k_api_JNode (Sm w.heap.size F sw193 sb194) A190 n191 c192 x189), G (json_Print_1_C w F g3 g10 g13 g20 Tb4 Tb11 Tb21 A14 n15 c16 z18 r) [.code q34c51, .inLoop q34c51, .inBlock 1, .code q34c47, .inBlock 0] [(3, .pointer (some ⟨g13, 0, none⟩)), (4, .pointer (some ⟨g20, 0, none⟩)), (6, .pointer (some ⟨gb24, 0, none⟩)), (7, .string x132), (29, .int .i64 ((ix x2 x9).kids)), (30, .int .i64 x182)] [.own (.slice A185 n186 c187) 5 1 n186 (x184.flatMap (eI .u8)), .box g13 56 [selfP g13 x183, .slice A185 n186 c187], .box gb24 31 [.int .i64 ((ix x2 x9).kind), .string ((ix x2 x9).key), .string ((ix x2 x9).text), .int .i64 ((ix x2 x9).kids)], .box g3 Tb4 [.slice A190 n191 c192], .box g10 Tb11 [.int .i64 x196], .box g20 Tb21 [.func (.func 34) #[] #[.pointer (some ⟨g3, 0, none⟩), .pointer (some ⟨g10, 0, none⟩), .pointer (some ⟨g13, 0, none⟩), .pointer (some ⟨g20, 0, none⟩)]]] [Sm w.heap.size F sw193 sb194, Sm w.heap.size F w [[g3], [g10], [g13], (Value.slice A14 n15 c16).ownBlock.toList, [g20]], St w [[g3], [g10], [g13], (Value.slice A14 n15 c16).ownBlock.toList, [g20]]]
         intro A185 n186 c187 h188 A190 n191 c192 sw193 sb194 h195
         have h : json_Print_1_b3 x2 x9 rc_json_Print_1 x132 x182 x183 x184 x189 x196 o1 := h
         unfold json_Print_1_b3 at h
         refine gSq (c := q34c51) rfl ?_
         refine gRg (c := q34c52) rfl rfl ?_
         refine wl_v 0 rfl (vBn rfl rfl rfl) gn rfl ?_
         refine w_end 1 rfl ?_
         refine gSq (c := q34c53) rfl ?_
         by_cases hp264 : x182 < (ix x2 x9).kids
         ·have h := if_pos' hp264 h
          refine gTr (c := q34c54) rfl _ rfl ((decide_eq_true hp264)) ?_
          refine g_skip (c := q34c56) rfl ?_
          refine gSq (c := q34c55) rfl ?_
          refine g_block (c := q34c58) rfl ?_
          refine gSq (c := q34c60) rfl ?_
          refine gRg (c := q34c61) rfl rfl ?_
          refine wl_v 0 rfl (vMv rfl) gn rfl ?_
          refine wl_v 1 rfl (vAs rfl) gn rfl ?_
          refine w_end 2 rfl ?_
          refine gSq (c := q34c62) rfl ?_
          refine gSq (c := q34c63) rfl ?_
          refine gRg (c := q34c65) rfl rfl ?_
          refine wl_v 0 rfl (vMv rfl) gn rfl ?_
          refine wl_v 1 rfl (vBn rfl rfl rfl) gn rfl ?_
          refine w_end 2 rfl ?_
          by_cases hp265 : x182 > 0
          ·have h := if_pos' hp265 h
           refine gTr (c := q34c66) rfl _ rfl ((decide_eq_true hp265)) ?_
           refine gRg (c := q34c67) rfl rfl ?_
           obtain ⟨r269, hv270, h⟩ := h
           refine wl_s 0 rfl (sCl [.pointer (some ⟨g13, 0, none⟩), .int .u8 44] rfl Tryd.func36 rfl rfl rfl fun w266 hL267 => ?_) gn
           have hp268 : List.Perm ([.own (.slice A185 n186 c187) 5 1 n186 (x184.flatMap (eI .u8)), .box g13 56 [selfP g13 x183, .slice A185 n186 c187], .box gb24 31 [.int .i64 ((ix x2 x9).kind), .string ((ix x2 x9).key), .string ((ix x2 x9).text), .int .i64 ((ix x2 x9).kids)], .box g3 Tb4 [.slice A190 n191 c192], .box g10 Tb11 [.int .i64 x196], .box g20 Tb21 [.func (.func 34) #[] #[.pointer (some ⟨g3, 0, none⟩), .pointer (some ⟨g10, 0, none⟩), .pointer (some ⟨g13, 0, none⟩), .pointer (some ⟨g20, 0, none⟩)]]] : List Ent) (([.box g13 56 [selfP g13 x183, .slice A185 n186 c187], .own (.slice A185 n186 c187) 5 1 n186 (x184.flatMap (eI .u8))] : List Ent) ++ ([.box gb24 31 [.int .i64 ((ix x2 x9).kind), .string ((ix x2 x9).key), .string ((ix x2 x9).text), .int .i64 ((ix x2 x9).kids)], .box g3 Tb4 [.slice A190 n191 c192], .box g10 Tb11 [.int .i64 x196], .box g20 Tb21 [.func (.func 34) #[] #[.pointer (some ⟨g3, 0, none⟩), .pointer (some ⟨g10, 0, none⟩), .pointer (some ⟨g13, 0, none⟩), .pointer (some ⟨g20, 0, none⟩)]]] : List Ent)) := pIx [1, 0] [2, 3, 4, 5] rfl rfl (by kernel_rfl)
           refine Calls.mono (strings_Builder_WriteByte_calls w266 (Fl ([] : List Snap)) (⟨x183, x184⟩ : strings_Builder) 44 g13 z18 A185 n186 c187 (Nat.le_trans hz19 hL267.env.size) h188 (hL267.hFl (Sl := ([] : List Snap)) hp268 (sels [] rfl)) (hL267.into hp268 (Fl ([] : List Snap))) r269 hv270) ?_
           rintro _ w276 ⟨A271, n272, c273, rfl, hM277, h274⟩
           have hL278 := hL267.call hp268 hM277
           refine ⟨_, _, _, rfl, hL278, ?_⟩
           refine w_end 1 rfl ?_
           refine gRg (c := q34c64) rfl rfl ?_
           refine wl_v 0 rfl (v_ldB1 5 ld_57 rfl rfl rfl) gn rfl ?_
           refine wl_v 1 rfl (vFB fo_31_0 rfl) gn rfl ?_
           refine wl_v 2 rfl (v_ldB1 2 ld_29 rfl rfl rfl) gn rfl ?_
           refine wl_v 3 rfl (vBn rfl rfl rfl) gn rfl ?_
           obtain ⟨r282, hv283, h⟩ := h
           refine wl_s 4 rfl (s_callC [.bool (((ix x2 x9).kind) == 7)] [.pointer (some ⟨g3, 0, none⟩), .pointer (some ⟨g10, 0, none⟩), .pointer (some ⟨g13, 0, none⟩), .pointer (some ⟨g20, 0, none⟩)] rfl rfl Tryd.func34 rfl rfl rfl fun w279 hL280 => ?_) gn
           have hp281 : List.Perm ([.box g13 56 [selfP g13 r269.addr, .slice A271 n272 c273], .own (.slice A271 n272 c273) 5 1 n272 (r269.buf.flatMap (eI .u8)), .box gb24 31 [.int .i64 ((ix x2 x9).kind), .string ((ix x2 x9).key), .string ((ix x2 x9).text), .int .i64 ((ix x2 x9).kids)], .box g3 Tb4 [.slice A190 n191 c192], .box g10 Tb11 [.int .i64 x196], .box g20 Tb21 [.func (.func 34) #[] #[.pointer (some ⟨g3, 0, none⟩), .pointer (some ⟨g10, 0, none⟩), .pointer (some ⟨g13, 0, none⟩), .pointer (some ⟨g20, 0, none⟩)]]] : List Ent) (([.box g3 Tb4 [.slice A190 n191 c192], .box g10 Tb11 [.int .i64 x196], .box g13 56 [selfP g13 r269.addr, .slice A271 n272 c273], .own (.slice A271 n272 c273) 5 1 n272 (r269.buf.flatMap (eI .u8)), .box g20 Tb21 [.func (.func 34) #[] #[.pointer (some ⟨g3, 0, none⟩), .pointer (some ⟨g10, 0, none⟩), .pointer (some ⟨g13, 0, none⟩), .pointer (some ⟨g20, 0, none⟩)]]] : List Ent) ++ ([.box gb24 31 [.int .i64 ((ix x2 x9).kind), .string ((ix x2 x9).key), .string ((ix x2 x9).text), .int .i64 ((ix x2 x9).kids)]] : List Ent)) := pIx [3, 4, 0, 1, 5] [2] rfl rfl (by kernel_rfl)
           refine Calls.mono (ih_json_Print_1 w279 (Fl ([Sm w.heap.size F sw193 sb194] : List Snap)) (((ix x2 x9).kind) == 7) x189 x196 r269 g3 Tb4 A190 n191 c192 g10 Tb11 g13 z18 A271 n272 c273 g20 Tb21 (Rw.mono h195 (hL280.toFl (me 0 rfl) (me 0 rfl))) (Nat.le_trans hz19 hL280.env.size) h274 (hL280.tt hp281 hG0 (me 2 rfl)) (hL280.hFl (Sl := ([Sm w.heap.size F sw193 sb194] : List Snap)) hp281 (sels [0] rfl)) (hL280.into hp281 (Fl ([Sm w.heap.size F sw193 sb194] : List Snap))) r282 hv283) ?_
           rintro _ w293 ⟨A288, n289, c290, A284, n285, c286, rfl, hM294, h291, h287⟩
           obtain ⟨sb297, hL295, hv296⟩ := hL280.callB (Sl := ([Sm w.heap.size F sw193 sb194] : List Snap)) hp281 hM294 F (sels [0] rfl) ⟨Sm.ok, trivial⟩
           have h287 : At k_api_JNode (Sm w.heap.size F w293 sb297) A284 n285 c286 r282.1 := Rw.mono h287 hv296
           refine ⟨_, _, _, rfl, hL295, ?_⟩
           refine w_end 5 rfl ?_
           refine g_inBlock ?_
           refine gRg (c := q34c59) rfl rfl ?_
           refine wl_v 0 rfl (vBn rfl rfl rfl) gn rfl ?_
           refine wl_v 1 rfl (vMv rfl) gn rfl ?_
           refine w_end 2 rfl ?_
           refine g_inLoop ?_
           refine gFr 3 rfl ?_
           refine gFr 2 rfl ?_
           refine gFr 2 rfl ?_
           refine gFr 5 rfl ?_
           refine gFr 4 rfl ?_
           refine gFr 5 rfl ?_
           have ih := Out.inl hO1 h
           exact g_go [0, 2, 3] (ih A288 n289 c290 h291 A284 n285 c286 w293 sb297 h287) ⟨rfl, rfl, rfl, rfl, rfl, rfl, trivial⟩ (.cons_cons _ (.cons_cons _ (.cons_cons _ (.cons_cons _ (.cons_cons _ (.cons_cons _ (.slnil))))))) rfl
          ·have h := if_neg' hp265 h
           refine gFa (c := q34c66) rfl _ rfl ((decide_eq_false hp265)) ?_
           refine g_skip (c := q34c68) rfl ?_
           refine gRg (c := q34c64) rfl rfl ?_
           refine wl_v 0 rfl (v_ldB1 5 ld_57 rfl rfl rfl) gn rfl ?_
           refine wl_v 1 rfl (vFB fo_31_0 rfl) gn rfl ?_
           refine wl_v 2 rfl (v_ldB1 2 ld_29 rfl rfl rfl) gn rfl ?_
           refine wl_v 3 rfl (vBn rfl rfl rfl) gn rfl ?_
           obtain ⟨r301, hv302, h⟩ := h
           refine wl_s 4 rfl (s_callC [.bool (((ix x2 x9).kind) == 7)] [.pointer (some ⟨g3, 0, none⟩), .pointer (some ⟨g10, 0, none⟩), .pointer (some ⟨g13, 0, none⟩), .pointer (some ⟨g20, 0, none⟩)] rfl rfl Tryd.func34 rfl rfl rfl fun w298 hL299 => ?_) gn
           have hp300 : List.Perm ([.own (.slice A185 n186 c187) 5 1 n186 (x184.flatMap (eI .u8)), .box g13 56 [selfP g13 x183, .slice A185 n186 c187], .box gb24 31 [.int .i64 ((ix x2 x9).kind), .string ((ix x2 x9).key), .string ((ix x2 x9).text), .int .i64 ((ix x2 x9).kids)], .box g3 Tb4 [.slice A190 n191 c192], .box g10 Tb11 [.int .i64 x196], .box g20 Tb21 [.func (.func 34) #[] #[.pointer (some ⟨g3, 0, none⟩), .pointer (some ⟨g10, 0, none⟩), .pointer (some ⟨g13, 0, none⟩), .pointer (some ⟨g20, 0, none⟩)]]] : List Ent) (([.box g3 Tb4 [.slice A190 n191 c192], .box g10 Tb11 [.int .i64 x196], .box g13 56 [selfP g13 x183, .slice A185 n186 c187], .own (.slice A185 n186 c187) 5 1 n186 (x184.flatMap (eI .u8)), .box g20 Tb21 [.func (.func 34) #[] #[.pointer (some ⟨g3, 0, none⟩), .pointer (some ⟨g10, 0, none⟩), .pointer (some ⟨g13, 0, none⟩), .pointer (some ⟨g20, 0, none⟩)]]] : List Ent) ++ ([.box gb24 31 [.int .i64 ((ix x2 x9).kind), .string ((ix x2 x9).key), .string ((ix x2 x9).text), .int .i64 ((ix x2 x9).kids)]] : List Ent)) := pIx [3, 4, 1, 0, 5] [2] rfl rfl (by kernel_rfl)
           refine Calls.mono (ih_json_Print_1 w298 (Fl ([Sm w.heap.size F sw193 sb194] : List Snap)) (((ix x2 x9).kind) == 7) x189 x196 (⟨x183, x184⟩ : strings_Builder) g3 Tb4 A190 n191 c192 g10 Tb11 g13 z18 A185 n186 c187 g20 Tb21 (Rw.mono h195 (hL299.toFl (me 0 rfl) (me 0 rfl))) (Nat.le_trans hz19 hL299.env.size) h188 (hL299.tt hp300 hG0 (me 2 rfl)) (hL299.hFl (Sl := ([Sm w.heap.size F sw193 sb194] : List Snap)) hp300 (sels [0] rfl)) (hL299.into hp300 (Fl ([Sm w.heap.size F sw193 sb194] : List Snap))) r301 hv302) ?_
           rintro _ w312 ⟨A307, n308, c309, A303, n304, c305, rfl, hM313, h310, h306⟩
           obtain ⟨sb316, hL314, hv315⟩ := hL299.callB (Sl := ([Sm w.heap.size F sw193 sb194] : List Snap)) hp300 hM313 F (sels [0] rfl) ⟨Sm.ok, trivial⟩
           have h306 : At k_api_JNode (Sm w.heap.size F w312 sb316) A303 n304 c305 r301.1 := Rw.mono h306 hv315
           refine ⟨_, _, _, rfl, hL314, ?_⟩
           refine w_end 5 rfl ?_
           refine g_inBlock ?_
           refine gRg (c := q34c59) rfl rfl ?_
           refine wl_v 0 rfl (vBn rfl rfl rfl) gn rfl ?_
           refine wl_v 1 rfl (vMv rfl) gn rfl ?_
           refine w_end 2 rfl ?_
           refine g_inLoop ?_
           refine gFr 3 rfl ?_
           refine gFr 2 rfl ?_
           refine gFr 2 rfl ?_
           refine gFr 5 rfl ?_
           refine gFr 4 rfl ?_
           refine gFr 5 rfl ?_
           have ih := Out.inl hO1 h
           exact g_go [0, 2, 3] (ih A307 n308 c309 h310 A303 n304 c305 w312 sb316 h306) ⟨rfl, rfl, rfl, rfl, rfl, rfl, trivial⟩ (.cons_cons _ (.cons_cons _ (.cons_cons _ (.cons_cons _ (.cons_cons _ (.cons_cons _ (.slnil))))))) rfl
         ·have h := if_neg' hp264 h
          refine gFa (c := q34c54) rfl _ rfl ((decide_eq_false hp264)) ?_
          refine g_exit (c := q34c57) [.code q34c47, .inBlock 0] rfl rfl ?_
          refine gRg (c := q34c47) rfl rfl ?_
          refine wl_v 0 rfl (vMv rfl) gn rfl ?_
          obtain ⟨hb317, h⟩ := h
          refine wl_v 1 rfl (v_indexS un_9 rfl rfl hb317) gn rfl ?_
          obtain ⟨r321, hv322, h⟩ := h
          refine wl_s 2 rfl (sCl [.pointer (some ⟨g13, 0, none⟩), .int .u8 (bt x132 1)] rfl Tryd.func36 rfl rfl rfl fun w318 hL319 => ?_) gn
          have hp320 : List.Perm ([.own (.slice A185 n186 c187) 5 1 n186 (x184.flatMap (eI .u8)), .box g13 56 [selfP g13 x183, .slice A185 n186 c187], .box gb24 31 [.int .i64 ((ix x2 x9).kind), .string ((ix x2 x9).key), .string ((ix x2 x9).text), .int .i64 ((ix x2 x9).kids)], .box g3 Tb4 [.slice A190 n191 c192], .box g10 Tb11 [.int .i64 x196], .box g20 Tb21 [.func (.func 34) #[] #[.pointer (some ⟨g3, 0, none⟩), .pointer (some ⟨g10, 0, none⟩), .pointer (some ⟨g13, 0, none⟩), .pointer (some ⟨g20, 0, none⟩)]]] : List Ent) (([.box g13 56 [selfP g13 x183, .slice A185 n186 c187], .own (.slice A185 n186 c187) 5 1 n186 (x184.flatMap (eI .u8))] : List Ent) ++ ([.box gb24 31 [.int .i64 ((ix x2 x9).kind), .string ((ix x2 x9).key), .string ((ix x2 x9).text), .int .i64 ((ix x2 x9).kids)], .box g3 Tb4 [.slice A190 n191 c192], .box g10 Tb11 [.int .i64 x196], .box g20 Tb21 [.func (.func 34) #[] #[.pointer (some ⟨g3, 0, none⟩), .pointer (some ⟨g10, 0, none⟩), .pointer (some ⟨g13, 0, none⟩), .pointer (some ⟨g20, 0, none⟩)]]] : List Ent)) := pIx [1, 0] [2, 3, 4, 5] rfl rfl (by kernel_rfl)
          refine Calls.mono (strings_Builder_WriteByte_calls w318 (Fl ([] : List Snap)) (⟨x183, x184⟩ : strings_Builder) (bt x132 1) g13 z18 A185 n186 c187 (Nat.le_trans hz19 hL319.env.size) h188 (hL319.hFl (Sl := ([] : List Snap)) hp320 (sels [] rfl)) (hL319.into hp320 (Fl ([] : List Snap))) r321 hv322) ?_
          rintro _ w328 ⟨A323, n324, c325, rfl, hM329, h326⟩
          have hL330 := hL319.call hp320 hM329
          refine ⟨_, _, _, rfl, hL330, ?_⟩
          refine w_end 3 rfl ?_
          refine g_inBlock ?_
          have h := Out.inr hO1 h
          refine g_endR [] Tryd.func34 rfl (.nil) fun wr hLr => ?_
          have hMr : B.Loc w wr [.box g3 Tb4 [.slice A190 n191 c192], .box g10 Tb11 [.int .i64 x196], .box g13 56 [selfP g13 r321.addr, .slice A323 n324 c325], .box g20 Tb21 [.func (.func 34) #[] #[.pointer (some ⟨g3, 0, none⟩), .pointer (some ⟨g10, 0, none⟩), .pointer (some ⟨g13, 0, none⟩), .pointer (some ⟨g20, 0, none⟩)]], .own (.slice A323 n324 c325) 5 1 n324 (r321.buf.flatMap (eI .u8))] [St w [[g3], [g10], [g13], (Value.slice A14 n15 c16).ownBlock.toList, [g20]]] := hLr.pick (rest := [.box gb24 31 [.int .i64 ((ix x2 x9).kind), .string ((ix x2 x9).key), .string ((ix x2 x9).text), .int .i64 ((ix x2 x9).kids)]]) (pIx [3, 4, 0, 5, 1] [2] rfl rfl (by kernel_rfl)) (sels [2] rfl)
          have hMi : ∀ e ∈ ([.box g3 Tb4 [.slice A190 n191 c192], .box g10 Tb11 [.int .i64 x196], .box g13 56 [selfP g13 r321.addr, .slice A323 n324 c325], .box g20 Tb21 [.func (.func 34) #[] #[.pointer (some ⟨g3, 0, none⟩), .pointer (some ⟨g10, 0, none⟩), .pointer (some ⟨g13, 0, none⟩), .pointer (some ⟨g20, 0, none⟩)]], .own (.slice A323 n324 c325) 5 1 n324 (r321.buf.flatMap (eI .u8))] : List Ent), e ∈ ([.box g13 56 [selfP g13 r321.addr, .slice A323 n324 c325], .own (.slice A323 n324 c325) 5 1 n324 (r321.buf.flatMap (eI .u8)), .box gb24 31 [.int .i64 ((ix x2 x9).kind), .string ((ix x2 x9).key), .string ((ix x2 x9).text), .int .i64 ((ix x2 x9).kids)], .box g3 Tb4 [.slice A190 n191 c192], .box g10 Tb11 [.int .i64 x196], .box g20 Tb21 [.func (.func 34) #[] #[.pointer (some ⟨g3, 0, none⟩), .pointer (some ⟨g10, 0, none⟩), .pointer (some ⟨g13, 0, none⟩), .pointer (some ⟨g20, 0, none⟩)]]] : List Ent) := sels [3, 4, 0, 5, 1] rfl
          show json_Print_1_R w F g3 g10 g13 g20 Tb4 Tb11 Tb21 A14 n15 c16 z18 r (.returned (packV [])) wr
          rw [h]
          exact ⟨A323, n324, c325, A190, n191, c192, rfl, hMr, h326, (hLr.outR (s := Sm w.heap.size F sw193 sb194) hMi (me 0 rfl) Sm.ok h195)⟩
        refine gFr 5 rfl ?_
        refine gFr 5 rfl ?_
        refine gFr 5 rfl ?_
        refine gFr 5 rfl ?_
        refine gFr 4 rfl ?_
        refine gFr 5 rfl ?_
        exact g_go [0, 0, 1] (key3 _ h A139 n140 c141 h142 A5 n6 c7 w [[g3], [g10], [g13], (Value.slice A14 n15 c16).ownBlock.toList, [g20]] h8) ⟨rfl, rfl, rfl, rfl, rfl, rfl, trivial⟩ (.cons_cons _ (.cons_cons _ (.cons_cons _ (.cons_cons _ (.cons_cons _ (.cons_cons _ (.slnil))))))) rfl
       by_cases hp130 : (ix x2 x9).kind = 7
       ·have h := if_pos' hp130 h
        refine gTr (c := q34c41) rfl _ rfl ((eqi hp130)) ?_
        refine gRg (c := q34c42) rfl rfl ?_
        refine wl_v 0 rfl (vAs rfl) gn rfl ?_
        refine w_end 1 rfl ?_
        exact g_go [0, 1] (j2 (⟨#[123, 125]⟩ : ByteArray) h) ⟨rfl, rfl, rfl, rfl, trivial⟩ (.cons_cons _ (.cons_cons _ (.cons_cons _ (.cons_cons _ (.cons_cons _ (.cons_cons _ (.slnil))))))) rfl
       ·have h := if_neg' hp130 h
        refine gFa (c := q34c41) rfl _ rfl ((nei hp130)) ?_
        refine g_skip (c := q34c43) rfl ?_
        exact g_go [0, 1] (j2 (⟨#[91, 93]⟩ : ByteArray) h) ⟨rfl, rfl, rfl, rfl, trivial⟩ (.cons_cons _ (.cons_cons _ (.cons_cons _ (.cons_cons _ (.cons_cons _ (.cons_cons _ (.slnil))))))) rfl
 by_cases hp26 : x1 = true
 ·have h := if_pos' hp26 h
  refine gTr (c := q34c8) rfl _ rfl (hp26) ?_
  refine gSq (c := q34c9) rfl ?_
  refine gRg (c := q34c11) rfl rfl ?_
  refine wl_v 0 rfl (vFB fo_31_1 rfl) gn rfl ?_
  refine wl_v 1 rfl (v_ldB1 0 ld_9 rfl rfl rfl) gn rfl ?_
  obtain ⟨r334, hv335, h⟩ := h
  refine wl_s 2 rfl (sCl [.pointer (some ⟨g13, 0, none⟩), .string ((ix x2 x9).key)] rfl Tryd.func35 rfl rfl rfl fun w331 hL332 => ?_) gn
  have hp333 : List.Perm ([.box gb24 31 [.int .i64 ((ix x2 x9).kind), .string ((ix x2 x9).key), .string ((ix x2 x9).text), .int .i64 ((ix x2 x9).kids)], .box g3 Tb4 [.slice A5 n6 c7], .box g10 Tb11 [.int .i64 (w64 (x9 + 1))], .box g13 56 [selfP g13 x12.addr, .slice A14 n15 c16], .own (.slice A14 n15 c16) 5 1 n15 (x12.buf.flatMap (eI .u8)), .box g20 Tb21 [.func (.func 34) #[] #[.pointer (some ⟨g3, 0, none⟩), .pointer (some ⟨g10, 0, none⟩), .pointer (some ⟨g13, 0, none⟩), .pointer (some ⟨g20, 0, none⟩)]]] : List Ent) (([.box g13 56 [selfP g13 x12.addr, .slice A14 n15 c16], .own (.slice A14 n15 c16) 5 1 n15 (x12.buf.flatMap (eI .u8))] : List Ent) ++ ([.box gb24 31 [.int .i64 ((ix x2 x9).kind), .string ((ix x2 x9).key), .string ((ix x2 x9).text), .int .i64 ((ix x2 x9).kids)], .box g3 Tb4 [.slice A5 n6 c7], .box g10 Tb11 [.int .i64 (w64 (x9 + 1))], .box g20 Tb21 [.func (.func 34) #[] #[.pointer (some ⟨g3, 0, none⟩), .pointer (some ⟨g10, 0, none⟩), .pointer (some ⟨g13, 0, none⟩), .pointer (some ⟨g20, 0, none⟩)]]] : List Ent)) := pIx [3, 4] [0, 1, 2, 5] rfl rfl (by kernel_rfl)
  refine Calls.mono (json_quote_calls w331 (Fl ([] : List Snap)) x12 ((ix x2 x9).key) g13 z18 A14 n15 c16 (Nat.le_trans hz19 hL332.env.size) h17 (hL332.tt hp333 hG0 (me 1 rfl)) (hL332.hFl (Sl := ([] : List Snap)) hp333 (sels [] rfl)) (hL332.into hp333 (Fl ([] : List Snap))) r334 hv335) ?_
  rintro _ w341 ⟨A336, n337, c338, rfl, hM342, h339⟩
  have hL343 := hL332.call hp333 hM342
  refine ⟨_, _, _, rfl, hL343, ?_⟩
  refine w_end 3 rfl ?_
  refine gRg (c := q34c12) rfl rfl ?_
  obtain ⟨r347, hv348, h⟩ := h
  refine wl_s 0 rfl (sCl [.pointer (some ⟨g13, 0, none⟩), .int .u8 58] rfl Tryd.func36 rfl rfl rfl fun w344 hL345 => ?_) gn
  have hp346 : List.Perm ([.box g13 56 [selfP g13 r334.addr, .slice A336 n337 c338], .own (.slice A336 n337 c338) 5 1 n337 (r334.buf.flatMap (eI .u8)), .box gb24 31 [.int .i64 ((ix x2 x9).kind), .string ((ix x2 x9).key), .string ((ix x2 x9).text), .int .i64 ((ix x2 x9).kids)], .box g3 Tb4 [.slice A5 n6 c7], .box g10 Tb11 [.int .i64 (w64 (x9 + 1))], .box g20 Tb21 [.func (.func 34) #[] #[.pointer (some ⟨g3, 0, none⟩), .pointer (some ⟨g10, 0, none⟩), .pointer (some ⟨g13, 0, none⟩), .pointer (some ⟨g20, 0, none⟩)]]] : List Ent) (([.box g13 56 [selfP g13 r334.addr, .slice A336 n337 c338], .own (.slice A336 n337 c338) 5 1 n337 (r334.buf.flatMap (eI .u8))] : List Ent) ++ ([.box gb24 31 [.int .i64 ((ix x2 x9).kind), .string ((ix x2 x9).key), .string ((ix x2 x9).text), .int .i64 ((ix x2 x9).kids)], .box g3 Tb4 [.slice A5 n6 c7], .box g10 Tb11 [.int .i64 (w64 (x9 + 1))], .box g20 Tb21 [.func (.func 34) #[] #[.pointer (some ⟨g3, 0, none⟩), .pointer (some ⟨g10, 0, none⟩), .pointer (some ⟨g13, 0, none⟩), .pointer (some ⟨g20, 0, none⟩)]]] : List Ent)) := pIx [0, 1] [2, 3, 4, 5] rfl rfl (by kernel_rfl)
  refine Calls.mono (strings_Builder_WriteByte_calls w344 (Fl ([] : List Snap)) r334 58 g13 z18 A336 n337 c338 (Nat.le_trans hz19 hL345.env.size) h339 (hL345.hFl (Sl := ([] : List Snap)) hp346 (sels [] rfl)) (hL345.into hp346 (Fl ([] : List Snap))) r347 hv348) ?_
  rintro _ w354 ⟨A349, n350, c351, rfl, hM355, h352⟩
  have hL356 := hL345.call hp346 hM355
  refine ⟨_, _, _, rfl, hL356, ?_⟩
  refine w_end 1 rfl ?_
  refine gFr 5 rfl ?_
  refine gFr 5 rfl ?_
  refine gFr 5 rfl ?_
  refine gFr 5 rfl ?_
  refine gFr 4 rfl ?_
  refine gFr 5 rfl ?_
  exact g_go [0, 1] (j1 r347.addr r347.buf h A349 n350 c351 h352) ⟨rfl, rfl, rfl, trivial⟩ (.cons_cons _ (.cons_cons _ (.cons_cons _ (.cons_cons _ (.cons_cons _ (.cons_cons _ (.slnil))))))) rfl
 ·have h := if_neg' hp26 h
  refine gFa (c := q34c8) rfl _ rfl ((bf hp26)) ?_
  refine g_skip (c := q34c10) rfl ?_
  refine gFr 5 rfl ?_
  refine gFr 3 rfl ?_
  refine gFr 3 rfl ?_
  refine gFr 3 rfl ?_
  refine gFr 4 rfl ?_
  refine gFr 5 rfl ?_
  exact g_go [0, 1] (j1 x12.addr x12.buf h A14 n15 c16 h17) ⟨rfl, rfl, rfl, trivial⟩ (.cons_cons _ (.cons_cons _ (.cons_cons _ (.cons_cons _ (.cons_cons _ (.cons_cons _ (.slnil))))))) rfl
theorem json_Print_1_ind : ∀ n, json_Print_1_st (json_Print_1_n n)
 | 0 => fun w F x1 x2 x9 x12 g3 Tb4 A5 n6 c7 g10 Tb11 g13 z18 A14 n15 c16 g20 Tb21 h8 hz19 h17 hG0 hF hL0 r h => h.elim
 | n + 1 => by
  have ih := json_Print_1_ind n
  exact json_Print_1_step _ ih
theorem json_Print_1_calls (w : World) (F : Nat → Prop) (x1 : Bool) (x2 : List JNd) (x9 : Int) (x12 : strings_Builder) (g3 : Nat) (Tb4 : Nat) (A5 : Option Addr) (n6 : Nat) (c7 : Nat) (g10 : Nat) (Tb11 : Nat) (g13 : Nat) (z18 : Nat) (A14 : Option Addr) (n15 : Nat) (c16 : Nat) (g20 : Nat) (Tb21 : Nat) (h8 : Rw k_api_JNode w F A5 n6 c7 x2) (hz19 : z18 ≤ w.heap.size) (h17 : Ow z18 A14 n15 c16 x12.buf) (hG0 : Tt .u8 tb_0 0 (St w [[g3], [g10], [g13], (Value.slice A14 n15 c16).ownBlock.toList, [g20]])) (hF : ∀ b, F b → b < w.heap.size ∧ ∀ o ∈ ([[g3], [g10], [g13], (Value.slice A14 n15 c16).ownBlock.toList, [g20]] : List (List Nat)), b ∉ o) (hL0 : B.Loc w w [.box g3 Tb4 [.slice A5 n6 c7], .box g10 Tb11 [.int .i64 x9], .box g13 56 [selfP g13 x12.addr, .slice A14 n15 c16], .own (.slice A14 n15 c16) 5 1 n15 (x12.buf.flatMap (eI .u8)), .box g20 Tb21 [.func (.func 34) #[] #[.pointer (some ⟨g3, 0, none⟩), .pointer (some ⟨g10, 0, none⟩), .pointer (some ⟨g13, 0, none⟩), .pointer (some ⟨g20, 0, none⟩)]]] [Sm w.heap.size F w [[g3], [g10], [g13], (Value.slice A14 n15 c16).ownBlock.toList, [g20]], St w [[g3], [g10], [g13], (Value.slice A14 n15 c16).ownBlock.toList, [g20]]]) (r : (List JNd) × Int × strings_Builder) (h : json_Print_1 x1 x2 x9 x12 r) : Calls Tryd.prog 34 #[.bool x1, .pointer (some ⟨g3, 0, none⟩), .pointer (some ⟨g10, 0, none⟩), .pointer (some ⟨g13, 0, none⟩), .pointer (some ⟨g20, 0, none⟩)] w (json_Print_1_R w F g3 g10 g13 g20 Tb4 Tb11 Tb21 A14 n15 c16 z18 r) := by
 obtain ⟨n, h⟩ := h
 exact (json_Print_1_ind n) w F x1 x2 x9 x12 g3 Tb4 A5 n6 c7 g10 Tb11 g13 z18 A14 n15 c16 g20 Tb21 h8 hz19 h17 hG0 hF hL0 r h
noncomputable abbrev q38c0 : Code := bodyOf Tryd.f38
noncomputable abbrev q38c1 := Code.fst q38c0
noncomputable abbrev q38c2 := Code.snd q38c0
noncomputable abbrev q38c3 := Code.fst q38c2
noncomputable abbrev q38c4 := Code.snd q38c2
abbrev strings_Builder_String_R (w : World) (F : Nat → Prop) (g2 : Nat) (A3 : Option Addr) (n4 : Nat) (c5 : Nat) (z7 : Nat) (r : ByteArray) : Ending → World → Prop := fun e w' => e = .returned (.string r) ∧ B.Loc w w' [] [St w [[g2], (Value.slice A3 n4 c5).ownBlock.toList]]
noncomputable abbrev strings_Builder_String_C (w : World) (F : Nat → Prop) (g2 : Nat) (A3 : Option Addr) (n4 : Nat) (c5 : Nat) (z7 : Nat) (r : ByteArray) : Cx := ⟨Tryd.prog, 38, Tryd.f38, 14, strings_Builder_String_R w F g2 A3 n4 c5 z7 r, w⟩
theorem strings_Builder_String_calls (w : World) (F : Nat → Prop) (x1 : strings_Builder) (g2 : Nat) (z7 : Nat) (A3 : Option Addr) (n4 : Nat) (c5 : Nat) (hz8 : z7 ≤ w.heap.size) (h6 : Ow z7 A3 n4 c5 x1.buf) (hF : ∀ b, F b → b < w.heap.size ∧ ∀ o ∈ ([[g2], (Value.slice A3 n4 c5).ownBlock.toList] : List (List Nat)), b ∉ o) (hL0 : B.Loc w w [.box g2 56 [selfP g2 x1.addr, .slice A3 n4 c5], .own (.slice A3 n4 c5) 5 1 n4 (x1.buf.flatMap (eI .u8))] [Sm w.heap.size F w [[g2], (Value.slice A3 n4 c5).ownBlock.toList], St w [[g2], (Value.slice A3 n4 c5).ownBlock.toList]]) (r : ByteArray) (h : strings_Builder_String x1 r) : Calls Tryd.prog 38 #[.pointer (some ⟨g2, 0, none⟩)] w (strings_Builder_String_R w F g2 A3 n4 c5 z7 r) := by
 unfold strings_Builder_String at h
 refine calls_of_Loc (vs := [.pointer (some ⟨g2, 0, none⟩)]) 14 Tryd.func38 rfl Tryd.ntmps38 rfl hL0 ?_
 show G (strings_Builder_String_C w F g2 A3 n4 c5 z7 r) _ _ _ _
 refine gSq (c := q38c0) rfl ?_
 refine gRg (c := q38c1) rfl rfl ?_
 refine wl_v 0 rfl (vAs rfl) gn rfl ?_
 refine w_end 1 rfl ?_
 refine gSq (c := q38c2) rfl ?_
 have hns : Region.noSelect (Code.ops q38c3) = true := by kernel_rfl
 refine g_drawF (c := q38c3) [.box g2 56 [selfP g2 x1.addr, .slice A3 n4 c5], .own (.slice A3 n4 c5) 5 1 n4 (x1.buf.flatMap (eI .u8))] [Sm w.heap.size F w [[g2], (Value.slice A3 n4 c5).ownBlock.toList], St w [[g2], (Value.slice A3 n4 c5).ownBlock.toList]] [10, 11] 12 rfl rfl mix rfl (.cons_cons _ (.cons_cons _ (.slnil))) (sels [0, 1] rfl) ?_
 refine wfv 0 rfl (vMv rfl) gn hns (by kernel_rfl) ?_
 refine wfv 1 rfl (vNc rfl) gn hns (by kernel_rfl) ?_
 refine wfv 2 rfl (vFB fo_56_1 rfl) gn hns (by kernel_rfl) ?_
 refine wfv 3 rfl (v_ldB1 0 ld_54 rfl rfl rfl) gn hns (by kernel_rfl) ?_
 refine wfv 5 rfl (vMv rfl) gn hns (by kernel_rfl) ?_
 refine wfv 6 rfl (vNc rfl) gn hns (by kernel_rfl) ?_
 refine wfv 7 rfl (vFB fo_56_1 rfl) gn hns (by kernel_rfl) ?_
 refine wfv 8 rfl (v_ldB1 0 ld_54 rfl rfl rfl) gn hns (by kernel_rfl) ?_
 refine wfv 9 rfl (v_lenQ un_54 rfl h6.hq) gn hns (by kernel_rfl) ?_
 refine wf_all [4] (by kernel_rfl) rfl ⟨on_s 4 rfl gn rfl (s_slData 1 un_79 rfl rfl rfl fun p37 hp38 => ?_), trivial⟩
 refine ⟨sels [0, 1] rfl, sels [0, 1] rfl, ?_⟩
 refine wf_all [10] (by kernel_rfl) rfl ⟨on_l 10 rfl gn rfl (s_ustr 1 by_79_5 rfl hp38 rfl h6 rfl rfl ?_), trivial⟩
 unfold NxL
 refine wf_all [11] (by kernel_rfl) rfl ⟨on_l 11 rfl gn rfl (s_val (vAs rfl) rfl ?_), trivial⟩
 unfold NxL
 refine wf_end (by kernel_rfl) ?_
 refine g_retR (c := q38c4) [.string (ofBs x1.buf)] rfl Tryd.func38 rfl (.tmp rfl (.nil)) fun wr hLr => ?_
 have hMr : B.Loc w wr [] [St w [[g2], (Value.slice A3 n4 c5).ownBlock.toList]] := hLr.pick0 (sels [1] rfl)
 show strings_Builder_String_R w F g2 A3 n4 c5 z7 r (.returned (packV [.string (ofBs x1.buf)])) wr
 rw [h]
 exact ⟨rfl, hMr⟩
noncomputable abbrev q22c0 : Code := bodyOf Tryd.f22
noncomputable abbrev q22c1 := Code.fst q22c0
noncomputable abbrev q22c2 := Code.snd q22c0
noncomputable abbrev q22c3 := Code.fst q22c2
noncomputable abbrev q22c4 := Code.snd q22c2
noncomputable abbrev q22c5 := Code.fst q22c3
noncomputable abbrev q22c6 := Code.snd q22c3
noncomputable abbrev q22c7 := Code.fst q22c6
noncomputable abbrev q22c8 := Code.snd q22c6
noncomputable abbrev q22c9 := Code.fst q22c4
noncomputable abbrev q22c10 := Code.snd q22c4
noncomputable abbrev q22c11 := Code.fst q22c10
noncomputable abbrev q22c12 := Code.snd q22c10
noncomputable abbrev q22c13 := Code.fst q22c12
noncomputable abbrev q22c14 := Code.snd q22c12
noncomputable abbrev q22c15 := Code.fst q22c14
noncomputable abbrev q22c16 := Code.snd q22c14
noncomputable abbrev q22c17 := Code.fst q22c16
noncomputable abbrev q22c18 := Code.snd q22c16
noncomputable abbrev q22c19 := Code.fst q22c18
noncomputable abbrev q22c20 := Code.snd q22c18
noncomputable abbrev q22c21 := Code.fst q22c7
noncomputable abbrev q22c22 := Code.snd q22c7
abbrev json_Print_R (w : World) (F : Nat → Prop) (r : ByteArray × Int) : Ending → World → Prop := fun e w' => e = .returned (.tuple #[.string r.1, .int .i64 r.2]) ∧ B.Loc w w' [] [St w []]
noncomputable abbrev json_Print_C (w : World) (F : Nat → Prop) (r : ByteArray × Int) : Cx := ⟨Tryd.prog, 22, Tryd.f22, 14, json_Print_R w F  r, w⟩
theorem json_Print_calls (w : World) (F : Nat → Prop) (x1 : List JNd) (A2 : Option Addr) (n3 : Nat) (c4 : Nat) (h5 : Rw k_api_JNode w (St w []).av A2 n3 c4 x1) (hG0 : Tt .u8 tb_0 0 (St w [])) (hG1 : Tt .u8 tb_1 1 (St w [])) (hG2 : Tt .u8 tb_2 2 (St w [])) (hF : ∀ b, F b → b < w.heap.size ∧ ∀ o ∈ ([] : List (List Nat)), b ∉ o) (hL0 : B.Loc w w [] [Sm w.heap.size F w [], St w []]) (r : ByteArray × Int) (h : json_Print x1 r) : Calls Tryd.prog 22 #[.slice A2 n3 c4] w (json_Print_R w F  r) := by
 unfold json_Print at h
 refine calls_of_Loc (vs := [.slice A2 n3 c4]) 14 Tryd.func22 rfl Tryd.ntmps22 rfl hL0 ?_
 show G (json_Print_C w F r) _ _ _ _
 refine gSq (c := q22c0) rfl ?_
 refine gRg (c := q22c1) rfl rfl ?_
 refine wl_s 0 rfl (s_box [.slice A2 n3 c4] rfl rfl rfl fun gb6 => ?_) gn
 refine wl_v 1 rfl (vAs rfl) gn rfl ?_
 refine wl_v 2 rfl (vAs rfl) gn rfl ?_
 refine w_end 3 rfl ?_
 refine gSq (c := q22c2) rfl ?_
 refine gSq (c := q22c3) rfl ?_
 refine gRg (c := q22c5) rfl rfl ?_
 refine wl_v 0 rfl (v_ldB1 0 ld_22 rfl rfl rfl) gn rfl ?_
 obtain ⟨r11, hv12, h⟩ := h
 refine wl_s 1 rfl (sCl [.slice A2 n3 c4] rfl Tryd.func21 rfl rfl rfl fun w8 hL9 => ?_) gn
 have hp10 : List.Perm ([.box gb6 22 [.slice A2 n3 c4]] : List Ent) (([] : List Ent) ++ ([.box gb6 22 [.slice A2 n3 c4]] : List Ent)) := pIx [] [0] rfl rfl (by kernel_rfl)
 refine Calls.mono (json_Shaped_calls w8 (Fl ([] : List Snap)) x1 A2 n3 c4 (Rw.mono h5 (hL9.toSt hp10 (me 1 rfl))) (hL9.tt hp10 hG1 (me 1 rfl)) (hL9.tt hp10 hG2 (me 1 rfl)) (hL9.hFl (Sl := ([] : List Snap)) hp10 (sels [] rfl)) (hL9.into hp10 (Fl ([] : List Snap))) r11 hv12) ?_
 rintro _ w13 ⟨rfl, hM14⟩
 have hL15 := hL9.call hp10 hM14
 refine ⟨_, _, _, rfl, hL15, ?_⟩
 refine wl_v 2 rfl (v_not rfl) gn rfl ?_
 refine w_end 3 rfl ?_
 by_cases hp16 : r11 = true
 ·have h := if_pos' hp16 h
  refine gFa (c := q22c6) rfl _ rfl ((nf hp16)) ?_
  refine g_skip (c := q22c8) rfl ?_
  refine gSq (c := q22c4) rfl ?_
  refine gRg (c := q22c9) rfl rfl ?_
  refine wl_s 0 rfl (s_alloc [.pointer none, .slice none 0 0] zr_56 rfl fun gb17 => ?_) gn
  refine w_end 1 rfl ?_
  refine gSq (c := q22c10) rfl ?_
  refine gRg (c := q22c11) rfl rfl ?_
  refine wl_s 0 rfl (s_alloc [.int .i64 0] zr_3 rfl fun gb19 => ?_) gn
  refine wl_s 1 rfl (s_stB (vs := [.int .i64 0]) (cs' := [.int .i64 0]) (M' := [.box gb19 3 [.int .i64 0], .box gb17 56 [.pointer none, .slice none 0 0], .box gb6 22 [.slice A2 n3 c4]]) 0 sz_3 rfl rfl rfl rfl rfl rfl rfl rfl rfl ?_) gn
  refine w_end 2 rfl ?_
  refine gSq (c := q22c12) rfl ?_
  refine gRg (c := q22c13) rfl rfl ?_
  refine wl_s 0 rfl (s_alloc [.nilFunc] zr_57 rfl fun gb21 => ?_) gn
  refine w_end 1 rfl ?_
  refine gSq (c := q22c14) rfl ?_
  refine gRg (c := q22c15) rfl rfl ?_
  refine wl_v 0 rfl (v_makeFunc [.pointer (some ⟨gb6, 0, none⟩), .pointer (some ⟨gb19, 0, none⟩), .pointer (some ⟨gb17, 0, none⟩), .pointer (some ⟨gb21, 0, none⟩)] rfl) gn rfl ?_
  refine wl_s 1 rfl (s_stB (vs := [.func (.func 34) #[] #[.pointer (some ⟨gb6, 0, none⟩), .pointer (some ⟨gb19, 0, none⟩), .pointer (some ⟨gb17, 0, none⟩), .pointer (some ⟨gb21, 0, none⟩)]]) (cs' := [.func (.func 34) #[] #[.pointer (some ⟨gb6, 0, none⟩), .pointer (some ⟨gb19, 0, none⟩), .pointer (some ⟨gb17, 0, none⟩), .pointer (some ⟨gb21, 0, none⟩)]]) (M' := [.box gb21 57 [.func (.func 34) #[] #[.pointer (some ⟨gb6, 0, none⟩), .pointer (some ⟨gb19, 0, none⟩), .pointer (some ⟨gb17, 0, none⟩), .pointer (some ⟨gb21, 0, none⟩)]], .box gb19 3 [.int .i64 0], .box gb17 56 [.pointer none, .slice none 0 0], .box gb6 22 [.slice A2 n3 c4]]) 0 sz_57 rfl rfl rfl rfl rfl rfl rfl rfl rfl ?_) gn
  refine w_end 2 rfl ?_
  refine gSq (c := q22c16) rfl ?_
  refine gRg (c := q22c17) rfl rfl ?_
  refine wl_v 0 rfl (v_ldB1 0 ld_57 rfl rfl rfl) gn rfl ?_
  obtain ⟨r27, hv28, h⟩ := h
  refine w_nil 5 1 ?_
  refine wl_s 1 rfl (s_callC [.bool false] [.pointer (some ⟨gb6, 0, none⟩), .pointer (some ⟨gb19, 0, none⟩), .pointer (some ⟨gb17, 0, none⟩), .pointer (some ⟨gb21, 0, none⟩)] rfl rfl Tryd.func34 rfl rfl rfl fun w23 hL24 => ?_) gn
  have hp25 : List.Perm ([.own (.slice none 0 0) 5 1 0 (([] : List Int).flatMap (eI .u8)), .box gb21 57 [.func (.func 34) #[] #[.pointer (some ⟨gb6, 0, none⟩), .pointer (some ⟨gb19, 0, none⟩), .pointer (some ⟨gb17, 0, none⟩), .pointer (some ⟨gb21, 0, none⟩)]], .box gb19 3 [.int .i64 0], .box gb17 56 [.pointer none, .slice none 0 0], .box gb6 22 [.slice A2 n3 c4]] : List Ent) (([.box gb6 22 [.slice A2 n3 c4], .box gb19 3 [.int .i64 0], .box gb17 56 [.pointer none, .slice none 0 0], .own (.slice none 0 0) 5 1 0 (([] : List Int).flatMap (eI .u8)), .box gb21 57 [.func (.func 34) #[] #[.pointer (some ⟨gb6, 0, none⟩), .pointer (some ⟨gb19, 0, none⟩), .pointer (some ⟨gb17, 0, none⟩), .pointer (some ⟨gb21, 0, none⟩)]]] : List Ent) ++ ([] : List Ent)) := pIx [4, 2, 3, 0, 1] [] rfl rfl (by kernel_rfl)
  refine Calls.mono (json_Print_1_calls w23 (Fl ([St w []] : List Snap)) false x1 0 (⟨false, ([] : List Int)⟩ : strings_Builder) gb6 22 A2 n3 c4 gb19 3 gb17 w.heap.size none 0 0 gb21 57 (Rw.mono h5 (hL24.toFl (me 1 rfl) (me 0 rfl))) hL24.env.size (Ow.nil (z := w.heap.size)) (hL24.tt hp25 hG0 (me 1 rfl)) (hL24.hFl (Sl := ([St w []] : List Snap)) hp25 (sels [1] rfl)) (hL24.into hp25 (Fl ([St w []] : List Snap))) r27 hv28) ?_
  rintro _ w38 ⟨A33, n34, c35, A29, n30, c31, rfl, hM39, h36, h32⟩
  obtain ⟨sv42, hL40, hv41⟩ := hL24.callN (Sl := ([St w []] : List Snap)) hp25 hM39 (sels [1] rfl)
  have h32 : At k_api_JNode (sv42) A29 n30 c31 r27.1 := Rw.mono h32 hv41
  refine ⟨_, _, _, rfl, hL40, ?_⟩
  refine w_end 2 rfl ?_
  refine gSq (c := q22c18) rfl ?_
  refine gRg (c := q22c19) rfl rfl ?_
  obtain ⟨r46, hv47, h⟩ := h
  refine wl_s 0 rfl (sCl [.pointer (some ⟨gb17, 0, none⟩)] rfl Tryd.func38 rfl rfl rfl fun w43 hL44 => ?_) gn
  have hp45 : List.Perm ([.box gb6 22 [.slice A29 n30 c31], .box gb19 3 [.int .i64 r27.2.1], .box gb17 56 [selfP gb17 r27.2.2.addr, .slice A33 n34 c35], .box gb21 57 [.func (.func 34) #[] #[.pointer (some ⟨gb6, 0, none⟩), .pointer (some ⟨gb19, 0, none⟩), .pointer (some ⟨gb17, 0, none⟩), .pointer (some ⟨gb21, 0, none⟩)]], .own (.slice A33 n34 c35) 5 1 n34 (r27.2.2.buf.flatMap (eI .u8))] : List Ent) (([.box gb17 56 [selfP gb17 r27.2.2.addr, .slice A33 n34 c35], .own (.slice A33 n34 c35) 5 1 n34 (r27.2.2.buf.flatMap (eI .u8))] : List Ent) ++ ([.box gb6 22 [.slice A29 n30 c31], .box gb19 3 [.int .i64 r27.2.1], .box gb21 57 [.func (.func 34) #[] #[.pointer (some ⟨gb6, 0, none⟩), .pointer (some ⟨gb19, 0, none⟩), .pointer (some ⟨gb17, 0, none⟩), .pointer (some ⟨gb21, 0, none⟩)]]] : List Ent)) := pIx [2, 4] [0, 1, 3] rfl rfl (by kernel_rfl)
  refine Calls.mono (strings_Builder_String_calls w43 (Fl ([] : List Snap)) r27.2.2 gb17 w.heap.size A33 n34 c35 hL44.env.size h36 (hL44.hFl (Sl := ([] : List Snap)) hp45 (sels [] rfl)) (hL44.into hp45 (Fl ([] : List Snap))) r46 hv47) ?_
  rintro _ w48 ⟨rfl, hM49⟩
  have hL50 := hL44.call hp45 hM49
  refine ⟨_, _, _, rfl, hL50, ?_⟩
  refine wl_v 1 rfl (vAs rfl) gn rfl ?_
  refine wl_v 2 rfl (vAs rfl) gn rfl ?_
  refine w_end 3 rfl ?_
  refine g_retR (c := q22c20) [.string r46, .int .i64 0] rfl Tryd.func22 rfl (.tmp rfl (.tmp rfl (.nil))) fun wr hLr => ?_
  have hMr : B.Loc w wr [] [St w []] := hLr.pick0 (sels [2] rfl)
  show json_Print_R w F  r (.returned (packV [.string r46, .int .i64 0])) wr
  rw [h]
  exact ⟨rfl, hMr⟩
 ·have h := if_neg' hp16 h
  refine gTr (c := q22c6) rfl _ rfl ((nt (bf hp16))) ?_
  refine gSq (c := q22c7) rfl ?_
  refine gRg (c := q22c21) rfl rfl ?_
  refine wl_v 0 rfl (vAs rfl) gn rfl ?_
  refine wl_v 1 rfl (vAs rfl) gn rfl ?_
  refine w_end 2 rfl ?_
  refine g_retR (c := q22c22) [.string (⟨#[]⟩ : ByteArray), .int .i64 43] rfl Tryd.func22 rfl (.tmp rfl (.tmp rfl (.nil))) fun wr hLr => ?_
  have hMr : B.Loc w wr [] [St w []] := hLr.pick0 (sels [1] rfl)
  show json_Print_R w F  r (.returned (packV [.string (⟨#[]⟩ : ByteArray), .int .i64 43])) wr
  rw [h]
  exact ⟨rfl, hMr⟩
end Go.Proofs.YtmfopcbjgbphaaaDoor.K
