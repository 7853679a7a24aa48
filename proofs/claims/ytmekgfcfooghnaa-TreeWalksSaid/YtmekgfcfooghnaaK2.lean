/- What the machine's calls do, function by function, printed by my own tool. Condition of each: its relation holds of the answer, and what is handed in lies in memory as told. -/
import Derived.Test.YtmekgfcfooghnaaK1
set_option linter.unusedVariables false
set_option maxRecDepth 100000
set_option maxHeartbeats 4000000
namespace Go.Proofs.Ytmekgfcfooghnaa.K
open Go.Proofs.Ytmekgfcfooghnaa.B Go.Proofs.Ytmekgfcfooghnaa.R Go.RowKit
noncomputable abbrev trellisref15_Model_Place_c0 : Code := bodyOf Try.f15
noncomputable abbrev trellisref15_Model_Place_c1 : Code := Code.fst trellisref15_Model_Place_c0
noncomputable abbrev trellisref15_Model_Place_c2 : Code := Code.snd trellisref15_Model_Place_c0
noncomputable abbrev trellisref15_Model_Place_c3 : Code := Code.fst trellisref15_Model_Place_c2
noncomputable abbrev trellisref15_Model_Place_c4 : Code := Code.snd trellisref15_Model_Place_c2
abbrev trellisref15_Model_Place_R (w : World) (F : Nat → Prop) (g2 : Nat) (Tb3 : Nat) (r : Int × trellisref15_Model) : Ending → World → Prop := fun e w' => ∃ A0 : Option Addr, ∃ n0 : Nat, ∃ c0 : Nat, e = .returned (.int .i64 r.1) ∧ B.Loc w w' [.box g2 Tb3 [.slice A0 n0 c0, .int .i64 r.2.at_]] [St w [[g2]]] ∧ Rw k_trellisref15_Tree w' (Nw w w' F [.box g2 Tb3 [.slice A0 n0 c0, .int .i64 r.2.at_]]) A0 n0 c0 r.2.f
noncomputable abbrev trellisref15_Model_Place_C (w : World) (F : Nat → Prop) (g2 : Nat) (Tb3 : Nat) (r : Int × trellisref15_Model) : Cx := ⟨Try.prog, 15, Try.f15, 7, trellisref15_Model_Place_R w F g2 Tb3 r, w⟩
theorem trellisref15_Model_Place_calls (w : World) (F : Nat → Prop) (x1 : trellisref15_Model) (g2 : Nat) (Tb3 : Nat) (A4 : Option Addr) (n5 : Nat) (c6 : Nat) (h7 : Rw k_trellisref15_Tree w F A4 n5 c6 x1.f) (hF : ∀ b, F b → b < w.heap.size ∧ ∀ o ∈ ([[g2]] : List (List Nat)), b ∉ o) (hL0 : B.Loc w w [.box g2 Tb3 [.slice A4 n5 c6, .int .i64 x1.at_]] [Sm w.heap.size F w [[g2]], St w [[g2]]]) (r : Int × trellisref15_Model) (h : trellisref15_Model_Place x1 r) : Calls Try.prog 15 #[.pointer (some ⟨g2, 0, none⟩)] w (trellisref15_Model_Place_R w F g2 Tb3 r) := by
  unfold trellisref15_Model_Place at h
  have h7 := Rw.into (bs := [[g2]]) hF h7
  refine calls_of_Loc (vs := [.pointer (some ⟨g2, 0, none⟩)]) 7 Try.func15 rfl Try.ntmps15 rfl hL0 ?_
  show G (trellisref15_Model_Place_C w F g2 Tb3 r) _ _ _ _
  refine g_seq (c := trellisref15_Model_Place_c0) rfl ?_
  refine g_region (c := trellisref15_Model_Place_c1) rfl rfl ?_
  refine wl_v 0 rfl (v_assign rfl) gn rfl ?_
  refine w_end 1 rfl ?_
  refine g_seq (c := trellisref15_Model_Place_c2) rfl ?_
  refine g_region (c := trellisref15_Model_Place_c3) rfl rfl ?_
  refine wl_v 0 rfl (v_move rfl) gn rfl ?_
  refine wl_v 1 rfl (v_nilCheck rfl) gn rfl ?_
  refine wl_v 2 rfl (v_fldB fo_93_1 rfl) gn rfl ?_
  refine wl_v 3 rfl (v_ldB1 0 ld_3 rfl rfl rfl) gn rfl ?_
  refine wl_v 4 rfl (v_assign rfl) gn rfl ?_
  refine w_end 5 rfl ?_
  refine g_retR (c := trellisref15_Model_Place_c4) [.int .i64 x1.at_] rfl Try.func15 rfl (.tmp rfl (.nil)) fun wr hLr => ?_
  have hMr : B.Loc w wr [.box g2 Tb3 [.slice A4 n5 c6, .int .i64 x1.at_]] [St w [[g2]]] := hLr.pick (rest := []) (perm_of_idx [0] [] rfl rfl (by kernel_rfl)) (sels [1] rfl)
  have hMi : ∀ e ∈ ([.box g2 Tb3 [.slice A4 n5 c6, .int .i64 x1.at_]] : List Ent), e ∈ ([.box g2 Tb3 [.slice A4 n5 c6, .int .i64 x1.at_]] : List Ent) := sels [0] rfl
  show trellisref15_Model_Place_R w F g2 Tb3 r (.returned (packV [.int .i64 x1.at_])) wr
  rw [h]
  exact ⟨A4, n5, c6, rfl, hMr, (hLr.outR (s := Sm w.heap.size F w [[g2]]) hMi (me 0 rfl) Sm.ok h7)⟩
noncomputable abbrev trellisref15_Same_c0 : Code := bodyOf Try.f27
noncomputable abbrev trellisref15_Same_c1 : Code := Code.fst trellisref15_Same_c0
noncomputable abbrev trellisref15_Same_c2 : Code := Code.snd trellisref15_Same_c0
noncomputable abbrev trellisref15_Same_c3 : Code := Code.fst trellisref15_Same_c2
noncomputable abbrev trellisref15_Same_c4 : Code := Code.snd trellisref15_Same_c2
noncomputable abbrev trellisref15_Same_c5 : Code := Code.fst trellisref15_Same_c3
noncomputable abbrev trellisref15_Same_c6 : Code := Code.snd trellisref15_Same_c3
noncomputable abbrev trellisref15_Same_c7 : Code := Code.fst trellisref15_Same_c6
noncomputable abbrev trellisref15_Same_c8 : Code := Code.snd trellisref15_Same_c6
noncomputable abbrev trellisref15_Same_c9 : Code := Code.fst trellisref15_Same_c4
noncomputable abbrev trellisref15_Same_c10 : Code := Code.snd trellisref15_Same_c4
noncomputable abbrev trellisref15_Same_c11 : Code := Code.fst trellisref15_Same_c9
noncomputable abbrev trellisref15_Same_c12 : Code := Code.snd trellisref15_Same_c9
noncomputable abbrev trellisref15_Same_c13 : Code := Code.fst trellisref15_Same_c12
noncomputable abbrev trellisref15_Same_c14 : Code := Code.fst trellisref15_Same_c13
noncomputable abbrev trellisref15_Same_c15 : Code := Code.fst trellisref15_Same_c14
noncomputable abbrev trellisref15_Same_c16 : Code := Code.snd trellisref15_Same_c14
noncomputable abbrev trellisref15_Same_c17 : Code := Code.fst trellisref15_Same_c15
noncomputable abbrev trellisref15_Same_c18 : Code := Code.snd trellisref15_Same_c15
noncomputable abbrev trellisref15_Same_c19 : Code := Code.fst trellisref15_Same_c18
noncomputable abbrev trellisref15_Same_c20 : Code := Code.snd trellisref15_Same_c18
noncomputable abbrev trellisref15_Same_c21 : Code := Code.fst trellisref15_Same_c16
noncomputable abbrev trellisref15_Same_c22 : Code := Code.snd trellisref15_Same_c16
noncomputable abbrev trellisref15_Same_c23 : Code := Code.fst trellisref15_Same_c21
noncomputable abbrev trellisref15_Same_c24 : Code := Code.fst trellisref15_Same_c23
noncomputable abbrev trellisref15_Same_c25 : Code := Code.snd trellisref15_Same_c23
noncomputable abbrev trellisref15_Same_c26 : Code := Code.fst trellisref15_Same_c25
noncomputable abbrev trellisref15_Same_c27 : Code := Code.snd trellisref15_Same_c25
noncomputable abbrev trellisref15_Same_c28 : Code := Code.fst trellisref15_Same_c26
noncomputable abbrev trellisref15_Same_c29 : Code := Code.snd trellisref15_Same_c26
noncomputable abbrev trellisref15_Same_c30 : Code := Code.fst trellisref15_Same_c10
noncomputable abbrev trellisref15_Same_c31 : Code := Code.snd trellisref15_Same_c10
noncomputable abbrev trellisref15_Same_c32 : Code := Code.fst trellisref15_Same_c7
noncomputable abbrev trellisref15_Same_c33 : Code := Code.snd trellisref15_Same_c7
abbrev trellisref15_Same_R (w : World) (F : Nat → Prop) (r : Bool) : Ending → World → Prop := fun e w' => e = .returned (.bool r) ∧ B.Loc w w' [] [St w []]
noncomputable abbrev trellisref15_Same_C (w : World) (F : Nat → Prop) (r : Bool) : Cx := ⟨Try.prog, 27, Try.f27, 26, trellisref15_Same_R w F  r, w⟩
theorem trellisref15_Same_calls (w : World) (F : Nat → Prop) (x1 : List api_Node) (x6 : List api_Node) (A2 : Option Addr) (n3 : Nat) (c4 : Nat) (A7 : Option Addr) (n8 : Nat) (c9 : Nat) (h5 : Rw k_api_Node w (St w []).av A2 n3 c4 x1) (h10 : Rw k_api_Node w (St w []).av A7 n8 c9 x6) (hF : ∀ b, F b → b < w.heap.size ∧ ∀ o ∈ ([] : List (List Nat)), b ∉ o) (hL0 : B.Loc w w [] [Sm w.heap.size F w [], St w []]) (r : Bool) (h : trellisref15_Same x1 x6 r) : Calls Try.prog 27 #[.slice A2 n3 c4, .slice A7 n8 c9] w (trellisref15_Same_R w F  r) := by
  unfold trellisref15_Same at h
  refine calls_of_Loc (vs := [.slice A2 n3 c4, .slice A7 n8 c9]) 26 Try.func27 rfl Try.ntmps27 rfl hL0 ?_
  show G (trellisref15_Same_C w F r) _ _ _ _
  refine g_seq (c := trellisref15_Same_c0) rfl ?_
  refine g_region (c := trellisref15_Same_c1) rfl rfl ?_
  refine wl_v 0 rfl (v_assign rfl) gn rfl ?_
  refine w_end 1 rfl ?_
  refine g_seq (c := trellisref15_Same_c2) rfl ?_
  refine g_seq (c := trellisref15_Same_c3) rfl ?_
  refine g_region (c := trellisref15_Same_c5) rfl rfl ?_
  refine wl_v 0 rfl (v_move rfl) gn rfl ?_
  refine wl_v 1 rfl (v_lenQ un_22 rfl h5.hq) gn rfl ?_
  refine wl_v 2 rfl (v_move rfl) gn rfl ?_
  refine wl_v 3 rfl (v_lenQ un_22 rfl h10.hq) gn rfl ?_
  refine wl_v 4 rfl (v_bin rfl rfl rfl) gn rfl ?_
  refine w_end 5 rfl ?_
  by_cases hp11 : (x1.length : Int) = (x6.length : Int)
  · have h := if_pos' hp11 h
    refine g_false (c := trellisref15_Same_c6) rfl _ rfl ((eqib hp11)) ?_
    refine g_skip (c := trellisref15_Same_c8) rfl ?_
    refine g_seq (c := trellisref15_Same_c4) rfl ?_
    refine g_seq (c := trellisref15_Same_c9) rfl ?_
    refine g_region (c := trellisref15_Same_c11) rfl rfl ?_
    refine wl_v 0 rfl (v_assign rfl) gn rfl ?_
    refine w_end 1 rfl ?_
    refine g_block (c := trellisref15_Same_c12) rfl ?_
    refine g_loop (c := trellisref15_Same_c13) rfl ?_
    have key1 : ∀ s, Rounds (fun (s : Int) o => trellisref15_Same_b1 x1 x6 s o) s r → (fun (s : Int) => ∀ (_ : Unit), G (trellisref15_Same_C w F r) [.code trellisref15_Same_c14, .inLoop trellisref15_Same_c14, .inBlock 0, .code trellisref15_Same_c10] [(0, .slice A2 n3 c4), (1, .slice A7 n8 c9), (5, .int .i64 s)] [] [Sm w.heap.size F w [], St w []]) s := by
      intro s hs
      refine Rounds.ind (mot := (fun (s : Int) => ∀ (_ : Unit), G (trellisref15_Same_C w F r) [.code trellisref15_Same_c14, .inLoop trellisref15_Same_c14, .inBlock 0, .code trellisref15_Same_c10] [(0, .slice A2 n3 c4), (1, .slice A7 n8 c9), (5, .int .i64 s)] [] [Sm w.heap.size F w [], St w []])) ?_ hs
      clear hs s
      intro x23 o1 h hO1
      show ∀ (_ : Unit), G (trellisref15_Same_C w F r) [.code trellisref15_Same_c14, .inLoop trellisref15_Same_c14, .inBlock 0, .code trellisref15_Same_c10] [(0, .slice A2 n3 c4), (1, .slice A7 n8 c9), (5, .int .i64 x23)] [] [Sm w.heap.size F w [], St w []]
      intro _
      have h : trellisref15_Same_b1 x1 x6 x23 o1 := h
      unfold trellisref15_Same_b1 at h
      refine g_seq (c := trellisref15_Same_c14) rfl ?_
      refine g_seq (c := trellisref15_Same_c15) rfl ?_
      refine g_region (c := trellisref15_Same_c17) rfl rfl ?_
      refine wl_v 0 rfl (v_move rfl) gn rfl ?_
      refine wl_v 1 rfl (v_move rfl) gn rfl ?_
      refine wl_v 2 rfl (v_lenQ un_22 rfl h5.hq) gn rfl ?_
      refine wl_v 3 rfl (v_bin rfl rfl rfl) gn rfl ?_
      refine w_end 4 rfl ?_
      by_cases hp34 : x23 < (x1.length : Int)
      · have h := if_pos' hp34 h
        refine g_true (c := trellisref15_Same_c18) rfl _ rfl ((decide_eq_true hp34)) ?_
        refine g_skip (c := trellisref15_Same_c19) rfl ?_
        refine g_seq (c := trellisref15_Same_c16) rfl ?_
        refine g_block (c := trellisref15_Same_c21) rfl ?_
        refine g_seq (c := trellisref15_Same_c23) rfl ?_
        obtain ⟨hb35, h⟩ := h
        obtain ⟨hb37, h⟩ := h
        have hns : Region.noSelect (Code.ops trellisref15_Same_c24) = true := by kernel_rfl
        refine g_drawF (c := trellisref15_Same_c24) [] [Sm w.heap.size F w [], St w []] [] 9 rfl rfl mix rfl (.slnil) (sels [0, 1] rfl) ?_
        refine wf_v 0 rfl (v_move rfl) gn rfl hns (by kernel_rfl) (by kernel_rfl) rfl rfl ?_
        refine wf_v 1 rfl (v_move rfl) gn rfl hns (by kernel_rfl) (by kernel_rfl) rfl rfl ?_
        have hr41 := Rw.readF (s := St w []) (hl := hl_api_Node) (h1 := h1_api_Node) h5 hb35
        refine wf_v 2 rfl (v_idxR (s := St w []) slE_22 rfl rfl h5 hb35) gn rfl hns (by kernel_rfl) (by kernel_rfl) rfl rfl ?_
        refine wf_v 3 rfl (v_ldA (St w []) ld_39 rfl hr41 rfl (me 1 rfl)) gn rfl hns (by kernel_rfl) (by kernel_rfl) rfl rfl ?_
        refine wf_v 4 rfl (v_move rfl) gn rfl hns (by kernel_rfl) (by kernel_rfl) rfl rfl ?_
        refine wf_v 5 rfl (v_move rfl) gn rfl hns (by kernel_rfl) (by kernel_rfl) rfl rfl ?_
        have hr42 := Rw.readF (s := St w []) (hl := hl_api_Node) (h1 := h1_api_Node) h10 hb37
        refine wf_v 6 rfl (v_idxR (s := St w []) slE_22 rfl rfl h10 hb37) gn rfl hns (by kernel_rfl) (by kernel_rfl) rfl rfl ?_
        refine wf_v 7 rfl (v_ldA (St w []) ld_39 rfl hr42 rfl (me 1 rfl)) gn rfl hns (by kernel_rfl) (by kernel_rfl) rfl rfl ?_
        refine wf_v 8 rfl (v_neSt eq_39 rfl rfl (eqd_api_Node (ix x1 x23) (ix x6 x23))) gn rfl hns (by kernel_rfl) (by kernel_rfl) rfl rfl ?_
        refine wf_end (by kernel_rfl) ?_
        by_cases hp43 : ix x1 x23 = ix x6 x23
        · have h := if_pos' hp43 h
          refine g_false (c := trellisref15_Same_c25) rfl _ rfl ((nf (decide_eq_true hp43))) ?_
          refine g_skip (c := trellisref15_Same_c27) rfl ?_
          refine g_inBlock ?_
          refine g_region (c := trellisref15_Same_c22) rfl rfl ?_
          refine wl_v 0 rfl (v_move rfl) gn rfl ?_
          refine wl_v 1 rfl (v_bin rfl rfl rfl) gn rfl ?_
          refine wl_v 2 rfl (v_assign rfl) gn rfl ?_
          refine w_end 3 rfl ?_
          refine g_inLoop ?_
          have ih := Out.inl hO1 h
          exact g_go [0, 1] (ih ()) ⟨rfl, rfl, rfl, trivial⟩ (.slnil) rfl
        · have h := if_neg' hp43 h
          refine g_true (c := trellisref15_Same_c25) rfl _ rfl ((nt (decide_eq_false hp43))) ?_
          refine g_seq (c := trellisref15_Same_c26) rfl ?_
          refine g_region (c := trellisref15_Same_c28) rfl rfl ?_
          refine wl_v 0 rfl (v_assign rfl) gn rfl ?_
          refine w_end 1 rfl ?_
          have h := Out.inr hO1 h
          refine g_retR (c := trellisref15_Same_c29) [.bool false] rfl Try.func27 rfl (.tmp rfl (.nil)) fun wr hLr => ?_
          have hMr : B.Loc w wr [] [St w []] := hLr.pick (rest := []) (perm_of_idx [] [] rfl rfl (by kernel_rfl)) (sels [1] rfl)
          have hMi : ∀ e ∈ ([] : List Ent), e ∈ ([] : List Ent) := sels [] rfl
          show trellisref15_Same_R w F  r (.returned (packV [.bool false])) wr
          rw [h]
          exact ⟨rfl, hMr⟩
      · have h := if_neg' hp34 h
        refine g_false (c := trellisref15_Same_c18) rfl _ rfl ((decide_eq_false hp34)) ?_
        refine g_exit (c := trellisref15_Same_c20) [.code trellisref15_Same_c10] rfl rfl ?_
        refine g_seq (c := trellisref15_Same_c10) rfl ?_
        refine g_region (c := trellisref15_Same_c30) rfl rfl ?_
        refine wl_v 0 rfl (v_assign rfl) gn rfl ?_
        refine w_end 1 rfl ?_
        have h := Out.inr hO1 h
        refine g_retR (c := trellisref15_Same_c31) [.bool true] rfl Try.func27 rfl (.tmp rfl (.nil)) fun wr hLr => ?_
        have hMr : B.Loc w wr [] [St w []] := hLr.pick (rest := []) (perm_of_idx [] [] rfl rfl (by kernel_rfl)) (sels [1] rfl)
        have hMi : ∀ e ∈ ([] : List Ent), e ∈ ([] : List Ent) := sels [] rfl
        show trellisref15_Same_R w F  r (.returned (packV [.bool true])) wr
        rw [h]
        exact ⟨rfl, hMr⟩
    exact g_go [0, 1] (key1 _ h ()) ⟨rfl, rfl, rfl, trivial⟩ (.slnil) rfl
  · have h := if_neg' hp11 h
    refine g_true (c := trellisref15_Same_c6) rfl _ rfl ((neib hp11)) ?_
    refine g_seq (c := trellisref15_Same_c7) rfl ?_
    refine g_region (c := trellisref15_Same_c32) rfl rfl ?_
    refine wl_v 0 rfl (v_assign rfl) gn rfl ?_
    refine w_end 1 rfl ?_
    refine g_retR (c := trellisref15_Same_c33) [.bool false] rfl Try.func27 rfl (.tmp rfl (.nil)) fun wr hLr => ?_
    have hMr : B.Loc w wr [] [St w []] := hLr.pick (rest := []) (perm_of_idx [] [] rfl rfl (by kernel_rfl)) (sels [1] rfl)
    have hMi : ∀ e ∈ ([] : List Ent), e ∈ ([] : List Ent) := sels [] rfl
    show trellisref15_Same_R w F  r (.returned (packV [.bool false])) wr
    rw [h]
    exact ⟨rfl, hMr⟩
noncomputable abbrev trellislaw15_stays_c0 : Code := bodyOf Try.f16
noncomputable abbrev trellislaw15_stays_c1 : Code := Code.fst trellislaw15_stays_c0
noncomputable abbrev trellislaw15_stays_c2 : Code := Code.snd trellislaw15_stays_c0
noncomputable abbrev trellislaw15_stays_c3 : Code := Code.fst trellislaw15_stays_c2
noncomputable abbrev trellislaw15_stays_c4 : Code := Code.snd trellislaw15_stays_c2
noncomputable abbrev trellislaw15_stays_c5 : Code := Code.fst trellislaw15_stays_c4
noncomputable abbrev trellislaw15_stays_c6 : Code := Code.snd trellislaw15_stays_c4
noncomputable abbrev trellislaw15_stays_c7 : Code := Code.fst trellislaw15_stays_c6
noncomputable abbrev trellislaw15_stays_c8 : Code := Code.snd trellislaw15_stays_c6
abbrev trellislaw15_stays_R (w : World) (F : Nat → Prop) (r : Bool) : Ending → World → Prop := fun e w' => e = .returned (.bool r) ∧ B.Loc w w' [] [St w []]
noncomputable abbrev trellislaw15_stays_C (w : World) (F : Nat → Prop) (r : Bool) : Cx := ⟨Try.prog, 16, Try.f16, 35, trellislaw15_stays_R w F  r, w⟩
theorem trellislaw15_stays_calls (w : World) (F : Nat → Prop) (x1 : List api_Node) (k6 : Nat) (x9 : List api_Node) (A2 : Option Addr) (n3 : Nat) (c4 : Nat) (A10 : Option Addr) (n11 : Nat) (c12 : Nat) (h5 : Rw k_api_Node w (St w []).av A2 n3 c4 x1) (hk7 : k6 ≤ n3) (h13 : Rw k_api_Node w (St w []).av A10 n11 c12 x9) (hF : ∀ b, F b → b < w.heap.size ∧ ∀ o ∈ ([] : List (List Nat)), b ∉ o) (hL0 : B.Loc w w [] [Sm w.heap.size F w [], St w []]) (r : Bool) (h : trellislaw15_stays x1 k6 x9 r) : Calls Try.prog 16 #[.slice A2 k6 c4, .slice A10 n11 c12] w (trellislaw15_stays_R w F  r) := by
  unfold trellislaw15_stays at h
  have h8 := Rw.pre h5 hk7
  refine calls_of_Loc (vs := [.slice A2 k6 c4, .slice A10 n11 c12]) 35 Try.func16 rfl Try.ntmps16 rfl hL0 ?_
  show G (trellislaw15_stays_C w F r) _ _ _ _
  refine g_seq (c := trellislaw15_stays_c0) rfl ?_
  refine g_region (c := trellislaw15_stays_c1) rfl rfl ?_
  refine wl_v 0 rfl (v_assign rfl) gn rfl ?_
  refine w_end 1 rfl ?_
  refine g_seq (c := trellislaw15_stays_c2) rfl ?_
  refine g_region (c := trellislaw15_stays_c3) rfl rfl ?_
  refine wl_v 0 rfl (v_move rfl) gn rfl ?_
  refine wl_v 1 rfl (v_move rfl) gn rfl ?_
  obtain ⟨r17, hv18, h⟩ := h
  refine wl_s 2 rfl (s_call [.slice A2 k6 c4, .slice A10 n11 c12] rfl Try.func27 rfl rfl rfl fun w14 hL15 => ?_) gn
  have hp16 : List.Perm ([] : List Ent) (([] : List Ent) ++ ([] : List Ent)) := perm_of_idx [] [] rfl rfl (by kernel_rfl)
  refine Calls.mono (trellisref15_Same_calls w14 (Fl ([] : List Snap)) (x1.take k6) x9 A2 k6 c4 A10 n11 c12 (Rw.mono h8 (hL15.toSt hp16 (me 1 rfl))) (Rw.mono h13 (hL15.toSt hp16 (me 1 rfl))) (hL15.hFl (Sl := ([] : List Snap)) hp16 (sels [] rfl)) (hL15.into hp16 (Fl ([] : List Snap))) r17 hv18) ?_
  rintro _ w19 ⟨rfl, hM20⟩
  have hL21 := hL15.call hp16 hM20
  refine ⟨_, _, _, rfl, hL21, ?_⟩
  refine wl_v 3 rfl (v_assign rfl) gn rfl ?_
  refine w_end 4 rfl ?_
  refine g_seq (c := trellislaw15_stays_c4) rfl ?_
  refine g_region (c := trellislaw15_stays_c5) rfl rfl ?_
  refine wl_v 0 rfl (v_move rfl) gn rfl ?_
  refine wl_v 1 rfl (v_move rfl) gn rfl ?_
  refine wl_v 2 rfl (v_lenQ un_22 rfl h13.hq) gn rfl ?_
  refine wl_v 3 rfl (v_bin rfl rfl rfl) gn rfl ?_
  obtain ⟨hb22, h⟩ := h
  have hle23 : (w64 ((x9.length : Int) + 2) : Int).toNat ≤ n3 := by have q := hb22; have q1 := h5.hq; omega
  have h24 := Rw.pre h5 hle23
  refine wl_v 4 rfl (v_cutHi (i := w64 ((x9.length : Int) + 2)) slE_22 rfl rfl (by have q := hb22; have q1 := h5.hq; have q2 := h5.hn; omega) h8.hn rfl) gn rfl ?_
  refine wl_v 5 rfl (v_assign rfl) gn rfl ?_
  refine w_end 6 rfl ?_
  refine g_seq (c := trellislaw15_stays_c6) rfl ?_
  refine g_region (c := trellislaw15_stays_c7) rfl rfl ?_
  refine wl_v 0 rfl (v_move rfl) gn rfl ?_
  refine wl_v 1 rfl (v_move rfl) gn rfl ?_
  by_cases hp25 : r17 = true
  · have h := if_pos' hp25 h
    refine w_bool 16 rfl (hp25) ?_
    refine wl_v 2 rfl (v_move rfl) (gy 16 rfl rfl) rfl ?_
    refine wl_v 3 rfl (v_move rfl) (gy 16 rfl rfl) rfl ?_
    refine wl_v 4 rfl (v_lenQ un_22 rfl h13.hq) (gy 16 rfl rfl) rfl ?_
    obtain ⟨hb26, h⟩ := h
    have hr27 := Rw.readF (s := St w []) (hl := hl_api_Node) (h1 := h1_api_Node) h24 hb26
    refine wl_v 5 rfl (v_idxR (s := St w []) slE_22 rfl rfl h24 hb26) (gy 16 rfl rfl) rfl ?_
    refine wl_v 6 rfl (v_fldA fo_39_5 rfl) (gy 16 rfl rfl) rfl ?_
    refine wl_v 7 rfl (v_ldA1 (kk := ((x9.length : Int) : Int).toNat * 7) (j := 5) (St w []) ld_3 rfl hr27 rfl (me 1 rfl)) (gy 16 rfl rfl) rfl ?_
    refine wl_v 8 rfl (v_bin rfl rfl rfl) (gy 16 rfl rfl) rfl ?_
    refine wl_v 9 rfl (v_pick (b := true) rfl rfl) gn rfl ?_
    refine wl_v 10 rfl (v_move rfl) gn rfl ?_
    by_cases hp28 : (ix (x1.take ((w64 ((x9.length : Int) + 2) : Int).toNat)) (x9.length : Int)).kids = -71
    · have h := if_pos' hp28 h
      refine w_bool 25 rfl ((eqi hp28)) ?_
      refine wl_v 11 rfl (v_move rfl) (gy 25 rfl rfl) rfl ?_
      refine wl_v 12 rfl (v_move rfl) (gy 25 rfl rfl) rfl ?_
      refine wl_v 13 rfl (v_lenQ un_22 rfl h13.hq) (gy 25 rfl rfl) rfl ?_
      refine wl_v 14 rfl (v_bin rfl rfl rfl) (gy 25 rfl rfl) rfl ?_
      obtain ⟨hb29, h⟩ := h
      have hr30 := Rw.readF (s := St w []) (hl := hl_api_Node) (h1 := h1_api_Node) h24 hb29
      refine wl_v 15 rfl (v_idxR (s := St w []) slE_22 rfl rfl h24 hb29) (gy 25 rfl rfl) rfl ?_
      refine wl_v 16 rfl (v_fldA fo_39_5 rfl) (gy 25 rfl rfl) rfl ?_
      refine wl_v 17 rfl (v_ldA1 (kk := (w64 ((x9.length : Int) + 1) : Int).toNat * 7) (j := 5) (St w []) ld_3 rfl hr30 rfl (me 1 rfl)) (gy 25 rfl rfl) rfl ?_
      refine wl_v 18 rfl (v_bin rfl rfl rfl) (gy 25 rfl rfl) rfl ?_
      refine wl_v 19 rfl (v_pick (b := true) rfl rfl) gn rfl ?_
      refine wl_v 20 rfl (v_assign rfl) gn rfl ?_
      refine w_end 21 rfl ?_
      refine g_retR (c := trellislaw15_stays_c8) [.bool (((ix (x1.take ((w64 ((x9.length : Int) + 2) : Int).toNat)) (w64 ((x9.length : Int) + 1))).kids) == (-72))] rfl Try.func16 rfl (.tmp rfl (.nil)) fun wr hLr => ?_
      have hMr : B.Loc w wr [] [St w []] := hLr.pick (rest := []) (perm_of_idx [] [] rfl rfl (by kernel_rfl)) (sels [1] rfl)
      have hMi : ∀ e ∈ ([] : List Ent), e ∈ ([] : List Ent) := sels [] rfl
      show trellislaw15_stays_R w F  r (.returned (packV [.bool (((ix (x1.take ((w64 ((x9.length : Int) + 2) : Int).toNat)) (w64 ((x9.length : Int) + 1))).kids) == (-72))])) wr
      rw [h]
      exact ⟨rfl, hMr⟩
    · have h := if_neg' hp28 h
      refine w_bool 25 rfl ((nei hp28)) ?_
      refine wl_pass 11 rfl (ps 25 rfl rfl rfl) ?_
      refine wl_pass 12 rfl (ps 25 rfl rfl rfl) ?_
      refine wl_pass 13 rfl (ps 25 rfl rfl rfl) ?_
      refine wl_pass 14 rfl (ps 25 rfl rfl rfl) ?_
      refine wl_pass 15 rfl (ps 25 rfl rfl rfl) ?_
      refine wl_pass 16 rfl (ps 25 rfl rfl rfl) ?_
      refine wl_pass 17 rfl (ps 25 rfl rfl rfl) ?_
      refine wl_pass 18 rfl (ps 25 rfl rfl rfl) ?_
      refine wl_v 19 rfl (v_pick (b := false) rfl rfl) gn rfl ?_
      refine wl_v 20 rfl (v_assign rfl) gn rfl ?_
      refine w_end 21 rfl ?_
      refine g_retR (c := trellislaw15_stays_c8) [.bool false] rfl Try.func16 rfl (.tmp rfl (.nil)) fun wr hLr => ?_
      have hMr : B.Loc w wr [] [St w []] := hLr.pick (rest := []) (perm_of_idx [] [] rfl rfl (by kernel_rfl)) (sels [1] rfl)
      have hMi : ∀ e ∈ ([] : List Ent), e ∈ ([] : List Ent) := sels [] rfl
      show trellislaw15_stays_R w F  r (.returned (packV [.bool false])) wr
      rw [h]
      exact ⟨rfl, hMr⟩
  · have h := if_neg' hp25 h
    refine w_bool 16 rfl ((bf hp25)) ?_
    refine wl_pass 2 rfl (ps 16 rfl rfl rfl) ?_
    refine wl_pass 3 rfl (ps 16 rfl rfl rfl) ?_
    refine wl_pass 4 rfl (ps 16 rfl rfl rfl) ?_
    refine wl_pass 5 rfl (ps 16 rfl rfl rfl) ?_
    refine wl_pass 6 rfl (ps 16 rfl rfl rfl) ?_
    refine wl_pass 7 rfl (ps 16 rfl rfl rfl) ?_
    refine wl_pass 8 rfl (ps 16 rfl rfl rfl) ?_
    refine wl_v 9 rfl (v_pick (b := false) rfl rfl) gn rfl ?_
    refine wl_v 10 rfl (v_move rfl) gn rfl ?_
    refine wl_pass 11 rfl (ps 25 rfl rfl rfl) ?_
    refine wl_pass 12 rfl (ps 25 rfl rfl rfl) ?_
    refine wl_pass 13 rfl (ps 25 rfl rfl rfl) ?_
    refine wl_pass 14 rfl (ps 25 rfl rfl rfl) ?_
    refine wl_pass 15 rfl (ps 25 rfl rfl rfl) ?_
    refine wl_pass 16 rfl (ps 25 rfl rfl rfl) ?_
    refine wl_pass 17 rfl (ps 25 rfl rfl rfl) ?_
    refine wl_pass 18 rfl (ps 25 rfl rfl rfl) ?_
    refine wl_v 19 rfl (v_pick (b := false) rfl rfl) gn rfl ?_
    refine wl_v 20 rfl (v_assign rfl) gn rfl ?_
    refine w_end 21 rfl ?_
    refine g_retR (c := trellislaw15_stays_c8) [.bool false] rfl Try.func16 rfl (.tmp rfl (.nil)) fun wr hLr => ?_
    have hMr : B.Loc w wr [] [St w []] := hLr.pick (rest := []) (perm_of_idx [] [] rfl rfl (by kernel_rfl)) (sels [1] rfl)
    have hMi : ∀ e ∈ ([] : List Ent), e ∈ ([] : List Ent) := sels [] rfl
    show trellislaw15_stays_R w F  r (.returned (packV [.bool false])) wr
    rw [h]
    exact ⟨rfl, hMr⟩
noncomputable abbrev tree_Cursor_Down_c0 : Code := bodyOf Try.f18
noncomputable abbrev tree_Cursor_Down_c1 : Code := Code.fst tree_Cursor_Down_c0
noncomputable abbrev tree_Cursor_Down_c2 : Code := Code.snd tree_Cursor_Down_c0
noncomputable abbrev tree_Cursor_Down_c3 : Code := Code.fst tree_Cursor_Down_c2
noncomputable abbrev tree_Cursor_Down_c4 : Code := Code.snd tree_Cursor_Down_c2
abbrev tree_Cursor_Down_R (w : World) (F : Nat → Prop) (g2 : Nat) (Tb3 : Nat) (r : Bool × tree_Cursor) : Ending → World → Prop := fun e w' => ∃ A0 : Option Addr, ∃ n0 : Nat, ∃ c0 : Nat, ∃ A1 : Option Addr, ∃ n1 : Nat, ∃ c1 : Nat, ∃ A2 : Option Addr, ∃ n2 : Nat, ∃ c2 : Nat, e = .returned (.bool r.1) ∧ B.Loc w w' [.box g2 Tb3 [.slice A0 n0 c0, .slice A1 n1 c1, .slice A2 n2 c2, .bool r.2.stand.forest.ok, .int .i64 r.2.stand.at_]] [St w [[g2]]] ∧ Rw k_api_Node w' (Nw w w' F [.box g2 Tb3 [.slice A0 n0 c0, .slice A1 n1 c1, .slice A2 n2 c2, .bool r.2.stand.forest.ok, .int .i64 r.2.stand.at_]]) A0 n0 c0 r.2.stand.forest.nodes ∧ Rw (kInt .i64) w' (Nw w w' F [.box g2 Tb3 [.slice A0 n0 c0, .slice A1 n1 c1, .slice A2 n2 c2, .bool r.2.stand.forest.ok, .int .i64 r.2.stand.at_]]) A1 n1 c1 r.2.stand.forest.parent ∧ Rw (kInt .i64) w' (Nw w w' F [.box g2 Tb3 [.slice A0 n0 c0, .slice A1 n1 c1, .slice A2 n2 c2, .bool r.2.stand.forest.ok, .int .i64 r.2.stand.at_]]) A2 n2 c2 r.2.stand.forest.end_
noncomputable abbrev tree_Cursor_Down_C (w : World) (F : Nat → Prop) (g2 : Nat) (Tb3 : Nat) (r : Bool × tree_Cursor) : Cx := ⟨Try.prog, 18, Try.f18, 41, tree_Cursor_Down_R w F g2 Tb3 r, w⟩
theorem tree_Cursor_Down_calls (w : World) (F : Nat → Prop) (x1 : tree_Cursor) (g2 : Nat) (Tb3 : Nat) (A4 : Option Addr) (n5 : Nat) (c6 : Nat) (A8 : Option Addr) (n9 : Nat) (c10 : Nat) (A12 : Option Addr) (n13 : Nat) (c14 : Nat) (h7 : Rw k_api_Node w F A4 n5 c6 x1.stand.forest.nodes) (h11 : Rw (kInt .i64) w F A8 n9 c10 x1.stand.forest.parent) (h15 : Rw (kInt .i64) w F A12 n13 c14 x1.stand.forest.end_) (hF : ∀ b, F b → b < w.heap.size ∧ ∀ o ∈ ([[g2]] : List (List Nat)), b ∉ o) (hL0 : B.Loc w w [.box g2 Tb3 [.slice A4 n5 c6, .slice A8 n9 c10, .slice A12 n13 c14, .bool x1.stand.forest.ok, .int .i64 x1.stand.at_]] [Sm w.heap.size F w [[g2]], St w [[g2]]]) (r : Bool × tree_Cursor) (h : tree_Cursor_Down x1 r) : Calls Try.prog 18 #[.pointer (some ⟨g2, 0, none⟩)] w (tree_Cursor_Down_R w F g2 Tb3 r) := by
  unfold tree_Cursor_Down at h
  have h7 := Rw.into (bs := [[g2]]) hF h7
  have h11 := Rw.into (bs := [[g2]]) hF h11
  have h15 := Rw.into (bs := [[g2]]) hF h15
  refine calls_of_Loc (vs := [.pointer (some ⟨g2, 0, none⟩)]) 41 Try.func18 rfl Try.ntmps18 rfl hL0 ?_
  show G (tree_Cursor_Down_C w F g2 Tb3 r) _ _ _ _
  refine g_seq (c := tree_Cursor_Down_c0) rfl ?_
  refine g_region (c := tree_Cursor_Down_c1) rfl rfl ?_
  refine wl_v 0 rfl (v_assign rfl) gn rfl ?_
  refine w_end 1 rfl ?_
  refine g_seq (c := tree_Cursor_Down_c2) rfl ?_
  obtain ⟨r19, hv20, h⟩ := h
  by_cases hp24 : r19 = true
  · have h := if_pos' hp24 h
    obtain ⟨hb25, h⟩ := h
    obtain ⟨r30, hv31, h⟩ := h
    have hns : Region.noSelect (Code.ops tree_Cursor_Down_c3) = true := by kernel_rfl
    refine g_drawF (c := tree_Cursor_Down_c3) [.box g2 Tb3 [.slice A4 n5 c6, .slice A8 n9 c10, .slice A12 n13 c14, .bool x1.stand.forest.ok, .int .i64 x1.stand.at_]] [Sm w.heap.size F w [[g2]], St w [[g2]]] [37, 38] 39 rfl rfl mix rfl (.cons_cons _ (.slnil)) (sels [0, 1] rfl) ?_
    refine wf_v 0 rfl (v_move rfl) gn rfl hns (by kernel_rfl) (by kernel_rfl) (by kernel_rfl) rfl ?_
    refine wf_v 1 rfl (v_nilCheck rfl) gn rfl hns (by kernel_rfl) (by kernel_rfl) (by kernel_rfl) rfl ?_
    refine wf_v 2 rfl (v_fldB fo_36_0 rfl) gn rfl hns (by kernel_rfl) (by kernel_rfl) (by kernel_rfl) rfl ?_
    refine wf_v 3 rfl (v_move rfl) gn rfl hns (by kernel_rfl) (by kernel_rfl) (by kernel_rfl) rfl ?_
    refine wf_v 4 rfl (v_nilCheck rfl) gn rfl hns (by kernel_rfl) (by kernel_rfl) (by kernel_rfl) rfl ?_
    refine wf_v 5 rfl (v_fldB fo_36_0 rfl) gn rfl hns (by kernel_rfl) (by kernel_rfl) (by kernel_rfl) rfl ?_
    refine wf_v 6 rfl (v_fldB fo_34_1 rfl) gn rfl hns (by kernel_rfl) (by kernel_rfl) (by kernel_rfl) rfl ?_
    refine wf_v 7 rfl (v_ldB1 0 ld_3 rfl rfl rfl) gn rfl hns (by kernel_rfl) (by kernel_rfl) (by kernel_rfl) rfl ?_
    refine wf_v 8 rfl (v_bin rfl rfl rfl) gn rfl hns (by kernel_rfl) (by kernel_rfl) (by kernel_rfl) rfl ?_
    refine wf_v 9 rfl (v_move rfl) gn rfl hns (by kernel_rfl) (by kernel_rfl) (by kernel_rfl) rfl ?_
    refine wf_v 10 rfl (v_nilCheck rfl) gn rfl hns (by kernel_rfl) (by kernel_rfl) (by kernel_rfl) rfl ?_
    refine wf_v 11 rfl (v_fldB fo_36_0 rfl) gn rfl hns (by kernel_rfl) (by kernel_rfl) (by kernel_rfl) rfl ?_
    refine wf_v 12 rfl (v_fldB fo_34_0 rfl) gn rfl hns (by kernel_rfl) (by kernel_rfl) (by kernel_rfl) rfl ?_
    refine wf_v 13 rfl (v_ldB [.slice A4 n5 c6, .slice A8 n9 c10, .slice A12 n13 c14, .bool x1.stand.forest.ok] 0 ld_32 rfl rfl rfl rfl) gn rfl hns (by kernel_rfl) (by kernel_rfl) (by kernel_rfl) rfl ?_
    refine wf_v 14 rfl (v_move rfl) gn rfl hns (by kernel_rfl) (by kernel_rfl) (by kernel_rfl) rfl ?_
    refine wf_v 15 rfl (v_nilCheck rfl) gn rfl hns (by kernel_rfl) (by kernel_rfl) (by kernel_rfl) rfl ?_
    refine wf_v 16 rfl (v_fldB fo_36_0 rfl) gn rfl hns (by kernel_rfl) (by kernel_rfl) (by kernel_rfl) rfl ?_
    refine wf_v 17 rfl (v_fldB fo_34_1 rfl) gn rfl hns (by kernel_rfl) (by kernel_rfl) (by kernel_rfl) rfl ?_
    refine wf_v 18 rfl (v_ldB1 0 ld_3 rfl rfl rfl) gn rfl hns (by kernel_rfl) (by kernel_rfl) (by kernel_rfl) rfl ?_
    refine wf_all [19] (by kernel_rfl) rfl ⟨on_s 19 rfl gn rfl (s_call [.agg #[.slice A4 n5 c6, .slice A8 n9 c10, .slice A12 n13 c14, .bool x1.stand.forest.ok], .int .i64 x1.stand.at_] rfl Try.func46 rfl rfl rfl fun w88 hL89 => ?_), trivial⟩
    have hp90 : List.Perm ([.box g2 Tb3 [.slice A4 n5 c6, .slice A8 n9 c10, .slice A12 n13 c14, .bool x1.stand.forest.ok, .int .i64 x1.stand.at_]] : List Ent) (([] : List Ent) ++ ([.box g2 Tb3 [.slice A4 n5 c6, .slice A8 n9 c10, .slice A12 n13 c14, .bool x1.stand.forest.ok, .int .i64 x1.stand.at_]] : List Ent)) := perm_of_idx [] [0] rfl rfl (by kernel_rfl)
    refine Calls.mono (tree_forest_has_calls w88 (Fl ([] : List Snap)) x1.stand.forest x1.stand.at_ A4 n5 c6 A8 n9 c10 A12 n13 c14 (Rw.mono h7 (hL89.toSt hp90 (me 0 rfl))) (Rw.mono h11 (hL89.toSt hp90 (me 0 rfl))) (Rw.mono h15 (hL89.toSt hp90 (me 0 rfl))) (hL89.hFl (Sl := ([] : List Snap)) hp90 (sels [] rfl)) (hL89.into hp90 (Fl ([] : List Snap))) r19 hv20) ?_
    rintro _ w91 ⟨rfl, hM92⟩
    have hL93 := hL89.call hp90 hM92
    refine ⟨_, _, _, rfl, hL93, ?_⟩
    refine ⟨sels [0] rfl, sels [0, 1] rfl, ?_⟩
    refine wf_v 20 rfl (v_move rfl) gn rfl hns (by kernel_rfl) (by kernel_rfl) (by kernel_rfl) rfl ?_
    refine wf_bool 23 rfl (hp24) ?_
    refine wf_v 21 rfl (v_move rfl) (gy 23 rfl rfl) rfl hns (by kernel_rfl) (by kernel_rfl) (by kernel_rfl) rfl ?_
    refine wf_v 22 rfl (v_nilCheck rfl) (gy 23 rfl rfl) rfl hns (by kernel_rfl) (by kernel_rfl) (by kernel_rfl) rfl ?_
    refine wf_v 23 rfl (v_fldB fo_36_0 rfl) (gy 23 rfl rfl) rfl hns (by kernel_rfl) (by kernel_rfl) (by kernel_rfl) rfl ?_
    refine wf_v 24 rfl (v_fldB fo_34_0 rfl) (gy 23 rfl rfl) rfl hns (by kernel_rfl) (by kernel_rfl) (by kernel_rfl) rfl ?_
    refine wf_v 25 rfl (v_fldB fo_32_0 rfl) (gy 23 rfl rfl) rfl hns (by kernel_rfl) (by kernel_rfl) (by kernel_rfl) rfl ?_
    refine wf_v 26 rfl (v_ldB1 0 ld_22 rfl rfl rfl) (gy 23 rfl rfl) rfl hns (by kernel_rfl) (by kernel_rfl) (by kernel_rfl) rfl ?_
    refine wf_v 27 rfl (v_move rfl) (gy 23 rfl rfl) rfl hns (by kernel_rfl) (by kernel_rfl) (by kernel_rfl) rfl ?_
    refine wf_v 28 rfl (v_nilCheck rfl) (gy 23 rfl rfl) rfl hns (by kernel_rfl) (by kernel_rfl) (by kernel_rfl) rfl ?_
    refine wf_v 29 rfl (v_fldB fo_36_0 rfl) (gy 23 rfl rfl) rfl hns (by kernel_rfl) (by kernel_rfl) (by kernel_rfl) rfl ?_
    refine wf_v 30 rfl (v_fldB fo_34_1 rfl) (gy 23 rfl rfl) rfl hns (by kernel_rfl) (by kernel_rfl) (by kernel_rfl) rfl ?_
    refine wf_v 31 rfl (v_ldB1 0 ld_3 rfl rfl rfl) (gy 23 rfl rfl) rfl hns (by kernel_rfl) (by kernel_rfl) (by kernel_rfl) rfl ?_
    have hr94 := Rw.readF (s := Sm w.heap.size F w [[g2]]) (hl := hl_api_Node) (h1 := h1_api_Node) h7 hb25
    refine wf_v 32 rfl (v_idxR (s := Sm w.heap.size F w [[g2]]) slE_22 rfl rfl h7 hb25) (gy 23 rfl rfl) rfl hns (by kernel_rfl) (by kernel_rfl) (by kernel_rfl) rfl ?_
    refine wf_v 33 rfl (v_fldA fo_39_5 rfl) (gy 23 rfl rfl) rfl hns (by kernel_rfl) (by kernel_rfl) (by kernel_rfl) rfl ?_
    refine wf_v 34 rfl (v_ldA1 (kk := (x1.stand.at_ : Int).toNat * 7) (j := 5) (Sm w.heap.size F w [[g2]]) ld_3 rfl hr94 rfl (me 0 rfl)) (gy 23 rfl rfl) rfl hns (by kernel_rfl) (by kernel_rfl) (by kernel_rfl) rfl ?_
    refine wf_v 35 rfl (v_bin rfl rfl rfl) (gy 23 rfl rfl) rfl hns (by kernel_rfl) (by kernel_rfl) (by kernel_rfl) rfl ?_
    refine wf_v 36 rfl (v_pick (b := true) rfl rfl) gn rfl hns (by kernel_rfl) (by kernel_rfl) (by kernel_rfl) rfl ?_
    refine wf_all [37] (by kernel_rfl) rfl ⟨on_l 37 rfl gn rfl (s_call [.pointer (some ⟨g2, 0, none⟩), .int .i64 (w64 (x1.stand.at_ + 1)), .bool (decide ((ix x1.stand.forest.nodes x1.stand.at_).kids > 0))] rfl Try.func45 rfl rfl rfl fun w95 hL96 => ?_), trivial⟩
    have hp97 : List.Perm ([.box g2 Tb3 [.slice A4 n5 c6, .slice A8 n9 c10, .slice A12 n13 c14, .bool x1.stand.forest.ok, .int .i64 x1.stand.at_]] : List Ent) (([.box g2 Tb3 [.slice A4 n5 c6, .slice A8 n9 c10, .slice A12 n13 c14, .bool x1.stand.forest.ok, .int .i64 x1.stand.at_]] : List Ent) ++ ([] : List Ent)) := perm_of_idx [0] [] rfl rfl (by kernel_rfl)
    refine Calls.mono (tree_stand_to_calls w95 (Fl ([Sm w.heap.size F w [[g2]]] : List Snap)) x1.stand (w64 (x1.stand.at_ + 1)) (decide ((ix x1.stand.forest.nodes x1.stand.at_).kids > 0)) g2 Tb3 A4 n5 c6 A8 n9 c10 A12 n13 c14 (Rw.mono h7 (hL96.toFl (me 0 rfl) (me 0 rfl))) (Rw.mono h11 (hL96.toFl (me 0 rfl) (me 0 rfl))) (Rw.mono h15 (hL96.toFl (me 0 rfl) (me 0 rfl))) (hL96.hFl (Sl := ([Sm w.heap.size F w [[g2]]] : List Snap)) hp97 (sels [0] rfl)) (hL96.into hp97 (Fl ([Sm w.heap.size F w [[g2]]] : List Snap))) r30 hv31) ?_
    rintro _ w110 ⟨A98, n99, c100, A102, n103, c104, A106, n107, c108, rfl, hM111, h101, h105, h109⟩
    obtain ⟨sb114, hL112, hv113⟩ := hL96.callB (Sl := ([Sm w.heap.size F w [[g2]]] : List Snap)) hp97 hM111 F (sels [0] rfl) ⟨Sm.ok, trivial⟩
    have h101 : At k_api_Node (Sm w.heap.size F w110 sb114) A98 n99 c100 r30.2.forest.nodes := Rw.mono h101 hv113
    have h105 : At (kInt .i64) (Sm w.heap.size F w110 sb114) A102 n103 c104 r30.2.forest.parent := Rw.mono h105 hv113
    have h109 : At (kInt .i64) (Sm w.heap.size F w110 sb114) A106 n107 c108 r30.2.forest.end_ := Rw.mono h109 hv113
    refine ⟨_, _, _, rfl, hL112, ?_⟩
    unfold NxL
    refine wf_all [38] (by kernel_rfl) rfl ⟨on_l 38 rfl gn rfl (s_val (v_assign rfl) rfl ?_), trivial⟩
    unfold NxL
    refine wf_end (by kernel_rfl) ?_
    refine g_retR (c := tree_Cursor_Down_c4) [.bool r30.1] rfl Try.func18 rfl (.tmp rfl (.nil)) fun wr hLr => ?_
    have hMr : B.Loc w wr [.box g2 Tb3 [.slice A98 n99 c100, .slice A102 n103 c104, .slice A106 n107 c108, .bool r30.2.forest.ok, .int .i64 r30.2.at_]] [St w [[g2]]] := hLr.pick (rest := []) (perm_of_idx [0] [] rfl rfl (by kernel_rfl)) (sels [2] rfl)
    have hMi : ∀ e ∈ ([.box g2 Tb3 [.slice A98 n99 c100, .slice A102 n103 c104, .slice A106 n107 c108, .bool r30.2.forest.ok, .int .i64 r30.2.at_]] : List Ent), e ∈ ([.box g2 Tb3 [.slice A98 n99 c100, .slice A102 n103 c104, .slice A106 n107 c108, .bool r30.2.forest.ok, .int .i64 r30.2.at_]] : List Ent) := sels [0] rfl
    show tree_Cursor_Down_R w F g2 Tb3 r (.returned (packV [.bool r30.1])) wr
    rw [h]
    exact ⟨A98, n99, c100, A102, n103, c104, A106, n107, c108, rfl, hMr, (hLr.outR (s := Sm w.heap.size F w110 sb114) hMi (me 0 rfl) Sm.ok h101), (hLr.outR (s := Sm w.heap.size F w110 sb114) hMi (me 0 rfl) Sm.ok h105), (hLr.outR (s := Sm w.heap.size F w110 sb114) hMi (me 0 rfl) Sm.ok h109)⟩
  · have h := if_neg' hp24 h
    obtain ⟨r118, hv119, h⟩ := h
    have hns : Region.noSelect (Code.ops tree_Cursor_Down_c3) = true := by kernel_rfl
    refine g_drawF (c := tree_Cursor_Down_c3) [.box g2 Tb3 [.slice A4 n5 c6, .slice A8 n9 c10, .slice A12 n13 c14, .bool x1.stand.forest.ok, .int .i64 x1.stand.at_]] [Sm w.heap.size F w [[g2]], St w [[g2]]] [37, 38] 39 rfl rfl mix rfl (.cons_cons _ (.slnil)) (sels [0, 1] rfl) ?_
    refine wf_v 0 rfl (v_move rfl) gn rfl hns (by kernel_rfl) (by kernel_rfl) (by kernel_rfl) rfl ?_
    refine wf_v 1 rfl (v_nilCheck rfl) gn rfl hns (by kernel_rfl) (by kernel_rfl) (by kernel_rfl) rfl ?_
    refine wf_v 2 rfl (v_fldB fo_36_0 rfl) gn rfl hns (by kernel_rfl) (by kernel_rfl) (by kernel_rfl) rfl ?_
    refine wf_v 3 rfl (v_move rfl) gn rfl hns (by kernel_rfl) (by kernel_rfl) (by kernel_rfl) rfl ?_
    refine wf_v 4 rfl (v_nilCheck rfl) gn rfl hns (by kernel_rfl) (by kernel_rfl) (by kernel_rfl) rfl ?_
    refine wf_v 5 rfl (v_fldB fo_36_0 rfl) gn rfl hns (by kernel_rfl) (by kernel_rfl) (by kernel_rfl) rfl ?_
    refine wf_v 6 rfl (v_fldB fo_34_1 rfl) gn rfl hns (by kernel_rfl) (by kernel_rfl) (by kernel_rfl) rfl ?_
    refine wf_v 7 rfl (v_ldB1 0 ld_3 rfl rfl rfl) gn rfl hns (by kernel_rfl) (by kernel_rfl) (by kernel_rfl) rfl ?_
    refine wf_v 8 rfl (v_bin rfl rfl rfl) gn rfl hns (by kernel_rfl) (by kernel_rfl) (by kernel_rfl) rfl ?_
    refine wf_v 9 rfl (v_move rfl) gn rfl hns (by kernel_rfl) (by kernel_rfl) (by kernel_rfl) rfl ?_
    refine wf_v 10 rfl (v_nilCheck rfl) gn rfl hns (by kernel_rfl) (by kernel_rfl) (by kernel_rfl) rfl ?_
    refine wf_v 11 rfl (v_fldB fo_36_0 rfl) gn rfl hns (by kernel_rfl) (by kernel_rfl) (by kernel_rfl) rfl ?_
    refine wf_v 12 rfl (v_fldB fo_34_0 rfl) gn rfl hns (by kernel_rfl) (by kernel_rfl) (by kernel_rfl) rfl ?_
    refine wf_v 13 rfl (v_ldB [.slice A4 n5 c6, .slice A8 n9 c10, .slice A12 n13 c14, .bool x1.stand.forest.ok] 0 ld_32 rfl rfl rfl rfl) gn rfl hns (by kernel_rfl) (by kernel_rfl) (by kernel_rfl) rfl ?_
    refine wf_v 14 rfl (v_move rfl) gn rfl hns (by kernel_rfl) (by kernel_rfl) (by kernel_rfl) rfl ?_
    refine wf_v 15 rfl (v_nilCheck rfl) gn rfl hns (by kernel_rfl) (by kernel_rfl) (by kernel_rfl) rfl ?_
    refine wf_v 16 rfl (v_fldB fo_36_0 rfl) gn rfl hns (by kernel_rfl) (by kernel_rfl) (by kernel_rfl) rfl ?_
    refine wf_v 17 rfl (v_fldB fo_34_1 rfl) gn rfl hns (by kernel_rfl) (by kernel_rfl) (by kernel_rfl) rfl ?_
    refine wf_v 18 rfl (v_ldB1 0 ld_3 rfl rfl rfl) gn rfl hns (by kernel_rfl) (by kernel_rfl) (by kernel_rfl) rfl ?_
    refine wf_all [19] (by kernel_rfl) rfl ⟨on_s 19 rfl gn rfl (s_call [.agg #[.slice A4 n5 c6, .slice A8 n9 c10, .slice A12 n13 c14, .bool x1.stand.forest.ok], .int .i64 x1.stand.at_] rfl Try.func46 rfl rfl rfl fun w175 hL176 => ?_), trivial⟩
    have hp177 : List.Perm ([.box g2 Tb3 [.slice A4 n5 c6, .slice A8 n9 c10, .slice A12 n13 c14, .bool x1.stand.forest.ok, .int .i64 x1.stand.at_]] : List Ent) (([] : List Ent) ++ ([.box g2 Tb3 [.slice A4 n5 c6, .slice A8 n9 c10, .slice A12 n13 c14, .bool x1.stand.forest.ok, .int .i64 x1.stand.at_]] : List Ent)) := perm_of_idx [] [0] rfl rfl (by kernel_rfl)
    refine Calls.mono (tree_forest_has_calls w175 (Fl ([] : List Snap)) x1.stand.forest x1.stand.at_ A4 n5 c6 A8 n9 c10 A12 n13 c14 (Rw.mono h7 (hL176.toSt hp177 (me 0 rfl))) (Rw.mono h11 (hL176.toSt hp177 (me 0 rfl))) (Rw.mono h15 (hL176.toSt hp177 (me 0 rfl))) (hL176.hFl (Sl := ([] : List Snap)) hp177 (sels [] rfl)) (hL176.into hp177 (Fl ([] : List Snap))) r19 hv20) ?_
    rintro _ w178 ⟨rfl, hM179⟩
    have hL180 := hL176.call hp177 hM179
    refine ⟨_, _, _, rfl, hL180, ?_⟩
    refine ⟨sels [0] rfl, sels [0, 1] rfl, ?_⟩
    refine wf_v 20 rfl (v_move rfl) gn rfl hns (by kernel_rfl) (by kernel_rfl) (by kernel_rfl) rfl ?_
    refine wf_bool 23 rfl ((bf hp24)) ?_
    refine wf_pass 21 rfl (ps 23 rfl rfl rfl) hns (by kernel_rfl) (by kernel_rfl) (by kernel_rfl) rfl ?_
    refine wf_pass 22 rfl (ps 23 rfl rfl rfl) hns (by kernel_rfl) (by kernel_rfl) (by kernel_rfl) rfl ?_
    refine wf_pass 23 rfl (ps 23 rfl rfl rfl) hns (by kernel_rfl) (by kernel_rfl) (by kernel_rfl) rfl ?_
    refine wf_pass 24 rfl (ps 23 rfl rfl rfl) hns (by kernel_rfl) (by kernel_rfl) (by kernel_rfl) rfl ?_
    refine wf_pass 25 rfl (ps 23 rfl rfl rfl) hns (by kernel_rfl) (by kernel_rfl) (by kernel_rfl) rfl ?_
    refine wf_pass 26 rfl (ps 23 rfl rfl rfl) hns (by kernel_rfl) (by kernel_rfl) (by kernel_rfl) rfl ?_
    refine wf_pass 27 rfl (ps 23 rfl rfl rfl) hns (by kernel_rfl) (by kernel_rfl) (by kernel_rfl) rfl ?_
    refine wf_pass 28 rfl (ps 23 rfl rfl rfl) hns (by kernel_rfl) (by kernel_rfl) (by kernel_rfl) rfl ?_
    refine wf_pass 29 rfl (ps 23 rfl rfl rfl) hns (by kernel_rfl) (by kernel_rfl) (by kernel_rfl) rfl ?_
    refine wf_pass 30 rfl (ps 23 rfl rfl rfl) hns (by kernel_rfl) (by kernel_rfl) (by kernel_rfl) rfl ?_
    refine wf_pass 31 rfl (ps 23 rfl rfl rfl) hns (by kernel_rfl) (by kernel_rfl) (by kernel_rfl) rfl ?_
    refine wf_pass 32 rfl (ps 23 rfl rfl rfl) hns (by kernel_rfl) (by kernel_rfl) (by kernel_rfl) rfl ?_
    refine wf_pass 33 rfl (ps 23 rfl rfl rfl) hns (by kernel_rfl) (by kernel_rfl) (by kernel_rfl) rfl ?_
    refine wf_pass 34 rfl (ps 23 rfl rfl rfl) hns (by kernel_rfl) (by kernel_rfl) (by kernel_rfl) rfl ?_
    refine wf_pass 35 rfl (ps 23 rfl rfl rfl) hns (by kernel_rfl) (by kernel_rfl) (by kernel_rfl) rfl ?_
    refine wf_v 36 rfl (v_pick (b := false) rfl rfl) gn rfl hns (by kernel_rfl) (by kernel_rfl) (by kernel_rfl) rfl ?_
    refine wf_all [37] (by kernel_rfl) rfl ⟨on_l 37 rfl gn rfl (s_call [.pointer (some ⟨g2, 0, none⟩), .int .i64 (w64 (x1.stand.at_ + 1)), .bool false] rfl Try.func45 rfl rfl rfl fun w181 hL182 => ?_), trivial⟩
    have hp183 : List.Perm ([.box g2 Tb3 [.slice A4 n5 c6, .slice A8 n9 c10, .slice A12 n13 c14, .bool x1.stand.forest.ok, .int .i64 x1.stand.at_]] : List Ent) (([.box g2 Tb3 [.slice A4 n5 c6, .slice A8 n9 c10, .slice A12 n13 c14, .bool x1.stand.forest.ok, .int .i64 x1.stand.at_]] : List Ent) ++ ([] : List Ent)) := perm_of_idx [0] [] rfl rfl (by kernel_rfl)
    refine Calls.mono (tree_stand_to_calls w181 (Fl ([Sm w.heap.size F w [[g2]]] : List Snap)) x1.stand (w64 (x1.stand.at_ + 1)) false g2 Tb3 A4 n5 c6 A8 n9 c10 A12 n13 c14 (Rw.mono h7 (hL182.toFl (me 0 rfl) (me 0 rfl))) (Rw.mono h11 (hL182.toFl (me 0 rfl) (me 0 rfl))) (Rw.mono h15 (hL182.toFl (me 0 rfl) (me 0 rfl))) (hL182.hFl (Sl := ([Sm w.heap.size F w [[g2]]] : List Snap)) hp183 (sels [0] rfl)) (hL182.into hp183 (Fl ([Sm w.heap.size F w [[g2]]] : List Snap))) r118 hv119) ?_
    rintro _ w196 ⟨A184, n185, c186, A188, n189, c190, A192, n193, c194, rfl, hM197, h187, h191, h195⟩
    obtain ⟨sb200, hL198, hv199⟩ := hL182.callB (Sl := ([Sm w.heap.size F w [[g2]]] : List Snap)) hp183 hM197 F (sels [0] rfl) ⟨Sm.ok, trivial⟩
    have h187 : At k_api_Node (Sm w.heap.size F w196 sb200) A184 n185 c186 r118.2.forest.nodes := Rw.mono h187 hv199
    have h191 : At (kInt .i64) (Sm w.heap.size F w196 sb200) A188 n189 c190 r118.2.forest.parent := Rw.mono h191 hv199
    have h195 : At (kInt .i64) (Sm w.heap.size F w196 sb200) A192 n193 c194 r118.2.forest.end_ := Rw.mono h195 hv199
    refine ⟨_, _, _, rfl, hL198, ?_⟩
    unfold NxL
    refine wf_all [38] (by kernel_rfl) rfl ⟨on_l 38 rfl gn rfl (s_val (v_assign rfl) rfl ?_), trivial⟩
    unfold NxL
    refine wf_end (by kernel_rfl) ?_
    refine g_retR (c := tree_Cursor_Down_c4) [.bool r118.1] rfl Try.func18 rfl (.tmp rfl (.nil)) fun wr hLr => ?_
    have hMr : B.Loc w wr [.box g2 Tb3 [.slice A184 n185 c186, .slice A188 n189 c190, .slice A192 n193 c194, .bool r118.2.forest.ok, .int .i64 r118.2.at_]] [St w [[g2]]] := hLr.pick (rest := []) (perm_of_idx [0] [] rfl rfl (by kernel_rfl)) (sels [2] rfl)
    have hMi : ∀ e ∈ ([.box g2 Tb3 [.slice A184 n185 c186, .slice A188 n189 c190, .slice A192 n193 c194, .bool r118.2.forest.ok, .int .i64 r118.2.at_]] : List Ent), e ∈ ([.box g2 Tb3 [.slice A184 n185 c186, .slice A188 n189 c190, .slice A192 n193 c194, .bool r118.2.forest.ok, .int .i64 r118.2.at_]] : List Ent) := sels [0] rfl
    show tree_Cursor_Down_R w F g2 Tb3 r (.returned (packV [.bool r118.1])) wr
    rw [h]
    exact ⟨A184, n185, c186, A188, n189, c190, A192, n193, c194, rfl, hMr, (hLr.outR (s := Sm w.heap.size F w196 sb200) hMi (me 0 rfl) Sm.ok h187), (hLr.outR (s := Sm w.heap.size F w196 sb200) hMi (me 0 rfl) Sm.ok h191), (hLr.outR (s := Sm w.heap.size F w196 sb200) hMi (me 0 rfl) Sm.ok h195)⟩
noncomputable abbrev trellisref15_find_c0 : Code := bodyOf Try.f48
noncomputable abbrev trellisref15_find_c1 : Code := Code.fst trellisref15_find_c0
noncomputable abbrev trellisref15_find_c2 : Code := Code.snd trellisref15_find_c0
noncomputable abbrev trellisref15_find_c3 : Code := Code.fst trellisref15_find_c2
noncomputable abbrev trellisref15_find_c4 : Code := Code.snd trellisref15_find_c2
noncomputable abbrev trellisref15_find_c5 : Code := Code.fst trellisref15_find_c3
noncomputable abbrev trellisref15_find_c6 : Code := Code.snd trellisref15_find_c3
noncomputable abbrev trellisref15_find_c7 : Code := Code.fst trellisref15_find_c6
noncomputable abbrev trellisref15_find_c8 : Code := Code.fst trellisref15_find_c7
noncomputable abbrev trellisref15_find_c9 : Code := Code.fst trellisref15_find_c8
noncomputable abbrev trellisref15_find_c10 : Code := Code.snd trellisref15_find_c8
noncomputable abbrev trellisref15_find_c11 : Code := Code.fst trellisref15_find_c9
noncomputable abbrev trellisref15_find_c12 : Code := Code.snd trellisref15_find_c9
noncomputable abbrev trellisref15_find_c13 : Code := Code.fst trellisref15_find_c12
noncomputable abbrev trellisref15_find_c14 : Code := Code.snd trellisref15_find_c12
noncomputable abbrev trellisref15_find_c15 : Code := Code.fst trellisref15_find_c10
noncomputable abbrev trellisref15_find_c16 : Code := Code.snd trellisref15_find_c10
noncomputable abbrev trellisref15_find_c17 : Code := Code.fst trellisref15_find_c15
noncomputable abbrev trellisref15_find_c18 : Code := Code.fst trellisref15_find_c17
noncomputable abbrev trellisref15_find_c19 : Code := Code.snd trellisref15_find_c17
noncomputable abbrev trellisref15_find_c20 : Code := Code.fst trellisref15_find_c18
noncomputable abbrev trellisref15_find_c21 : Code := Code.snd trellisref15_find_c18
noncomputable abbrev trellisref15_find_c22 : Code := Code.fst trellisref15_find_c21
noncomputable abbrev trellisref15_find_c23 : Code := Code.snd trellisref15_find_c21
noncomputable abbrev trellisref15_find_c24 : Code := Code.fst trellisref15_find_c22
noncomputable abbrev trellisref15_find_c25 : Code := Code.snd trellisref15_find_c22
noncomputable abbrev trellisref15_find_c26 : Code := Code.fst trellisref15_find_c19
noncomputable abbrev trellisref15_find_c27 : Code := Code.snd trellisref15_find_c19
noncomputable abbrev trellisref15_find_c28 : Code := Code.fst trellisref15_find_c27
noncomputable abbrev trellisref15_find_c29 : Code := Code.snd trellisref15_find_c27
noncomputable abbrev trellisref15_find_c30 : Code := Code.fst trellisref15_find_c29
noncomputable abbrev trellisref15_find_c31 : Code := Code.snd trellisref15_find_c29
noncomputable abbrev trellisref15_find_c32 : Code := Code.fst trellisref15_find_c30
noncomputable abbrev trellisref15_find_c33 : Code := Code.snd trellisref15_find_c30
noncomputable abbrev trellisref15_find_c34 : Code := Code.fst trellisref15_find_c4
noncomputable abbrev trellisref15_find_c35 : Code := Code.snd trellisref15_find_c4
abbrev trellisref15_find_R (w : World) (F : Nat → Prop) (r : trellisref15_Tree × Int × Bool) : Ending → World → Prop := fun e w' => ∃ A0 : Option Addr, ∃ n0 : Nat, ∃ c0 : Nat, e = .returned (.tuple #[.agg #[.string r.1.node.name, .bool r.1.node.named, .string r.1.node.field, .int .i64 r.1.node.from_, .int .i64 r.1.node.to, .int .i64 r.1.node.kids, .int .i64 r.1.node.leaf, .slice A0 n0 c0, .int .i64 r.1.at_], .int .i64 r.2.1, .bool r.2.2]) ∧ B.Loc w w' [] [St w []] ∧ Rw k_trellisref15_Tree w' (Nw w w' F []) A0 n0 c0 r.1.kids
noncomputable abbrev trellisref15_find_C (w : World) (F : Nat → Prop) (r : trellisref15_Tree × Int × Bool) : Cx := ⟨Try.prog, 48, Try.f48, 51, trellisref15_find_R w F  r, w⟩
def trellisref15_find_st (rl : (List trellisref15_Tree) → Int → Int → (trellisref15_Tree × Int × Bool) → Prop) : Prop := ∀ (w : World) (F : Nat → Prop) (x1 : List trellisref15_Tree) (x6 : Int) (x7 : Int) (A2 : Option Addr) (n3 : Nat) (c4 : Nat) (h5 : Rw k_trellisref15_Tree w F A2 n3 c4 x1) (hF : ∀ b, F b → b < w.heap.size ∧ ∀ o ∈ ([] : List (List Nat)), b ∉ o) (hL0 : B.Loc w w [] [Sm w.heap.size F w [], St w []]) (r : trellisref15_Tree × Int × Bool) (h : rl x1 x6 x7 r), Calls Try.prog 48 #[.slice A2 n3 c4, .int .i64 x6, .int .i64 x7] w (trellisref15_find_R w F  r)
theorem trellisref15_find_step (rc_trellisref15_find : (List trellisref15_Tree) → Int → Int → (trellisref15_Tree × Int × Bool) → Prop) (ih_trellisref15_find : trellisref15_find_st rc_trellisref15_find) : trellisref15_find_st (trellisref15_find_body rc_trellisref15_find) := by
  intro w F x1 x6 x7 A2 n3 c4 h5 hF hL0 r h
  unfold trellisref15_find_body at h
  have h5 := Rw.into (bs := []) hF h5
  refine calls_of_Loc (vs := [.slice A2 n3 c4, .int .i64 x6, .int .i64 x7]) 51 Try.func48 rfl Try.ntmps48 rfl hL0 ?_
  show G (trellisref15_find_C w F r) _ _ _ _
  refine g_seq (c := trellisref15_find_c0) rfl ?_
  refine g_region (c := trellisref15_find_c1) rfl rfl ?_
  refine wl_s 0 rfl (s_alloc [.string (⟨#[]⟩ : ByteArray), .bool false, .string (⟨#[]⟩ : ByteArray), .int .i64 0, .int .i64 0, .int .i64 0, .int .i64 0, .slice none 0 0, .int .i64 0] zr_96 rfl fun gb8 => ?_) gn
  refine wl_v 1 rfl (v_assign rfl) gn rfl ?_
  refine wl_v 2 rfl (v_assign rfl) gn rfl ?_
  refine w_end 3 rfl ?_
  refine g_seq (c := trellisref15_find_c2) rfl ?_
  refine g_seq (c := trellisref15_find_c3) rfl ?_
  refine g_region (c := trellisref15_find_c5) rfl rfl ?_
  refine wl_v 0 rfl (v_assign rfl) gn rfl ?_
  refine w_end 1 rfl ?_
  refine g_block (c := trellisref15_find_c6) rfl ?_
  refine g_loop (c := trellisref15_find_c7) rfl ?_
  have key1 : ∀ s, Rounds (fun (s : Int) o => trellisref15_find_b1 x1 x6 x7 rc_trellisref15_find s o) s r → (fun (s : Int) => ∀ (_ : Unit), G (trellisref15_find_C w F r) [.code trellisref15_find_c8, .inLoop trellisref15_find_c8, .inBlock 0, .code trellisref15_find_c4] [(0, .slice A2 n3 c4), (1, .int .i64 x6), (2, .int .i64 x7), (6, .pointer (some ⟨gb8, 0, none⟩)), (9, .int .i64 s)] [.box gb8 96 [.string (⟨#[]⟩ : ByteArray), .bool false, .string (⟨#[]⟩ : ByteArray), .int .i64 0, .int .i64 0, .int .i64 0, .int .i64 0, .slice none 0 0, .int .i64 0]] [Sm w.heap.size F w [], St w []]) s := by
    intro s hs
    refine Rounds.ind (mot := (fun (s : Int) => ∀ (_ : Unit), G (trellisref15_find_C w F r) [.code trellisref15_find_c8, .inLoop trellisref15_find_c8, .inBlock 0, .code trellisref15_find_c4] [(0, .slice A2 n3 c4), (1, .int .i64 x6), (2, .int .i64 x7), (6, .pointer (some ⟨gb8, 0, none⟩)), (9, .int .i64 s)] [.box gb8 96 [.string (⟨#[]⟩ : ByteArray), .bool false, .string (⟨#[]⟩ : ByteArray), .int .i64 0, .int .i64 0, .int .i64 0, .int .i64 0, .slice none 0 0, .int .i64 0]] [Sm w.heap.size F w [], St w []])) ?_ hs
    clear hs s
    intro x199 o1 h hO1
    show ∀ (_ : Unit), G (trellisref15_find_C w F r) [.code trellisref15_find_c8, .inLoop trellisref15_find_c8, .inBlock 0, .code trellisref15_find_c4] [(0, .slice A2 n3 c4), (1, .int .i64 x6), (2, .int .i64 x7), (6, .pointer (some ⟨gb8, 0, none⟩)), (9, .int .i64 x199)] [.box gb8 96 [.string (⟨#[]⟩ : ByteArray), .bool false, .string (⟨#[]⟩ : ByteArray), .int .i64 0, .int .i64 0, .int .i64 0, .int .i64 0, .slice none 0 0, .int .i64 0]] [Sm w.heap.size F w [], St w []]
    intro _
    have h : trellisref15_find_b1 x1 x6 x7 rc_trellisref15_find x199 o1 := h
    unfold trellisref15_find_b1 at h
    refine g_seq (c := trellisref15_find_c8) rfl ?_
    refine g_seq (c := trellisref15_find_c9) rfl ?_
    refine g_region (c := trellisref15_find_c11) rfl rfl ?_
    refine wl_v 0 rfl (v_move rfl) gn rfl ?_
    refine wl_v 1 rfl (v_move rfl) gn rfl ?_
    refine wl_v 2 rfl (v_lenQ un_89 rfl h5.hq) gn rfl ?_
    refine wl_v 3 rfl (v_bin rfl rfl rfl) gn rfl ?_
    refine w_end 4 rfl ?_
    by_cases hp388 : x199 < (x1.length : Int)
    · have h := if_pos' hp388 h
      refine g_true (c := trellisref15_find_c12) rfl _ rfl ((decide_eq_true hp388)) ?_
      refine g_skip (c := trellisref15_find_c13) rfl ?_
      refine g_seq (c := trellisref15_find_c10) rfl ?_
      refine g_block (c := trellisref15_find_c15) rfl ?_
      refine g_seq (c := trellisref15_find_c17) rfl ?_
      refine g_seq (c := trellisref15_find_c18) rfl ?_
      refine g_region (c := trellisref15_find_c20) rfl rfl ?_
      refine wl_v 0 rfl (v_move rfl) gn rfl ?_
      refine wl_v 1 rfl (v_move rfl) gn rfl ?_
      obtain ⟨hb389, h⟩ := h
      obtain ⟨ce391, hK392, hr390⟩ := Rw.read (s := Sm w.heap.size F w []) h5 hb389
      obtain ⟨A393, n394, c395, rfl, h396⟩ := k_trellisref15_Tree_out hK392
      refine wl_v 2 rfl (v_idxR (s := Sm w.heap.size F w []) slE_89 rfl rfl h5 hb389) gn rfl ?_
      refine wl_v 3 rfl (v_fldA fo_96_2 rfl) gn rfl ?_
      refine wl_v 4 rfl (v_ldA1 (kk := (x199 : Int).toNat * 9) (j := 8) (Sm w.heap.size F w []) ld_3 rfl hr390 rfl (me 0 rfl)) gn rfl ?_
      refine wl_v 5 rfl (v_move rfl) gn rfl ?_
      refine wl_v 6 rfl (v_bin rfl rfl rfl) gn rfl ?_
      refine w_end 7 rfl ?_
      by_cases hp397 : (ix x1 x199).at_ = x6
      · have h := if_pos' hp397 h
        refine g_true (c := trellisref15_find_c21) rfl _ rfl ((eqi hp397)) ?_
        refine g_seq (c := trellisref15_find_c22) rfl ?_
        refine g_region (c := trellisref15_find_c24) rfl rfl ?_
        refine wl_v 0 rfl (v_move rfl) gn rfl ?_
        refine wl_v 1 rfl (v_move rfl) gn rfl ?_
        obtain ⟨ce399, hK400, hr398⟩ := Rw.read (s := Sm w.heap.size F w []) h5 hb389
        obtain ⟨A401, n402, c403, rfl, h404⟩ := k_trellisref15_Tree_out hK400
        refine wl_v 2 rfl (v_idxR (s := Sm w.heap.size F w []) slE_89 rfl rfl h5 hb389) gn rfl ?_
        refine wl_v 3 rfl (v_ldA (Sm w.heap.size F w []) ld_96 rfl hr398 rfl (me 0 rfl)) gn rfl ?_
        refine wl_v 4 rfl (v_move rfl) gn rfl ?_
        refine wl_s 5 rfl (s_stB (vs := [.string (((ix x1 x199).node).name), .bool (((ix x1 x199).node).named), .string (((ix x1 x199).node).field), .int .i64 (((ix x1 x199).node).from_), .int .i64 (((ix x1 x199).node).to), .int .i64 (((ix x1 x199).node).kids), .int .i64 (((ix x1 x199).node).leaf), .slice A401 n402 c403, .int .i64 ((ix x1 x199).at_)]) (cs' := [.string (((ix x1 x199).node).name), .bool (((ix x1 x199).node).named), .string (((ix x1 x199).node).field), .int .i64 (((ix x1 x199).node).from_), .int .i64 (((ix x1 x199).node).to), .int .i64 (((ix x1 x199).node).kids), .int .i64 (((ix x1 x199).node).leaf), .slice A401 n402 c403, .int .i64 ((ix x1 x199).at_)]) (M' := [.box gb8 96 [.string (((ix x1 x199).node).name), .bool (((ix x1 x199).node).named), .string (((ix x1 x199).node).field), .int .i64 (((ix x1 x199).node).from_), .int .i64 (((ix x1 x199).node).to), .int .i64 (((ix x1 x199).node).kids), .int .i64 (((ix x1 x199).node).leaf), .slice A401 n402 c403, .int .i64 ((ix x1 x199).at_)]]) 0 sz_96 rfl rfl rfl rfl rfl rfl rfl rfl rfl ?_) gn
        refine wl_v 6 rfl (v_assign rfl) gn rfl ?_
        refine wl_v 7 rfl (v_assign rfl) gn rfl ?_
        refine w_end 8 rfl ?_
        have h := Out.inr hO1 h
        refine g_retR (c := trellisref15_find_c25) [.agg #[.string (((ix x1 x199).node).name), .bool (((ix x1 x199).node).named), .string (((ix x1 x199).node).field), .int .i64 (((ix x1 x199).node).from_), .int .i64 (((ix x1 x199).node).to), .int .i64 (((ix x1 x199).node).kids), .int .i64 (((ix x1 x199).node).leaf), .slice A401 n402 c403, .int .i64 ((ix x1 x199).at_)], .int .i64 x7, .bool true] rfl Try.func48 rfl (.cell (cs := [.string (((ix x1 x199).node).name), .bool (((ix x1 x199).node).named), .string (((ix x1 x199).node).field), .int .i64 (((ix x1 x199).node).from_), .int .i64 (((ix x1 x199).node).to), .int .i64 (((ix x1 x199).node).kids), .int .i64 (((ix x1 x199).node).leaf), .slice A401 n402 c403, .int .i64 ((ix x1 x199).at_)]) (us := [.string (((ix x1 x199).node).name), .bool (((ix x1 x199).node).named), .string (((ix x1 x199).node).field), .int .i64 (((ix x1 x199).node).from_), .int .i64 (((ix x1 x199).node).to), .int .i64 (((ix x1 x199).node).kids), .int .i64 (((ix x1 x199).node).leaf), .slice A401 n402 c403, .int .i64 ((ix x1 x199).at_)]) 0 rfl ld_96 rfl rfl rfl (.tmp rfl (.tmp rfl (.nil)))) fun wr hLr => ?_
        have hMr : B.Loc w wr [] [St w []] := hLr.pick (rest := [.box gb8 96 [.string (((ix x1 x199).node).name), .bool (((ix x1 x199).node).named), .string (((ix x1 x199).node).field), .int .i64 (((ix x1 x199).node).from_), .int .i64 (((ix x1 x199).node).to), .int .i64 (((ix x1 x199).node).kids), .int .i64 (((ix x1 x199).node).leaf), .slice A401 n402 c403, .int .i64 ((ix x1 x199).at_)]]) (perm_of_idx [] [0] rfl rfl (by kernel_rfl)) (sels [1] rfl)
        have hMi : ∀ e ∈ ([] : List Ent), e ∈ ([.box gb8 96 [.string (((ix x1 x199).node).name), .bool (((ix x1 x199).node).named), .string (((ix x1 x199).node).field), .int .i64 (((ix x1 x199).node).from_), .int .i64 (((ix x1 x199).node).to), .int .i64 (((ix x1 x199).node).kids), .int .i64 (((ix x1 x199).node).leaf), .slice A401 n402 c403, .int .i64 ((ix x1 x199).at_)]] : List Ent) := sels [] rfl
        show trellisref15_find_R w F  r (.returned (packV [.agg #[.string (((ix x1 x199).node).name), .bool (((ix x1 x199).node).named), .string (((ix x1 x199).node).field), .int .i64 (((ix x1 x199).node).from_), .int .i64 (((ix x1 x199).node).to), .int .i64 (((ix x1 x199).node).kids), .int .i64 (((ix x1 x199).node).leaf), .slice A401 n402 c403, .int .i64 ((ix x1 x199).at_)], .int .i64 x7, .bool true])) wr
        rw [h]
        exact ⟨A401, n402, c403, rfl, hMr, (hLr.outR (s := Sm w.heap.size F w []) hMi (me 0 rfl) Sm.ok h404)⟩
      · have h := if_neg' hp397 h
        refine g_false (c := trellisref15_find_c21) rfl _ rfl ((nei hp397)) ?_
        refine g_skip (c := trellisref15_find_c23) rfl ?_
        refine g_seq (c := trellisref15_find_c19) rfl ?_
        obtain ⟨r422, hv423, h⟩ := h
        have d3 : ∀ (gb502 : Nat) (A503 : Option Addr) (n504 : Nat) (c505 : Nat) (sw506 : World) (sb507 : List (List Nat)) (h508 : At k_trellisref15_Tree (Sm w.heap.size F sw506 sb507) A503 n504 c505 r422.1.kids), G (trellisref15_find_C w F r) [.code trellisref15_find_c27, .inBlock 1, .code trellisref15_find_c16, .inLoop trellisref15_find_c8, .inBlock 0, .code trellisref15_find_c4] [(0, .slice A2 n3 c4), (1, .int .i64 x6), (2, .int .i64 x7), (6, .pointer (some ⟨gb8, 0, none⟩)), (9, .int .i64 x199), (10, .pointer (some ⟨gb502, 0, none⟩)), (11, .int .i64 r422.2.1), (12, .bool r422.2.2)] [.box gb502 96 [.string r422.1.node.name, .bool r422.1.node.named, .string r422.1.node.field, .int .i64 r422.1.node.from_, .int .i64 r422.1.node.to, .int .i64 r422.1.node.kids, .int .i64 r422.1.node.leaf, .slice A503 n504 c505, .int .i64 r422.1.at_], .box gb8 96 [.string (⟨#[]⟩ : ByteArray), .bool false, .string (⟨#[]⟩ : ByteArray), .int .i64 0, .int .i64 0, .int .i64 0, .int .i64 0, .slice none 0 0, .int .i64 0]] [Sm w.heap.size F sw506 sb507, Sm w.heap.size F w [], St w []] := by
          intro gb502 A503 n504 c505 sw506 sb507 h508
          refine g_seq (c := trellisref15_find_c27) rfl ?_
          refine g_region (c := trellisref15_find_c28) rfl rfl ?_
          refine wl_v 0 rfl (v_move rfl) gn rfl ?_
          refine w_end 1 rfl ?_
          by_cases hp509 : r422.2.2 = true
          · have h := if_pos' hp509 h
            refine g_true (c := trellisref15_find_c29) rfl _ rfl (hp509) ?_
            refine g_seq (c := trellisref15_find_c30) rfl ?_
            refine g_region (c := trellisref15_find_c32) rfl rfl ?_
            refine wl_v 0 rfl (v_ldB [.string r422.1.node.name, .bool r422.1.node.named, .string r422.1.node.field, .int .i64 r422.1.node.from_, .int .i64 r422.1.node.to, .int .i64 r422.1.node.kids, .int .i64 r422.1.node.leaf, .slice A503 n504 c505, .int .i64 r422.1.at_] 0 ld_96 rfl rfl rfl rfl) gn rfl ?_
            refine wl_v 1 rfl (v_move rfl) gn rfl ?_
            refine wl_s 2 rfl (s_stB (vs := [.string r422.1.node.name, .bool r422.1.node.named, .string r422.1.node.field, .int .i64 r422.1.node.from_, .int .i64 r422.1.node.to, .int .i64 r422.1.node.kids, .int .i64 r422.1.node.leaf, .slice A503 n504 c505, .int .i64 r422.1.at_]) (cs' := [.string r422.1.node.name, .bool r422.1.node.named, .string r422.1.node.field, .int .i64 r422.1.node.from_, .int .i64 r422.1.node.to, .int .i64 r422.1.node.kids, .int .i64 r422.1.node.leaf, .slice A503 n504 c505, .int .i64 r422.1.at_]) (M' := [.box gb502 96 [.string r422.1.node.name, .bool r422.1.node.named, .string r422.1.node.field, .int .i64 r422.1.node.from_, .int .i64 r422.1.node.to, .int .i64 r422.1.node.kids, .int .i64 r422.1.node.leaf, .slice A503 n504 c505, .int .i64 r422.1.at_], .box gb8 96 [.string r422.1.node.name, .bool r422.1.node.named, .string r422.1.node.field, .int .i64 r422.1.node.from_, .int .i64 r422.1.node.to, .int .i64 r422.1.node.kids, .int .i64 r422.1.node.leaf, .slice A503 n504 c505, .int .i64 r422.1.at_]]) 1 sz_96 rfl rfl rfl rfl rfl rfl rfl rfl rfl ?_) gn
            refine wl_v 3 rfl (v_assign rfl) gn rfl ?_
            refine wl_v 4 rfl (v_assign rfl) gn rfl ?_
            refine w_end 5 rfl ?_
            have h := Out.inr hO1 h
            refine g_retR (c := trellisref15_find_c33) [.agg #[.string r422.1.node.name, .bool r422.1.node.named, .string r422.1.node.field, .int .i64 r422.1.node.from_, .int .i64 r422.1.node.to, .int .i64 r422.1.node.kids, .int .i64 r422.1.node.leaf, .slice A503 n504 c505, .int .i64 r422.1.at_], .int .i64 r422.2.1, .bool true] rfl Try.func48 rfl (.cell (cs := [.string r422.1.node.name, .bool r422.1.node.named, .string r422.1.node.field, .int .i64 r422.1.node.from_, .int .i64 r422.1.node.to, .int .i64 r422.1.node.kids, .int .i64 r422.1.node.leaf, .slice A503 n504 c505, .int .i64 r422.1.at_]) (us := [.string r422.1.node.name, .bool r422.1.node.named, .string r422.1.node.field, .int .i64 r422.1.node.from_, .int .i64 r422.1.node.to, .int .i64 r422.1.node.kids, .int .i64 r422.1.node.leaf, .slice A503 n504 c505, .int .i64 r422.1.at_]) 1 rfl ld_96 rfl rfl rfl (.tmp rfl (.tmp rfl (.nil)))) fun wr hLr => ?_
            have hMr : B.Loc w wr [] [St w []] := hLr.pick (rest := [.box gb502 96 [.string r422.1.node.name, .bool r422.1.node.named, .string r422.1.node.field, .int .i64 r422.1.node.from_, .int .i64 r422.1.node.to, .int .i64 r422.1.node.kids, .int .i64 r422.1.node.leaf, .slice A503 n504 c505, .int .i64 r422.1.at_], .box gb8 96 [.string r422.1.node.name, .bool r422.1.node.named, .string r422.1.node.field, .int .i64 r422.1.node.from_, .int .i64 r422.1.node.to, .int .i64 r422.1.node.kids, .int .i64 r422.1.node.leaf, .slice A503 n504 c505, .int .i64 r422.1.at_]]) (perm_of_idx [] [0, 1] rfl rfl (by kernel_rfl)) (sels [2] rfl)
            have hMi : ∀ e ∈ ([] : List Ent), e ∈ ([.box gb502 96 [.string r422.1.node.name, .bool r422.1.node.named, .string r422.1.node.field, .int .i64 r422.1.node.from_, .int .i64 r422.1.node.to, .int .i64 r422.1.node.kids, .int .i64 r422.1.node.leaf, .slice A503 n504 c505, .int .i64 r422.1.at_], .box gb8 96 [.string r422.1.node.name, .bool r422.1.node.named, .string r422.1.node.field, .int .i64 r422.1.node.from_, .int .i64 r422.1.node.to, .int .i64 r422.1.node.kids, .int .i64 r422.1.node.leaf, .slice A503 n504 c505, .int .i64 r422.1.at_]] : List Ent) := sels [] rfl
            show trellisref15_find_R w F  r (.returned (packV [.agg #[.string r422.1.node.name, .bool r422.1.node.named, .string r422.1.node.field, .int .i64 r422.1.node.from_, .int .i64 r422.1.node.to, .int .i64 r422.1.node.kids, .int .i64 r422.1.node.leaf, .slice A503 n504 c505, .int .i64 r422.1.at_], .int .i64 r422.2.1, .bool true])) wr
            rw [h]
            exact ⟨A503, n504, c505, rfl, hMr, (hLr.outR (s := Sm w.heap.size F sw506 sb507) hMi (me 0 rfl) Sm.ok h508)⟩
          · have h := if_neg' hp509 h
            refine g_false (c := trellisref15_find_c29) rfl _ rfl ((bf hp509)) ?_
            refine g_skip (c := trellisref15_find_c31) rfl ?_
            refine g_inBlock ?_
            refine g_region (c := trellisref15_find_c16) rfl rfl ?_
            refine wl_v 0 rfl (v_move rfl) gn rfl ?_
            refine wl_v 1 rfl (v_bin rfl rfl rfl) gn rfl ?_
            refine wl_v 2 rfl (v_assign rfl) gn rfl ?_
            refine w_end 3 rfl ?_
            refine g_inLoop ?_
            have ih := Out.inl hO1 h
            exact g_go [1, 2] (ih ()) ⟨rfl, rfl, rfl, rfl, rfl, trivial⟩ (.cons _ (.cons_cons _ (.slnil))) rfl
        have hns : Region.noSelect (Code.ops trellisref15_find_c26) = true := by kernel_rfl
        refine g_drawF (c := trellisref15_find_c26) [.box gb8 96 [.string (⟨#[]⟩ : ByteArray), .bool false, .string (⟨#[]⟩ : ByteArray), .int .i64 0, .int .i64 0, .int .i64 0, .int .i64 0, .slice none 0 0, .int .i64 0]] [Sm w.heap.size F w [], St w []] [] 20 rfl rfl mix rfl (.cons_cons _ (.slnil)) (sels [0, 1] rfl) ?_
        refine wf_v 0 rfl (v_move rfl) gn rfl hns (by kernel_rfl) (by kernel_rfl) rfl rfl ?_
        refine wf_v 1 rfl (v_move rfl) gn rfl hns (by kernel_rfl) (by kernel_rfl) rfl rfl ?_
        obtain ⟨ce511, hK512, hr510⟩ := Rw.read (s := Sm w.heap.size F w []) h5 hb389
        obtain ⟨A513, n514, c515, rfl, h516⟩ := k_trellisref15_Tree_out hK512
        refine wf_v 2 rfl (v_idxR (s := Sm w.heap.size F w []) slE_89 rfl rfl h5 hb389) gn rfl hns (by kernel_rfl) (by kernel_rfl) rfl rfl ?_
        refine wf_v 3 rfl (v_fldA fo_96_1 rfl) gn rfl hns (by kernel_rfl) (by kernel_rfl) rfl rfl ?_
        refine wf_v 4 rfl (v_ldA1 (kk := (x199 : Int).toNat * 9) (j := 7) (Sm w.heap.size F w []) ld_89 rfl hr510 rfl (me 0 rfl)) gn rfl hns (by kernel_rfl) (by kernel_rfl) rfl rfl ?_
        refine wf_v 5 rfl (v_move rfl) gn rfl hns (by kernel_rfl) (by kernel_rfl) rfl rfl ?_
        refine wf_v 6 rfl (v_move rfl) gn rfl hns (by kernel_rfl) (by kernel_rfl) rfl rfl ?_
        refine wf_v 7 rfl (v_move rfl) gn rfl hns (by kernel_rfl) (by kernel_rfl) rfl rfl ?_
        obtain ⟨ce518, hK519, hr517⟩ := Rw.read (s := Sm w.heap.size F w []) h5 hb389
        obtain ⟨A520, n521, c522, rfl, h523⟩ := k_trellisref15_Tree_out hK519
        refine wf_v 8 rfl (v_idxR (s := Sm w.heap.size F w []) slE_89 rfl rfl h5 hb389) gn rfl hns (by kernel_rfl) (by kernel_rfl) rfl rfl ?_
        refine wf_v 9 rfl (v_fldA fo_96_2 rfl) gn rfl hns (by kernel_rfl) (by kernel_rfl) rfl rfl ?_
        refine wf_v 10 rfl (v_ldA1 (kk := (x199 : Int).toNat * 9) (j := 8) (Sm w.heap.size F w []) ld_3 rfl hr517 rfl (me 0 rfl)) gn rfl hns (by kernel_rfl) (by kernel_rfl) rfl rfl ?_
        refine wf_all [11, 16] (by kernel_rfl) rfl ⟨?_, ?_, trivial⟩
        · refine on_s 11 rfl gn rfl (s_call [.slice A513 n514 c515, .int .i64 x6, .int .i64 ((ix x1 x199).at_)] rfl Try.func48 rfl rfl rfl fun w537 hL538 => ?_)
          have hp539 : List.Perm ([.box gb8 96 [.string (⟨#[]⟩ : ByteArray), .bool false, .string (⟨#[]⟩ : ByteArray), .int .i64 0, .int .i64 0, .int .i64 0, .int .i64 0, .slice none 0 0, .int .i64 0]] : List Ent) (([] : List Ent) ++ ([.box gb8 96 [.string (⟨#[]⟩ : ByteArray), .bool false, .string (⟨#[]⟩ : ByteArray), .int .i64 0, .int .i64 0, .int .i64 0, .int .i64 0, .slice none 0 0, .int .i64 0]] : List Ent)) := perm_of_idx [] [0] rfl rfl (by kernel_rfl)
          refine Calls.mono (ih_trellisref15_find w537 (Fl ([Sm w.heap.size F w []] : List Snap)) ((ix x1 x199).kids) x6 ((ix x1 x199).at_) A513 n514 c515 (Rw.mono h516 (hL538.toFl (me 0 rfl) (me 0 rfl))) (hL538.hFl (Sl := ([Sm w.heap.size F w []] : List Snap)) hp539 (sels [0] rfl)) (hL538.into hp539 (Fl ([Sm w.heap.size F w []] : List Snap))) r422 hv423) ?_
          rintro _ w544 ⟨A540, n541, c542, rfl, hM545, h543⟩
          obtain ⟨sb548, hL546, hv547⟩ := hL538.callB (Sl := ([Sm w.heap.size F w []] : List Snap)) hp539 hM545 F (sels [0] rfl) ⟨Sm.ok, trivial⟩
          have h543 : At k_trellisref15_Tree (Sm w.heap.size F w544 sb548) A540 n541 c542 r422.1.kids := Rw.mono h543 hv547
          refine ⟨_, _, _, rfl, hL546, ?_⟩
          refine ⟨sels [0] rfl, sels [1, 2] rfl, ?_⟩
          refine wf_v 12 rfl (v_move rfl) gn rfl hns (by kernel_rfl) (by kernel_rfl) rfl rfl ?_
          refine wf_v 13 rfl (v_extract rfl rfl) gn rfl hns (by kernel_rfl) (by kernel_rfl) rfl rfl ?_
          refine wf_v 14 rfl (v_extract rfl rfl) gn rfl hns (by kernel_rfl) (by kernel_rfl) rfl rfl ?_
          refine wf_v 15 rfl (v_extract rfl rfl) gn rfl hns (by kernel_rfl) (by kernel_rfl) rfl rfl ?_
          refine wf_all [16] (by kernel_rfl) rfl ⟨on_s 16 rfl gn rfl (s_alloc [.string (⟨#[]⟩ : ByteArray), .bool false, .string (⟨#[]⟩ : ByteArray), .int .i64 0, .int .i64 0, .int .i64 0, .int .i64 0, .slice none 0 0, .int .i64 0] zr_96 rfl fun gb550 => ?_), trivial⟩
          refine ⟨sels [1] rfl, sels [1, 2] rfl, ?_⟩
          refine wf_all [17] (by kernel_rfl) rfl ⟨on_s 17 rfl gn rfl (s_stB (vs := [.string r422.1.node.name, .bool r422.1.node.named, .string r422.1.node.field, .int .i64 r422.1.node.from_, .int .i64 r422.1.node.to, .int .i64 r422.1.node.kids, .int .i64 r422.1.node.leaf, .slice A540 n541 c542, .int .i64 r422.1.at_]) (cs' := [.string r422.1.node.name, .bool r422.1.node.named, .string r422.1.node.field, .int .i64 r422.1.node.from_, .int .i64 r422.1.node.to, .int .i64 r422.1.node.kids, .int .i64 r422.1.node.leaf, .slice A540 n541 c542, .int .i64 r422.1.at_]) (M' := [.box gb550 96 [.string r422.1.node.name, .bool r422.1.node.named, .string r422.1.node.field, .int .i64 r422.1.node.from_, .int .i64 r422.1.node.to, .int .i64 r422.1.node.kids, .int .i64 r422.1.node.leaf, .slice A540 n541 c542, .int .i64 r422.1.at_], .box gb8 96 [.string (⟨#[]⟩ : ByteArray), .bool false, .string (⟨#[]⟩ : ByteArray), .int .i64 0, .int .i64 0, .int .i64 0, .int .i64 0, .slice none 0 0, .int .i64 0]]) 0 sz_96 rfl rfl rfl rfl rfl rfl rfl rfl rfl ?_), trivial⟩
          refine ⟨sels [1] rfl, sels [1, 2] rfl, ?_⟩
          refine wf_v 18 rfl (v_assign rfl) gn rfl hns (by kernel_rfl) (by kernel_rfl) rfl rfl ?_
          refine wf_v 19 rfl (v_assign rfl) gn rfl hns (by kernel_rfl) (by kernel_rfl) rfl rfl ?_
          refine wf_end (by kernel_rfl) ?_
          exact g_go [0, 1, 2] (d3 gb550 A540 n541 c542 w544 sb548 h543) ⟨rfl, rfl, rfl, rfl, rfl, rfl, rfl, rfl, trivial⟩ (.cons_cons _ (.cons_cons _ (.slnil))) rfl
        · refine on_s 16 rfl gn rfl (s_alloc [.string (⟨#[]⟩ : ByteArray), .bool false, .string (⟨#[]⟩ : ByteArray), .int .i64 0, .int .i64 0, .int .i64 0, .int .i64 0, .slice none 0 0, .int .i64 0] zr_96 rfl fun gb551 => ?_)
          refine ⟨sels [1] rfl, sels [0, 1] rfl, ?_⟩
          refine wf_all [11] (by kernel_rfl) rfl ⟨on_s 11 rfl gn rfl (s_call [.slice A513 n514 c515, .int .i64 x6, .int .i64 ((ix x1 x199).at_)] rfl Try.func48 rfl rfl rfl fun w564 hL565 => ?_), trivial⟩
          have hp566 : List.Perm ([.box gb551 96 [.string (⟨#[]⟩ : ByteArray), .bool false, .string (⟨#[]⟩ : ByteArray), .int .i64 0, .int .i64 0, .int .i64 0, .int .i64 0, .slice none 0 0, .int .i64 0], .box gb8 96 [.string (⟨#[]⟩ : ByteArray), .bool false, .string (⟨#[]⟩ : ByteArray), .int .i64 0, .int .i64 0, .int .i64 0, .int .i64 0, .slice none 0 0, .int .i64 0]] : List Ent) (([] : List Ent) ++ ([.box gb551 96 [.string (⟨#[]⟩ : ByteArray), .bool false, .string (⟨#[]⟩ : ByteArray), .int .i64 0, .int .i64 0, .int .i64 0, .int .i64 0, .slice none 0 0, .int .i64 0], .box gb8 96 [.string (⟨#[]⟩ : ByteArray), .bool false, .string (⟨#[]⟩ : ByteArray), .int .i64 0, .int .i64 0, .int .i64 0, .int .i64 0, .slice none 0 0, .int .i64 0]] : List Ent)) := perm_of_idx [] [0, 1] rfl rfl (by kernel_rfl)
          refine Calls.mono (ih_trellisref15_find w564 (Fl ([Sm w.heap.size F w []] : List Snap)) ((ix x1 x199).kids) x6 ((ix x1 x199).at_) A513 n514 c515 (Rw.mono h516 (hL565.toFl (me 0 rfl) (me 0 rfl))) (hL565.hFl (Sl := ([Sm w.heap.size F w []] : List Snap)) hp566 (sels [0] rfl)) (hL565.into hp566 (Fl ([Sm w.heap.size F w []] : List Snap))) r422 hv423) ?_
          rintro _ w571 ⟨A567, n568, c569, rfl, hM572, h570⟩
          obtain ⟨sb575, hL573, hv574⟩ := hL565.callB (Sl := ([Sm w.heap.size F w []] : List Snap)) hp566 hM572 F (sels [0] rfl) ⟨Sm.ok, trivial⟩
          have h570 : At k_trellisref15_Tree (Sm w.heap.size F w571 sb575) A567 n568 c569 r422.1.kids := Rw.mono h570 hv574
          refine ⟨_, _, _, rfl, hL573, ?_⟩
          refine ⟨sels [1] rfl, sels [1, 2] rfl, ?_⟩
          refine wf_v 12 rfl (v_move rfl) gn rfl hns (by kernel_rfl) (by kernel_rfl) rfl rfl ?_
          refine wf_v 13 rfl (v_extract rfl rfl) gn rfl hns (by kernel_rfl) (by kernel_rfl) rfl rfl ?_
          refine wf_v 14 rfl (v_extract rfl rfl) gn rfl hns (by kernel_rfl) (by kernel_rfl) rfl rfl ?_
          refine wf_v 15 rfl (v_extract rfl rfl) gn rfl hns (by kernel_rfl) (by kernel_rfl) rfl rfl ?_
          refine wf_all [17] (by kernel_rfl) rfl ⟨on_s 17 rfl gn rfl (s_stB (vs := [.string r422.1.node.name, .bool r422.1.node.named, .string r422.1.node.field, .int .i64 r422.1.node.from_, .int .i64 r422.1.node.to, .int .i64 r422.1.node.kids, .int .i64 r422.1.node.leaf, .slice A567 n568 c569, .int .i64 r422.1.at_]) (cs' := [.string r422.1.node.name, .bool r422.1.node.named, .string r422.1.node.field, .int .i64 r422.1.node.from_, .int .i64 r422.1.node.to, .int .i64 r422.1.node.kids, .int .i64 r422.1.node.leaf, .slice A567 n568 c569, .int .i64 r422.1.at_]) (M' := [.box gb551 96 [.string r422.1.node.name, .bool r422.1.node.named, .string r422.1.node.field, .int .i64 r422.1.node.from_, .int .i64 r422.1.node.to, .int .i64 r422.1.node.kids, .int .i64 r422.1.node.leaf, .slice A567 n568 c569, .int .i64 r422.1.at_], .box gb8 96 [.string (⟨#[]⟩ : ByteArray), .bool false, .string (⟨#[]⟩ : ByteArray), .int .i64 0, .int .i64 0, .int .i64 0, .int .i64 0, .slice none 0 0, .int .i64 0]]) 0 sz_96 rfl rfl rfl rfl rfl rfl rfl rfl rfl ?_), trivial⟩
          refine ⟨sels [1] rfl, sels [1, 2] rfl, ?_⟩
          refine wf_v 18 rfl (v_assign rfl) gn rfl hns (by kernel_rfl) (by kernel_rfl) rfl rfl ?_
          refine wf_v 19 rfl (v_assign rfl) gn rfl hns (by kernel_rfl) (by kernel_rfl) rfl rfl ?_
          refine wf_end (by kernel_rfl) ?_
          exact g_go [0, 1, 2] (d3 gb551 A567 n568 c569 w571 sb575 h570) ⟨rfl, rfl, rfl, rfl, rfl, rfl, rfl, rfl, trivial⟩ (.cons_cons _ (.cons_cons _ (.slnil))) rfl
    · have h := if_neg' hp388 h
      refine g_false (c := trellisref15_find_c12) rfl _ rfl ((decide_eq_false hp388)) ?_
      refine g_exit (c := trellisref15_find_c14) [.code trellisref15_find_c4] rfl rfl ?_
      refine g_seq (c := trellisref15_find_c4) rfl ?_
      refine g_region (c := trellisref15_find_c34) rfl rfl ?_
      refine wl_v 0 rfl (v_build #[.string (⟨#[]⟩ : ByteArray), .bool false, .string (⟨#[]⟩ : ByteArray), .int .i64 0, .int .i64 0, .int .i64 0, .int .i64 0, .slice none 0 0, .int .i64 0] bd_96 rfl (by kernel_rfl)) gn rfl ?_
      refine wl_s 1 rfl (s_stB (vs := [.string (⟨#[]⟩ : ByteArray), .bool false, .string (⟨#[]⟩ : ByteArray), .int .i64 0, .int .i64 0, .int .i64 0, .int .i64 0, .slice none 0 0, .int .i64 0]) (cs' := [.string (⟨#[]⟩ : ByteArray), .bool false, .string (⟨#[]⟩ : ByteArray), .int .i64 0, .int .i64 0, .int .i64 0, .int .i64 0, .slice none 0 0, .int .i64 0]) (M' := [.box gb8 96 [.string (⟨#[]⟩ : ByteArray), .bool false, .string (⟨#[]⟩ : ByteArray), .int .i64 0, .int .i64 0, .int .i64 0, .int .i64 0, .slice none 0 0, .int .i64 0]]) 0 sz_96 rfl rfl rfl rfl rfl rfl rfl rfl rfl ?_) gn
      refine wl_v 2 rfl (v_assign rfl) gn rfl ?_
      refine wl_v 3 rfl (v_assign rfl) gn rfl ?_
      refine w_end 4 rfl ?_
      have h := Out.inr hO1 h
      refine g_retR (c := trellisref15_find_c35) [.agg #[.string (⟨#[]⟩ : ByteArray), .bool false, .string (⟨#[]⟩ : ByteArray), .int .i64 0, .int .i64 0, .int .i64 0, .int .i64 0, .slice none 0 0, .int .i64 0], .int .i64 (-1), .bool false] rfl Try.func48 rfl (.cell (cs := [.string (⟨#[]⟩ : ByteArray), .bool false, .string (⟨#[]⟩ : ByteArray), .int .i64 0, .int .i64 0, .int .i64 0, .int .i64 0, .slice none 0 0, .int .i64 0]) (us := [.string (⟨#[]⟩ : ByteArray), .bool false, .string (⟨#[]⟩ : ByteArray), .int .i64 0, .int .i64 0, .int .i64 0, .int .i64 0, .slice none 0 0, .int .i64 0]) 0 rfl ld_96 rfl rfl rfl (.tmp rfl (.tmp rfl (.nil)))) fun wr hLr => ?_
      have hMr : B.Loc w wr [] [St w []] := hLr.pick (rest := [.box gb8 96 [.string (⟨#[]⟩ : ByteArray), .bool false, .string (⟨#[]⟩ : ByteArray), .int .i64 0, .int .i64 0, .int .i64 0, .int .i64 0, .slice none 0 0, .int .i64 0]]) (perm_of_idx [] [0] rfl rfl (by kernel_rfl)) (sels [1] rfl)
      have hMi : ∀ e ∈ ([] : List Ent), e ∈ ([.box gb8 96 [.string (⟨#[]⟩ : ByteArray), .bool false, .string (⟨#[]⟩ : ByteArray), .int .i64 0, .int .i64 0, .int .i64 0, .int .i64 0, .slice none 0 0, .int .i64 0]] : List Ent) := sels [] rfl
      show trellisref15_find_R w F  r (.returned (packV [.agg #[.string (⟨#[]⟩ : ByteArray), .bool false, .string (⟨#[]⟩ : ByteArray), .int .i64 0, .int .i64 0, .int .i64 0, .int .i64 0, .slice none 0 0, .int .i64 0], .int .i64 (-1), .bool false])) wr
      rw [h]
      exact ⟨none, 0, 0, rfl, hMr, Rw.nil⟩
  exact g_go [0, 1] (key1 _ h ()) ⟨rfl, rfl, rfl, rfl, rfl, trivial⟩ (.cons_cons _ (.slnil)) rfl
theorem trellisref15_find_ind : ∀ n, trellisref15_find_st (trellisref15_find_n n)
  | 0 => fun w F x1 x6 x7 A2 n3 c4 h5 hF hL0 r h => h.elim
  | n + 1 => by
    have ih := trellisref15_find_ind n
    exact trellisref15_find_step _ ih
theorem trellisref15_find_calls (w : World) (F : Nat → Prop) (x1 : List trellisref15_Tree) (x6 : Int) (x7 : Int) (A2 : Option Addr) (n3 : Nat) (c4 : Nat) (h5 : Rw k_trellisref15_Tree w F A2 n3 c4 x1) (hF : ∀ b, F b → b < w.heap.size ∧ ∀ o ∈ ([] : List (List Nat)), b ∉ o) (hL0 : B.Loc w w [] [Sm w.heap.size F w [], St w []]) (r : trellisref15_Tree × Int × Bool) (h : trellisref15_find x1 x6 x7 r) : Calls Try.prog 48 #[.slice A2 n3 c4, .int .i64 x6, .int .i64 x7] w (trellisref15_find_R w F  r) := by
  obtain ⟨n, h⟩ := h
  exact (trellisref15_find_ind n) w F x1 x6 x7 A2 n3 c4 h5 hF hL0 r h
noncomputable abbrev trellisref15_Model_Down_c0 : Code := bodyOf Try.f19
noncomputable abbrev trellisref15_Model_Down_c1 : Code := Code.fst trellisref15_Model_Down_c0
noncomputable abbrev trellisref15_Model_Down_c2 : Code := Code.snd trellisref15_Model_Down_c0
noncomputable abbrev trellisref15_Model_Down_c3 : Code := Code.fst trellisref15_Model_Down_c2
noncomputable abbrev trellisref15_Model_Down_c4 : Code := Code.snd trellisref15_Model_Down_c2
noncomputable abbrev trellisref15_Model_Down_c5 : Code := Code.fst trellisref15_Model_Down_c4
noncomputable abbrev trellisref15_Model_Down_c6 : Code := Code.snd trellisref15_Model_Down_c4
noncomputable abbrev trellisref15_Model_Down_c7 : Code := Code.fst trellisref15_Model_Down_c5
noncomputable abbrev trellisref15_Model_Down_c8 : Code := Code.snd trellisref15_Model_Down_c5
noncomputable abbrev trellisref15_Model_Down_c9 : Code := Code.fst trellisref15_Model_Down_c8
noncomputable abbrev trellisref15_Model_Down_c10 : Code := Code.snd trellisref15_Model_Down_c8
noncomputable abbrev trellisref15_Model_Down_c11 : Code := Code.fst trellisref15_Model_Down_c9
noncomputable abbrev trellisref15_Model_Down_c12 : Code := Code.snd trellisref15_Model_Down_c9
noncomputable abbrev trellisref15_Model_Down_c13 : Code := Code.fst trellisref15_Model_Down_c6
noncomputable abbrev trellisref15_Model_Down_c14 : Code := Code.snd trellisref15_Model_Down_c6
noncomputable abbrev trellisref15_Model_Down_c15 : Code := Code.fst trellisref15_Model_Down_c14
noncomputable abbrev trellisref15_Model_Down_c16 : Code := Code.snd trellisref15_Model_Down_c14
abbrev trellisref15_Model_Down_R (w : World) (F : Nat → Prop) (g2 : Nat) (Tb3 : Nat) (r : Bool × trellisref15_Model) : Ending → World → Prop := fun e w' => ∃ A0 : Option Addr, ∃ n0 : Nat, ∃ c0 : Nat, e = .returned (.bool r.1) ∧ B.Loc w w' [.box g2 Tb3 [.slice A0 n0 c0, .int .i64 r.2.at_]] [St w [[g2]]] ∧ Rw k_trellisref15_Tree w' (Nw w w' F [.box g2 Tb3 [.slice A0 n0 c0, .int .i64 r.2.at_]]) A0 n0 c0 r.2.f
noncomputable abbrev trellisref15_Model_Down_C (w : World) (F : Nat → Prop) (g2 : Nat) (Tb3 : Nat) (r : Bool × trellisref15_Model) : Cx := ⟨Try.prog, 19, Try.f19, 35, trellisref15_Model_Down_R w F g2 Tb3 r, w⟩
theorem trellisref15_Model_Down_calls (w : World) (F : Nat → Prop) (x1 : trellisref15_Model) (g2 : Nat) (Tb3 : Nat) (A4 : Option Addr) (n5 : Nat) (c6 : Nat) (h7 : Rw k_trellisref15_Tree w F A4 n5 c6 x1.f) (hF : ∀ b, F b → b < w.heap.size ∧ ∀ o ∈ ([[g2]] : List (List Nat)), b ∉ o) (hL0 : B.Loc w w [.box g2 Tb3 [.slice A4 n5 c6, .int .i64 x1.at_]] [Sm w.heap.size F w [[g2]], St w [[g2]]]) (r : Bool × trellisref15_Model) (h : trellisref15_Model_Down x1 r) : Calls Try.prog 19 #[.pointer (some ⟨g2, 0, none⟩)] w (trellisref15_Model_Down_R w F g2 Tb3 r) := by
  unfold trellisref15_Model_Down at h
  have h7 := Rw.into (bs := [[g2]]) hF h7
  refine calls_of_Loc (vs := [.pointer (some ⟨g2, 0, none⟩)]) 35 Try.func19 rfl Try.ntmps19 rfl hL0 ?_
  show G (trellisref15_Model_Down_C w F g2 Tb3 r) _ _ _ _
  refine g_seq (c := trellisref15_Model_Down_c0) rfl ?_
  refine g_region (c := trellisref15_Model_Down_c1) rfl rfl ?_
  refine wl_v 0 rfl (v_assign rfl) gn rfl ?_
  refine w_end 1 rfl ?_
  refine g_seq (c := trellisref15_Model_Down_c2) rfl ?_
  obtain ⟨r11, hv12, h⟩ := h
  have d1 : ∀ (gb78 : Nat) (A79 : Option Addr) (n80 : Nat) (c81 : Nat) (sw82 : World) (sb83 : List (List Nat)) (h84 : At k_trellisref15_Tree (Sm w.heap.size F sw82 sb83) A79 n80 c81 r11.1.kids), G (trellisref15_Model_Down_C w F g2 Tb3 r) [.code trellisref15_Model_Down_c4] [(0, .pointer (some ⟨g2, 0, none⟩)), (3, .pointer (some ⟨gb78, 0, none⟩)), (5, .bool r11.2.2)] [.box gb78 96 [.string r11.1.node.name, .bool r11.1.node.named, .string r11.1.node.field, .int .i64 r11.1.node.from_, .int .i64 r11.1.node.to, .int .i64 r11.1.node.kids, .int .i64 r11.1.node.leaf, .slice A79 n80 c81, .int .i64 r11.1.at_], .box g2 Tb3 [.slice A4 n5 c6, .int .i64 x1.at_]] [Sm w.heap.size F sw82 sb83, Sm w.heap.size F w [[g2]], St w [[g2]]] := by
    intro gb78 A79 n80 c81 sw82 sb83 h84
    refine g_seq (c := trellisref15_Model_Down_c4) rfl ?_
    refine g_seq (c := trellisref15_Model_Down_c5) rfl ?_
    have j1 : ∀ (x87 : Bool) (h : trellisref15_Model_Down_j1 x1 r11 x87 r) , G (trellisref15_Model_Down_C w F g2 Tb3 r) [.code trellisref15_Model_Down_c8, .code trellisref15_Model_Down_c6] [(0, .pointer (some ⟨g2, 0, none⟩)), (3, .pointer (some ⟨gb78, 0, none⟩)), (26, .bool x87)] [.box gb78 96 [.string r11.1.node.name, .bool r11.1.node.named, .string r11.1.node.field, .int .i64 r11.1.node.from_, .int .i64 r11.1.node.to, .int .i64 r11.1.node.kids, .int .i64 r11.1.node.leaf, .slice A79 n80 c81, .int .i64 r11.1.at_], .box g2 Tb3 [.slice A4 n5 c6, .int .i64 x1.at_]] [Sm w.heap.size F sw82 sb83, Sm w.heap.size F w [[g2]], St w [[g2]]] := by
      intro x87 h
      unfold trellisref15_Model_Down_j1 at h
      by_cases hp88 : x87 = true
      · have h := if_pos' hp88 h
        refine g_true (c := trellisref15_Model_Down_c8) rfl _ rfl (hp88) ?_
        refine g_seq (c := trellisref15_Model_Down_c9) rfl ?_
        refine g_region (c := trellisref15_Model_Down_c11) rfl rfl ?_
        refine wl_v 0 rfl (v_assign rfl) gn rfl ?_
        refine w_end 1 rfl ?_
        refine g_retR (c := trellisref15_Model_Down_c12) [.bool false] rfl Try.func19 rfl (.tmp rfl (.nil)) fun wr hLr => ?_
        have hMr : B.Loc w wr [.box g2 Tb3 [.slice A4 n5 c6, .int .i64 x1.at_]] [St w [[g2]]] := hLr.pick (rest := [.box gb78 96 [.string r11.1.node.name, .bool r11.1.node.named, .string r11.1.node.field, .int .i64 r11.1.node.from_, .int .i64 r11.1.node.to, .int .i64 r11.1.node.kids, .int .i64 r11.1.node.leaf, .slice A79 n80 c81, .int .i64 r11.1.at_]]) (perm_of_idx [1] [0] rfl rfl (by kernel_rfl)) (sels [2] rfl)
        have hMi : ∀ e ∈ ([.box g2 Tb3 [.slice A4 n5 c6, .int .i64 x1.at_]] : List Ent), e ∈ ([.box gb78 96 [.string r11.1.node.name, .bool r11.1.node.named, .string r11.1.node.field, .int .i64 r11.1.node.from_, .int .i64 r11.1.node.to, .int .i64 r11.1.node.kids, .int .i64 r11.1.node.leaf, .slice A79 n80 c81, .int .i64 r11.1.at_], .box g2 Tb3 [.slice A4 n5 c6, .int .i64 x1.at_]] : List Ent) := sels [1] rfl
        show trellisref15_Model_Down_R w F g2 Tb3 r (.returned (packV [.bool false])) wr
        rw [h]
        exact ⟨A4, n5, c6, rfl, hMr, (hLr.outR (s := Sm w.heap.size F w [[g2]]) hMi (me 1 rfl) Sm.ok h7)⟩
      · have h := if_neg' hp88 h
        refine g_false (c := trellisref15_Model_Down_c8) rfl _ rfl ((bf hp88)) ?_
        refine g_skip (c := trellisref15_Model_Down_c10) rfl ?_
        refine g_seq (c := trellisref15_Model_Down_c6) rfl ?_
        refine g_region (c := trellisref15_Model_Down_c13) rfl rfl ?_
        refine wl_v 0 rfl (v_move rfl) gn rfl ?_
        refine wl_v 1 rfl (v_fldB fo_96_1 rfl) gn rfl ?_
        refine wl_v 2 rfl (v_ldB1 0 ld_89 rfl rfl rfl) gn rfl ?_
        obtain ⟨hb89, h⟩ := h
        obtain ⟨ce91, hK92, hr90⟩ := Rw.read (s := Sm w.heap.size F sw82 sb83) h84 hb89
        obtain ⟨A93, n94, c95, rfl, h96⟩ := k_trellisref15_Tree_out hK92
        refine wl_v 3 rfl (v_idxR (s := Sm w.heap.size F sw82 sb83) slE_89 rfl rfl h84 hb89) gn rfl ?_
        refine wl_v 4 rfl (v_fldA fo_96_2 rfl) gn rfl ?_
        refine wl_v 5 rfl (v_ldA1 (kk := (0 : Int).toNat * 9) (j := 8) (Sm w.heap.size F sw82 sb83) ld_3 rfl hr90 rfl (me 0 rfl)) gn rfl ?_
        refine wl_v 6 rfl (v_nilCheck rfl) gn rfl ?_
        refine wl_v 7 rfl (v_fldB fo_93_1 rfl) gn rfl ?_
        refine wl_s 8 rfl (s_stB (vs := [.int .i64 ((ix r11.1.kids 0).at_)]) (cs' := [.slice A4 n5 c6, .int .i64 ((ix r11.1.kids 0).at_)]) (M' := [.box gb78 96 [.string r11.1.node.name, .bool r11.1.node.named, .string r11.1.node.field, .int .i64 r11.1.node.from_, .int .i64 r11.1.node.to, .int .i64 r11.1.node.kids, .int .i64 r11.1.node.leaf, .slice A79 n80 c81, .int .i64 r11.1.at_], .box g2 Tb3 [.slice A4 n5 c6, .int .i64 ((ix r11.1.kids 0).at_)]]) 1 sz_3 rfl rfl rfl rfl rfl rfl rfl rfl rfl ?_) gn
        refine w_end 9 rfl ?_
        refine g_seq (c := trellisref15_Model_Down_c14) rfl ?_
        refine g_region (c := trellisref15_Model_Down_c15) rfl rfl ?_
        refine wl_v 0 rfl (v_assign rfl) gn rfl ?_
        refine w_end 1 rfl ?_
        refine g_retR (c := trellisref15_Model_Down_c16) [.bool true] rfl Try.func19 rfl (.tmp rfl (.nil)) fun wr hLr => ?_
        have hMr : B.Loc w wr [.box g2 Tb3 [.slice A4 n5 c6, .int .i64 ((ix r11.1.kids 0).at_)]] [St w [[g2]]] := hLr.pick (rest := [.box gb78 96 [.string r11.1.node.name, .bool r11.1.node.named, .string r11.1.node.field, .int .i64 r11.1.node.from_, .int .i64 r11.1.node.to, .int .i64 r11.1.node.kids, .int .i64 r11.1.node.leaf, .slice A79 n80 c81, .int .i64 r11.1.at_]]) (perm_of_idx [1] [0] rfl rfl (by kernel_rfl)) (sels [2] rfl)
        have hMi : ∀ e ∈ ([.box g2 Tb3 [.slice A4 n5 c6, .int .i64 ((ix r11.1.kids 0).at_)]] : List Ent), e ∈ ([.box gb78 96 [.string r11.1.node.name, .bool r11.1.node.named, .string r11.1.node.field, .int .i64 r11.1.node.from_, .int .i64 r11.1.node.to, .int .i64 r11.1.node.kids, .int .i64 r11.1.node.leaf, .slice A79 n80 c81, .int .i64 r11.1.at_], .box g2 Tb3 [.slice A4 n5 c6, .int .i64 ((ix r11.1.kids 0).at_)]] : List Ent) := sels [1] rfl
        show trellisref15_Model_Down_R w F g2 Tb3 r (.returned (packV [.bool true])) wr
        rw [h]
        exact ⟨A4, n5, c6, rfl, hMr, (hLr.outR (s := Sm w.heap.size F w [[g2]]) hMi (me 1 rfl) Sm.ok h7)⟩
    refine g_region (c := trellisref15_Model_Down_c7) rfl rfl ?_
    refine wl_v 0 rfl (v_move rfl) gn rfl ?_
    refine wl_v 1 rfl (v_not rfl) gn rfl ?_
    refine wl_v 2 rfl (v_move rfl) gn rfl ?_
    by_cases hp97 : r11.2.2 = true
    · have h := if_pos' hp97 h
      refine w_bool 21 rfl ((nf hp97)) ?_
      refine wl_v 3 rfl (v_fldB fo_96_1 rfl) (gy 21 rfl rfl) rfl ?_
      refine wl_v 4 rfl (v_ldB1 0 ld_89 rfl rfl rfl) (gy 21 rfl rfl) rfl ?_
      refine wl_v 5 rfl (v_lenQ un_89 rfl h84.hq) (gy 21 rfl rfl) rfl ?_
      refine wl_v 6 rfl (v_bin rfl rfl rfl) (gy 21 rfl rfl) rfl ?_
      refine wl_v 7 rfl (v_pick (b := false) rfl rfl) gn rfl ?_
      refine w_end 8 rfl ?_
      exact g_go [0, 1, 2] (j1 ((r11.1.kids.length : Int) == 0) h) ⟨rfl, rfl, rfl, trivial⟩ (.cons_cons _ (.cons_cons _ (.slnil))) rfl
    · have h := if_neg' hp97 h
      refine w_bool 21 rfl ((nt (bf hp97))) ?_
      refine wl_pass 3 rfl (ps 21 rfl rfl rfl) ?_
      refine wl_pass 4 rfl (ps 21 rfl rfl rfl) ?_
      refine wl_pass 5 rfl (ps 21 rfl rfl rfl) ?_
      refine wl_pass 6 rfl (ps 21 rfl rfl rfl) ?_
      refine wl_v 7 rfl (v_pick (b := true) rfl rfl) gn rfl ?_
      refine w_end 8 rfl ?_
      exact g_go [0, 1, 2] (j1 true h) ⟨rfl, rfl, rfl, trivial⟩ (.cons_cons _ (.cons_cons _ (.slnil))) rfl
  have hns : Region.noSelect (Code.ops trellisref15_Model_Down_c3) = true := by kernel_rfl
  refine g_drawF (c := trellisref15_Model_Down_c3) [.box g2 Tb3 [.slice A4 n5 c6, .int .i64 x1.at_]] [Sm w.heap.size F w [[g2]], St w [[g2]]] [] 17 rfl rfl mix rfl (.cons_cons _ (.slnil)) (sels [0, 1] rfl) ?_
  refine wf_v 0 rfl (v_move rfl) gn rfl hns (by kernel_rfl) (by kernel_rfl) rfl rfl ?_
  refine wf_v 1 rfl (v_nilCheck rfl) gn rfl hns (by kernel_rfl) (by kernel_rfl) rfl rfl ?_
  refine wf_v 2 rfl (v_fldB fo_93_0 rfl) gn rfl hns (by kernel_rfl) (by kernel_rfl) rfl rfl ?_
  refine wf_v 3 rfl (v_ldB1 0 ld_89 rfl rfl rfl) gn rfl hns (by kernel_rfl) (by kernel_rfl) rfl rfl ?_
  refine wf_v 4 rfl (v_move rfl) gn rfl hns (by kernel_rfl) (by kernel_rfl) rfl rfl ?_
  refine wf_v 5 rfl (v_nilCheck rfl) gn rfl hns (by kernel_rfl) (by kernel_rfl) rfl rfl ?_
  refine wf_v 6 rfl (v_fldB fo_93_1 rfl) gn rfl hns (by kernel_rfl) (by kernel_rfl) rfl rfl ?_
  refine wf_v 7 rfl (v_ldB1 0 ld_3 rfl rfl rfl) gn rfl hns (by kernel_rfl) (by kernel_rfl) rfl rfl ?_
  refine wf_all [8, 13] (by kernel_rfl) rfl ⟨?_, ?_, trivial⟩
  · refine on_s 8 rfl gn rfl (s_call [.slice A4 n5 c6, .int .i64 x1.at_, .int .i64 (-1)] rfl Try.func48 rfl rfl rfl fun w111 hL112 => ?_)
    have hp113 : List.Perm ([.box g2 Tb3 [.slice A4 n5 c6, .int .i64 x1.at_]] : List Ent) (([] : List Ent) ++ ([.box g2 Tb3 [.slice A4 n5 c6, .int .i64 x1.at_]] : List Ent)) := perm_of_idx [] [0] rfl rfl (by kernel_rfl)
    refine Calls.mono (trellisref15_find_calls w111 (Fl ([Sm w.heap.size F w [[g2]]] : List Snap)) x1.f x1.at_ (-1) A4 n5 c6 (Rw.mono h7 (hL112.toFl (me 0 rfl) (me 0 rfl))) (hL112.hFl (Sl := ([Sm w.heap.size F w [[g2]]] : List Snap)) hp113 (sels [0] rfl)) (hL112.into hp113 (Fl ([Sm w.heap.size F w [[g2]]] : List Snap))) r11 hv12) ?_
    rintro _ w118 ⟨A114, n115, c116, rfl, hM119, h117⟩
    obtain ⟨sb122, hL120, hv121⟩ := hL112.callB (Sl := ([Sm w.heap.size F w [[g2]]] : List Snap)) hp113 hM119 F (sels [0] rfl) ⟨Sm.ok, trivial⟩
    have h117 : At k_trellisref15_Tree (Sm w.heap.size F w118 sb122) A114 n115 c116 r11.1.kids := Rw.mono h117 hv121
    refine ⟨_, _, _, rfl, hL120, ?_⟩
    refine ⟨sels [0] rfl, sels [1, 2] rfl, ?_⟩
    refine wf_v 9 rfl (v_move rfl) gn rfl hns (by kernel_rfl) (by kernel_rfl) rfl rfl ?_
    refine wf_v 10 rfl (v_extract rfl rfl) gn rfl hns (by kernel_rfl) (by kernel_rfl) rfl rfl ?_
    refine wf_v 11 rfl (v_extract rfl rfl) gn rfl hns (by kernel_rfl) (by kernel_rfl) rfl rfl ?_
    refine wf_v 12 rfl (v_extract rfl rfl) gn rfl hns (by kernel_rfl) (by kernel_rfl) rfl rfl ?_
    refine wf_all [13] (by kernel_rfl) rfl ⟨on_s 13 rfl gn rfl (s_alloc [.string (⟨#[]⟩ : ByteArray), .bool false, .string (⟨#[]⟩ : ByteArray), .int .i64 0, .int .i64 0, .int .i64 0, .int .i64 0, .slice none 0 0, .int .i64 0] zr_96 rfl fun gb124 => ?_), trivial⟩
    refine ⟨sels [1] rfl, sels [1, 2] rfl, ?_⟩
    refine wf_all [14] (by kernel_rfl) rfl ⟨on_s 14 rfl gn rfl (s_stB (vs := [.string r11.1.node.name, .bool r11.1.node.named, .string r11.1.node.field, .int .i64 r11.1.node.from_, .int .i64 r11.1.node.to, .int .i64 r11.1.node.kids, .int .i64 r11.1.node.leaf, .slice A114 n115 c116, .int .i64 r11.1.at_]) (cs' := [.string r11.1.node.name, .bool r11.1.node.named, .string r11.1.node.field, .int .i64 r11.1.node.from_, .int .i64 r11.1.node.to, .int .i64 r11.1.node.kids, .int .i64 r11.1.node.leaf, .slice A114 n115 c116, .int .i64 r11.1.at_]) (M' := [.box gb124 96 [.string r11.1.node.name, .bool r11.1.node.named, .string r11.1.node.field, .int .i64 r11.1.node.from_, .int .i64 r11.1.node.to, .int .i64 r11.1.node.kids, .int .i64 r11.1.node.leaf, .slice A114 n115 c116, .int .i64 r11.1.at_], .box g2 Tb3 [.slice A4 n5 c6, .int .i64 x1.at_]]) 0 sz_96 rfl rfl rfl rfl rfl rfl rfl rfl rfl ?_), trivial⟩
    refine ⟨sels [1] rfl, sels [1, 2] rfl, ?_⟩
    refine wf_v 15 rfl (v_assign rfl) gn rfl hns (by kernel_rfl) (by kernel_rfl) rfl rfl ?_
    refine wf_v 16 rfl (v_assign rfl) gn rfl hns (by kernel_rfl) (by kernel_rfl) rfl rfl ?_
    refine wf_end (by kernel_rfl) ?_
    exact g_go [0, 1, 2] (d1 gb124 A114 n115 c116 w118 sb122 h117) ⟨rfl, rfl, rfl, trivial⟩ (.cons_cons _ (.cons_cons _ (.slnil))) rfl
  · refine on_s 13 rfl gn rfl (s_alloc [.string (⟨#[]⟩ : ByteArray), .bool false, .string (⟨#[]⟩ : ByteArray), .int .i64 0, .int .i64 0, .int .i64 0, .int .i64 0, .slice none 0 0, .int .i64 0] zr_96 rfl fun gb125 => ?_)
    refine ⟨sels [1] rfl, sels [0, 1] rfl, ?_⟩
    refine wf_all [8] (by kernel_rfl) rfl ⟨on_s 8 rfl gn rfl (s_call [.slice A4 n5 c6, .int .i64 x1.at_, .int .i64 (-1)] rfl Try.func48 rfl rfl rfl fun w138 hL139 => ?_), trivial⟩
    have hp140 : List.Perm ([.box gb125 96 [.string (⟨#[]⟩ : ByteArray), .bool false, .string (⟨#[]⟩ : ByteArray), .int .i64 0, .int .i64 0, .int .i64 0, .int .i64 0, .slice none 0 0, .int .i64 0], .box g2 Tb3 [.slice A4 n5 c6, .int .i64 x1.at_]] : List Ent) (([] : List Ent) ++ ([.box gb125 96 [.string (⟨#[]⟩ : ByteArray), .bool false, .string (⟨#[]⟩ : ByteArray), .int .i64 0, .int .i64 0, .int .i64 0, .int .i64 0, .slice none 0 0, .int .i64 0], .box g2 Tb3 [.slice A4 n5 c6, .int .i64 x1.at_]] : List Ent)) := perm_of_idx [] [0, 1] rfl rfl (by kernel_rfl)
    refine Calls.mono (trellisref15_find_calls w138 (Fl ([Sm w.heap.size F w [[g2]]] : List Snap)) x1.f x1.at_ (-1) A4 n5 c6 (Rw.mono h7 (hL139.toFl (me 0 rfl) (me 0 rfl))) (hL139.hFl (Sl := ([Sm w.heap.size F w [[g2]]] : List Snap)) hp140 (sels [0] rfl)) (hL139.into hp140 (Fl ([Sm w.heap.size F w [[g2]]] : List Snap))) r11 hv12) ?_
    rintro _ w145 ⟨A141, n142, c143, rfl, hM146, h144⟩
    obtain ⟨sb149, hL147, hv148⟩ := hL139.callB (Sl := ([Sm w.heap.size F w [[g2]]] : List Snap)) hp140 hM146 F (sels [0] rfl) ⟨Sm.ok, trivial⟩
    have h144 : At k_trellisref15_Tree (Sm w.heap.size F w145 sb149) A141 n142 c143 r11.1.kids := Rw.mono h144 hv148
    refine ⟨_, _, _, rfl, hL147, ?_⟩
    refine ⟨sels [1] rfl, sels [1, 2] rfl, ?_⟩
    refine wf_v 9 rfl (v_move rfl) gn rfl hns (by kernel_rfl) (by kernel_rfl) rfl rfl ?_
    refine wf_v 10 rfl (v_extract rfl rfl) gn rfl hns (by kernel_rfl) (by kernel_rfl) rfl rfl ?_
    refine wf_v 11 rfl (v_extract rfl rfl) gn rfl hns (by kernel_rfl) (by kernel_rfl) rfl rfl ?_
    refine wf_v 12 rfl (v_extract rfl rfl) gn rfl hns (by kernel_rfl) (by kernel_rfl) rfl rfl ?_
    refine wf_all [14] (by kernel_rfl) rfl ⟨on_s 14 rfl gn rfl (s_stB (vs := [.string r11.1.node.name, .bool r11.1.node.named, .string r11.1.node.field, .int .i64 r11.1.node.from_, .int .i64 r11.1.node.to, .int .i64 r11.1.node.kids, .int .i64 r11.1.node.leaf, .slice A141 n142 c143, .int .i64 r11.1.at_]) (cs' := [.string r11.1.node.name, .bool r11.1.node.named, .string r11.1.node.field, .int .i64 r11.1.node.from_, .int .i64 r11.1.node.to, .int .i64 r11.1.node.kids, .int .i64 r11.1.node.leaf, .slice A141 n142 c143, .int .i64 r11.1.at_]) (M' := [.box gb125 96 [.string r11.1.node.name, .bool r11.1.node.named, .string r11.1.node.field, .int .i64 r11.1.node.from_, .int .i64 r11.1.node.to, .int .i64 r11.1.node.kids, .int .i64 r11.1.node.leaf, .slice A141 n142 c143, .int .i64 r11.1.at_], .box g2 Tb3 [.slice A4 n5 c6, .int .i64 x1.at_]]) 0 sz_96 rfl rfl rfl rfl rfl rfl rfl rfl rfl ?_), trivial⟩
    refine ⟨sels [1] rfl, sels [1, 2] rfl, ?_⟩
    refine wf_v 15 rfl (v_assign rfl) gn rfl hns (by kernel_rfl) (by kernel_rfl) rfl rfl ?_
    refine wf_v 16 rfl (v_assign rfl) gn rfl hns (by kernel_rfl) (by kernel_rfl) rfl rfl ?_
    refine wf_end (by kernel_rfl) ?_
    exact g_go [0, 1, 2] (d1 gb125 A141 n142 c143 w145 sb149 h144) ⟨rfl, rfl, rfl, trivial⟩ (.cons_cons _ (.cons_cons _ (.slnil))) rfl
noncomputable abbrev tree_Cursor_Next_c0 : Code := bodyOf Try.f20
noncomputable abbrev tree_Cursor_Next_c1 : Code := Code.fst tree_Cursor_Next_c0
noncomputable abbrev tree_Cursor_Next_c2 : Code := Code.snd tree_Cursor_Next_c0
noncomputable abbrev tree_Cursor_Next_c3 : Code := Code.fst tree_Cursor_Next_c2
noncomputable abbrev tree_Cursor_Next_c4 : Code := Code.snd tree_Cursor_Next_c2
noncomputable abbrev tree_Cursor_Next_c5 : Code := Code.fst tree_Cursor_Next_c3
noncomputable abbrev tree_Cursor_Next_c6 : Code := Code.snd tree_Cursor_Next_c3
noncomputable abbrev tree_Cursor_Next_c7 : Code := Code.fst tree_Cursor_Next_c6
noncomputable abbrev tree_Cursor_Next_c8 : Code := Code.snd tree_Cursor_Next_c6
noncomputable abbrev tree_Cursor_Next_c9 : Code := Code.fst tree_Cursor_Next_c4
noncomputable abbrev tree_Cursor_Next_c10 : Code := Code.snd tree_Cursor_Next_c4
noncomputable abbrev tree_Cursor_Next_c11 : Code := Code.fst tree_Cursor_Next_c10
noncomputable abbrev tree_Cursor_Next_c12 : Code := Code.snd tree_Cursor_Next_c10
noncomputable abbrev tree_Cursor_Next_c13 : Code := Code.fst tree_Cursor_Next_c7
noncomputable abbrev tree_Cursor_Next_c14 : Code := Code.snd tree_Cursor_Next_c7
abbrev tree_Cursor_Next_R (w : World) (F : Nat → Prop) (g2 : Nat) (Tb3 : Nat) (r : Bool × tree_Cursor) : Ending → World → Prop := fun e w' => ∃ A0 : Option Addr, ∃ n0 : Nat, ∃ c0 : Nat, ∃ A1 : Option Addr, ∃ n1 : Nat, ∃ c1 : Nat, ∃ A2 : Option Addr, ∃ n2 : Nat, ∃ c2 : Nat, e = .returned (.bool r.1) ∧ B.Loc w w' [.box g2 Tb3 [.slice A0 n0 c0, .slice A1 n1 c1, .slice A2 n2 c2, .bool r.2.stand.forest.ok, .int .i64 r.2.stand.at_]] [St w [[g2]]] ∧ Rw k_api_Node w' (Nw w w' F [.box g2 Tb3 [.slice A0 n0 c0, .slice A1 n1 c1, .slice A2 n2 c2, .bool r.2.stand.forest.ok, .int .i64 r.2.stand.at_]]) A0 n0 c0 r.2.stand.forest.nodes ∧ Rw (kInt .i64) w' (Nw w w' F [.box g2 Tb3 [.slice A0 n0 c0, .slice A1 n1 c1, .slice A2 n2 c2, .bool r.2.stand.forest.ok, .int .i64 r.2.stand.at_]]) A1 n1 c1 r.2.stand.forest.parent ∧ Rw (kInt .i64) w' (Nw w w' F [.box g2 Tb3 [.slice A0 n0 c0, .slice A1 n1 c1, .slice A2 n2 c2, .bool r.2.stand.forest.ok, .int .i64 r.2.stand.at_]]) A2 n2 c2 r.2.stand.forest.end_
noncomputable abbrev tree_Cursor_Next_C (w : World) (F : Nat → Prop) (g2 : Nat) (Tb3 : Nat) (r : Bool × tree_Cursor) : Cx := ⟨Try.prog, 20, Try.f20, 66, tree_Cursor_Next_R w F g2 Tb3 r, w⟩
theorem tree_Cursor_Next_calls (w : World) (F : Nat → Prop) (x1 : tree_Cursor) (g2 : Nat) (Tb3 : Nat) (A4 : Option Addr) (n5 : Nat) (c6 : Nat) (A8 : Option Addr) (n9 : Nat) (c10 : Nat) (A12 : Option Addr) (n13 : Nat) (c14 : Nat) (h7 : Rw k_api_Node w F A4 n5 c6 x1.stand.forest.nodes) (h11 : Rw (kInt .i64) w F A8 n9 c10 x1.stand.forest.parent) (h15 : Rw (kInt .i64) w F A12 n13 c14 x1.stand.forest.end_) (hF : ∀ b, F b → b < w.heap.size ∧ ∀ o ∈ ([[g2]] : List (List Nat)), b ∉ o) (hL0 : B.Loc w w [.box g2 Tb3 [.slice A4 n5 c6, .slice A8 n9 c10, .slice A12 n13 c14, .bool x1.stand.forest.ok, .int .i64 x1.stand.at_]] [Sm w.heap.size F w [[g2]], St w [[g2]]]) (r : Bool × tree_Cursor) (h : tree_Cursor_Next x1 r) : Calls Try.prog 20 #[.pointer (some ⟨g2, 0, none⟩)] w (tree_Cursor_Next_R w F g2 Tb3 r) := by
  unfold tree_Cursor_Next at h
  have h7 := Rw.into (bs := [[g2]]) hF h7
  have h11 := Rw.into (bs := [[g2]]) hF h11
  have h15 := Rw.into (bs := [[g2]]) hF h15
  refine calls_of_Loc (vs := [.pointer (some ⟨g2, 0, none⟩)]) 66 Try.func20 rfl Try.ntmps20 rfl hL0 ?_
  show G (tree_Cursor_Next_C w F g2 Tb3 r) _ _ _ _
  refine g_seq (c := tree_Cursor_Next_c0) rfl ?_
  refine g_region (c := tree_Cursor_Next_c1) rfl rfl ?_
  refine wl_v 0 rfl (v_assign rfl) gn rfl ?_
  refine w_end 1 rfl ?_
  refine g_seq (c := tree_Cursor_Next_c2) rfl ?_
  refine g_seq (c := tree_Cursor_Next_c3) rfl ?_
  obtain ⟨r19, hv20, h⟩ := h
  have hns : Region.noSelect (Code.ops tree_Cursor_Next_c5) = true := by kernel_rfl
  refine g_drawF (c := tree_Cursor_Next_c5) [.box g2 Tb3 [.slice A4 n5 c6, .slice A8 n9 c10, .slice A12 n13 c14, .bool x1.stand.forest.ok, .int .i64 x1.stand.at_]] [Sm w.heap.size F w [[g2]], St w [[g2]]] [] 12 rfl rfl mix rfl (.cons_cons _ (.slnil)) (sels [0, 1] rfl) ?_
  refine wf_v 0 rfl (v_move rfl) gn rfl hns (by kernel_rfl) (by kernel_rfl) rfl rfl ?_
  refine wf_v 1 rfl (v_nilCheck rfl) gn rfl hns (by kernel_rfl) (by kernel_rfl) rfl rfl ?_
  refine wf_v 2 rfl (v_fldB fo_36_0 rfl) gn rfl hns (by kernel_rfl) (by kernel_rfl) rfl rfl ?_
  refine wf_v 3 rfl (v_fldB fo_34_0 rfl) gn rfl hns (by kernel_rfl) (by kernel_rfl) rfl rfl ?_
  refine wf_v 4 rfl (v_ldB [.slice A4 n5 c6, .slice A8 n9 c10, .slice A12 n13 c14, .bool x1.stand.forest.ok] 0 ld_32 rfl rfl rfl rfl) gn rfl hns (by kernel_rfl) (by kernel_rfl) rfl rfl ?_
  refine wf_v 5 rfl (v_move rfl) gn rfl hns (by kernel_rfl) (by kernel_rfl) rfl rfl ?_
  refine wf_v 6 rfl (v_nilCheck rfl) gn rfl hns (by kernel_rfl) (by kernel_rfl) rfl rfl ?_
  refine wf_v 7 rfl (v_fldB fo_36_0 rfl) gn rfl hns (by kernel_rfl) (by kernel_rfl) rfl rfl ?_
  refine wf_v 8 rfl (v_fldB fo_34_1 rfl) gn rfl hns (by kernel_rfl) (by kernel_rfl) rfl rfl ?_
  refine wf_v 9 rfl (v_ldB1 0 ld_3 rfl rfl rfl) gn rfl hns (by kernel_rfl) (by kernel_rfl) rfl rfl ?_
  refine wf_all [10] (by kernel_rfl) rfl ⟨on_s 10 rfl gn rfl (s_call [.agg #[.slice A4 n5 c6, .slice A8 n9 c10, .slice A12 n13 c14, .bool x1.stand.forest.ok], .int .i64 x1.stand.at_] rfl Try.func46 rfl rfl rfl fun w42 hL43 => ?_), trivial⟩
  have hp44 : List.Perm ([.box g2 Tb3 [.slice A4 n5 c6, .slice A8 n9 c10, .slice A12 n13 c14, .bool x1.stand.forest.ok, .int .i64 x1.stand.at_]] : List Ent) (([] : List Ent) ++ ([.box g2 Tb3 [.slice A4 n5 c6, .slice A8 n9 c10, .slice A12 n13 c14, .bool x1.stand.forest.ok, .int .i64 x1.stand.at_]] : List Ent)) := perm_of_idx [] [0] rfl rfl (by kernel_rfl)
  refine Calls.mono (tree_forest_has_calls w42 (Fl ([] : List Snap)) x1.stand.forest x1.stand.at_ A4 n5 c6 A8 n9 c10 A12 n13 c14 (Rw.mono h7 (hL43.toSt hp44 (me 0 rfl))) (Rw.mono h11 (hL43.toSt hp44 (me 0 rfl))) (Rw.mono h15 (hL43.toSt hp44 (me 0 rfl))) (hL43.hFl (Sl := ([] : List Snap)) hp44 (sels [] rfl)) (hL43.into hp44 (Fl ([] : List Snap))) r19 hv20) ?_
  rintro _ w45 ⟨rfl, hM46⟩
  have hL47 := hL43.call hp44 hM46
  refine ⟨_, _, _, rfl, hL47, ?_⟩
  refine ⟨sels [0] rfl, sels [0, 1] rfl, ?_⟩
  refine wf_v 11 rfl (v_not rfl) gn rfl hns (by kernel_rfl) (by kernel_rfl) rfl rfl ?_
  refine wf_end (by kernel_rfl) ?_
  by_cases hp48 : r19 = true
  · have h := if_pos' hp48 h
    refine g_false (c := tree_Cursor_Next_c6) rfl _ rfl ((nf hp48)) ?_
    refine g_skip (c := tree_Cursor_Next_c8) rfl ?_
    refine g_seq (c := tree_Cursor_Next_c4) rfl ?_
    obtain ⟨hb49, h⟩ := h
    have hns : Region.noSelect (Code.ops tree_Cursor_Next_c9) = true := by kernel_rfl
    refine g_drawF (c := tree_Cursor_Next_c9) [.box g2 Tb3 [.slice A4 n5 c6, .slice A8 n9 c10, .slice A12 n13 c14, .bool x1.stand.forest.ok, .int .i64 x1.stand.at_]] [Sm w.heap.size F w [[g2]], St w [[g2]]] [] 14 rfl rfl mix rfl (.cons_cons _ (.slnil)) (sels [0, 1] rfl) ?_
    refine wf_v 0 rfl (v_move rfl) gn rfl hns (by kernel_rfl) (by kernel_rfl) rfl rfl ?_
    refine wf_v 1 rfl (v_nilCheck rfl) gn rfl hns (by kernel_rfl) (by kernel_rfl) rfl rfl ?_
    refine wf_v 2 rfl (v_fldB fo_36_0 rfl) gn rfl hns (by kernel_rfl) (by kernel_rfl) rfl rfl ?_
    refine wf_v 3 rfl (v_fldB fo_34_0 rfl) gn rfl hns (by kernel_rfl) (by kernel_rfl) rfl rfl ?_
    refine wf_v 4 rfl (v_fldB fo_32_2 rfl) gn rfl hns (by kernel_rfl) (by kernel_rfl) rfl rfl ?_
    refine wf_v 5 rfl (v_ldB1 0 ld_23 rfl rfl rfl) gn rfl hns (by kernel_rfl) (by kernel_rfl) rfl rfl ?_
    refine wf_v 6 rfl (v_move rfl) gn rfl hns (by kernel_rfl) (by kernel_rfl) rfl rfl ?_
    refine wf_v 7 rfl (v_nilCheck rfl) gn rfl hns (by kernel_rfl) (by kernel_rfl) rfl rfl ?_
    refine wf_v 8 rfl (v_fldB fo_36_0 rfl) gn rfl hns (by kernel_rfl) (by kernel_rfl) rfl rfl ?_
    refine wf_v 9 rfl (v_fldB fo_34_1 rfl) gn rfl hns (by kernel_rfl) (by kernel_rfl) rfl rfl ?_
    refine wf_v 10 rfl (v_ldB1 0 ld_3 rfl rfl rfl) gn rfl hns (by kernel_rfl) (by kernel_rfl) rfl rfl ?_
    have hr52 := Rw.readF (s := Sm w.heap.size F w [[g2]]) (hl := (hlI .i64)) (h1 := (hone_int .i64)) h15 hb49
    refine wf_v 11 rfl (v_idxR (s := Sm w.heap.size F w [[g2]]) slE_23 rfl rfl h15 hb49) gn rfl hns (by kernel_rfl) (by kernel_rfl) rfl rfl ?_
    refine wf_v 12 rfl (v_ldA1 (kk := (x1.stand.at_ : Int).toNat * 1) (j := 0) (Sm w.heap.size F w [[g2]]) ld_3 rfl hr52 rfl (me 0 rfl)) gn rfl hns (by kernel_rfl) (by kernel_rfl) rfl rfl ?_
    refine wf_v 13 rfl (v_assign rfl) gn rfl hns (by kernel_rfl) (by kernel_rfl) rfl rfl ?_
    refine wf_end (by kernel_rfl) ?_
    refine g_seq (c := tree_Cursor_Next_c10) rfl ?_
    obtain ⟨r56, hv57, h⟩ := h
    by_cases hp61 : r56 = true
    · have h := if_pos' hp61 h
      obtain ⟨hb62, h⟩ := h
      obtain ⟨hb64, h⟩ := h
      obtain ⟨r69, hv70, h⟩ := h
      have hns : Region.noSelect (Code.ops tree_Cursor_Next_c11) = true := by kernel_rfl
      refine g_drawF (c := tree_Cursor_Next_c11) [.box g2 Tb3 [.slice A4 n5 c6, .slice A8 n9 c10, .slice A12 n13 c14, .bool x1.stand.forest.ok, .int .i64 x1.stand.at_]] [Sm w.heap.size F w [[g2]], St w [[g2]]] [36, 37] 38 rfl rfl mix rfl (.cons_cons _ (.slnil)) (sels [0, 1] rfl) ?_
      refine wf_v 0 rfl (v_move rfl) gn rfl hns (by kernel_rfl) (by kernel_rfl) (by kernel_rfl) rfl ?_
      refine wf_v 1 rfl (v_nilCheck rfl) gn rfl hns (by kernel_rfl) (by kernel_rfl) (by kernel_rfl) rfl ?_
      refine wf_v 2 rfl (v_fldB fo_36_0 rfl) gn rfl hns (by kernel_rfl) (by kernel_rfl) (by kernel_rfl) rfl ?_
      refine wf_v 3 rfl (v_move rfl) gn rfl hns (by kernel_rfl) (by kernel_rfl) (by kernel_rfl) rfl ?_
      refine wf_v 4 rfl (v_move rfl) gn rfl hns (by kernel_rfl) (by kernel_rfl) (by kernel_rfl) rfl ?_
      refine wf_v 5 rfl (v_nilCheck rfl) gn rfl hns (by kernel_rfl) (by kernel_rfl) (by kernel_rfl) rfl ?_
      refine wf_v 6 rfl (v_fldB fo_36_0 rfl) gn rfl hns (by kernel_rfl) (by kernel_rfl) (by kernel_rfl) rfl ?_
      refine wf_v 7 rfl (v_fldB fo_34_0 rfl) gn rfl hns (by kernel_rfl) (by kernel_rfl) (by kernel_rfl) rfl ?_
      refine wf_v 8 rfl (v_ldB [.slice A4 n5 c6, .slice A8 n9 c10, .slice A12 n13 c14, .bool x1.stand.forest.ok] 0 ld_32 rfl rfl rfl rfl) gn rfl hns (by kernel_rfl) (by kernel_rfl) (by kernel_rfl) rfl ?_
      refine wf_v 9 rfl (v_move rfl) gn rfl hns (by kernel_rfl) (by kernel_rfl) (by kernel_rfl) rfl ?_
      refine wf_all [10] (by kernel_rfl) rfl ⟨on_s 10 rfl gn rfl (s_call [.agg #[.slice A4 n5 c6, .slice A8 n9 c10, .slice A12 n13 c14, .bool x1.stand.forest.ok], .int .i64 (ix x1.stand.forest.end_ x1.stand.at_)] rfl Try.func46 rfl rfl rfl fun w128 hL129 => ?_), trivial⟩
      have hp130 : List.Perm ([.box g2 Tb3 [.slice A4 n5 c6, .slice A8 n9 c10, .slice A12 n13 c14, .bool x1.stand.forest.ok, .int .i64 x1.stand.at_]] : List Ent) (([] : List Ent) ++ ([.box g2 Tb3 [.slice A4 n5 c6, .slice A8 n9 c10, .slice A12 n13 c14, .bool x1.stand.forest.ok, .int .i64 x1.stand.at_]] : List Ent)) := perm_of_idx [] [0] rfl rfl (by kernel_rfl)
      refine Calls.mono (tree_forest_has_calls w128 (Fl ([] : List Snap)) x1.stand.forest (ix x1.stand.forest.end_ x1.stand.at_) A4 n5 c6 A8 n9 c10 A12 n13 c14 (Rw.mono h7 (hL129.toSt hp130 (me 0 rfl))) (Rw.mono h11 (hL129.toSt hp130 (me 0 rfl))) (Rw.mono h15 (hL129.toSt hp130 (me 0 rfl))) (hL129.hFl (Sl := ([] : List Snap)) hp130 (sels [] rfl)) (hL129.into hp130 (Fl ([] : List Snap))) r56 hv57) ?_
      rintro _ w131 ⟨rfl, hM132⟩
      have hL133 := hL129.call hp130 hM132
      refine ⟨_, _, _, rfl, hL133, ?_⟩
      refine ⟨sels [0] rfl, sels [0, 1] rfl, ?_⟩
      refine wf_v 11 rfl (v_move rfl) gn rfl hns (by kernel_rfl) (by kernel_rfl) (by kernel_rfl) rfl ?_
      refine wf_bool 40 rfl (hp61) ?_
      refine wf_v 12 rfl (v_move rfl) (gy 40 rfl rfl) rfl hns (by kernel_rfl) (by kernel_rfl) (by kernel_rfl) rfl ?_
      refine wf_v 13 rfl (v_nilCheck rfl) (gy 40 rfl rfl) rfl hns (by kernel_rfl) (by kernel_rfl) (by kernel_rfl) rfl ?_
      refine wf_v 14 rfl (v_fldB fo_36_0 rfl) (gy 40 rfl rfl) rfl hns (by kernel_rfl) (by kernel_rfl) (by kernel_rfl) rfl ?_
      refine wf_v 15 rfl (v_fldB fo_34_0 rfl) (gy 40 rfl rfl) rfl hns (by kernel_rfl) (by kernel_rfl) (by kernel_rfl) rfl ?_
      refine wf_v 16 rfl (v_fldB fo_32_1 rfl) (gy 40 rfl rfl) rfl hns (by kernel_rfl) (by kernel_rfl) (by kernel_rfl) rfl ?_
      refine wf_v 17 rfl (v_ldB1 0 ld_23 rfl rfl rfl) (gy 40 rfl rfl) rfl hns (by kernel_rfl) (by kernel_rfl) (by kernel_rfl) rfl ?_
      refine wf_v 18 rfl (v_move rfl) (gy 40 rfl rfl) rfl hns (by kernel_rfl) (by kernel_rfl) (by kernel_rfl) rfl ?_
      have hr134 := Rw.readF (s := Sm w.heap.size F w [[g2]]) (hl := (hlI .i64)) (h1 := (hone_int .i64)) h11 hb62
      refine wf_v 19 rfl (v_idxR (s := Sm w.heap.size F w [[g2]]) slE_23 rfl rfl h11 hb62) (gy 40 rfl rfl) rfl hns (by kernel_rfl) (by kernel_rfl) (by kernel_rfl) rfl ?_
      refine wf_v 20 rfl (v_ldA1 (kk := (ix x1.stand.forest.end_ x1.stand.at_ : Int).toNat * 1) (j := 0) (Sm w.heap.size F w [[g2]]) ld_3 rfl hr134 rfl (me 0 rfl)) (gy 40 rfl rfl) rfl hns (by kernel_rfl) (by kernel_rfl) (by kernel_rfl) rfl ?_
      refine wf_v 21 rfl (v_move rfl) (gy 40 rfl rfl) rfl hns (by kernel_rfl) (by kernel_rfl) (by kernel_rfl) rfl ?_
      refine wf_v 22 rfl (v_nilCheck rfl) (gy 40 rfl rfl) rfl hns (by kernel_rfl) (by kernel_rfl) (by kernel_rfl) rfl ?_
      refine wf_v 23 rfl (v_fldB fo_36_0 rfl) (gy 40 rfl rfl) rfl hns (by kernel_rfl) (by kernel_rfl) (by kernel_rfl) rfl ?_
      refine wf_v 24 rfl (v_fldB fo_34_0 rfl) (gy 40 rfl rfl) rfl hns (by kernel_rfl) (by kernel_rfl) (by kernel_rfl) rfl ?_
      refine wf_v 25 rfl (v_fldB fo_32_1 rfl) (gy 40 rfl rfl) rfl hns (by kernel_rfl) (by kernel_rfl) (by kernel_rfl) rfl ?_
      refine wf_v 26 rfl (v_ldB1 0 ld_23 rfl rfl rfl) (gy 40 rfl rfl) rfl hns (by kernel_rfl) (by kernel_rfl) (by kernel_rfl) rfl ?_
      refine wf_v 27 rfl (v_move rfl) (gy 40 rfl rfl) rfl hns (by kernel_rfl) (by kernel_rfl) (by kernel_rfl) rfl ?_
      refine wf_v 28 rfl (v_nilCheck rfl) (gy 40 rfl rfl) rfl hns (by kernel_rfl) (by kernel_rfl) (by kernel_rfl) rfl ?_
      refine wf_v 29 rfl (v_fldB fo_36_0 rfl) (gy 40 rfl rfl) rfl hns (by kernel_rfl) (by kernel_rfl) (by kernel_rfl) rfl ?_
      refine wf_v 30 rfl (v_fldB fo_34_1 rfl) (gy 40 rfl rfl) rfl hns (by kernel_rfl) (by kernel_rfl) (by kernel_rfl) rfl ?_
      refine wf_v 31 rfl (v_ldB1 0 ld_3 rfl rfl rfl) (gy 40 rfl rfl) rfl hns (by kernel_rfl) (by kernel_rfl) (by kernel_rfl) rfl ?_
      have hr135 := Rw.readF (s := Sm w.heap.size F w [[g2]]) (hl := (hlI .i64)) (h1 := (hone_int .i64)) h11 hb64
      refine wf_v 32 rfl (v_idxR (s := Sm w.heap.size F w [[g2]]) slE_23 rfl rfl h11 hb64) (gy 40 rfl rfl) rfl hns (by kernel_rfl) (by kernel_rfl) (by kernel_rfl) rfl ?_
      refine wf_v 33 rfl (v_ldA1 (kk := (x1.stand.at_ : Int).toNat * 1) (j := 0) (Sm w.heap.size F w [[g2]]) ld_3 rfl hr135 rfl (me 0 rfl)) (gy 40 rfl rfl) rfl hns (by kernel_rfl) (by kernel_rfl) (by kernel_rfl) rfl ?_
      refine wf_v 34 rfl (v_bin rfl rfl rfl) (gy 40 rfl rfl) rfl hns (by kernel_rfl) (by kernel_rfl) (by kernel_rfl) rfl ?_
      refine wf_v 35 rfl (v_pick (b := true) rfl rfl) gn rfl hns (by kernel_rfl) (by kernel_rfl) (by kernel_rfl) rfl ?_
      refine wf_all [36] (by kernel_rfl) rfl ⟨on_l 36 rfl gn rfl (s_call [.pointer (some ⟨g2, 0, none⟩), .int .i64 (ix x1.stand.forest.end_ x1.stand.at_), .bool ((ix x1.stand.forest.parent (ix x1.stand.forest.end_ x1.stand.at_)) == (ix x1.stand.forest.parent x1.stand.at_))] rfl Try.func45 rfl rfl rfl fun w136 hL137 => ?_), trivial⟩
      have hp138 : List.Perm ([.box g2 Tb3 [.slice A4 n5 c6, .slice A8 n9 c10, .slice A12 n13 c14, .bool x1.stand.forest.ok, .int .i64 x1.stand.at_]] : List Ent) (([.box g2 Tb3 [.slice A4 n5 c6, .slice A8 n9 c10, .slice A12 n13 c14, .bool x1.stand.forest.ok, .int .i64 x1.stand.at_]] : List Ent) ++ ([] : List Ent)) := perm_of_idx [0] [] rfl rfl (by kernel_rfl)
      refine Calls.mono (tree_stand_to_calls w136 (Fl ([Sm w.heap.size F w [[g2]]] : List Snap)) x1.stand (ix x1.stand.forest.end_ x1.stand.at_) ((ix x1.stand.forest.parent (ix x1.stand.forest.end_ x1.stand.at_)) == (ix x1.stand.forest.parent x1.stand.at_)) g2 Tb3 A4 n5 c6 A8 n9 c10 A12 n13 c14 (Rw.mono h7 (hL137.toFl (me 0 rfl) (me 0 rfl))) (Rw.mono h11 (hL137.toFl (me 0 rfl) (me 0 rfl))) (Rw.mono h15 (hL137.toFl (me 0 rfl) (me 0 rfl))) (hL137.hFl (Sl := ([Sm w.heap.size F w [[g2]]] : List Snap)) hp138 (sels [0] rfl)) (hL137.into hp138 (Fl ([Sm w.heap.size F w [[g2]]] : List Snap))) r69 hv70) ?_
      rintro _ w151 ⟨A139, n140, c141, A143, n144, c145, A147, n148, c149, rfl, hM152, h142, h146, h150⟩
      obtain ⟨sb155, hL153, hv154⟩ := hL137.callB (Sl := ([Sm w.heap.size F w [[g2]]] : List Snap)) hp138 hM152 F (sels [0] rfl) ⟨Sm.ok, trivial⟩
      have h142 : At k_api_Node (Sm w.heap.size F w151 sb155) A139 n140 c141 r69.2.forest.nodes := Rw.mono h142 hv154
      have h146 : At (kInt .i64) (Sm w.heap.size F w151 sb155) A143 n144 c145 r69.2.forest.parent := Rw.mono h146 hv154
      have h150 : At (kInt .i64) (Sm w.heap.size F w151 sb155) A147 n148 c149 r69.2.forest.end_ := Rw.mono h150 hv154
      refine ⟨_, _, _, rfl, hL153, ?_⟩
      unfold NxL
      refine wf_all [37] (by kernel_rfl) rfl ⟨on_l 37 rfl gn rfl (s_val (v_assign rfl) rfl ?_), trivial⟩
      unfold NxL
      refine wf_end (by kernel_rfl) ?_
      refine g_retR (c := tree_Cursor_Next_c12) [.bool r69.1] rfl Try.func20 rfl (.tmp rfl (.nil)) fun wr hLr => ?_
      have hMr : B.Loc w wr [.box g2 Tb3 [.slice A139 n140 c141, .slice A143 n144 c145, .slice A147 n148 c149, .bool r69.2.forest.ok, .int .i64 r69.2.at_]] [St w [[g2]]] := hLr.pick (rest := []) (perm_of_idx [0] [] rfl rfl (by kernel_rfl)) (sels [2] rfl)
      have hMi : ∀ e ∈ ([.box g2 Tb3 [.slice A139 n140 c141, .slice A143 n144 c145, .slice A147 n148 c149, .bool r69.2.forest.ok, .int .i64 r69.2.at_]] : List Ent), e ∈ ([.box g2 Tb3 [.slice A139 n140 c141, .slice A143 n144 c145, .slice A147 n148 c149, .bool r69.2.forest.ok, .int .i64 r69.2.at_]] : List Ent) := sels [0] rfl
      show tree_Cursor_Next_R w F g2 Tb3 r (.returned (packV [.bool r69.1])) wr
      rw [h]
      exact ⟨A139, n140, c141, A143, n144, c145, A147, n148, c149, rfl, hMr, (hLr.outR (s := Sm w.heap.size F w151 sb155) hMi (me 0 rfl) Sm.ok h142), (hLr.outR (s := Sm w.heap.size F w151 sb155) hMi (me 0 rfl) Sm.ok h146), (hLr.outR (s := Sm w.heap.size F w151 sb155) hMi (me 0 rfl) Sm.ok h150)⟩
    · have h := if_neg' hp61 h
      obtain ⟨r159, hv160, h⟩ := h
      have hns : Region.noSelect (Code.ops tree_Cursor_Next_c11) = true := by kernel_rfl
      refine g_drawF (c := tree_Cursor_Next_c11) [.box g2 Tb3 [.slice A4 n5 c6, .slice A8 n9 c10, .slice A12 n13 c14, .bool x1.stand.forest.ok, .int .i64 x1.stand.at_]] [Sm w.heap.size F w [[g2]], St w [[g2]]] [36, 37] 38 rfl rfl mix rfl (.cons_cons _ (.slnil)) (sels [0, 1] rfl) ?_
      refine wf_v 0 rfl (v_move rfl) gn rfl hns (by kernel_rfl) (by kernel_rfl) (by kernel_rfl) rfl ?_
      refine wf_v 1 rfl (v_nilCheck rfl) gn rfl hns (by kernel_rfl) (by kernel_rfl) (by kernel_rfl) rfl ?_
      refine wf_v 2 rfl (v_fldB fo_36_0 rfl) gn rfl hns (by kernel_rfl) (by kernel_rfl) (by kernel_rfl) rfl ?_
      refine wf_v 3 rfl (v_move rfl) gn rfl hns (by kernel_rfl) (by kernel_rfl) (by kernel_rfl) rfl ?_
      refine wf_v 4 rfl (v_move rfl) gn rfl hns (by kernel_rfl) (by kernel_rfl) (by kernel_rfl) rfl ?_
      refine wf_v 5 rfl (v_nilCheck rfl) gn rfl hns (by kernel_rfl) (by kernel_rfl) (by kernel_rfl) rfl ?_
      refine wf_v 6 rfl (v_fldB fo_36_0 rfl) gn rfl hns (by kernel_rfl) (by kernel_rfl) (by kernel_rfl) rfl ?_
      refine wf_v 7 rfl (v_fldB fo_34_0 rfl) gn rfl hns (by kernel_rfl) (by kernel_rfl) (by kernel_rfl) rfl ?_
      refine wf_v 8 rfl (v_ldB [.slice A4 n5 c6, .slice A8 n9 c10, .slice A12 n13 c14, .bool x1.stand.forest.ok] 0 ld_32 rfl rfl rfl rfl) gn rfl hns (by kernel_rfl) (by kernel_rfl) (by kernel_rfl) rfl ?_
      refine wf_v 9 rfl (v_move rfl) gn rfl hns (by kernel_rfl) (by kernel_rfl) (by kernel_rfl) rfl ?_
      refine wf_all [10] (by kernel_rfl) rfl ⟨on_s 10 rfl gn rfl (s_call [.agg #[.slice A4 n5 c6, .slice A8 n9 c10, .slice A12 n13 c14, .bool x1.stand.forest.ok], .int .i64 (ix x1.stand.forest.end_ x1.stand.at_)] rfl Try.func46 rfl rfl rfl fun w216 hL217 => ?_), trivial⟩
      have hp218 : List.Perm ([.box g2 Tb3 [.slice A4 n5 c6, .slice A8 n9 c10, .slice A12 n13 c14, .bool x1.stand.forest.ok, .int .i64 x1.stand.at_]] : List Ent) (([] : List Ent) ++ ([.box g2 Tb3 [.slice A4 n5 c6, .slice A8 n9 c10, .slice A12 n13 c14, .bool x1.stand.forest.ok, .int .i64 x1.stand.at_]] : List Ent)) := perm_of_idx [] [0] rfl rfl (by kernel_rfl)
      refine Calls.mono (tree_forest_has_calls w216 (Fl ([] : List Snap)) x1.stand.forest (ix x1.stand.forest.end_ x1.stand.at_) A4 n5 c6 A8 n9 c10 A12 n13 c14 (Rw.mono h7 (hL217.toSt hp218 (me 0 rfl))) (Rw.mono h11 (hL217.toSt hp218 (me 0 rfl))) (Rw.mono h15 (hL217.toSt hp218 (me 0 rfl))) (hL217.hFl (Sl := ([] : List Snap)) hp218 (sels [] rfl)) (hL217.into hp218 (Fl ([] : List Snap))) r56 hv57) ?_
      rintro _ w219 ⟨rfl, hM220⟩
      have hL221 := hL217.call hp218 hM220
      refine ⟨_, _, _, rfl, hL221, ?_⟩
      refine ⟨sels [0] rfl, sels [0, 1] rfl, ?_⟩
      refine wf_v 11 rfl (v_move rfl) gn rfl hns (by kernel_rfl) (by kernel_rfl) (by kernel_rfl) rfl ?_
      refine wf_bool 40 rfl ((bf hp61)) ?_
      refine wf_pass 12 rfl (ps 40 rfl rfl rfl) hns (by kernel_rfl) (by kernel_rfl) (by kernel_rfl) rfl ?_
      refine wf_pass 13 rfl (ps 40 rfl rfl rfl) hns (by kernel_rfl) (by kernel_rfl) (by kernel_rfl) rfl ?_
      refine wf_pass 14 rfl (ps 40 rfl rfl rfl) hns (by kernel_rfl) (by kernel_rfl) (by kernel_rfl) rfl ?_
      refine wf_pass 15 rfl (ps 40 rfl rfl rfl) hns (by kernel_rfl) (by kernel_rfl) (by kernel_rfl) rfl ?_
      refine wf_pass 16 rfl (ps 40 rfl rfl rfl) hns (by kernel_rfl) (by kernel_rfl) (by kernel_rfl) rfl ?_
      refine wf_pass 17 rfl (ps 40 rfl rfl rfl) hns (by kernel_rfl) (by kernel_rfl) (by kernel_rfl) rfl ?_
      refine wf_pass 18 rfl (ps 40 rfl rfl rfl) hns (by kernel_rfl) (by kernel_rfl) (by kernel_rfl) rfl ?_
      refine wf_pass 19 rfl (ps 40 rfl rfl rfl) hns (by kernel_rfl) (by kernel_rfl) (by kernel_rfl) rfl ?_
      refine wf_pass 20 rfl (ps 40 rfl rfl rfl) hns (by kernel_rfl) (by kernel_rfl) (by kernel_rfl) rfl ?_
      refine wf_pass 21 rfl (ps 40 rfl rfl rfl) hns (by kernel_rfl) (by kernel_rfl) (by kernel_rfl) rfl ?_
      refine wf_pass 22 rfl (ps 40 rfl rfl rfl) hns (by kernel_rfl) (by kernel_rfl) (by kernel_rfl) rfl ?_
      refine wf_pass 23 rfl (ps 40 rfl rfl rfl) hns (by kernel_rfl) (by kernel_rfl) (by kernel_rfl) rfl ?_
      refine wf_pass 24 rfl (ps 40 rfl rfl rfl) hns (by kernel_rfl) (by kernel_rfl) (by kernel_rfl) rfl ?_
      refine wf_pass 25 rfl (ps 40 rfl rfl rfl) hns (by kernel_rfl) (by kernel_rfl) (by kernel_rfl) rfl ?_
      refine wf_pass 26 rfl (ps 40 rfl rfl rfl) hns (by kernel_rfl) (by kernel_rfl) (by kernel_rfl) rfl ?_
      refine wf_pass 27 rfl (ps 40 rfl rfl rfl) hns (by kernel_rfl) (by kernel_rfl) (by kernel_rfl) rfl ?_
      refine wf_pass 28 rfl (ps 40 rfl rfl rfl) hns (by kernel_rfl) (by kernel_rfl) (by kernel_rfl) rfl ?_
      refine wf_pass 29 rfl (ps 40 rfl rfl rfl) hns (by kernel_rfl) (by kernel_rfl) (by kernel_rfl) rfl ?_
      refine wf_pass 30 rfl (ps 40 rfl rfl rfl) hns (by kernel_rfl) (by kernel_rfl) (by kernel_rfl) rfl ?_
      refine wf_pass 31 rfl (ps 40 rfl rfl rfl) hns (by kernel_rfl) (by kernel_rfl) (by kernel_rfl) rfl ?_
      refine wf_pass 32 rfl (ps 40 rfl rfl rfl) hns (by kernel_rfl) (by kernel_rfl) (by kernel_rfl) rfl ?_
      refine wf_pass 33 rfl (ps 40 rfl rfl rfl) hns (by kernel_rfl) (by kernel_rfl) (by kernel_rfl) rfl ?_
      refine wf_pass 34 rfl (ps 40 rfl rfl rfl) hns (by kernel_rfl) (by kernel_rfl) (by kernel_rfl) rfl ?_
      refine wf_v 35 rfl (v_pick (b := false) rfl rfl) gn rfl hns (by kernel_rfl) (by kernel_rfl) (by kernel_rfl) rfl ?_
      refine wf_all [36] (by kernel_rfl) rfl ⟨on_l 36 rfl gn rfl (s_call [.pointer (some ⟨g2, 0, none⟩), .int .i64 (ix x1.stand.forest.end_ x1.stand.at_), .bool false] rfl Try.func45 rfl rfl rfl fun w222 hL223 => ?_), trivial⟩
      have hp224 : List.Perm ([.box g2 Tb3 [.slice A4 n5 c6, .slice A8 n9 c10, .slice A12 n13 c14, .bool x1.stand.forest.ok, .int .i64 x1.stand.at_]] : List Ent) (([.box g2 Tb3 [.slice A4 n5 c6, .slice A8 n9 c10, .slice A12 n13 c14, .bool x1.stand.forest.ok, .int .i64 x1.stand.at_]] : List Ent) ++ ([] : List Ent)) := perm_of_idx [0] [] rfl rfl (by kernel_rfl)
      refine Calls.mono (tree_stand_to_calls w222 (Fl ([Sm w.heap.size F w [[g2]]] : List Snap)) x1.stand (ix x1.stand.forest.end_ x1.stand.at_) false g2 Tb3 A4 n5 c6 A8 n9 c10 A12 n13 c14 (Rw.mono h7 (hL223.toFl (me 0 rfl) (me 0 rfl))) (Rw.mono h11 (hL223.toFl (me 0 rfl) (me 0 rfl))) (Rw.mono h15 (hL223.toFl (me 0 rfl) (me 0 rfl))) (hL223.hFl (Sl := ([Sm w.heap.size F w [[g2]]] : List Snap)) hp224 (sels [0] rfl)) (hL223.into hp224 (Fl ([Sm w.heap.size F w [[g2]]] : List Snap))) r159 hv160) ?_
      rintro _ w237 ⟨A225, n226, c227, A229, n230, c231, A233, n234, c235, rfl, hM238, h228, h232, h236⟩
      obtain ⟨sb241, hL239, hv240⟩ := hL223.callB (Sl := ([Sm w.heap.size F w [[g2]]] : List Snap)) hp224 hM238 F (sels [0] rfl) ⟨Sm.ok, trivial⟩
      have h228 : At k_api_Node (Sm w.heap.size F w237 sb241) A225 n226 c227 r159.2.forest.nodes := Rw.mono h228 hv240
      have h232 : At (kInt .i64) (Sm w.heap.size F w237 sb241) A229 n230 c231 r159.2.forest.parent := Rw.mono h232 hv240
      have h236 : At (kInt .i64) (Sm w.heap.size F w237 sb241) A233 n234 c235 r159.2.forest.end_ := Rw.mono h236 hv240
      refine ⟨_, _, _, rfl, hL239, ?_⟩
      unfold NxL
      refine wf_all [37] (by kernel_rfl) rfl ⟨on_l 37 rfl gn rfl (s_val (v_assign rfl) rfl ?_), trivial⟩
      unfold NxL
      refine wf_end (by kernel_rfl) ?_
      refine g_retR (c := tree_Cursor_Next_c12) [.bool r159.1] rfl Try.func20 rfl (.tmp rfl (.nil)) fun wr hLr => ?_
      have hMr : B.Loc w wr [.box g2 Tb3 [.slice A225 n226 c227, .slice A229 n230 c231, .slice A233 n234 c235, .bool r159.2.forest.ok, .int .i64 r159.2.at_]] [St w [[g2]]] := hLr.pick (rest := []) (perm_of_idx [0] [] rfl rfl (by kernel_rfl)) (sels [2] rfl)
      have hMi : ∀ e ∈ ([.box g2 Tb3 [.slice A225 n226 c227, .slice A229 n230 c231, .slice A233 n234 c235, .bool r159.2.forest.ok, .int .i64 r159.2.at_]] : List Ent), e ∈ ([.box g2 Tb3 [.slice A225 n226 c227, .slice A229 n230 c231, .slice A233 n234 c235, .bool r159.2.forest.ok, .int .i64 r159.2.at_]] : List Ent) := sels [0] rfl
      show tree_Cursor_Next_R w F g2 Tb3 r (.returned (packV [.bool r159.1])) wr
      rw [h]
      exact ⟨A225, n226, c227, A229, n230, c231, A233, n234, c235, rfl, hMr, (hLr.outR (s := Sm w.heap.size F w237 sb241) hMi (me 0 rfl) Sm.ok h228), (hLr.outR (s := Sm w.heap.size F w237 sb241) hMi (me 0 rfl) Sm.ok h232), (hLr.outR (s := Sm w.heap.size F w237 sb241) hMi (me 0 rfl) Sm.ok h236)⟩
  · have h := if_neg' hp48 h
    refine g_true (c := tree_Cursor_Next_c6) rfl _ rfl ((nt (bf hp48))) ?_
    refine g_seq (c := tree_Cursor_Next_c7) rfl ?_
    refine g_region (c := tree_Cursor_Next_c13) rfl rfl ?_
    refine wl_v 0 rfl (v_assign rfl) gn rfl ?_
    refine w_end 1 rfl ?_
    refine g_retR (c := tree_Cursor_Next_c14) [.bool false] rfl Try.func20 rfl (.tmp rfl (.nil)) fun wr hLr => ?_
    have hMr : B.Loc w wr [.box g2 Tb3 [.slice A4 n5 c6, .slice A8 n9 c10, .slice A12 n13 c14, .bool x1.stand.forest.ok, .int .i64 x1.stand.at_]] [St w [[g2]]] := hLr.pick (rest := []) (perm_of_idx [0] [] rfl rfl (by kernel_rfl)) (sels [1] rfl)
    have hMi : ∀ e ∈ ([.box g2 Tb3 [.slice A4 n5 c6, .slice A8 n9 c10, .slice A12 n13 c14, .bool x1.stand.forest.ok, .int .i64 x1.stand.at_]] : List Ent), e ∈ ([.box g2 Tb3 [.slice A4 n5 c6, .slice A8 n9 c10, .slice A12 n13 c14, .bool x1.stand.forest.ok, .int .i64 x1.stand.at_]] : List Ent) := sels [0] rfl
    show tree_Cursor_Next_R w F g2 Tb3 r (.returned (packV [.bool false])) wr
    rw [h]
    exact ⟨A4, n5, c6, A8, n9, c10, A12, n13, c14, rfl, hMr, (hLr.outR (s := Sm w.heap.size F w [[g2]]) hMi (me 0 rfl) Sm.ok h7), (hLr.outR (s := Sm w.heap.size F w [[g2]]) hMi (me 0 rfl) Sm.ok h11), (hLr.outR (s := Sm w.heap.size F w [[g2]]) hMi (me 0 rfl) Sm.ok h15)⟩
noncomputable abbrev trellisref15_Model_Next_c0 : Code := bodyOf Try.f21
noncomputable abbrev trellisref15_Model_Next_c1 : Code := Code.fst trellisref15_Model_Next_c0
noncomputable abbrev trellisref15_Model_Next_c2 : Code := Code.snd trellisref15_Model_Next_c0
noncomputable abbrev trellisref15_Model_Next_c3 : Code := Code.fst trellisref15_Model_Next_c2
noncomputable abbrev trellisref15_Model_Next_c4 : Code := Code.snd trellisref15_Model_Next_c2
noncomputable abbrev trellisref15_Model_Next_c5 : Code := Code.fst trellisref15_Model_Next_c4
noncomputable abbrev trellisref15_Model_Next_c6 : Code := Code.snd trellisref15_Model_Next_c4
noncomputable abbrev trellisref15_Model_Next_c7 : Code := Code.fst trellisref15_Model_Next_c5
noncomputable abbrev trellisref15_Model_Next_c8 : Code := Code.snd trellisref15_Model_Next_c5
noncomputable abbrev trellisref15_Model_Next_c9 : Code := Code.fst trellisref15_Model_Next_c8
noncomputable abbrev trellisref15_Model_Next_c10 : Code := Code.snd trellisref15_Model_Next_c8
noncomputable abbrev trellisref15_Model_Next_c11 : Code := Code.fst trellisref15_Model_Next_c6
noncomputable abbrev trellisref15_Model_Next_c12 : Code := Code.snd trellisref15_Model_Next_c6
noncomputable abbrev trellisref15_Model_Next_c13 : Code := Code.fst trellisref15_Model_Next_c12
noncomputable abbrev trellisref15_Model_Next_c14 : Code := Code.snd trellisref15_Model_Next_c12
noncomputable abbrev trellisref15_Model_Next_c15 : Code := Code.fst trellisref15_Model_Next_c13
noncomputable abbrev trellisref15_Model_Next_c16 : Code := Code.snd trellisref15_Model_Next_c13
noncomputable abbrev trellisref15_Model_Next_c17 : Code := Code.fst trellisref15_Model_Next_c16
noncomputable abbrev trellisref15_Model_Next_c18 : Code := Code.snd trellisref15_Model_Next_c16
noncomputable abbrev trellisref15_Model_Next_c19 : Code := Code.fst trellisref15_Model_Next_c17
noncomputable abbrev trellisref15_Model_Next_c20 : Code := Code.snd trellisref15_Model_Next_c17
noncomputable abbrev trellisref15_Model_Next_c21 : Code := Code.fst trellisref15_Model_Next_c14
noncomputable abbrev trellisref15_Model_Next_c22 : Code := Code.snd trellisref15_Model_Next_c14
noncomputable abbrev trellisref15_Model_Next_c23 : Code := Code.fst trellisref15_Model_Next_c21
noncomputable abbrev trellisref15_Model_Next_c24 : Code := Code.snd trellisref15_Model_Next_c21
noncomputable abbrev trellisref15_Model_Next_c25 : Code := Code.fst trellisref15_Model_Next_c24
noncomputable abbrev trellisref15_Model_Next_c26 : Code := Code.fst trellisref15_Model_Next_c25
noncomputable abbrev trellisref15_Model_Next_c27 : Code := Code.fst trellisref15_Model_Next_c26
noncomputable abbrev trellisref15_Model_Next_c28 : Code := Code.snd trellisref15_Model_Next_c26
noncomputable abbrev trellisref15_Model_Next_c29 : Code := Code.fst trellisref15_Model_Next_c27
noncomputable abbrev trellisref15_Model_Next_c30 : Code := Code.snd trellisref15_Model_Next_c27
noncomputable abbrev trellisref15_Model_Next_c31 : Code := Code.fst trellisref15_Model_Next_c30
noncomputable abbrev trellisref15_Model_Next_c32 : Code := Code.snd trellisref15_Model_Next_c30
noncomputable abbrev trellisref15_Model_Next_c33 : Code := Code.fst trellisref15_Model_Next_c28
noncomputable abbrev trellisref15_Model_Next_c34 : Code := Code.snd trellisref15_Model_Next_c28
noncomputable abbrev trellisref15_Model_Next_c35 : Code := Code.fst trellisref15_Model_Next_c33
noncomputable abbrev trellisref15_Model_Next_c36 : Code := Code.fst trellisref15_Model_Next_c35
noncomputable abbrev trellisref15_Model_Next_c37 : Code := Code.snd trellisref15_Model_Next_c35
noncomputable abbrev trellisref15_Model_Next_c38 : Code := Code.fst trellisref15_Model_Next_c37
noncomputable abbrev trellisref15_Model_Next_c39 : Code := Code.snd trellisref15_Model_Next_c37
noncomputable abbrev trellisref15_Model_Next_c40 : Code := Code.fst trellisref15_Model_Next_c38
noncomputable abbrev trellisref15_Model_Next_c41 : Code := Code.snd trellisref15_Model_Next_c38
noncomputable abbrev trellisref15_Model_Next_c42 : Code := Code.fst trellisref15_Model_Next_c41
noncomputable abbrev trellisref15_Model_Next_c43 : Code := Code.snd trellisref15_Model_Next_c41
noncomputable abbrev trellisref15_Model_Next_c44 : Code := Code.fst trellisref15_Model_Next_c22
noncomputable abbrev trellisref15_Model_Next_c45 : Code := Code.snd trellisref15_Model_Next_c22
noncomputable abbrev trellisref15_Model_Next_c46 : Code := Code.fst trellisref15_Model_Next_c9
noncomputable abbrev trellisref15_Model_Next_c47 : Code := Code.snd trellisref15_Model_Next_c9
abbrev trellisref15_Model_Next_R (w : World) (F : Nat → Prop) (g2 : Nat) (Tb3 : Nat) (r : Bool × trellisref15_Model) : Ending → World → Prop := fun e w' => ∃ A0 : Option Addr, ∃ n0 : Nat, ∃ c0 : Nat, e = .returned (.bool r.1) ∧ B.Loc w w' [.box g2 Tb3 [.slice A0 n0 c0, .int .i64 r.2.at_]] [St w [[g2]]] ∧ Rw k_trellisref15_Tree w' (Nw w w' F [.box g2 Tb3 [.slice A0 n0 c0, .int .i64 r.2.at_]]) A0 n0 c0 r.2.f
noncomputable abbrev trellisref15_Model_Next_C (w : World) (F : Nat → Prop) (g2 : Nat) (Tb3 : Nat) (r : Bool × trellisref15_Model) : Cx := ⟨Try.prog, 21, Try.f21, 70, trellisref15_Model_Next_R w F g2 Tb3 r, w⟩
theorem trellisref15_Model_Next_calls (w : World) (F : Nat → Prop) (x1 : trellisref15_Model) (g2 : Nat) (Tb3 : Nat) (A4 : Option Addr) (n5 : Nat) (c6 : Nat) (h7 : Rw k_trellisref15_Tree w F A4 n5 c6 x1.f) (hF : ∀ b, F b → b < w.heap.size ∧ ∀ o ∈ ([[g2]] : List (List Nat)), b ∉ o) (hL0 : B.Loc w w [.box g2 Tb3 [.slice A4 n5 c6, .int .i64 x1.at_]] [Sm w.heap.size F w [[g2]], St w [[g2]]]) (r : Bool × trellisref15_Model) (h : trellisref15_Model_Next x1 r) : Calls Try.prog 21 #[.pointer (some ⟨g2, 0, none⟩)] w (trellisref15_Model_Next_R w F g2 Tb3 r) := by
  unfold trellisref15_Model_Next at h
  have h7 := Rw.into (bs := [[g2]]) hF h7
  refine calls_of_Loc (vs := [.pointer (some ⟨g2, 0, none⟩)]) 70 Try.func21 rfl Try.ntmps21 rfl hL0 ?_
  show G (trellisref15_Model_Next_C w F g2 Tb3 r) _ _ _ _
  refine g_seq (c := trellisref15_Model_Next_c0) rfl ?_
  refine g_region (c := trellisref15_Model_Next_c1) rfl rfl ?_
  refine wl_v 0 rfl (v_assign rfl) gn rfl ?_
  refine w_end 1 rfl ?_
  refine g_seq (c := trellisref15_Model_Next_c2) rfl ?_
  obtain ⟨r11, hv12, h⟩ := h
  have d1 : ∀ (_ : Unit), G (trellisref15_Model_Next_C w F g2 Tb3 r) [.code trellisref15_Model_Next_c4] [(0, .pointer (some ⟨g2, 0, none⟩)), (4, .int .i64 r11.2.1), (5, .bool r11.2.2)] [.box g2 Tb3 [.slice A4 n5 c6, .int .i64 x1.at_]] [Sm w.heap.size F w [[g2]], St w [[g2]]] := by
    intro _
    refine g_seq (c := trellisref15_Model_Next_c4) rfl ?_
    refine g_seq (c := trellisref15_Model_Next_c5) rfl ?_
    refine g_region (c := trellisref15_Model_Next_c7) rfl rfl ?_
    refine wl_v 0 rfl (v_move rfl) gn rfl ?_
    refine wl_v 1 rfl (v_not rfl) gn rfl ?_
    refine w_end 2 rfl ?_
    by_cases hp78 : r11.2.2 = true
    · have h := if_pos' hp78 h
      refine g_false (c := trellisref15_Model_Next_c8) rfl _ rfl ((nf hp78)) ?_
      refine g_skip (c := trellisref15_Model_Next_c10) rfl ?_
      refine g_seq (c := trellisref15_Model_Next_c6) rfl ?_
      refine g_region (c := trellisref15_Model_Next_c11) rfl rfl ?_
      refine wl_v 0 rfl (v_move rfl) gn rfl ?_
      refine wl_v 1 rfl (v_nilCheck rfl) gn rfl ?_
      refine wl_v 2 rfl (v_fldB fo_93_0 rfl) gn rfl ?_
      refine wl_v 3 rfl (v_ldB1 0 ld_89 rfl rfl rfl) gn rfl ?_
      refine wl_v 4 rfl (v_assign rfl) gn rfl ?_
      refine w_end 5 rfl ?_
      refine g_seq (c := trellisref15_Model_Next_c12) rfl ?_
      refine g_seq (c := trellisref15_Model_Next_c13) rfl ?_
      refine g_region (c := trellisref15_Model_Next_c15) rfl rfl ?_
      refine wl_v 0 rfl (v_move rfl) gn rfl ?_
      refine wl_v 1 rfl (v_bin rfl rfl rfl) gn rfl ?_
      refine w_end 2 rfl ?_
      have j1 : ∀ (x97 : List trellisref15_Tree) (h : trellisref15_Model_Next_j1 x1 x97 r) (A98 : Option Addr) (n99 : Nat) (c100 : Nat) (sw101 : World) (sb102 : List (List Nat)) (h103 : At k_trellisref15_Tree (Sm w.heap.size F sw101 sb102) A98 n99 c100 x97), G (trellisref15_Model_Next_C w F g2 Tb3 r) [.code trellisref15_Model_Next_c14] [(0, .pointer (some ⟨g2, 0, none⟩)), (6, .slice A98 n99 c100)] [.box g2 Tb3 [.slice A4 n5 c6, .int .i64 x1.at_]] [Sm w.heap.size F sw101 sb102, Sm w.heap.size F w [[g2]], St w [[g2]]] := by
        intro x97 h A98 n99 c100 sw101 sb102 h103
        unfold trellisref15_Model_Next_j1 at h
        refine g_seq (c := trellisref15_Model_Next_c14) rfl ?_
        refine g_seq (c := trellisref15_Model_Next_c21) rfl ?_
        refine g_region (c := trellisref15_Model_Next_c23) rfl rfl ?_
        refine wl_v 0 rfl (v_assign rfl) gn rfl ?_
        refine w_end 1 rfl ?_
        refine g_block (c := trellisref15_Model_Next_c24) rfl ?_
        refine g_loop (c := trellisref15_Model_Next_c25) rfl ?_
        have key2 : ∀ s, Rounds (fun (s : Int) o => trellisref15_Model_Next_b2 x97 x1 s o) s r → (fun (s : Int) => ∀ (_ : Unit), G (trellisref15_Model_Next_C w F g2 Tb3 r) [.code trellisref15_Model_Next_c26, .inLoop trellisref15_Model_Next_c26, .inBlock 0, .code trellisref15_Model_Next_c22] [(0, .pointer (some ⟨g2, 0, none⟩)), (6, .slice A98 n99 c100), (10, .int .i64 s)] [.box g2 Tb3 [.slice A4 n5 c6, .int .i64 x1.at_]] [Sm w.heap.size F sw101 sb102, Sm w.heap.size F w [[g2]], St w [[g2]]]) s := by
          intro s hs
          refine Rounds.ind (mot := (fun (s : Int) => ∀ (_ : Unit), G (trellisref15_Model_Next_C w F g2 Tb3 r) [.code trellisref15_Model_Next_c26, .inLoop trellisref15_Model_Next_c26, .inBlock 0, .code trellisref15_Model_Next_c22] [(0, .pointer (some ⟨g2, 0, none⟩)), (6, .slice A98 n99 c100), (10, .int .i64 s)] [.box g2 Tb3 [.slice A4 n5 c6, .int .i64 x1.at_]] [Sm w.heap.size F sw101 sb102, Sm w.heap.size F w [[g2]], St w [[g2]]])) ?_ hs
          clear hs s
          intro x137 o1 h hO1
          show ∀ (_ : Unit), G (trellisref15_Model_Next_C w F g2 Tb3 r) [.code trellisref15_Model_Next_c26, .inLoop trellisref15_Model_Next_c26, .inBlock 0, .code trellisref15_Model_Next_c22] [(0, .pointer (some ⟨g2, 0, none⟩)), (6, .slice A98 n99 c100), (10, .int .i64 x137)] [.box g2 Tb3 [.slice A4 n5 c6, .int .i64 x1.at_]] [Sm w.heap.size F sw101 sb102, Sm w.heap.size F w [[g2]], St w [[g2]]]
          intro _
          have h : trellisref15_Model_Next_b2 x97 x1 x137 o1 := h
          unfold trellisref15_Model_Next_b2 at h
          refine g_seq (c := trellisref15_Model_Next_c26) rfl ?_
          refine g_seq (c := trellisref15_Model_Next_c27) rfl ?_
          refine g_region (c := trellisref15_Model_Next_c29) rfl rfl ?_
          refine wl_v 0 rfl (v_move rfl) gn rfl ?_
          refine wl_v 1 rfl (v_bin rfl rfl rfl) gn rfl ?_
          refine wl_v 2 rfl (v_move rfl) gn rfl ?_
          refine wl_v 3 rfl (v_lenQ un_89 rfl h103.hq) gn rfl ?_
          refine wl_v 4 rfl (v_bin rfl rfl rfl) gn rfl ?_
          refine w_end 5 rfl ?_
          by_cases hp170 : w64 (x137 + 1) < (x97.length : Int)
          · have h := if_pos' hp170 h
            refine g_true (c := trellisref15_Model_Next_c30) rfl _ rfl ((decide_eq_true hp170)) ?_
            refine g_skip (c := trellisref15_Model_Next_c31) rfl ?_
            refine g_seq (c := trellisref15_Model_Next_c28) rfl ?_
            refine g_block (c := trellisref15_Model_Next_c33) rfl ?_
            refine g_seq (c := trellisref15_Model_Next_c35) rfl ?_
            obtain ⟨hb171, h⟩ := h
            have hns : Region.noSelect (Code.ops trellisref15_Model_Next_c36) = true := by kernel_rfl
            refine g_drawF (c := trellisref15_Model_Next_c36) [.box g2 Tb3 [.slice A4 n5 c6, .int .i64 x1.at_]] [Sm w.heap.size F sw101 sb102, Sm w.heap.size F w [[g2]], St w [[g2]]] [] 10 rfl rfl mix rfl (.cons_cons _ (.slnil)) (sels [0, 1, 2] rfl) ?_
            refine wf_v 0 rfl (v_move rfl) gn rfl hns (by kernel_rfl) (by kernel_rfl) rfl rfl ?_
            refine wf_v 1 rfl (v_move rfl) gn rfl hns (by kernel_rfl) (by kernel_rfl) rfl rfl ?_
            obtain ⟨ce187, hK188, hr186⟩ := Rw.read (s := Sm w.heap.size F sw101 sb102) h103 hb171
            obtain ⟨A189, n190, c191, rfl, h192⟩ := k_trellisref15_Tree_out hK188
            refine wf_v 2 rfl (v_idxR (s := Sm w.heap.size F sw101 sb102) slE_89 rfl rfl h103 hb171) gn rfl hns (by kernel_rfl) (by kernel_rfl) rfl rfl ?_
            refine wf_v 3 rfl (v_fldA fo_96_2 rfl) gn rfl hns (by kernel_rfl) (by kernel_rfl) rfl rfl ?_
            refine wf_v 4 rfl (v_ldA1 (kk := (x137 : Int).toNat * 9) (j := 8) (Sm w.heap.size F sw101 sb102) ld_3 rfl hr186 rfl (me 0 rfl)) gn rfl hns (by kernel_rfl) (by kernel_rfl) rfl rfl ?_
            refine wf_v 5 rfl (v_move rfl) gn rfl hns (by kernel_rfl) (by kernel_rfl) rfl rfl ?_
            refine wf_v 6 rfl (v_nilCheck rfl) gn rfl hns (by kernel_rfl) (by kernel_rfl) rfl rfl ?_
            refine wf_v 7 rfl (v_fldB fo_93_1 rfl) gn rfl hns (by kernel_rfl) (by kernel_rfl) rfl rfl ?_
            refine wf_v 8 rfl (v_ldB1 0 ld_3 rfl rfl rfl) gn rfl hns (by kernel_rfl) (by kernel_rfl) rfl rfl ?_
            refine wf_v 9 rfl (v_bin rfl rfl rfl) gn rfl hns (by kernel_rfl) (by kernel_rfl) rfl rfl ?_
            refine wf_end (by kernel_rfl) ?_
            by_cases hp193 : (ix x97 x137).at_ = x1.at_
            · have h := if_pos' hp193 h
              refine g_true (c := trellisref15_Model_Next_c37) rfl _ rfl ((eqi hp193)) ?_
              refine g_seq (c := trellisref15_Model_Next_c38) rfl ?_
              refine g_region (c := trellisref15_Model_Next_c40) rfl rfl ?_
              refine wl_v 0 rfl (v_move rfl) gn rfl ?_
              refine wl_v 1 rfl (v_move rfl) gn rfl ?_
              refine wl_v 2 rfl (v_move rfl) gn rfl ?_
              refine wl_v 3 rfl (v_bin rfl rfl rfl) gn rfl ?_
              obtain ⟨hb194, h⟩ := h
              obtain ⟨ce196, hK197, hr195⟩ := Rw.read (s := Sm w.heap.size F sw101 sb102) h103 hb194
              obtain ⟨A198, n199, c200, rfl, h201⟩ := k_trellisref15_Tree_out hK197
              refine wl_v 4 rfl (v_idxR (s := Sm w.heap.size F sw101 sb102) slE_89 rfl rfl h103 hb194) gn rfl ?_
              refine wl_v 5 rfl (v_fldA fo_96_2 rfl) gn rfl ?_
              refine wl_v 6 rfl (v_ldA1 (kk := (w64 (x137 + 1) : Int).toNat * 9) (j := 8) (Sm w.heap.size F sw101 sb102) ld_3 rfl hr195 rfl (me 0 rfl)) gn rfl ?_
              refine wl_v 7 rfl (v_nilCheck rfl) gn rfl ?_
              refine wl_v 8 rfl (v_fldB fo_93_1 rfl) gn rfl ?_
              refine wl_s 9 rfl (s_stB (vs := [.int .i64 ((ix x97 (w64 (x137 + 1))).at_)]) (cs' := [.slice A4 n5 c6, .int .i64 ((ix x97 (w64 (x137 + 1))).at_)]) (M' := [.box g2 Tb3 [.slice A4 n5 c6, .int .i64 ((ix x97 (w64 (x137 + 1))).at_)]]) 0 sz_3 rfl rfl rfl rfl rfl rfl rfl rfl rfl ?_) gn
              refine w_end 10 rfl ?_
              refine g_seq (c := trellisref15_Model_Next_c41) rfl ?_
              refine g_region (c := trellisref15_Model_Next_c42) rfl rfl ?_
              refine wl_v 0 rfl (v_assign rfl) gn rfl ?_
              refine w_end 1 rfl ?_
              have h := Out.inr hO1 h
              refine g_retR (c := trellisref15_Model_Next_c43) [.bool true] rfl Try.func21 rfl (.tmp rfl (.nil)) fun wr hLr => ?_
              have hMr : B.Loc w wr [.box g2 Tb3 [.slice A4 n5 c6, .int .i64 ((ix x97 (w64 (x137 + 1))).at_)]] [St w [[g2]]] := hLr.pick (rest := []) (perm_of_idx [0] [] rfl rfl (by kernel_rfl)) (sels [2] rfl)
              have hMi : ∀ e ∈ ([.box g2 Tb3 [.slice A4 n5 c6, .int .i64 ((ix x97 (w64 (x137 + 1))).at_)]] : List Ent), e ∈ ([.box g2 Tb3 [.slice A4 n5 c6, .int .i64 ((ix x97 (w64 (x137 + 1))).at_)]] : List Ent) := sels [0] rfl
              show trellisref15_Model_Next_R w F g2 Tb3 r (.returned (packV [.bool true])) wr
              rw [h]
              exact ⟨A4, n5, c6, rfl, hMr, (hLr.outR (s := Sm w.heap.size F w [[g2]]) hMi (me 1 rfl) Sm.ok h7)⟩
            · have h := if_neg' hp193 h
              refine g_false (c := trellisref15_Model_Next_c37) rfl _ rfl ((nei hp193)) ?_
              refine g_skip (c := trellisref15_Model_Next_c39) rfl ?_
              refine g_inBlock ?_
              refine g_region (c := trellisref15_Model_Next_c34) rfl rfl ?_
              refine wl_v 0 rfl (v_move rfl) gn rfl ?_
              refine wl_v 1 rfl (v_bin rfl rfl rfl) gn rfl ?_
              refine wl_v 2 rfl (v_assign rfl) gn rfl ?_
              refine w_end 3 rfl ?_
              refine g_inLoop ?_
              have ih := Out.inl hO1 h
              exact g_go [0, 1, 2] (ih ()) ⟨rfl, rfl, rfl, trivial⟩ (.cons_cons _ (.slnil)) rfl
          · have h := if_neg' hp170 h
            refine g_false (c := trellisref15_Model_Next_c30) rfl _ rfl ((decide_eq_false hp170)) ?_
            refine g_exit (c := trellisref15_Model_Next_c32) [.code trellisref15_Model_Next_c22] rfl rfl ?_
            refine g_seq (c := trellisref15_Model_Next_c22) rfl ?_
            refine g_region (c := trellisref15_Model_Next_c44) rfl rfl ?_
            refine wl_v 0 rfl (v_assign rfl) gn rfl ?_
            refine w_end 1 rfl ?_
            have h := Out.inr hO1 h
            refine g_retR (c := trellisref15_Model_Next_c45) [.bool false] rfl Try.func21 rfl (.tmp rfl (.nil)) fun wr hLr => ?_
            have hMr : B.Loc w wr [.box g2 Tb3 [.slice A4 n5 c6, .int .i64 x1.at_]] [St w [[g2]]] := hLr.pick (rest := []) (perm_of_idx [0] [] rfl rfl (by kernel_rfl)) (sels [2] rfl)
            have hMi : ∀ e ∈ ([.box g2 Tb3 [.slice A4 n5 c6, .int .i64 x1.at_]] : List Ent), e ∈ ([.box g2 Tb3 [.slice A4 n5 c6, .int .i64 x1.at_]] : List Ent) := sels [0] rfl
            show trellisref15_Model_Next_R w F g2 Tb3 r (.returned (packV [.bool false])) wr
            rw [h]
            exact ⟨A4, n5, c6, rfl, hMr, (hLr.outR (s := Sm w.heap.size F w [[g2]]) hMi (me 1 rfl) Sm.ok h7)⟩
        exact g_go [0, 1, 2] (key2 _ h ()) ⟨rfl, rfl, rfl, trivial⟩ (.cons_cons _ (.slnil)) rfl
      by_cases hp79 : r11.2.1 ≥ 0
      · have h := if_pos' hp79 h
        refine g_true (c := trellisref15_Model_Next_c16) rfl _ rfl ((decide_eq_true hp79)) ?_
        refine g_seq (c := trellisref15_Model_Next_c17) rfl ?_
        refine g_region (c := trellisref15_Model_Next_c19) rfl rfl ?_
        refine wl_v 0 rfl (v_move rfl) gn rfl ?_
        refine wl_v 1 rfl (v_nilCheck rfl) gn rfl ?_
        refine wl_v 2 rfl (v_fldB fo_93_0 rfl) gn rfl ?_
        refine wl_v 3 rfl (v_ldB1 0 ld_89 rfl rfl rfl) gn rfl ?_
        refine wl_v 4 rfl (v_move rfl) gn rfl ?_
        obtain ⟨r205, hv206, h⟩ := h
        refine wl_s 5 rfl (s_call [.slice A4 n5 c6, .int .i64 r11.2.1, .int .i64 (-1)] rfl Try.func48 rfl rfl rfl fun w202 hL203 => ?_) gn
        have hp204 : List.Perm ([.box g2 Tb3 [.slice A4 n5 c6, .int .i64 x1.at_]] : List Ent) (([] : List Ent) ++ ([.box g2 Tb3 [.slice A4 n5 c6, .int .i64 x1.at_]] : List Ent)) := perm_of_idx [] [0] rfl rfl (by kernel_rfl)
        refine Calls.mono (trellisref15_find_calls w202 (Fl ([Sm w.heap.size F w [[g2]]] : List Snap)) x1.f r11.2.1 (-1) A4 n5 c6 (Rw.mono h7 (hL203.toFl (me 0 rfl) (me 0 rfl))) (hL203.hFl (Sl := ([Sm w.heap.size F w [[g2]]] : List Snap)) hp204 (sels [0] rfl)) (hL203.into hp204 (Fl ([Sm w.heap.size F w [[g2]]] : List Snap))) r205 hv206) ?_
        rintro _ w211 ⟨A207, n208, c209, rfl, hM212, h210⟩
        obtain ⟨sb215, hL213, hv214⟩ := hL203.callB (Sl := ([Sm w.heap.size F w [[g2]]] : List Snap)) hp204 hM212 F (sels [0] rfl) ⟨Sm.ok, trivial⟩
        have h210 : At k_trellisref15_Tree (Sm w.heap.size F w211 sb215) A207 n208 c209 r205.1.kids := Rw.mono h210 hv214
        refine ⟨_, _, _, rfl, hL213, ?_⟩
        refine wl_v 6 rfl (v_move rfl) gn rfl ?_
        refine wl_v 7 rfl (v_extract rfl rfl) gn rfl ?_
        refine wl_v 8 rfl (v_extract rfl rfl) gn rfl ?_
        refine wl_v 9 rfl (v_extract rfl rfl) gn rfl ?_
        refine wl_s 10 rfl (s_alloc [.string (⟨#[]⟩ : ByteArray), .bool false, .string (⟨#[]⟩ : ByteArray), .int .i64 0, .int .i64 0, .int .i64 0, .int .i64 0, .slice none 0 0, .int .i64 0] zr_96 rfl fun gb216 => ?_) gn
        refine wl_s 11 rfl (s_stB (vs := [.string r205.1.node.name, .bool r205.1.node.named, .string r205.1.node.field, .int .i64 r205.1.node.from_, .int .i64 r205.1.node.to, .int .i64 r205.1.node.kids, .int .i64 r205.1.node.leaf, .slice A207 n208 c209, .int .i64 r205.1.at_]) (cs' := [.string r205.1.node.name, .bool r205.1.node.named, .string r205.1.node.field, .int .i64 r205.1.node.from_, .int .i64 r205.1.node.to, .int .i64 r205.1.node.kids, .int .i64 r205.1.node.leaf, .slice A207 n208 c209, .int .i64 r205.1.at_]) (M' := [.box gb216 96 [.string r205.1.node.name, .bool r205.1.node.named, .string r205.1.node.field, .int .i64 r205.1.node.from_, .int .i64 r205.1.node.to, .int .i64 r205.1.node.kids, .int .i64 r205.1.node.leaf, .slice A207 n208 c209, .int .i64 r205.1.at_], .box g2 Tb3 [.slice A4 n5 c6, .int .i64 x1.at_]]) 0 sz_96 rfl rfl rfl rfl rfl rfl rfl rfl rfl ?_) gn
        refine wl_v 12 rfl (v_assign rfl) gn rfl ?_
        refine wl_v 13 rfl (v_assign rfl) gn rfl ?_
        refine w_end 14 rfl ?_
        refine g_region (c := trellisref15_Model_Next_c20) rfl rfl ?_
        refine wl_v 0 rfl (v_fldB fo_96_1 rfl) gn rfl ?_
        refine wl_v 1 rfl (v_ldB1 0 ld_89 rfl rfl rfl) gn rfl ?_
        refine wl_v 2 rfl (v_assign rfl) gn rfl ?_
        refine w_end 3 rfl ?_
        exact g_go [0, 1, 2] (j1 r205.1.kids h A207 n208 c209 w211 sb215 h210) ⟨rfl, rfl, trivial⟩ (.cons _ (.cons_cons _ (.slnil))) rfl
      · have h := if_neg' hp79 h
        refine g_false (c := trellisref15_Model_Next_c16) rfl _ rfl ((decide_eq_false hp79)) ?_
        refine g_skip (c := trellisref15_Model_Next_c18) rfl ?_
        exact g_go [0, 0, 1] (j1 x1.f h A4 n5 c6 w [[g2]] h7) ⟨rfl, rfl, trivial⟩ (.cons_cons _ (.slnil)) rfl
    · have h := if_neg' hp78 h
      refine g_true (c := trellisref15_Model_Next_c8) rfl _ rfl ((nt (bf hp78))) ?_
      refine g_seq (c := trellisref15_Model_Next_c9) rfl ?_
      refine g_region (c := trellisref15_Model_Next_c46) rfl rfl ?_
      refine wl_v 0 rfl (v_assign rfl) gn rfl ?_
      refine w_end 1 rfl ?_
      refine g_retR (c := trellisref15_Model_Next_c47) [.bool false] rfl Try.func21 rfl (.tmp rfl (.nil)) fun wr hLr => ?_
      have hMr : B.Loc w wr [.box g2 Tb3 [.slice A4 n5 c6, .int .i64 x1.at_]] [St w [[g2]]] := hLr.pick (rest := []) (perm_of_idx [0] [] rfl rfl (by kernel_rfl)) (sels [1] rfl)
      have hMi : ∀ e ∈ ([.box g2 Tb3 [.slice A4 n5 c6, .int .i64 x1.at_]] : List Ent), e ∈ ([.box g2 Tb3 [.slice A4 n5 c6, .int .i64 x1.at_]] : List Ent) := sels [0] rfl
      show trellisref15_Model_Next_R w F g2 Tb3 r (.returned (packV [.bool false])) wr
      rw [h]
      exact ⟨A4, n5, c6, rfl, hMr, (hLr.outR (s := Sm w.heap.size F w [[g2]]) hMi (me 0 rfl) Sm.ok h7)⟩
  have hns : Region.noSelect (Code.ops trellisref15_Model_Next_c3) = true := by kernel_rfl
  refine g_drawF (c := trellisref15_Model_Next_c3) [.box g2 Tb3 [.slice A4 n5 c6, .int .i64 x1.at_]] [Sm w.heap.size F w [[g2]], St w [[g2]]] [] 17 rfl rfl mix rfl (.cons_cons _ (.slnil)) (sels [0, 1] rfl) ?_
  refine wf_v 0 rfl (v_move rfl) gn rfl hns (by kernel_rfl) (by kernel_rfl) rfl rfl ?_
  refine wf_v 1 rfl (v_nilCheck rfl) gn rfl hns (by kernel_rfl) (by kernel_rfl) rfl rfl ?_
  refine wf_v 2 rfl (v_fldB fo_93_0 rfl) gn rfl hns (by kernel_rfl) (by kernel_rfl) rfl rfl ?_
  refine wf_v 3 rfl (v_ldB1 0 ld_89 rfl rfl rfl) gn rfl hns (by kernel_rfl) (by kernel_rfl) rfl rfl ?_
  refine wf_v 4 rfl (v_move rfl) gn rfl hns (by kernel_rfl) (by kernel_rfl) rfl rfl ?_
  refine wf_v 5 rfl (v_nilCheck rfl) gn rfl hns (by kernel_rfl) (by kernel_rfl) rfl rfl ?_
  refine wf_v 6 rfl (v_fldB fo_93_1 rfl) gn rfl hns (by kernel_rfl) (by kernel_rfl) rfl rfl ?_
  refine wf_v 7 rfl (v_ldB1 0 ld_3 rfl rfl rfl) gn rfl hns (by kernel_rfl) (by kernel_rfl) rfl rfl ?_
  refine wf_all [8, 13] (by kernel_rfl) rfl ⟨?_, ?_, trivial⟩
  · refine on_s 8 rfl gn rfl (s_call [.slice A4 n5 c6, .int .i64 x1.at_, .int .i64 (-1)] rfl Try.func48 rfl rfl rfl fun w231 hL232 => ?_)
    have hp233 : List.Perm ([.box g2 Tb3 [.slice A4 n5 c6, .int .i64 x1.at_]] : List Ent) (([] : List Ent) ++ ([.box g2 Tb3 [.slice A4 n5 c6, .int .i64 x1.at_]] : List Ent)) := perm_of_idx [] [0] rfl rfl (by kernel_rfl)
    refine Calls.mono (trellisref15_find_calls w231 (Fl ([Sm w.heap.size F w [[g2]]] : List Snap)) x1.f x1.at_ (-1) A4 n5 c6 (Rw.mono h7 (hL232.toFl (me 0 rfl) (me 0 rfl))) (hL232.hFl (Sl := ([Sm w.heap.size F w [[g2]]] : List Snap)) hp233 (sels [0] rfl)) (hL232.into hp233 (Fl ([Sm w.heap.size F w [[g2]]] : List Snap))) r11 hv12) ?_
    rintro _ w238 ⟨A234, n235, c236, rfl, hM239, h237⟩
    obtain ⟨sb242, hL240, hv241⟩ := hL232.callB (Sl := ([Sm w.heap.size F w [[g2]]] : List Snap)) hp233 hM239 F (sels [0] rfl) ⟨Sm.ok, trivial⟩
    have h237 : At k_trellisref15_Tree (Sm w.heap.size F w238 sb242) A234 n235 c236 r11.1.kids := Rw.mono h237 hv241
    refine ⟨_, _, _, rfl, hL240, ?_⟩
    refine ⟨sels [0] rfl, sels [1, 2] rfl, ?_⟩
    refine wf_v 9 rfl (v_move rfl) gn rfl hns (by kernel_rfl) (by kernel_rfl) rfl rfl ?_
    refine wf_v 10 rfl (v_extract rfl rfl) gn rfl hns (by kernel_rfl) (by kernel_rfl) rfl rfl ?_
    refine wf_v 11 rfl (v_extract rfl rfl) gn rfl hns (by kernel_rfl) (by kernel_rfl) rfl rfl ?_
    refine wf_v 12 rfl (v_extract rfl rfl) gn rfl hns (by kernel_rfl) (by kernel_rfl) rfl rfl ?_
    refine wf_all [13] (by kernel_rfl) rfl ⟨on_s 13 rfl gn rfl (s_alloc [.string (⟨#[]⟩ : ByteArray), .bool false, .string (⟨#[]⟩ : ByteArray), .int .i64 0, .int .i64 0, .int .i64 0, .int .i64 0, .slice none 0 0, .int .i64 0] zr_96 rfl fun gb244 => ?_), trivial⟩
    refine ⟨sels [1] rfl, sels [1, 2] rfl, ?_⟩
    refine wf_all [14] (by kernel_rfl) rfl ⟨on_s 14 rfl gn rfl (s_stB (vs := [.string r11.1.node.name, .bool r11.1.node.named, .string r11.1.node.field, .int .i64 r11.1.node.from_, .int .i64 r11.1.node.to, .int .i64 r11.1.node.kids, .int .i64 r11.1.node.leaf, .slice A234 n235 c236, .int .i64 r11.1.at_]) (cs' := [.string r11.1.node.name, .bool r11.1.node.named, .string r11.1.node.field, .int .i64 r11.1.node.from_, .int .i64 r11.1.node.to, .int .i64 r11.1.node.kids, .int .i64 r11.1.node.leaf, .slice A234 n235 c236, .int .i64 r11.1.at_]) (M' := [.box gb244 96 [.string r11.1.node.name, .bool r11.1.node.named, .string r11.1.node.field, .int .i64 r11.1.node.from_, .int .i64 r11.1.node.to, .int .i64 r11.1.node.kids, .int .i64 r11.1.node.leaf, .slice A234 n235 c236, .int .i64 r11.1.at_], .box g2 Tb3 [.slice A4 n5 c6, .int .i64 x1.at_]]) 0 sz_96 rfl rfl rfl rfl rfl rfl rfl rfl rfl ?_), trivial⟩
    refine ⟨sels [1] rfl, sels [1, 2] rfl, ?_⟩
    refine wf_v 15 rfl (v_assign rfl) gn rfl hns (by kernel_rfl) (by kernel_rfl) rfl rfl ?_
    refine wf_v 16 rfl (v_assign rfl) gn rfl hns (by kernel_rfl) (by kernel_rfl) rfl rfl ?_
    refine wf_end (by kernel_rfl) ?_
    exact g_go [1, 2] (d1 ()) ⟨rfl, rfl, rfl, trivial⟩ (.cons _ (.cons_cons _ (.slnil))) rfl
  · refine on_s 13 rfl gn rfl (s_alloc [.string (⟨#[]⟩ : ByteArray), .bool false, .string (⟨#[]⟩ : ByteArray), .int .i64 0, .int .i64 0, .int .i64 0, .int .i64 0, .slice none 0 0, .int .i64 0] zr_96 rfl fun gb245 => ?_)
    refine ⟨sels [1] rfl, sels [0, 1] rfl, ?_⟩
    refine wf_all [8] (by kernel_rfl) rfl ⟨on_s 8 rfl gn rfl (s_call [.slice A4 n5 c6, .int .i64 x1.at_, .int .i64 (-1)] rfl Try.func48 rfl rfl rfl fun w258 hL259 => ?_), trivial⟩
    have hp260 : List.Perm ([.box gb245 96 [.string (⟨#[]⟩ : ByteArray), .bool false, .string (⟨#[]⟩ : ByteArray), .int .i64 0, .int .i64 0, .int .i64 0, .int .i64 0, .slice none 0 0, .int .i64 0], .box g2 Tb3 [.slice A4 n5 c6, .int .i64 x1.at_]] : List Ent) (([] : List Ent) ++ ([.box gb245 96 [.string (⟨#[]⟩ : ByteArray), .bool false, .string (⟨#[]⟩ : ByteArray), .int .i64 0, .int .i64 0, .int .i64 0, .int .i64 0, .slice none 0 0, .int .i64 0], .box g2 Tb3 [.slice A4 n5 c6, .int .i64 x1.at_]] : List Ent)) := perm_of_idx [] [0, 1] rfl rfl (by kernel_rfl)
    refine Calls.mono (trellisref15_find_calls w258 (Fl ([Sm w.heap.size F w [[g2]]] : List Snap)) x1.f x1.at_ (-1) A4 n5 c6 (Rw.mono h7 (hL259.toFl (me 0 rfl) (me 0 rfl))) (hL259.hFl (Sl := ([Sm w.heap.size F w [[g2]]] : List Snap)) hp260 (sels [0] rfl)) (hL259.into hp260 (Fl ([Sm w.heap.size F w [[g2]]] : List Snap))) r11 hv12) ?_
    rintro _ w265 ⟨A261, n262, c263, rfl, hM266, h264⟩
    obtain ⟨sb269, hL267, hv268⟩ := hL259.callB (Sl := ([Sm w.heap.size F w [[g2]]] : List Snap)) hp260 hM266 F (sels [0] rfl) ⟨Sm.ok, trivial⟩
    have h264 : At k_trellisref15_Tree (Sm w.heap.size F w265 sb269) A261 n262 c263 r11.1.kids := Rw.mono h264 hv268
    refine ⟨_, _, _, rfl, hL267, ?_⟩
    refine ⟨sels [1] rfl, sels [1, 2] rfl, ?_⟩
    refine wf_v 9 rfl (v_move rfl) gn rfl hns (by kernel_rfl) (by kernel_rfl) rfl rfl ?_
    refine wf_v 10 rfl (v_extract rfl rfl) gn rfl hns (by kernel_rfl) (by kernel_rfl) rfl rfl ?_
    refine wf_v 11 rfl (v_extract rfl rfl) gn rfl hns (by kernel_rfl) (by kernel_rfl) rfl rfl ?_
    refine wf_v 12 rfl (v_extract rfl rfl) gn rfl hns (by kernel_rfl) (by kernel_rfl) rfl rfl ?_
    refine wf_all [14] (by kernel_rfl) rfl ⟨on_s 14 rfl gn rfl (s_stB (vs := [.string r11.1.node.name, .bool r11.1.node.named, .string r11.1.node.field, .int .i64 r11.1.node.from_, .int .i64 r11.1.node.to, .int .i64 r11.1.node.kids, .int .i64 r11.1.node.leaf, .slice A261 n262 c263, .int .i64 r11.1.at_]) (cs' := [.string r11.1.node.name, .bool r11.1.node.named, .string r11.1.node.field, .int .i64 r11.1.node.from_, .int .i64 r11.1.node.to, .int .i64 r11.1.node.kids, .int .i64 r11.1.node.leaf, .slice A261 n262 c263, .int .i64 r11.1.at_]) (M' := [.box gb245 96 [.string r11.1.node.name, .bool r11.1.node.named, .string r11.1.node.field, .int .i64 r11.1.node.from_, .int .i64 r11.1.node.to, .int .i64 r11.1.node.kids, .int .i64 r11.1.node.leaf, .slice A261 n262 c263, .int .i64 r11.1.at_], .box g2 Tb3 [.slice A4 n5 c6, .int .i64 x1.at_]]) 0 sz_96 rfl rfl rfl rfl rfl rfl rfl rfl rfl ?_), trivial⟩
    refine ⟨sels [1] rfl, sels [1, 2] rfl, ?_⟩
    refine wf_v 15 rfl (v_assign rfl) gn rfl hns (by kernel_rfl) (by kernel_rfl) rfl rfl ?_
    refine wf_v 16 rfl (v_assign rfl) gn rfl hns (by kernel_rfl) (by kernel_rfl) rfl rfl ?_
    refine wf_end (by kernel_rfl) ?_
    exact g_go [1, 2] (d1 ()) ⟨rfl, rfl, rfl, trivial⟩ (.cons _ (.cons_cons _ (.slnil))) rfl
noncomputable abbrev tree_Cursor_Up_c0 : Code := bodyOf Try.f22
noncomputable abbrev tree_Cursor_Up_c1 : Code := Code.fst tree_Cursor_Up_c0
noncomputable abbrev tree_Cursor_Up_c2 : Code := Code.snd tree_Cursor_Up_c0
noncomputable abbrev tree_Cursor_Up_c3 : Code := Code.fst tree_Cursor_Up_c2
noncomputable abbrev tree_Cursor_Up_c4 : Code := Code.snd tree_Cursor_Up_c2
abbrev tree_Cursor_Up_R (w : World) (F : Nat → Prop) (g2 : Nat) (Tb3 : Nat) (r : Bool × tree_Cursor) : Ending → World → Prop := fun e w' => ∃ A0 : Option Addr, ∃ n0 : Nat, ∃ c0 : Nat, ∃ A1 : Option Addr, ∃ n1 : Nat, ∃ c1 : Nat, ∃ A2 : Option Addr, ∃ n2 : Nat, ∃ c2 : Nat, e = .returned (.bool r.1) ∧ B.Loc w w' [.box g2 Tb3 [.slice A0 n0 c0, .slice A1 n1 c1, .slice A2 n2 c2, .bool r.2.stand.forest.ok, .int .i64 r.2.stand.at_]] [St w [[g2]]] ∧ Rw k_api_Node w' (Nw w w' F [.box g2 Tb3 [.slice A0 n0 c0, .slice A1 n1 c1, .slice A2 n2 c2, .bool r.2.stand.forest.ok, .int .i64 r.2.stand.at_]]) A0 n0 c0 r.2.stand.forest.nodes ∧ Rw (kInt .i64) w' (Nw w w' F [.box g2 Tb3 [.slice A0 n0 c0, .slice A1 n1 c1, .slice A2 n2 c2, .bool r.2.stand.forest.ok, .int .i64 r.2.stand.at_]]) A1 n1 c1 r.2.stand.forest.parent ∧ Rw (kInt .i64) w' (Nw w w' F [.box g2 Tb3 [.slice A0 n0 c0, .slice A1 n1 c1, .slice A2 n2 c2, .bool r.2.stand.forest.ok, .int .i64 r.2.stand.at_]]) A2 n2 c2 r.2.stand.forest.end_
noncomputable abbrev tree_Cursor_Up_C (w : World) (F : Nat → Prop) (g2 : Nat) (Tb3 : Nat) (r : Bool × tree_Cursor) : Cx := ⟨Try.prog, 22, Try.f22, 47, tree_Cursor_Up_R w F g2 Tb3 r, w⟩
theorem tree_Cursor_Up_calls (w : World) (F : Nat → Prop) (x1 : tree_Cursor) (g2 : Nat) (Tb3 : Nat) (A4 : Option Addr) (n5 : Nat) (c6 : Nat) (A8 : Option Addr) (n9 : Nat) (c10 : Nat) (A12 : Option Addr) (n13 : Nat) (c14 : Nat) (h7 : Rw k_api_Node w F A4 n5 c6 x1.stand.forest.nodes) (h11 : Rw (kInt .i64) w F A8 n9 c10 x1.stand.forest.parent) (h15 : Rw (kInt .i64) w F A12 n13 c14 x1.stand.forest.end_) (hF : ∀ b, F b → b < w.heap.size ∧ ∀ o ∈ ([[g2]] : List (List Nat)), b ∉ o) (hL0 : B.Loc w w [.box g2 Tb3 [.slice A4 n5 c6, .slice A8 n9 c10, .slice A12 n13 c14, .bool x1.stand.forest.ok, .int .i64 x1.stand.at_]] [Sm w.heap.size F w [[g2]], St w [[g2]]]) (r : Bool × tree_Cursor) (h : tree_Cursor_Up x1 r) : Calls Try.prog 22 #[.pointer (some ⟨g2, 0, none⟩)] w (tree_Cursor_Up_R w F g2 Tb3 r) := by
  unfold tree_Cursor_Up at h
  have h7 := Rw.into (bs := [[g2]]) hF h7
  have h11 := Rw.into (bs := [[g2]]) hF h11
  have h15 := Rw.into (bs := [[g2]]) hF h15
  refine calls_of_Loc (vs := [.pointer (some ⟨g2, 0, none⟩)]) 47 Try.func22 rfl Try.ntmps22 rfl hL0 ?_
  show G (tree_Cursor_Up_C w F g2 Tb3 r) _ _ _ _
  refine g_seq (c := tree_Cursor_Up_c0) rfl ?_
  refine g_region (c := tree_Cursor_Up_c1) rfl rfl ?_
  refine wl_v 0 rfl (v_assign rfl) gn rfl ?_
  refine w_end 1 rfl ?_
  refine g_seq (c := tree_Cursor_Up_c2) rfl ?_
  obtain ⟨r19, hv20, h⟩ := h
  by_cases hp24 : r19 = true
  · have h := if_pos' hp24 h
    obtain ⟨hb25, h⟩ := h
    obtain ⟨r31, hv32, h⟩ := h
    have hns : Region.noSelect (Code.ops tree_Cursor_Up_c3) = true := by kernel_rfl
    refine g_drawF (c := tree_Cursor_Up_c3) [.box g2 Tb3 [.slice A4 n5 c6, .slice A8 n9 c10, .slice A12 n13 c14, .bool x1.stand.forest.ok, .int .i64 x1.stand.at_]] [Sm w.heap.size F w [[g2]], St w [[g2]]] [42, 43, 44] 45 rfl rfl mix rfl (.cons_cons _ (.slnil)) (sels [0, 1] rfl) ?_
    refine wf_v 0 rfl (v_move rfl) gn rfl hns (by kernel_rfl) (by kernel_rfl) (by kernel_rfl) rfl ?_
    refine wf_v 1 rfl (v_nilCheck rfl) gn rfl hns (by kernel_rfl) (by kernel_rfl) (by kernel_rfl) rfl ?_
    refine wf_v 2 rfl (v_fldB fo_36_0 rfl) gn rfl hns (by kernel_rfl) (by kernel_rfl) (by kernel_rfl) rfl ?_
    refine wf_v 3 rfl (v_fldB fo_34_0 rfl) gn rfl hns (by kernel_rfl) (by kernel_rfl) (by kernel_rfl) rfl ?_
    refine wf_v 4 rfl (v_ldB [.slice A4 n5 c6, .slice A8 n9 c10, .slice A12 n13 c14, .bool x1.stand.forest.ok] 0 ld_32 rfl rfl rfl rfl) gn rfl hns (by kernel_rfl) (by kernel_rfl) (by kernel_rfl) rfl ?_
    refine wf_v 5 rfl (v_move rfl) gn rfl hns (by kernel_rfl) (by kernel_rfl) (by kernel_rfl) rfl ?_
    refine wf_v 6 rfl (v_nilCheck rfl) gn rfl hns (by kernel_rfl) (by kernel_rfl) (by kernel_rfl) rfl ?_
    refine wf_v 7 rfl (v_fldB fo_36_0 rfl) gn rfl hns (by kernel_rfl) (by kernel_rfl) (by kernel_rfl) rfl ?_
    refine wf_v 8 rfl (v_fldB fo_34_1 rfl) gn rfl hns (by kernel_rfl) (by kernel_rfl) (by kernel_rfl) rfl ?_
    refine wf_v 9 rfl (v_ldB1 0 ld_3 rfl rfl rfl) gn rfl hns (by kernel_rfl) (by kernel_rfl) (by kernel_rfl) rfl ?_
    refine wf_all [10] (by kernel_rfl) rfl ⟨on_s 10 rfl gn rfl (s_call [.agg #[.slice A4 n5 c6, .slice A8 n9 c10, .slice A12 n13 c14, .bool x1.stand.forest.ok], .int .i64 x1.stand.at_] rfl Try.func46 rfl rfl rfl fun w91 hL92 => ?_), trivial⟩
    have hp93 : List.Perm ([.box g2 Tb3 [.slice A4 n5 c6, .slice A8 n9 c10, .slice A12 n13 c14, .bool x1.stand.forest.ok, .int .i64 x1.stand.at_]] : List Ent) (([] : List Ent) ++ ([.box g2 Tb3 [.slice A4 n5 c6, .slice A8 n9 c10, .slice A12 n13 c14, .bool x1.stand.forest.ok, .int .i64 x1.stand.at_]] : List Ent)) := perm_of_idx [] [0] rfl rfl (by kernel_rfl)
    refine Calls.mono (tree_forest_has_calls w91 (Fl ([] : List Snap)) x1.stand.forest x1.stand.at_ A4 n5 c6 A8 n9 c10 A12 n13 c14 (Rw.mono h7 (hL92.toSt hp93 (me 0 rfl))) (Rw.mono h11 (hL92.toSt hp93 (me 0 rfl))) (Rw.mono h15 (hL92.toSt hp93 (me 0 rfl))) (hL92.hFl (Sl := ([] : List Snap)) hp93 (sels [] rfl)) (hL92.into hp93 (Fl ([] : List Snap))) r19 hv20) ?_
    rintro _ w94 ⟨rfl, hM95⟩
    have hL96 := hL92.call hp93 hM95
    refine ⟨_, _, _, rfl, hL96, ?_⟩
    refine ⟨sels [0] rfl, sels [0, 1] rfl, ?_⟩
    refine wf_v 11 rfl (v_move rfl) gn rfl hns (by kernel_rfl) (by kernel_rfl) (by kernel_rfl) rfl ?_
    refine wf_bool 14 rfl (hp24) ?_
    refine wf_v 12 rfl (v_move rfl) (gy 14 rfl rfl) rfl hns (by kernel_rfl) (by kernel_rfl) (by kernel_rfl) rfl ?_
    refine wf_v 13 rfl (v_nilCheck rfl) (gy 14 rfl rfl) rfl hns (by kernel_rfl) (by kernel_rfl) (by kernel_rfl) rfl ?_
    refine wf_v 14 rfl (v_fldB fo_36_0 rfl) (gy 14 rfl rfl) rfl hns (by kernel_rfl) (by kernel_rfl) (by kernel_rfl) rfl ?_
    refine wf_v 15 rfl (v_move rfl) (gy 14 rfl rfl) rfl hns (by kernel_rfl) (by kernel_rfl) (by kernel_rfl) rfl ?_
    refine wf_v 16 rfl (v_nilCheck rfl) (gy 14 rfl rfl) rfl hns (by kernel_rfl) (by kernel_rfl) (by kernel_rfl) rfl ?_
    refine wf_v 17 rfl (v_fldB fo_36_0 rfl) (gy 14 rfl rfl) rfl hns (by kernel_rfl) (by kernel_rfl) (by kernel_rfl) rfl ?_
    refine wf_v 18 rfl (v_fldB fo_34_0 rfl) (gy 14 rfl rfl) rfl hns (by kernel_rfl) (by kernel_rfl) (by kernel_rfl) rfl ?_
    refine wf_v 19 rfl (v_fldB fo_32_1 rfl) (gy 14 rfl rfl) rfl hns (by kernel_rfl) (by kernel_rfl) (by kernel_rfl) rfl ?_
    refine wf_v 20 rfl (v_ldB1 0 ld_23 rfl rfl rfl) (gy 14 rfl rfl) rfl hns (by kernel_rfl) (by kernel_rfl) (by kernel_rfl) rfl ?_
    refine wf_v 21 rfl (v_move rfl) (gy 14 rfl rfl) rfl hns (by kernel_rfl) (by kernel_rfl) (by kernel_rfl) rfl ?_
    refine wf_v 22 rfl (v_nilCheck rfl) (gy 14 rfl rfl) rfl hns (by kernel_rfl) (by kernel_rfl) (by kernel_rfl) rfl ?_
    refine wf_v 23 rfl (v_fldB fo_36_0 rfl) (gy 14 rfl rfl) rfl hns (by kernel_rfl) (by kernel_rfl) (by kernel_rfl) rfl ?_
    refine wf_v 24 rfl (v_fldB fo_34_1 rfl) (gy 14 rfl rfl) rfl hns (by kernel_rfl) (by kernel_rfl) (by kernel_rfl) rfl ?_
    refine wf_v 25 rfl (v_ldB1 0 ld_3 rfl rfl rfl) (gy 14 rfl rfl) rfl hns (by kernel_rfl) (by kernel_rfl) (by kernel_rfl) rfl ?_
    have hr97 := Rw.readF (s := Sm w.heap.size F w [[g2]]) (hl := (hlI .i64)) (h1 := (hone_int .i64)) h11 hb25
    refine wf_v 26 rfl (v_idxR (s := Sm w.heap.size F w [[g2]]) slE_23 rfl rfl h11 hb25) (gy 14 rfl rfl) rfl hns (by kernel_rfl) (by kernel_rfl) (by kernel_rfl) rfl ?_
    refine wf_v 27 rfl (v_ldA1 (kk := (x1.stand.at_ : Int).toNat * 1) (j := 0) (Sm w.heap.size F w [[g2]]) ld_3 rfl hr97 rfl (me 0 rfl)) (gy 14 rfl rfl) rfl hns (by kernel_rfl) (by kernel_rfl) (by kernel_rfl) rfl ?_
    refine wf_v 28 rfl (v_move rfl) (gy 14 rfl rfl) rfl hns (by kernel_rfl) (by kernel_rfl) (by kernel_rfl) rfl ?_
    refine wf_v 29 rfl (v_nilCheck rfl) (gy 14 rfl rfl) rfl hns (by kernel_rfl) (by kernel_rfl) (by kernel_rfl) rfl ?_
    refine wf_v 30 rfl (v_fldB fo_36_0 rfl) (gy 14 rfl rfl) rfl hns (by kernel_rfl) (by kernel_rfl) (by kernel_rfl) rfl ?_
    refine wf_v 31 rfl (v_fldB fo_34_0 rfl) (gy 14 rfl rfl) rfl hns (by kernel_rfl) (by kernel_rfl) (by kernel_rfl) rfl ?_
    refine wf_v 32 rfl (v_fldB fo_32_1 rfl) (gy 14 rfl rfl) rfl hns (by kernel_rfl) (by kernel_rfl) (by kernel_rfl) rfl ?_
    refine wf_v 33 rfl (v_ldB1 0 ld_23 rfl rfl rfl) (gy 14 rfl rfl) rfl hns (by kernel_rfl) (by kernel_rfl) (by kernel_rfl) rfl ?_
    refine wf_v 34 rfl (v_move rfl) (gy 14 rfl rfl) rfl hns (by kernel_rfl) (by kernel_rfl) (by kernel_rfl) rfl ?_
    refine wf_v 35 rfl (v_nilCheck rfl) (gy 14 rfl rfl) rfl hns (by kernel_rfl) (by kernel_rfl) (by kernel_rfl) rfl ?_
    refine wf_v 36 rfl (v_fldB fo_36_0 rfl) (gy 14 rfl rfl) rfl hns (by kernel_rfl) (by kernel_rfl) (by kernel_rfl) rfl ?_
    refine wf_v 37 rfl (v_fldB fo_34_1 rfl) (gy 14 rfl rfl) rfl hns (by kernel_rfl) (by kernel_rfl) (by kernel_rfl) rfl ?_
    refine wf_v 38 rfl (v_ldB1 0 ld_3 rfl rfl rfl) (gy 14 rfl rfl) rfl hns (by kernel_rfl) (by kernel_rfl) (by kernel_rfl) rfl ?_
    have hr98 := Rw.readF (s := Sm w.heap.size F w [[g2]]) (hl := (hlI .i64)) (h1 := (hone_int .i64)) h11 hb25
    refine wf_v 39 rfl (v_idxR (s := Sm w.heap.size F w [[g2]]) slE_23 rfl rfl h11 hb25) (gy 14 rfl rfl) rfl hns (by kernel_rfl) (by kernel_rfl) (by kernel_rfl) rfl ?_
    refine wf_v 40 rfl (v_ldA1 (kk := (x1.stand.at_ : Int).toNat * 1) (j := 0) (Sm w.heap.size F w [[g2]]) ld_3 rfl hr98 rfl (me 0 rfl)) (gy 14 rfl rfl) rfl hns (by kernel_rfl) (by kernel_rfl) (by kernel_rfl) rfl ?_
    refine wf_v 41 rfl (v_bin rfl rfl rfl) (gy 14 rfl rfl) rfl hns (by kernel_rfl) (by kernel_rfl) (by kernel_rfl) rfl ?_
    refine wf_all [42] (by kernel_rfl) rfl ⟨on_l 42 rfl (gy 14 rfl rfl) rfl (s_call [.pointer (some ⟨g2, 0, none⟩), .int .i64 (ix x1.stand.forest.parent x1.stand.at_), .bool (decide (ix x1.stand.forest.parent x1.stand.at_ ≥ 0))] rfl Try.func45 rfl rfl rfl fun w99 hL100 => ?_), trivial⟩
    have hp101 : List.Perm ([.box g2 Tb3 [.slice A4 n5 c6, .slice A8 n9 c10, .slice A12 n13 c14, .bool x1.stand.forest.ok, .int .i64 x1.stand.at_]] : List Ent) (([.box g2 Tb3 [.slice A4 n5 c6, .slice A8 n9 c10, .slice A12 n13 c14, .bool x1.stand.forest.ok, .int .i64 x1.stand.at_]] : List Ent) ++ ([] : List Ent)) := perm_of_idx [0] [] rfl rfl (by kernel_rfl)
    refine Calls.mono (tree_stand_to_calls w99 (Fl ([Sm w.heap.size F w [[g2]]] : List Snap)) x1.stand (ix x1.stand.forest.parent x1.stand.at_) (decide (ix x1.stand.forest.parent x1.stand.at_ ≥ 0)) g2 Tb3 A4 n5 c6 A8 n9 c10 A12 n13 c14 (Rw.mono h7 (hL100.toFl (me 0 rfl) (me 0 rfl))) (Rw.mono h11 (hL100.toFl (me 0 rfl) (me 0 rfl))) (Rw.mono h15 (hL100.toFl (me 0 rfl) (me 0 rfl))) (hL100.hFl (Sl := ([Sm w.heap.size F w [[g2]]] : List Snap)) hp101 (sels [0] rfl)) (hL100.into hp101 (Fl ([Sm w.heap.size F w [[g2]]] : List Snap))) r31 hv32) ?_
    rintro _ w114 ⟨A102, n103, c104, A106, n107, c108, A110, n111, c112, rfl, hM115, h105, h109, h113⟩
    obtain ⟨sb118, hL116, hv117⟩ := hL100.callB (Sl := ([Sm w.heap.size F w [[g2]]] : List Snap)) hp101 hM115 F (sels [0] rfl) ⟨Sm.ok, trivial⟩
    have h105 : At k_api_Node (Sm w.heap.size F w114 sb118) A102 n103 c104 r31.2.forest.nodes := Rw.mono h105 hv117
    have h109 : At (kInt .i64) (Sm w.heap.size F w114 sb118) A106 n107 c108 r31.2.forest.parent := Rw.mono h109 hv117
    have h113 : At (kInt .i64) (Sm w.heap.size F w114 sb118) A110 n111 c112 r31.2.forest.end_ := Rw.mono h113 hv117
    refine ⟨_, _, _, rfl, hL116, ?_⟩
    unfold NxL
    refine wf_all [43] (by kernel_rfl) rfl ⟨on_l 43 rfl gn rfl (s_val (v_pick (b := true) rfl rfl) rfl ?_), trivial⟩
    unfold NxL
    refine wf_all [44] (by kernel_rfl) rfl ⟨on_l 44 rfl gn rfl (s_val (v_assign rfl) rfl ?_), trivial⟩
    unfold NxL
    refine wf_end (by kernel_rfl) ?_
    refine g_retR (c := tree_Cursor_Up_c4) [.bool r31.1] rfl Try.func22 rfl (.tmp rfl (.nil)) fun wr hLr => ?_
    have hMr : B.Loc w wr [.box g2 Tb3 [.slice A102 n103 c104, .slice A106 n107 c108, .slice A110 n111 c112, .bool r31.2.forest.ok, .int .i64 r31.2.at_]] [St w [[g2]]] := hLr.pick (rest := []) (perm_of_idx [0] [] rfl rfl (by kernel_rfl)) (sels [2] rfl)
    have hMi : ∀ e ∈ ([.box g2 Tb3 [.slice A102 n103 c104, .slice A106 n107 c108, .slice A110 n111 c112, .bool r31.2.forest.ok, .int .i64 r31.2.at_]] : List Ent), e ∈ ([.box g2 Tb3 [.slice A102 n103 c104, .slice A106 n107 c108, .slice A110 n111 c112, .bool r31.2.forest.ok, .int .i64 r31.2.at_]] : List Ent) := sels [0] rfl
    show tree_Cursor_Up_R w F g2 Tb3 r (.returned (packV [.bool r31.1])) wr
    rw [h]
    exact ⟨A102, n103, c104, A106, n107, c108, A110, n111, c112, rfl, hMr, (hLr.outR (s := Sm w.heap.size F w114 sb118) hMi (me 0 rfl) Sm.ok h105), (hLr.outR (s := Sm w.heap.size F w114 sb118) hMi (me 0 rfl) Sm.ok h109), (hLr.outR (s := Sm w.heap.size F w114 sb118) hMi (me 0 rfl) Sm.ok h113)⟩
  · have h := if_neg' hp24 h
    have hns : Region.noSelect (Code.ops tree_Cursor_Up_c3) = true := by kernel_rfl
    refine g_drawF (c := tree_Cursor_Up_c3) [.box g2 Tb3 [.slice A4 n5 c6, .slice A8 n9 c10, .slice A12 n13 c14, .bool x1.stand.forest.ok, .int .i64 x1.stand.at_]] [Sm w.heap.size F w [[g2]], St w [[g2]]] [42, 43, 44] 45 rfl rfl mix rfl (.cons_cons _ (.slnil)) (sels [0, 1] rfl) ?_
    refine wf_v 0 rfl (v_move rfl) gn rfl hns (by kernel_rfl) (by kernel_rfl) (by kernel_rfl) rfl ?_
    refine wf_v 1 rfl (v_nilCheck rfl) gn rfl hns (by kernel_rfl) (by kernel_rfl) (by kernel_rfl) rfl ?_
    refine wf_v 2 rfl (v_fldB fo_36_0 rfl) gn rfl hns (by kernel_rfl) (by kernel_rfl) (by kernel_rfl) rfl ?_
    refine wf_v 3 rfl (v_fldB fo_34_0 rfl) gn rfl hns (by kernel_rfl) (by kernel_rfl) (by kernel_rfl) rfl ?_
    refine wf_v 4 rfl (v_ldB [.slice A4 n5 c6, .slice A8 n9 c10, .slice A12 n13 c14, .bool x1.stand.forest.ok] 0 ld_32 rfl rfl rfl rfl) gn rfl hns (by kernel_rfl) (by kernel_rfl) (by kernel_rfl) rfl ?_
    refine wf_v 5 rfl (v_move rfl) gn rfl hns (by kernel_rfl) (by kernel_rfl) (by kernel_rfl) rfl ?_
    refine wf_v 6 rfl (v_nilCheck rfl) gn rfl hns (by kernel_rfl) (by kernel_rfl) (by kernel_rfl) rfl ?_
    refine wf_v 7 rfl (v_fldB fo_36_0 rfl) gn rfl hns (by kernel_rfl) (by kernel_rfl) (by kernel_rfl) rfl ?_
    refine wf_v 8 rfl (v_fldB fo_34_1 rfl) gn rfl hns (by kernel_rfl) (by kernel_rfl) (by kernel_rfl) rfl ?_
    refine wf_v 9 rfl (v_ldB1 0 ld_3 rfl rfl rfl) gn rfl hns (by kernel_rfl) (by kernel_rfl) (by kernel_rfl) rfl ?_
    refine wf_all [10] (by kernel_rfl) rfl ⟨on_s 10 rfl gn rfl (s_call [.agg #[.slice A4 n5 c6, .slice A8 n9 c10, .slice A12 n13 c14, .bool x1.stand.forest.ok], .int .i64 x1.stand.at_] rfl Try.func46 rfl rfl rfl fun w137 hL138 => ?_), trivial⟩
    have hp139 : List.Perm ([.box g2 Tb3 [.slice A4 n5 c6, .slice A8 n9 c10, .slice A12 n13 c14, .bool x1.stand.forest.ok, .int .i64 x1.stand.at_]] : List Ent) (([] : List Ent) ++ ([.box g2 Tb3 [.slice A4 n5 c6, .slice A8 n9 c10, .slice A12 n13 c14, .bool x1.stand.forest.ok, .int .i64 x1.stand.at_]] : List Ent)) := perm_of_idx [] [0] rfl rfl (by kernel_rfl)
    refine Calls.mono (tree_forest_has_calls w137 (Fl ([] : List Snap)) x1.stand.forest x1.stand.at_ A4 n5 c6 A8 n9 c10 A12 n13 c14 (Rw.mono h7 (hL138.toSt hp139 (me 0 rfl))) (Rw.mono h11 (hL138.toSt hp139 (me 0 rfl))) (Rw.mono h15 (hL138.toSt hp139 (me 0 rfl))) (hL138.hFl (Sl := ([] : List Snap)) hp139 (sels [] rfl)) (hL138.into hp139 (Fl ([] : List Snap))) r19 hv20) ?_
    rintro _ w140 ⟨rfl, hM141⟩
    have hL142 := hL138.call hp139 hM141
    refine ⟨_, _, _, rfl, hL142, ?_⟩
    refine ⟨sels [0] rfl, sels [0, 1] rfl, ?_⟩
    refine wf_v 11 rfl (v_move rfl) gn rfl hns (by kernel_rfl) (by kernel_rfl) (by kernel_rfl) rfl ?_
    refine wf_bool 14 rfl ((bf hp24)) ?_
    refine wf_pass 12 rfl (ps 14 rfl rfl rfl) hns (by kernel_rfl) (by kernel_rfl) (by kernel_rfl) rfl ?_
    refine wf_pass 13 rfl (ps 14 rfl rfl rfl) hns (by kernel_rfl) (by kernel_rfl) (by kernel_rfl) rfl ?_
    refine wf_pass 14 rfl (ps 14 rfl rfl rfl) hns (by kernel_rfl) (by kernel_rfl) (by kernel_rfl) rfl ?_
    refine wf_pass 15 rfl (ps 14 rfl rfl rfl) hns (by kernel_rfl) (by kernel_rfl) (by kernel_rfl) rfl ?_
    refine wf_pass 16 rfl (ps 14 rfl rfl rfl) hns (by kernel_rfl) (by kernel_rfl) (by kernel_rfl) rfl ?_
    refine wf_pass 17 rfl (ps 14 rfl rfl rfl) hns (by kernel_rfl) (by kernel_rfl) (by kernel_rfl) rfl ?_
    refine wf_pass 18 rfl (ps 14 rfl rfl rfl) hns (by kernel_rfl) (by kernel_rfl) (by kernel_rfl) rfl ?_
    refine wf_pass 19 rfl (ps 14 rfl rfl rfl) hns (by kernel_rfl) (by kernel_rfl) (by kernel_rfl) rfl ?_
    refine wf_pass 20 rfl (ps 14 rfl rfl rfl) hns (by kernel_rfl) (by kernel_rfl) (by kernel_rfl) rfl ?_
    refine wf_pass 21 rfl (ps 14 rfl rfl rfl) hns (by kernel_rfl) (by kernel_rfl) (by kernel_rfl) rfl ?_
    refine wf_pass 22 rfl (ps 14 rfl rfl rfl) hns (by kernel_rfl) (by kernel_rfl) (by kernel_rfl) rfl ?_
    refine wf_pass 23 rfl (ps 14 rfl rfl rfl) hns (by kernel_rfl) (by kernel_rfl) (by kernel_rfl) rfl ?_
    refine wf_pass 24 rfl (ps 14 rfl rfl rfl) hns (by kernel_rfl) (by kernel_rfl) (by kernel_rfl) rfl ?_
    refine wf_pass 25 rfl (ps 14 rfl rfl rfl) hns (by kernel_rfl) (by kernel_rfl) (by kernel_rfl) rfl ?_
    refine wf_pass 26 rfl (ps 14 rfl rfl rfl) hns (by kernel_rfl) (by kernel_rfl) (by kernel_rfl) rfl ?_
    refine wf_pass 27 rfl (ps 14 rfl rfl rfl) hns (by kernel_rfl) (by kernel_rfl) (by kernel_rfl) rfl ?_
    refine wf_pass 28 rfl (ps 14 rfl rfl rfl) hns (by kernel_rfl) (by kernel_rfl) (by kernel_rfl) rfl ?_
    refine wf_pass 29 rfl (ps 14 rfl rfl rfl) hns (by kernel_rfl) (by kernel_rfl) (by kernel_rfl) rfl ?_
    refine wf_pass 30 rfl (ps 14 rfl rfl rfl) hns (by kernel_rfl) (by kernel_rfl) (by kernel_rfl) rfl ?_
    refine wf_pass 31 rfl (ps 14 rfl rfl rfl) hns (by kernel_rfl) (by kernel_rfl) (by kernel_rfl) rfl ?_
    refine wf_pass 32 rfl (ps 14 rfl rfl rfl) hns (by kernel_rfl) (by kernel_rfl) (by kernel_rfl) rfl ?_
    refine wf_pass 33 rfl (ps 14 rfl rfl rfl) hns (by kernel_rfl) (by kernel_rfl) (by kernel_rfl) rfl ?_
    refine wf_pass 34 rfl (ps 14 rfl rfl rfl) hns (by kernel_rfl) (by kernel_rfl) (by kernel_rfl) rfl ?_
    refine wf_pass 35 rfl (ps 14 rfl rfl rfl) hns (by kernel_rfl) (by kernel_rfl) (by kernel_rfl) rfl ?_
    refine wf_pass 36 rfl (ps 14 rfl rfl rfl) hns (by kernel_rfl) (by kernel_rfl) (by kernel_rfl) rfl ?_
    refine wf_pass 37 rfl (ps 14 rfl rfl rfl) hns (by kernel_rfl) (by kernel_rfl) (by kernel_rfl) rfl ?_
    refine wf_pass 38 rfl (ps 14 rfl rfl rfl) hns (by kernel_rfl) (by kernel_rfl) (by kernel_rfl) rfl ?_
    refine wf_pass 39 rfl (ps 14 rfl rfl rfl) hns (by kernel_rfl) (by kernel_rfl) (by kernel_rfl) rfl ?_
    refine wf_pass 40 rfl (ps 14 rfl rfl rfl) hns (by kernel_rfl) (by kernel_rfl) (by kernel_rfl) rfl ?_
    refine wf_pass 41 rfl (ps 14 rfl rfl rfl) hns (by kernel_rfl) (by kernel_rfl) (by kernel_rfl) rfl ?_
    refine wf_all [42] (by kernel_rfl) rfl ⟨on_p 42 rfl (ps 14 rfl rfl rfl) (.inl rfl) ?_, trivial⟩
    refine wf_all [43] (by kernel_rfl) rfl ⟨on_l 43 rfl gn rfl (s_val (v_pick (b := false) rfl rfl) rfl ?_), trivial⟩
    unfold NxL
    refine wf_all [44] (by kernel_rfl) rfl ⟨on_l 44 rfl gn rfl (s_val (v_assign rfl) rfl ?_), trivial⟩
    unfold NxL
    refine wf_end (by kernel_rfl) ?_
    refine g_retR (c := tree_Cursor_Up_c4) [.bool false] rfl Try.func22 rfl (.tmp rfl (.nil)) fun wr hLr => ?_
    have hMr : B.Loc w wr [.box g2 Tb3 [.slice A4 n5 c6, .slice A8 n9 c10, .slice A12 n13 c14, .bool x1.stand.forest.ok, .int .i64 x1.stand.at_]] [St w [[g2]]] := hLr.pick (rest := []) (perm_of_idx [0] [] rfl rfl (by kernel_rfl)) (sels [1] rfl)
    have hMi : ∀ e ∈ ([.box g2 Tb3 [.slice A4 n5 c6, .slice A8 n9 c10, .slice A12 n13 c14, .bool x1.stand.forest.ok, .int .i64 x1.stand.at_]] : List Ent), e ∈ ([.box g2 Tb3 [.slice A4 n5 c6, .slice A8 n9 c10, .slice A12 n13 c14, .bool x1.stand.forest.ok, .int .i64 x1.stand.at_]] : List Ent) := sels [0] rfl
    show tree_Cursor_Up_R w F g2 Tb3 r (.returned (packV [.bool false])) wr
    rw [h]
    exact ⟨A4, n5, c6, A8, n9, c10, A12, n13, c14, rfl, hMr, (hLr.outR (s := Sm w.heap.size F w [[g2]]) hMi (me 0 rfl) Sm.ok h7), (hLr.outR (s := Sm w.heap.size F w [[g2]]) hMi (me 0 rfl) Sm.ok h11), (hLr.outR (s := Sm w.heap.size F w [[g2]]) hMi (me 0 rfl) Sm.ok h15)⟩
noncomputable abbrev trellisref15_Model_Up_c0 : Code := bodyOf Try.f23
noncomputable abbrev trellisref15_Model_Up_c1 : Code := Code.fst trellisref15_Model_Up_c0
noncomputable abbrev trellisref15_Model_Up_c2 : Code := Code.snd trellisref15_Model_Up_c0
noncomputable abbrev trellisref15_Model_Up_c3 : Code := Code.fst trellisref15_Model_Up_c2
noncomputable abbrev trellisref15_Model_Up_c4 : Code := Code.snd trellisref15_Model_Up_c2
noncomputable abbrev trellisref15_Model_Up_c5 : Code := Code.fst trellisref15_Model_Up_c4
noncomputable abbrev trellisref15_Model_Up_c6 : Code := Code.snd trellisref15_Model_Up_c4
noncomputable abbrev trellisref15_Model_Up_c7 : Code := Code.fst trellisref15_Model_Up_c5
noncomputable abbrev trellisref15_Model_Up_c8 : Code := Code.snd trellisref15_Model_Up_c5
noncomputable abbrev trellisref15_Model_Up_c9 : Code := Code.fst trellisref15_Model_Up_c8
noncomputable abbrev trellisref15_Model_Up_c10 : Code := Code.snd trellisref15_Model_Up_c8
noncomputable abbrev trellisref15_Model_Up_c11 : Code := Code.fst trellisref15_Model_Up_c9
noncomputable abbrev trellisref15_Model_Up_c12 : Code := Code.snd trellisref15_Model_Up_c9
noncomputable abbrev trellisref15_Model_Up_c13 : Code := Code.fst trellisref15_Model_Up_c6
noncomputable abbrev trellisref15_Model_Up_c14 : Code := Code.snd trellisref15_Model_Up_c6
noncomputable abbrev trellisref15_Model_Up_c15 : Code := Code.fst trellisref15_Model_Up_c14
noncomputable abbrev trellisref15_Model_Up_c16 : Code := Code.snd trellisref15_Model_Up_c14
abbrev trellisref15_Model_Up_R (w : World) (F : Nat → Prop) (g2 : Nat) (Tb3 : Nat) (r : Bool × trellisref15_Model) : Ending → World → Prop := fun e w' => ∃ A0 : Option Addr, ∃ n0 : Nat, ∃ c0 : Nat, e = .returned (.bool r.1) ∧ B.Loc w w' [.box g2 Tb3 [.slice A0 n0 c0, .int .i64 r.2.at_]] [St w [[g2]]] ∧ Rw k_trellisref15_Tree w' (Nw w w' F [.box g2 Tb3 [.slice A0 n0 c0, .int .i64 r.2.at_]]) A0 n0 c0 r.2.f
noncomputable abbrev trellisref15_Model_Up_C (w : World) (F : Nat → Prop) (g2 : Nat) (Tb3 : Nat) (r : Bool × trellisref15_Model) : Cx := ⟨Try.prog, 23, Try.f23, 29, trellisref15_Model_Up_R w F g2 Tb3 r, w⟩
theorem trellisref15_Model_Up_calls (w : World) (F : Nat → Prop) (x1 : trellisref15_Model) (g2 : Nat) (Tb3 : Nat) (A4 : Option Addr) (n5 : Nat) (c6 : Nat) (h7 : Rw k_trellisref15_Tree w F A4 n5 c6 x1.f) (hF : ∀ b, F b → b < w.heap.size ∧ ∀ o ∈ ([[g2]] : List (List Nat)), b ∉ o) (hL0 : B.Loc w w [.box g2 Tb3 [.slice A4 n5 c6, .int .i64 x1.at_]] [Sm w.heap.size F w [[g2]], St w [[g2]]]) (r : Bool × trellisref15_Model) (h : trellisref15_Model_Up x1 r) : Calls Try.prog 23 #[.pointer (some ⟨g2, 0, none⟩)] w (trellisref15_Model_Up_R w F g2 Tb3 r) := by
  unfold trellisref15_Model_Up at h
  have h7 := Rw.into (bs := [[g2]]) hF h7
  refine calls_of_Loc (vs := [.pointer (some ⟨g2, 0, none⟩)]) 29 Try.func23 rfl Try.ntmps23 rfl hL0 ?_
  show G (trellisref15_Model_Up_C w F g2 Tb3 r) _ _ _ _
  refine g_seq (c := trellisref15_Model_Up_c0) rfl ?_
  refine g_region (c := trellisref15_Model_Up_c1) rfl rfl ?_
  refine wl_v 0 rfl (v_assign rfl) gn rfl ?_
  refine w_end 1 rfl ?_
  refine g_seq (c := trellisref15_Model_Up_c2) rfl ?_
  obtain ⟨r11, hv12, h⟩ := h
  have d1 : ∀ (_ : Unit), G (trellisref15_Model_Up_C w F g2 Tb3 r) [.code trellisref15_Model_Up_c4] [(0, .pointer (some ⟨g2, 0, none⟩)), (4, .int .i64 r11.2.1), (5, .bool r11.2.2)] [.box g2 Tb3 [.slice A4 n5 c6, .int .i64 x1.at_]] [Sm w.heap.size F w [[g2]], St w [[g2]]] := by
    intro _
    refine g_seq (c := trellisref15_Model_Up_c4) rfl ?_
    refine g_seq (c := trellisref15_Model_Up_c5) rfl ?_
    have j1 : ∀ (x80 : Bool) (h : trellisref15_Model_Up_j1 x1 r11 x80 r) , G (trellisref15_Model_Up_C w F g2 Tb3 r) [.code trellisref15_Model_Up_c8, .code trellisref15_Model_Up_c6] [(0, .pointer (some ⟨g2, 0, none⟩)), (4, .int .i64 r11.2.1), (24, .bool x80)] [.box g2 Tb3 [.slice A4 n5 c6, .int .i64 x1.at_]] [Sm w.heap.size F w [[g2]], St w [[g2]]] := by
      intro x80 h
      unfold trellisref15_Model_Up_j1 at h
      by_cases hp81 : x80 = true
      · have h := if_pos' hp81 h
        refine g_true (c := trellisref15_Model_Up_c8) rfl _ rfl (hp81) ?_
        refine g_seq (c := trellisref15_Model_Up_c9) rfl ?_
        refine g_region (c := trellisref15_Model_Up_c11) rfl rfl ?_
        refine wl_v 0 rfl (v_assign rfl) gn rfl ?_
        refine w_end 1 rfl ?_
        refine g_retR (c := trellisref15_Model_Up_c12) [.bool false] rfl Try.func23 rfl (.tmp rfl (.nil)) fun wr hLr => ?_
        have hMr : B.Loc w wr [.box g2 Tb3 [.slice A4 n5 c6, .int .i64 x1.at_]] [St w [[g2]]] := hLr.pick (rest := []) (perm_of_idx [0] [] rfl rfl (by kernel_rfl)) (sels [1] rfl)
        have hMi : ∀ e ∈ ([.box g2 Tb3 [.slice A4 n5 c6, .int .i64 x1.at_]] : List Ent), e ∈ ([.box g2 Tb3 [.slice A4 n5 c6, .int .i64 x1.at_]] : List Ent) := sels [0] rfl
        show trellisref15_Model_Up_R w F g2 Tb3 r (.returned (packV [.bool false])) wr
        rw [h]
        exact ⟨A4, n5, c6, rfl, hMr, (hLr.outR (s := Sm w.heap.size F w [[g2]]) hMi (me 0 rfl) Sm.ok h7)⟩
      · have h := if_neg' hp81 h
        refine g_false (c := trellisref15_Model_Up_c8) rfl _ rfl ((bf hp81)) ?_
        refine g_skip (c := trellisref15_Model_Up_c10) rfl ?_
        refine g_seq (c := trellisref15_Model_Up_c6) rfl ?_
        refine g_region (c := trellisref15_Model_Up_c13) rfl rfl ?_
        refine wl_v 0 rfl (v_move rfl) gn rfl ?_
        refine wl_v 1 rfl (v_move rfl) gn rfl ?_
        refine wl_v 2 rfl (v_nilCheck rfl) gn rfl ?_
        refine wl_v 3 rfl (v_fldB fo_93_1 rfl) gn rfl ?_
        refine wl_s 4 rfl (s_stB (vs := [.int .i64 r11.2.1]) (cs' := [.slice A4 n5 c6, .int .i64 r11.2.1]) (M' := [.box g2 Tb3 [.slice A4 n5 c6, .int .i64 r11.2.1]]) 0 sz_3 rfl rfl rfl rfl rfl rfl rfl rfl rfl ?_) gn
        refine w_end 5 rfl ?_
        refine g_seq (c := trellisref15_Model_Up_c14) rfl ?_
        refine g_region (c := trellisref15_Model_Up_c15) rfl rfl ?_
        refine wl_v 0 rfl (v_assign rfl) gn rfl ?_
        refine w_end 1 rfl ?_
        refine g_retR (c := trellisref15_Model_Up_c16) [.bool true] rfl Try.func23 rfl (.tmp rfl (.nil)) fun wr hLr => ?_
        have hMr : B.Loc w wr [.box g2 Tb3 [.slice A4 n5 c6, .int .i64 r11.2.1]] [St w [[g2]]] := hLr.pick (rest := []) (perm_of_idx [0] [] rfl rfl (by kernel_rfl)) (sels [1] rfl)
        have hMi : ∀ e ∈ ([.box g2 Tb3 [.slice A4 n5 c6, .int .i64 r11.2.1]] : List Ent), e ∈ ([.box g2 Tb3 [.slice A4 n5 c6, .int .i64 r11.2.1]] : List Ent) := sels [0] rfl
        show trellisref15_Model_Up_R w F g2 Tb3 r (.returned (packV [.bool true])) wr
        rw [h]
        exact ⟨A4, n5, c6, rfl, hMr, (hLr.outR (s := Sm w.heap.size F w [[g2]]) hMi (me 0 rfl) Sm.ok h7)⟩
    refine g_region (c := trellisref15_Model_Up_c7) rfl rfl ?_
    refine wl_v 0 rfl (v_move rfl) gn rfl ?_
    refine wl_v 1 rfl (v_not rfl) gn rfl ?_
    refine wl_v 2 rfl (v_move rfl) gn rfl ?_
    by_cases hp82 : r11.2.2 = true
    · have h := if_pos' hp82 h
      refine w_bool 21 rfl ((nf hp82)) ?_
      refine wl_v 3 rfl (v_move rfl) (gy 21 rfl rfl) rfl ?_
      refine wl_v 4 rfl (v_bin rfl rfl rfl) (gy 21 rfl rfl) rfl ?_
      refine wl_v 5 rfl (v_pick (b := false) rfl rfl) gn rfl ?_
      refine w_end 6 rfl ?_
      exact g_go [0, 1] (j1 (decide (r11.2.1 < 0)) h) ⟨rfl, rfl, rfl, trivial⟩ (.cons_cons _ (.slnil)) rfl
    · have h := if_neg' hp82 h
      refine w_bool 21 rfl ((nt (bf hp82))) ?_
      refine wl_pass 3 rfl (ps 21 rfl rfl rfl) ?_
      refine wl_pass 4 rfl (ps 21 rfl rfl rfl) ?_
      refine wl_v 5 rfl (v_pick (b := true) rfl rfl) gn rfl ?_
      refine w_end 6 rfl ?_
      exact g_go [0, 1] (j1 true h) ⟨rfl, rfl, rfl, trivial⟩ (.cons_cons _ (.slnil)) rfl
  have hns : Region.noSelect (Code.ops trellisref15_Model_Up_c3) = true := by kernel_rfl
  refine g_drawF (c := trellisref15_Model_Up_c3) [.box g2 Tb3 [.slice A4 n5 c6, .int .i64 x1.at_]] [Sm w.heap.size F w [[g2]], St w [[g2]]] [] 17 rfl rfl mix rfl (.cons_cons _ (.slnil)) (sels [0, 1] rfl) ?_
  refine wf_v 0 rfl (v_move rfl) gn rfl hns (by kernel_rfl) (by kernel_rfl) rfl rfl ?_
  refine wf_v 1 rfl (v_nilCheck rfl) gn rfl hns (by kernel_rfl) (by kernel_rfl) rfl rfl ?_
  refine wf_v 2 rfl (v_fldB fo_93_0 rfl) gn rfl hns (by kernel_rfl) (by kernel_rfl) rfl rfl ?_
  refine wf_v 3 rfl (v_ldB1 0 ld_89 rfl rfl rfl) gn rfl hns (by kernel_rfl) (by kernel_rfl) rfl rfl ?_
  refine wf_v 4 rfl (v_move rfl) gn rfl hns (by kernel_rfl) (by kernel_rfl) rfl rfl ?_
  refine wf_v 5 rfl (v_nilCheck rfl) gn rfl hns (by kernel_rfl) (by kernel_rfl) rfl rfl ?_
  refine wf_v 6 rfl (v_fldB fo_93_1 rfl) gn rfl hns (by kernel_rfl) (by kernel_rfl) rfl rfl ?_
  refine wf_v 7 rfl (v_ldB1 0 ld_3 rfl rfl rfl) gn rfl hns (by kernel_rfl) (by kernel_rfl) rfl rfl ?_
  refine wf_all [8, 13] (by kernel_rfl) rfl ⟨?_, ?_, trivial⟩
  · refine on_s 8 rfl gn rfl (s_call [.slice A4 n5 c6, .int .i64 x1.at_, .int .i64 (-1)] rfl Try.func48 rfl rfl rfl fun w96 hL97 => ?_)
    have hp98 : List.Perm ([.box g2 Tb3 [.slice A4 n5 c6, .int .i64 x1.at_]] : List Ent) (([] : List Ent) ++ ([.box g2 Tb3 [.slice A4 n5 c6, .int .i64 x1.at_]] : List Ent)) := perm_of_idx [] [0] rfl rfl (by kernel_rfl)
    refine Calls.mono (trellisref15_find_calls w96 (Fl ([Sm w.heap.size F w [[g2]]] : List Snap)) x1.f x1.at_ (-1) A4 n5 c6 (Rw.mono h7 (hL97.toFl (me 0 rfl) (me 0 rfl))) (hL97.hFl (Sl := ([Sm w.heap.size F w [[g2]]] : List Snap)) hp98 (sels [0] rfl)) (hL97.into hp98 (Fl ([Sm w.heap.size F w [[g2]]] : List Snap))) r11 hv12) ?_
    rintro _ w103 ⟨A99, n100, c101, rfl, hM104, h102⟩
    obtain ⟨sb107, hL105, hv106⟩ := hL97.callB (Sl := ([Sm w.heap.size F w [[g2]]] : List Snap)) hp98 hM104 F (sels [0] rfl) ⟨Sm.ok, trivial⟩
    have h102 : At k_trellisref15_Tree (Sm w.heap.size F w103 sb107) A99 n100 c101 r11.1.kids := Rw.mono h102 hv106
    refine ⟨_, _, _, rfl, hL105, ?_⟩
    refine ⟨sels [0] rfl, sels [1, 2] rfl, ?_⟩
    refine wf_v 9 rfl (v_move rfl) gn rfl hns (by kernel_rfl) (by kernel_rfl) rfl rfl ?_
    refine wf_v 10 rfl (v_extract rfl rfl) gn rfl hns (by kernel_rfl) (by kernel_rfl) rfl rfl ?_
    refine wf_v 11 rfl (v_extract rfl rfl) gn rfl hns (by kernel_rfl) (by kernel_rfl) rfl rfl ?_
    refine wf_v 12 rfl (v_extract rfl rfl) gn rfl hns (by kernel_rfl) (by kernel_rfl) rfl rfl ?_
    refine wf_all [13] (by kernel_rfl) rfl ⟨on_s 13 rfl gn rfl (s_alloc [.string (⟨#[]⟩ : ByteArray), .bool false, .string (⟨#[]⟩ : ByteArray), .int .i64 0, .int .i64 0, .int .i64 0, .int .i64 0, .slice none 0 0, .int .i64 0] zr_96 rfl fun gb109 => ?_), trivial⟩
    refine ⟨sels [1] rfl, sels [1, 2] rfl, ?_⟩
    refine wf_all [14] (by kernel_rfl) rfl ⟨on_s 14 rfl gn rfl (s_stB (vs := [.string r11.1.node.name, .bool r11.1.node.named, .string r11.1.node.field, .int .i64 r11.1.node.from_, .int .i64 r11.1.node.to, .int .i64 r11.1.node.kids, .int .i64 r11.1.node.leaf, .slice A99 n100 c101, .int .i64 r11.1.at_]) (cs' := [.string r11.1.node.name, .bool r11.1.node.named, .string r11.1.node.field, .int .i64 r11.1.node.from_, .int .i64 r11.1.node.to, .int .i64 r11.1.node.kids, .int .i64 r11.1.node.leaf, .slice A99 n100 c101, .int .i64 r11.1.at_]) (M' := [.box gb109 96 [.string r11.1.node.name, .bool r11.1.node.named, .string r11.1.node.field, .int .i64 r11.1.node.from_, .int .i64 r11.1.node.to, .int .i64 r11.1.node.kids, .int .i64 r11.1.node.leaf, .slice A99 n100 c101, .int .i64 r11.1.at_], .box g2 Tb3 [.slice A4 n5 c6, .int .i64 x1.at_]]) 0 sz_96 rfl rfl rfl rfl rfl rfl rfl rfl rfl ?_), trivial⟩
    refine ⟨sels [1] rfl, sels [1, 2] rfl, ?_⟩
    refine wf_v 15 rfl (v_assign rfl) gn rfl hns (by kernel_rfl) (by kernel_rfl) rfl rfl ?_
    refine wf_v 16 rfl (v_assign rfl) gn rfl hns (by kernel_rfl) (by kernel_rfl) rfl rfl ?_
    refine wf_end (by kernel_rfl) ?_
    exact g_go [1, 2] (d1 ()) ⟨rfl, rfl, rfl, trivial⟩ (.cons _ (.cons_cons _ (.slnil))) rfl
  · refine on_s 13 rfl gn rfl (s_alloc [.string (⟨#[]⟩ : ByteArray), .bool false, .string (⟨#[]⟩ : ByteArray), .int .i64 0, .int .i64 0, .int .i64 0, .int .i64 0, .slice none 0 0, .int .i64 0] zr_96 rfl fun gb110 => ?_)
    refine ⟨sels [1] rfl, sels [0, 1] rfl, ?_⟩
    refine wf_all [8] (by kernel_rfl) rfl ⟨on_s 8 rfl gn rfl (s_call [.slice A4 n5 c6, .int .i64 x1.at_, .int .i64 (-1)] rfl Try.func48 rfl rfl rfl fun w123 hL124 => ?_), trivial⟩
    have hp125 : List.Perm ([.box gb110 96 [.string (⟨#[]⟩ : ByteArray), .bool false, .string (⟨#[]⟩ : ByteArray), .int .i64 0, .int .i64 0, .int .i64 0, .int .i64 0, .slice none 0 0, .int .i64 0], .box g2 Tb3 [.slice A4 n5 c6, .int .i64 x1.at_]] : List Ent) (([] : List Ent) ++ ([.box gb110 96 [.string (⟨#[]⟩ : ByteArray), .bool false, .string (⟨#[]⟩ : ByteArray), .int .i64 0, .int .i64 0, .int .i64 0, .int .i64 0, .slice none 0 0, .int .i64 0], .box g2 Tb3 [.slice A4 n5 c6, .int .i64 x1.at_]] : List Ent)) := perm_of_idx [] [0, 1] rfl rfl (by kernel_rfl)
    refine Calls.mono (trellisref15_find_calls w123 (Fl ([Sm w.heap.size F w [[g2]]] : List Snap)) x1.f x1.at_ (-1) A4 n5 c6 (Rw.mono h7 (hL124.toFl (me 0 rfl) (me 0 rfl))) (hL124.hFl (Sl := ([Sm w.heap.size F w [[g2]]] : List Snap)) hp125 (sels [0] rfl)) (hL124.into hp125 (Fl ([Sm w.heap.size F w [[g2]]] : List Snap))) r11 hv12) ?_
    rintro _ w130 ⟨A126, n127, c128, rfl, hM131, h129⟩
    obtain ⟨sb134, hL132, hv133⟩ := hL124.callB (Sl := ([Sm w.heap.size F w [[g2]]] : List Snap)) hp125 hM131 F (sels [0] rfl) ⟨Sm.ok, trivial⟩
    have h129 : At k_trellisref15_Tree (Sm w.heap.size F w130 sb134) A126 n127 c128 r11.1.kids := Rw.mono h129 hv133
    refine ⟨_, _, _, rfl, hL132, ?_⟩
    refine ⟨sels [1] rfl, sels [1, 2] rfl, ?_⟩
    refine wf_v 9 rfl (v_move rfl) gn rfl hns (by kernel_rfl) (by kernel_rfl) rfl rfl ?_
    refine wf_v 10 rfl (v_extract rfl rfl) gn rfl hns (by kernel_rfl) (by kernel_rfl) rfl rfl ?_
    refine wf_v 11 rfl (v_extract rfl rfl) gn rfl hns (by kernel_rfl) (by kernel_rfl) rfl rfl ?_
    refine wf_v 12 rfl (v_extract rfl rfl) gn rfl hns (by kernel_rfl) (by kernel_rfl) rfl rfl ?_
    refine wf_all [14] (by kernel_rfl) rfl ⟨on_s 14 rfl gn rfl (s_stB (vs := [.string r11.1.node.name, .bool r11.1.node.named, .string r11.1.node.field, .int .i64 r11.1.node.from_, .int .i64 r11.1.node.to, .int .i64 r11.1.node.kids, .int .i64 r11.1.node.leaf, .slice A126 n127 c128, .int .i64 r11.1.at_]) (cs' := [.string r11.1.node.name, .bool r11.1.node.named, .string r11.1.node.field, .int .i64 r11.1.node.from_, .int .i64 r11.1.node.to, .int .i64 r11.1.node.kids, .int .i64 r11.1.node.leaf, .slice A126 n127 c128, .int .i64 r11.1.at_]) (M' := [.box gb110 96 [.string r11.1.node.name, .bool r11.1.node.named, .string r11.1.node.field, .int .i64 r11.1.node.from_, .int .i64 r11.1.node.to, .int .i64 r11.1.node.kids, .int .i64 r11.1.node.leaf, .slice A126 n127 c128, .int .i64 r11.1.at_], .box g2 Tb3 [.slice A4 n5 c6, .int .i64 x1.at_]]) 0 sz_96 rfl rfl rfl rfl rfl rfl rfl rfl rfl ?_), trivial⟩
    refine ⟨sels [1] rfl, sels [1, 2] rfl, ?_⟩
    refine wf_v 15 rfl (v_assign rfl) gn rfl hns (by kernel_rfl) (by kernel_rfl) rfl rfl ?_
    refine wf_v 16 rfl (v_assign rfl) gn rfl hns (by kernel_rfl) (by kernel_rfl) rfl rfl ?_
    refine wf_end (by kernel_rfl) ?_
    exact g_go [1, 2] (d1 ()) ⟨rfl, rfl, rfl, trivial⟩ (.cons _ (.cons_cons _ (.slnil))) rfl
end Go.Proofs.Ytmekgfcfooghnaa.K
