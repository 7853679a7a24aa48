/- What the machine's calls do, function by function, printed by my own tool. Condition of each: its relation holds of the answer, and what is handed in lies in memory as told. -/
import Derived.Test.YtkaejoffnkhbpaaK1
set_option linter.unusedVariables false
set_option maxRecDepth 100000
namespace Go.Proofs.Ytkaejoffnkhbpaa.K
open Go.Proofs.Ytkaejoffnkhbpaa.B Go.Proofs.Ytkaejoffnkhbpaa.R Go.RowKit
noncomputable abbrev trellisref8_regex_c0 : Code := bodyOf Try.f21
noncomputable abbrev trellisref8_regex_c1 : Code := Code.fst trellisref8_regex_c0
noncomputable abbrev trellisref8_regex_c2 : Code := Code.snd trellisref8_regex_c0
noncomputable abbrev trellisref8_regex_c3 : Code := Code.fst trellisref8_regex_c2
noncomputable abbrev trellisref8_regex_c4 : Code := Code.snd trellisref8_regex_c2
noncomputable abbrev trellisref8_regex_c5 : Code := Code.fst trellisref8_regex_c4
noncomputable abbrev trellisref8_regex_c6 : Code := Code.snd trellisref8_regex_c4
noncomputable abbrev trellisref8_regex_c7 : Code := Code.fst trellisref8_regex_c5
noncomputable abbrev trellisref8_regex_c8 : Code := Code.fst trellisref8_regex_c7
noncomputable abbrev trellisref8_regex_c9 : Code := Code.fst trellisref8_regex_c8
noncomputable abbrev trellisref8_regex_c10 : Code := Code.snd trellisref8_regex_c8
noncomputable abbrev trellisref8_regex_c11 : Code := Code.fst trellisref8_regex_c9
noncomputable abbrev trellisref8_regex_c12 : Code := Code.snd trellisref8_regex_c9
noncomputable abbrev trellisref8_regex_c13 : Code := Code.fst trellisref8_regex_c12
noncomputable abbrev trellisref8_regex_c14 : Code := Code.snd trellisref8_regex_c12
noncomputable abbrev trellisref8_regex_c15 : Code := Code.fst trellisref8_regex_c10
noncomputable abbrev trellisref8_regex_c16 : Code := Code.fst trellisref8_regex_c15
noncomputable abbrev trellisref8_regex_c17 : Code := Code.snd trellisref8_regex_c15
noncomputable abbrev trellisref8_regex_c18 : Code := Code.fst trellisref8_regex_c16
noncomputable abbrev trellisref8_regex_c19 : Code := Code.snd trellisref8_regex_c16
noncomputable abbrev trellisref8_regex_c20 : Code := Code.fst trellisref8_regex_c19
noncomputable abbrev trellisref8_regex_c21 : Code := Code.snd trellisref8_regex_c19
noncomputable abbrev trellisref8_regex_c22 : Code := Code.fst trellisref8_regex_c20
noncomputable abbrev trellisref8_regex_c23 : Code := Code.snd trellisref8_regex_c20
noncomputable abbrev trellisref8_regex_c24 : Code := Code.fst trellisref8_regex_c17
noncomputable abbrev trellisref8_regex_c25 : Code := Code.snd trellisref8_regex_c17
noncomputable abbrev trellisref8_regex_c26 : Code := Code.fst trellisref8_regex_c24
noncomputable abbrev trellisref8_regex_c27 : Code := Code.snd trellisref8_regex_c24
noncomputable abbrev trellisref8_regex_c28 : Code := Code.fst trellisref8_regex_c27
noncomputable abbrev trellisref8_regex_c29 : Code := Code.snd trellisref8_regex_c27
noncomputable abbrev trellisref8_regex_c30 : Code := Code.fst trellisref8_regex_c6
noncomputable abbrev trellisref8_regex_c31 : Code := Code.snd trellisref8_regex_c6
abbrev trellisref8_regex_R (w : World) (F : Nat → Prop) (r : Int) : Ending → World → Prop := fun e w' => e = .returned (.int .i64 r) ∧ Below w.heap.size w w'
noncomputable abbrev trellisref8_regex_C (w : World) (F : Nat → Prop) (r : Int) : Cx := ⟨Try.prog, 21, Try.f21, 46, trellisref8_regex_R w F r, w⟩
theorem trellisref8_regex_calls {w : World} {F : Nat → Prop} (hF : ∀ b, F b → b < w.heap.size) (x1 : ByteArray) (x2 : Int) (r : Int) (h : trellisref8_regex x1 x2 r) : Calls Try.prog 21 #[.string x1, .int .i64 x2] w (trellisref8_regex_R w F r) := by
  unfold trellisref8_regex at h
  refine calls_of_G (vs := [.string x1, .int .i64 x2]) 46 Try.func21 rfl Try.ntmps21 rfl F ?_
  show G (trellisref8_regex_C w F r) _ _ _ _
  refine g_seq (c := trellisref8_regex_c0) rfl ?_
  refine g_region (c := trellisref8_regex_c1) rfl rfl ?_
  refine wl_v 0 rfl (v_assign rfl) gn rfl ?_
  refine w_end 1 rfl ?_
  refine g_seq (c := trellisref8_regex_c2) rfl ?_
  refine g_region (c := trellisref8_regex_c3) rfl rfl ?_
  refine wl_v 0 rfl (v_move rfl) gn rfl ?_
  refine wl_v 1 rfl (v_bin rfl rfl rfl) gn rfl ?_
  refine wl_v 2 rfl (v_assign rfl) gn rfl ?_
  refine w_end 3 rfl ?_
  refine g_seq (c := trellisref8_regex_c4) rfl ?_
  refine g_block (c := trellisref8_regex_c5) rfl ?_
  refine g_loop (c := trellisref8_regex_c7) rfl ?_
  have key1 : ∀ s, Rounds (fun (s : Int) o => trellisref8_regex_b1 x1 s o) s r → (fun (s : Int) => ∀ (_ : Unit), G (trellisref8_regex_C w F r) [.code trellisref8_regex_c8, .inLoop trellisref8_regex_c8, .inBlock 0, .code trellisref8_regex_c6] [(0, .string x1), (5, .int .i64 s)] [] [Sm w.heap.size F w [], St w []]) s := by
    intro s hs
    refine Rounds.ind (mot := (fun (s : Int) => ∀ (_ : Unit), G (trellisref8_regex_C w F r) [.code trellisref8_regex_c8, .inLoop trellisref8_regex_c8, .inBlock 0, .code trellisref8_regex_c6] [(0, .string x1), (5, .int .i64 s)] [] [Sm w.heap.size F w [], St w []])) ?_ hs
    clear hs s
    intro x15 o1 h hO1
    intro _
    have h : trellisref8_regex_b1 x1 x15 o1 := h
    unfold trellisref8_regex_b1 at h
    show G (trellisref8_regex_C w F r) [.code trellisref8_regex_c8, .inLoop trellisref8_regex_c8, .inBlock 0, .code trellisref8_regex_c6] [(0, .string x1), (5, .int .i64 x15)] [] [Sm w.heap.size F w [], St w []]
    refine g_seq (c := trellisref8_regex_c8) rfl ?_
    refine g_seq (c := trellisref8_regex_c9) rfl ?_
    have j2 : ∀ (x30 : Bool) (h : trellisref8_regex_j2 x15 x1 x30 o1) , G (trellisref8_regex_C w F r) [.code trellisref8_regex_c12, .code trellisref8_regex_c10, .inLoop trellisref8_regex_c8, .inBlock 0, .code trellisref8_regex_c6] [(0, .string x1), (5, .int .i64 x15), (17, .bool x30)] [] [Sm w.heap.size F w [], St w []] := by
      intro x30 h
      unfold trellisref8_regex_j2 at h
      by_cases hp31 : x30 = true
      · have h := if_pos' hp31 h
        refine g_true (c := trellisref8_regex_c12) rfl _ rfl (hp31) ?_
        refine g_skip (c := trellisref8_regex_c13) rfl ?_
        refine g_block (c := trellisref8_regex_c10) rfl ?_
        refine g_seq (c := trellisref8_regex_c15) rfl ?_
        refine g_seq (c := trellisref8_regex_c16) rfl ?_
        refine g_region (c := trellisref8_regex_c18) rfl rfl ?_
        refine wl_v 0 rfl (v_move rfl) gn rfl ?_
        refine wl_v 1 rfl (v_move rfl) gn rfl ?_
        obtain ⟨hb32, h⟩ := h
        refine wl_v 2 rfl (v_indexS un_9 rfl rfl hb32) gn rfl ?_
        refine wl_v 3 rfl (v_bin rfl rfl rfl) gn rfl ?_
        refine w_end 4 rfl ?_
        by_cases hp33 : bt x1 x15 = 47
        · have h := if_pos' hp33 h
          refine g_true (c := trellisref8_regex_c19) rfl _ rfl ((eqi hp33)) ?_
          refine g_seq (c := trellisref8_regex_c20) rfl ?_
          refine g_region (c := trellisref8_regex_c22) rfl rfl ?_
          refine wl_v 0 rfl (v_move rfl) gn rfl ?_
          refine wl_v 1 rfl (v_bin rfl rfl rfl) gn rfl ?_
          refine wl_v 2 rfl (v_assign rfl) gn rfl ?_
          refine w_end 3 rfl ?_
          have h := Out.inr hO1 h
          refine g_retR (c := trellisref8_regex_c23) [.int .i64 (w64 (x15 + 1))] rfl Try.func21 rfl (.tmp rfl (.nil)) fun wr hLr => ?_
          show trellisref8_regex_R w F r (.returned (packV [.int .i64 (w64 (x15 + 1))])) wr
          rw [h]
          exact ⟨rfl, hLr.below (me 1 rfl)⟩
        · have h := if_neg' hp33 h
          refine g_false (c := trellisref8_regex_c19) rfl _ rfl ((nei hp33)) ?_
          refine g_skip (c := trellisref8_regex_c21) rfl ?_
          refine g_seq (c := trellisref8_regex_c17) rfl ?_
          refine g_seq (c := trellisref8_regex_c24) rfl ?_
          refine g_region (c := trellisref8_regex_c26) rfl rfl ?_
          refine wl_v 0 rfl (v_move rfl) gn rfl ?_
          refine wl_v 1 rfl (v_move rfl) gn rfl ?_
          refine wl_v 2 rfl (v_indexS un_9 rfl rfl hb32) gn rfl ?_
          refine wl_v 3 rfl (v_bin rfl rfl rfl) gn rfl ?_
          refine wl_v 4 rfl (v_move rfl) gn rfl ?_
          by_cases hp34 : bt x1 x15 = 92
          · have h := if_pos' hp34 h
            refine w_bool 28 rfl ((eqi hp34)) ?_
            refine wl_v 5 rfl (v_move rfl) (gy 28 rfl rfl) rfl ?_
            refine wl_v 6 rfl (v_bin rfl rfl rfl) (gy 28 rfl rfl) rfl ?_
            refine wl_v 7 rfl (v_move rfl) (gy 28 rfl rfl) rfl ?_
            refine wl_v 8 rfl (v_lenS un_9 rfl) (gy 28 rfl rfl) rfl ?_
            refine wl_v 9 rfl (v_bin rfl rfl rfl) (gy 28 rfl rfl) rfl ?_
            refine wl_v 10 rfl (v_pick (b := true) rfl rfl) gn rfl ?_
            refine wl_v 11 rfl (v_move rfl) gn rfl ?_
            by_cases hp35 : w64 (x15 + 1) < (x1.size : Int)
            · have h := if_pos' hp35 h
              refine w_bool 35 rfl ((decide_eq_true hp35)) ?_
              refine wl_v 12 rfl (v_move rfl) (gy 35 rfl rfl) rfl ?_
              refine wl_v 13 rfl (v_move rfl) (gy 35 rfl rfl) rfl ?_
              refine wl_v 14 rfl (v_bin rfl rfl rfl) (gy 35 rfl rfl) rfl ?_
              obtain ⟨hb36, h⟩ := h
              refine wl_v 15 rfl (v_indexS un_9 rfl rfl hb36) (gy 35 rfl rfl) rfl ?_
              refine wl_v 16 rfl (v_bin rfl rfl rfl) (gy 35 rfl rfl) rfl ?_
              refine wl_v 17 rfl (v_pick (b := true) rfl rfl) gn rfl ?_
              refine w_end 18 rfl ?_
              by_cases hp37 : bt x1 (w64 (x15 + 1)) = 10
              · have h := if_pos' hp37 h
                refine g_false (c := trellisref8_regex_c27) rfl _ rfl ((eqib hp37)) ?_
                refine g_skip (c := trellisref8_regex_c29) rfl ?_
                refine g_region (c := trellisref8_regex_c25) rfl rfl ?_
                refine wl_v 0 rfl (v_move rfl) gn rfl ?_
                refine wl_v 1 rfl (v_bin rfl rfl rfl) gn rfl ?_
                refine wl_v 2 rfl (v_assign rfl) gn rfl ?_
                refine w_end 3 rfl ?_
                refine g_inBlock ?_
                refine g_inLoop ?_
                have ih := Out.inl hO1 h
                exact g_go [0, 1] (ih ()) ⟨rfl, rfl, trivial⟩ (.slnil) rfl
              · have h := if_neg' hp37 h
                refine g_true (c := trellisref8_regex_c27) rfl _ rfl ((neib hp37)) ?_
                refine g_region (c := trellisref8_regex_c28) rfl rfl ?_
                refine wl_v 0 rfl (v_move rfl) gn rfl ?_
                refine wl_v 1 rfl (v_bin rfl rfl rfl) gn rfl ?_
                refine wl_v 2 rfl (v_assign rfl) gn rfl ?_
                refine w_end 3 rfl ?_
                refine g_region (c := trellisref8_regex_c25) rfl rfl ?_
                refine wl_v 0 rfl (v_move rfl) gn rfl ?_
                refine wl_v 1 rfl (v_bin rfl rfl rfl) gn rfl ?_
                refine wl_v 2 rfl (v_assign rfl) gn rfl ?_
                refine w_end 3 rfl ?_
                refine g_inBlock ?_
                refine g_inLoop ?_
                have ih := Out.inl hO1 h
                exact g_go [0, 1] (ih ()) ⟨rfl, rfl, trivial⟩ (.slnil) rfl
            · have h := if_neg' hp35 h
              refine w_bool 35 rfl ((decide_eq_false hp35)) ?_
              refine wl_pass 12 rfl (ps 35 rfl rfl rfl) ?_
              refine wl_pass 13 rfl (ps 35 rfl rfl rfl) ?_
              refine wl_pass 14 rfl (ps 35 rfl rfl rfl) ?_
              refine wl_pass 15 rfl (ps 35 rfl rfl rfl) ?_
              refine wl_pass 16 rfl (ps 35 rfl rfl rfl) ?_
              refine wl_v 17 rfl (v_pick (b := false) rfl rfl) gn rfl ?_
              refine w_end 18 rfl ?_
              refine g_false (c := trellisref8_regex_c27) rfl _ rfl (rfl) ?_
              refine g_skip (c := trellisref8_regex_c29) rfl ?_
              refine g_region (c := trellisref8_regex_c25) rfl rfl ?_
              refine wl_v 0 rfl (v_move rfl) gn rfl ?_
              refine wl_v 1 rfl (v_bin rfl rfl rfl) gn rfl ?_
              refine wl_v 2 rfl (v_assign rfl) gn rfl ?_
              refine w_end 3 rfl ?_
              refine g_inBlock ?_
              refine g_inLoop ?_
              have ih := Out.inl hO1 h
              exact g_go [0, 1] (ih ()) ⟨rfl, rfl, trivial⟩ (.slnil) rfl
          · have h := if_neg' hp34 h
            refine w_bool 28 rfl ((nei hp34)) ?_
            refine wl_pass 5 rfl (ps 28 rfl rfl rfl) ?_
            refine wl_pass 6 rfl (ps 28 rfl rfl rfl) ?_
            refine wl_pass 7 rfl (ps 28 rfl rfl rfl) ?_
            refine wl_pass 8 rfl (ps 28 rfl rfl rfl) ?_
            refine wl_pass 9 rfl (ps 28 rfl rfl rfl) ?_
            refine wl_v 10 rfl (v_pick (b := false) rfl rfl) gn rfl ?_
            refine wl_v 11 rfl (v_move rfl) gn rfl ?_
            refine wl_pass 12 rfl (ps 35 rfl rfl rfl) ?_
            refine wl_pass 13 rfl (ps 35 rfl rfl rfl) ?_
            refine wl_pass 14 rfl (ps 35 rfl rfl rfl) ?_
            refine wl_pass 15 rfl (ps 35 rfl rfl rfl) ?_
            refine wl_pass 16 rfl (ps 35 rfl rfl rfl) ?_
            refine wl_v 17 rfl (v_pick (b := false) rfl rfl) gn rfl ?_
            refine w_end 18 rfl ?_
            refine g_false (c := trellisref8_regex_c27) rfl _ rfl (rfl) ?_
            refine g_skip (c := trellisref8_regex_c29) rfl ?_
            refine g_region (c := trellisref8_regex_c25) rfl rfl ?_
            refine wl_v 0 rfl (v_move rfl) gn rfl ?_
            refine wl_v 1 rfl (v_bin rfl rfl rfl) gn rfl ?_
            refine wl_v 2 rfl (v_assign rfl) gn rfl ?_
            refine w_end 3 rfl ?_
            refine g_inBlock ?_
            refine g_inLoop ?_
            have ih := Out.inl hO1 h
            exact g_go [0, 1] (ih ()) ⟨rfl, rfl, trivial⟩ (.slnil) rfl
      · have h := if_neg' hp31 h
        refine g_false (c := trellisref8_regex_c12) rfl _ rfl ((bf hp31)) ?_
        refine g_exit (c := trellisref8_regex_c14) [.code trellisref8_regex_c6] rfl rfl ?_
        refine g_seq (c := trellisref8_regex_c6) rfl ?_
        refine g_region (c := trellisref8_regex_c30) rfl rfl ?_
        refine wl_v 0 rfl (v_assign rfl) gn rfl ?_
        refine w_end 1 rfl ?_
        have h := Out.inr hO1 h
        refine g_retR (c := trellisref8_regex_c31) [.int .i64 0] rfl Try.func21 rfl (.tmp rfl (.nil)) fun wr hLr => ?_
        show trellisref8_regex_R w F r (.returned (packV [.int .i64 0])) wr
        rw [h]
        exact ⟨rfl, hLr.below (me 1 rfl)⟩
    refine g_region (c := trellisref8_regex_c11) rfl rfl ?_
    refine wl_v 0 rfl (v_move rfl) gn rfl ?_
    refine wl_v 1 rfl (v_move rfl) gn rfl ?_
    refine wl_v 2 rfl (v_lenS un_9 rfl) gn rfl ?_
    refine wl_v 3 rfl (v_bin rfl rfl rfl) gn rfl ?_
    refine wl_v 4 rfl (v_move rfl) gn rfl ?_
    by_cases hp38 : x15 < (x1.size : Int)
    · have h := if_pos' hp38 h
      refine w_bool 12 rfl ((decide_eq_true hp38)) ?_
      refine wl_v 5 rfl (v_move rfl) (gy 12 rfl rfl) rfl ?_
      refine wl_v 6 rfl (v_move rfl) (gy 12 rfl rfl) rfl ?_
      obtain ⟨hb39, h⟩ := h
      refine wl_v 7 rfl (v_indexS un_9 rfl rfl hb39) (gy 12 rfl rfl) rfl ?_
      refine wl_v 8 rfl (v_bin rfl rfl rfl) (gy 12 rfl rfl) rfl ?_
      refine wl_v 9 rfl (v_pick (b := true) rfl rfl) gn rfl ?_
      refine w_end 10 rfl ?_
      exact g_go [0, 1] (j2 ((bt x1 x15) != 10) h) ⟨rfl, rfl, rfl, trivial⟩ (.slnil) rfl
    · have h := if_neg' hp38 h
      refine w_bool 12 rfl ((decide_eq_false hp38)) ?_
      refine wl_pass 5 rfl (ps 12 rfl rfl rfl) ?_
      refine wl_pass 6 rfl (ps 12 rfl rfl rfl) ?_
      refine wl_pass 7 rfl (ps 12 rfl rfl rfl) ?_
      refine wl_pass 8 rfl (ps 12 rfl rfl rfl) ?_
      refine wl_v 9 rfl (v_pick (b := false) rfl rfl) gn rfl ?_
      refine w_end 10 rfl ?_
      exact g_go [0, 1] (j2 false h) ⟨rfl, rfl, rfl, trivial⟩ (.slnil) rfl
  exact g_go [0, 1] (key1 _ h ()) ⟨rfl, rfl, trivial⟩ (.slnil) rfl
noncomputable abbrev trellisref8_Word_c0 : Code := bodyOf Try.f14
noncomputable abbrev trellisref8_Word_c1 : Code := Code.fst trellisref8_Word_c0
noncomputable abbrev trellisref8_Word_c2 : Code := Code.snd trellisref8_Word_c0
noncomputable abbrev trellisref8_Word_c3 : Code := Code.fst trellisref8_Word_c2
noncomputable abbrev trellisref8_Word_c4 : Code := Code.snd trellisref8_Word_c2
noncomputable abbrev trellisref8_Word_c5 : Code := Code.fst trellisref8_Word_c4
noncomputable abbrev trellisref8_Word_c6 : Code := Code.snd trellisref8_Word_c4
noncomputable abbrev trellisref8_Word_c7 : Code := Code.fst trellisref8_Word_c5
noncomputable abbrev trellisref8_Word_c8 : Code := Code.fst trellisref8_Word_c7
noncomputable abbrev trellisref8_Word_c9 : Code := Code.snd trellisref8_Word_c7
noncomputable abbrev trellisref8_Word_c10 : Code := Code.fst trellisref8_Word_c9
noncomputable abbrev trellisref8_Word_c11 : Code := Code.snd trellisref8_Word_c9
noncomputable abbrev trellisref8_Word_c12 : Code := Code.fst trellisref8_Word_c10
noncomputable abbrev trellisref8_Word_c13 : Code := Code.snd trellisref8_Word_c10
noncomputable abbrev trellisref8_Word_c14 : Code := Code.fst trellisref8_Word_c13
noncomputable abbrev trellisref8_Word_c15 : Code := Code.snd trellisref8_Word_c13
noncomputable abbrev trellisref8_Word_c16 : Code := Code.fst trellisref8_Word_c14
noncomputable abbrev trellisref8_Word_c17 : Code := Code.snd trellisref8_Word_c14
noncomputable abbrev trellisref8_Word_c18 : Code := Code.fst trellisref8_Word_c17
noncomputable abbrev trellisref8_Word_c19 : Code := Code.snd trellisref8_Word_c17
noncomputable abbrev trellisref8_Word_c20 : Code := Code.fst trellisref8_Word_c18
noncomputable abbrev trellisref8_Word_c21 : Code := Code.snd trellisref8_Word_c18
noncomputable abbrev trellisref8_Word_c22 : Code := Code.fst trellisref8_Word_c15
noncomputable abbrev trellisref8_Word_c23 : Code := Code.snd trellisref8_Word_c15
noncomputable abbrev trellisref8_Word_c24 : Code := Code.fst trellisref8_Word_c11
noncomputable abbrev trellisref8_Word_c25 : Code := Code.snd trellisref8_Word_c11
noncomputable abbrev trellisref8_Word_c26 : Code := Code.fst trellisref8_Word_c25
noncomputable abbrev trellisref8_Word_c27 : Code := Code.snd trellisref8_Word_c25
noncomputable abbrev trellisref8_Word_c28 : Code := Code.fst trellisref8_Word_c26
noncomputable abbrev trellisref8_Word_c29 : Code := Code.snd trellisref8_Word_c26
noncomputable abbrev trellisref8_Word_c30 : Code := Code.fst trellisref8_Word_c29
noncomputable abbrev trellisref8_Word_c31 : Code := Code.snd trellisref8_Word_c29
noncomputable abbrev trellisref8_Word_c32 : Code := Code.fst trellisref8_Word_c31
noncomputable abbrev trellisref8_Word_c33 : Code := Code.snd trellisref8_Word_c31
noncomputable abbrev trellisref8_Word_c34 : Code := Code.fst trellisref8_Word_c32
noncomputable abbrev trellisref8_Word_c35 : Code := Code.snd trellisref8_Word_c32
noncomputable abbrev trellisref8_Word_c36 : Code := Code.fst trellisref8_Word_c35
noncomputable abbrev trellisref8_Word_c37 : Code := Code.snd trellisref8_Word_c35
noncomputable abbrev trellisref8_Word_c38 : Code := Code.fst trellisref8_Word_c36
noncomputable abbrev trellisref8_Word_c39 : Code := Code.snd trellisref8_Word_c36
noncomputable abbrev trellisref8_Word_c40 : Code := Code.fst trellisref8_Word_c33
noncomputable abbrev trellisref8_Word_c41 : Code := Code.snd trellisref8_Word_c33
noncomputable abbrev trellisref8_Word_c42 : Code := Code.fst trellisref8_Word_c27
noncomputable abbrev trellisref8_Word_c43 : Code := Code.snd trellisref8_Word_c27
noncomputable abbrev trellisref8_Word_c44 : Code := Code.fst trellisref8_Word_c43
noncomputable abbrev trellisref8_Word_c45 : Code := Code.snd trellisref8_Word_c43
noncomputable abbrev trellisref8_Word_c46 : Code := Code.fst trellisref8_Word_c44
noncomputable abbrev trellisref8_Word_c47 : Code := Code.snd trellisref8_Word_c44
noncomputable abbrev trellisref8_Word_c48 : Code := Code.fst trellisref8_Word_c47
noncomputable abbrev trellisref8_Word_c49 : Code := Code.snd trellisref8_Word_c47
noncomputable abbrev trellisref8_Word_c50 : Code := Code.fst trellisref8_Word_c48
noncomputable abbrev trellisref8_Word_c51 : Code := Code.snd trellisref8_Word_c48
noncomputable abbrev trellisref8_Word_c52 : Code := Code.fst trellisref8_Word_c51
noncomputable abbrev trellisref8_Word_c53 : Code := Code.snd trellisref8_Word_c51
noncomputable abbrev trellisref8_Word_c54 : Code := Code.fst trellisref8_Word_c49
noncomputable abbrev trellisref8_Word_c55 : Code := Code.snd trellisref8_Word_c49
noncomputable abbrev trellisref8_Word_c56 : Code := Code.fst trellisref8_Word_c52
noncomputable abbrev trellisref8_Word_c57 : Code := Code.snd trellisref8_Word_c52
noncomputable abbrev trellisref8_Word_c58 : Code := Code.fst trellisref8_Word_c45
noncomputable abbrev trellisref8_Word_c59 : Code := Code.snd trellisref8_Word_c45
noncomputable abbrev trellisref8_Word_c60 : Code := Code.fst trellisref8_Word_c59
noncomputable abbrev trellisref8_Word_c61 : Code := Code.snd trellisref8_Word_c59
noncomputable abbrev trellisref8_Word_c62 : Code := Code.fst trellisref8_Word_c60
noncomputable abbrev trellisref8_Word_c63 : Code := Code.snd trellisref8_Word_c60
noncomputable abbrev trellisref8_Word_c64 : Code := Code.fst trellisref8_Word_c63
noncomputable abbrev trellisref8_Word_c65 : Code := Code.snd trellisref8_Word_c63
noncomputable abbrev trellisref8_Word_c66 : Code := Code.fst trellisref8_Word_c64
noncomputable abbrev trellisref8_Word_c67 : Code := Code.snd trellisref8_Word_c64
noncomputable abbrev trellisref8_Word_c68 : Code := Code.fst trellisref8_Word_c67
noncomputable abbrev trellisref8_Word_c69 : Code := Code.snd trellisref8_Word_c67
noncomputable abbrev trellisref8_Word_c70 : Code := Code.fst trellisref8_Word_c68
noncomputable abbrev trellisref8_Word_c71 : Code := Code.snd trellisref8_Word_c68
noncomputable abbrev trellisref8_Word_c72 : Code := Code.fst trellisref8_Word_c65
noncomputable abbrev trellisref8_Word_c73 : Code := Code.snd trellisref8_Word_c65
noncomputable abbrev trellisref8_Word_c74 : Code := Code.fst trellisref8_Word_c61
noncomputable abbrev trellisref8_Word_c75 : Code := Code.snd trellisref8_Word_c61
noncomputable abbrev trellisref8_Word_c76 : Code := Code.fst trellisref8_Word_c75
noncomputable abbrev trellisref8_Word_c77 : Code := Code.snd trellisref8_Word_c75
noncomputable abbrev trellisref8_Word_c78 : Code := Code.fst trellisref8_Word_c76
noncomputable abbrev trellisref8_Word_c79 : Code := Code.snd trellisref8_Word_c76
noncomputable abbrev trellisref8_Word_c80 : Code := Code.fst trellisref8_Word_c6
noncomputable abbrev trellisref8_Word_c81 : Code := Code.snd trellisref8_Word_c6
abbrev trellisref8_Word_R (w : World) (F : Nat → Prop) (r : api_Word × Int × Int × Int) : Ending → World → Prop := fun e w' => e = .returned (.tuple #[.agg #[.int .i64 r.1.kind, .string r.1.text, .int .i64 r.1.n, .int .i64 r.1.at_], .int .i64 r.2.1, .int .i64 r.2.2.1, .int .i64 r.2.2.2]) ∧ Below w.heap.size w w'
noncomputable abbrev trellisref8_Word_C (w : World) (F : Nat → Prop) (r : api_Word × Int × Int × Int) : Cx := ⟨Try.prog, 14, Try.f14, 117, trellisref8_Word_R w F r, w⟩
theorem trellisref8_Word_calls {w : World} {F : Nat → Prop} (hF : ∀ b, F b → b < w.heap.size) (x1 : ByteArray) (x2 : Int) (r : api_Word × Int × Int × Int) (h : trellisref8_Word x1 x2 r) : Calls Try.prog 14 #[.string x1, .int .i64 x2] w (trellisref8_Word_R w F r) := by
  unfold trellisref8_Word at h
  refine calls_of_G (vs := [.string x1, .int .i64 x2]) 117 Try.func14 rfl Try.ntmps14 rfl F ?_
  show G (trellisref8_Word_C w F r) _ _ _ _
  refine g_seq (c := trellisref8_Word_c0) rfl ?_
  refine g_region (c := trellisref8_Word_c1) rfl rfl ?_
  refine wl_s 0 rfl (s_alloc [.int .i64 0, .string (⟨#[]⟩ : ByteArray), .int .i64 0, .int .i64 0] zr_29 rfl fun gb3 => ?_) gn
  refine wl_v 1 rfl (v_assign rfl) gn rfl ?_
  refine wl_v 2 rfl (v_assign rfl) gn rfl ?_
  refine wl_v 3 rfl (v_assign rfl) gn rfl ?_
  refine w_end 4 rfl ?_
  refine g_seq (c := trellisref8_Word_c2) rfl ?_
  refine g_region (c := trellisref8_Word_c3) rfl rfl ?_
  refine wl_v 0 rfl (v_move rfl) gn rfl ?_
  refine wl_v 1 rfl (v_move rfl) gn rfl ?_
  obtain ⟨hb5, h⟩ := h
  refine wl_v 2 rfl (v_indexS un_9 rfl rfl hb5) gn rfl ?_
  refine wl_v 3 rfl (v_assign rfl) gn rfl ?_
  refine w_end 4 rfl ?_
  refine g_seq (c := trellisref8_Word_c4) rfl ?_
  refine g_block (c := trellisref8_Word_c5) rfl ?_
  refine g_seq (c := trellisref8_Word_c7) rfl ?_
  refine g_region (c := trellisref8_Word_c8) rfl rfl ?_
  refine wl_v 0 rfl (v_move rfl) gn rfl ?_
  obtain ⟨r8, hv9, h⟩ := h
  refine wl_s 1 rfl (s_call [.string (⟨#[65, 66, 67, 68, 69, 70, 71, 72, 73, 74, 75, 76, 77, 78, 79, 80, 81, 82, 83, 84, 85, 86, 87, 88, 89, 90, 97, 98, 99, 100, 101, 102, 103, 104, 105, 106, 107, 108, 109, 110, 111, 112, 113, 114, 115, 116, 117, 118, 119, 120, 121, 122, 95]⟩ : ByteArray), .int .u8 (bt x1 x2)] rfl Try.func13 rfl rfl rfl fun w6 hL7 => ?_) gn
  refine Calls.mono (trellisref8_in_calls (w := w6) (F := fun b => b < w6.heap.size) (fun b hb => hb) (⟨#[65, 66, 67, 68, 69, 70, 71, 72, 73, 74, 75, 76, 77, 78, 79, 80, 81, 82, 83, 84, 85, 86, 87, 88, 89, 90, 97, 98, 99, 100, 101, 102, 103, 104, 105, 106, 107, 108, 109, 110, 111, 112, 113, 114, 115, 116, 117, 118, 119, 120, 121, 122, 95]⟩ : ByteArray) (bt x1 x2) r8 hv9) ?_
  rintro _ w10 ⟨rfl, hbl11⟩
  refine ⟨_, _, _, rfl, hL7.sameB hbl11, ?_⟩
  refine wl_v 2 rfl (v_assign rfl) gn rfl ?_
  refine w_end 3 rfl ?_
  by_cases hp12 : r8 = true
  · have h := if_pos' hp12 h
    refine g_true (c := trellisref8_Word_c9) rfl _ rfl (hp12) ?_
    refine g_seq (c := trellisref8_Word_c10) rfl ?_
    refine g_region (c := trellisref8_Word_c12) rfl rfl ?_
    refine wl_v 0 rfl (v_move rfl) gn rfl ?_
    refine wl_v 1 rfl (v_move rfl) gn rfl ?_
    obtain ⟨r15, hv16, h⟩ := h
    refine wl_s 2 rfl (s_call [.string x1, .int .i64 x2, .string (⟨#[65, 66, 67, 68, 69, 70, 71, 72, 73, 74, 75, 76, 77, 78, 79, 80, 81, 82, 83, 84, 85, 86, 87, 88, 89, 90, 97, 98, 99, 100, 101, 102, 103, 104, 105, 106, 107, 108, 109, 110, 111, 112, 113, 114, 115, 116, 117, 118, 119, 120, 121, 122, 95, 48, 49, 50, 51, 52, 53, 54, 55, 56, 57]⟩ : ByteArray)] rfl Try.func18 rfl rfl rfl fun w13 hL14 => ?_) gn
    refine Calls.mono (trellisref8_run_calls (w := w13) (F := fun b => b < w13.heap.size) (fun b hb => hb) x1 x2 (⟨#[65, 66, 67, 68, 69, 70, 71, 72, 73, 74, 75, 76, 77, 78, 79, 80, 81, 82, 83, 84, 85, 86, 87, 88, 89, 90, 97, 98, 99, 100, 101, 102, 103, 104, 105, 106, 107, 108, 109, 110, 111, 112, 113, 114, 115, 116, 117, 118, 119, 120, 121, 122, 95, 48, 49, 50, 51, 52, 53, 54, 55, 56, 57]⟩ : ByteArray) r15 hv16) ?_
    rintro _ w17 ⟨rfl, hbl18⟩
    refine ⟨_, _, _, rfl, hL14.sameB hbl18, ?_⟩
    refine wl_v 3 rfl (v_assign rfl) gn rfl ?_
    refine w_end 4 rfl ?_
    refine g_seq (c := trellisref8_Word_c13) rfl ?_
    refine g_seq (c := trellisref8_Word_c14) rfl ?_
    refine g_region (c := trellisref8_Word_c16) rfl rfl ?_
    refine wl_v 0 rfl (v_move rfl) gn rfl ?_
    refine wl_v 1 rfl (v_bin rfl rfl rfl) gn rfl ?_
    refine w_end 2 rfl ?_
    by_cases hp19 : r15 > 24
    · have h := if_pos' hp19 h
      refine g_true (c := trellisref8_Word_c17) rfl _ rfl ((decide_eq_true hp19)) ?_
      refine g_seq (c := trellisref8_Word_c18) rfl ?_
      refine g_region (c := trellisref8_Word_c20) rfl rfl ?_
      refine wl_v 0 rfl (v_build #[.int .i64 0, .string (⟨#[]⟩ : ByteArray), .int .i64 0, .int .i64 0] bd_29 rfl (by kernel_rfl)) gn rfl ?_
      refine wl_v 1 rfl (v_move rfl) gn rfl ?_
      refine wl_s 2 rfl (s_stB (vs := [.int .i64 0, .string (⟨#[]⟩ : ByteArray), .int .i64 0, .int .i64 0]) (cs' := [.int .i64 0, .string (⟨#[]⟩ : ByteArray), .int .i64 0, .int .i64 0]) (M' := [.box gb3 29 [.int .i64 0, .string (⟨#[]⟩ : ByteArray), .int .i64 0, .int .i64 0]]) 0 sz_29 rfl rfl rfl rfl rfl rfl rfl rfl rfl ?_) gn
      refine wl_v 3 rfl (v_assign rfl) gn rfl ?_
      refine wl_v 4 rfl (v_assign rfl) gn rfl ?_
      refine wl_v 5 rfl (v_assign rfl) gn rfl ?_
      refine w_end 6 rfl ?_
      refine g_retR (c := trellisref8_Word_c21) [.agg #[.int .i64 0, .string (⟨#[]⟩ : ByteArray), .int .i64 0, .int .i64 0], .int .i64 0, .int .i64 83, .int .i64 x2] rfl Try.func14 rfl (.cell (us := [.int .i64 0, .string (⟨#[]⟩ : ByteArray), .int .i64 0, .int .i64 0]) (cs := [.int .i64 0, .string (⟨#[]⟩ : ByteArray), .int .i64 0, .int .i64 0]) 0 rfl ld_29 rfl rfl rfl (.tmp rfl (.tmp rfl (.tmp rfl (.nil))))) fun wr hLr => ?_
      show trellisref8_Word_R w F r (.returned (packV [.agg #[.int .i64 0, .string (⟨#[]⟩ : ByteArray), .int .i64 0, .int .i64 0], .int .i64 0, .int .i64 83, .int .i64 x2])) wr
      rw [h]
      exact ⟨rfl, hLr.below (me 1 rfl)⟩
    · have h := if_neg' hp19 h
      refine g_false (c := trellisref8_Word_c17) rfl _ rfl ((decide_eq_false hp19)) ?_
      refine g_skip (c := trellisref8_Word_c19) rfl ?_
      refine g_seq (c := trellisref8_Word_c15) rfl ?_
      refine g_region (c := trellisref8_Word_c22) rfl rfl ?_
      refine wl_v 0 rfl (v_move rfl) gn rfl ?_
      refine wl_v 1 rfl (v_move rfl) gn rfl ?_
      refine wl_v 2 rfl (v_move rfl) gn rfl ?_
      refine wl_v 3 rfl (v_move rfl) gn rfl ?_
      refine wl_v 4 rfl (v_bin rfl rfl rfl) gn rfl ?_
      obtain ⟨hb20, h⟩ := h
      refine wl_v 5 rfl (v_cutS x2 (w64 (x2 + r15)) un_9 rfl (.inr ⟨_, _, rfl, rfl⟩) (.inr ⟨_, _, rfl, rfl⟩) ⟨hb20.1, hb20.2.1⟩ hb20.2.2) gn rfl ?_
      refine wl_v 6 rfl (v_move rfl) gn rfl ?_
      refine wl_v 7 rfl (v_build #[.int .i64 1, .string (x1.extract (x2 : Int).toNat (w64 (x2 + r15) : Int).toNat), .int .i64 0, .int .i64 x2] bd_29 rfl (by kernel_rfl)) gn rfl ?_
      refine wl_v 8 rfl (v_move rfl) gn rfl ?_
      refine wl_v 9 rfl (v_move rfl) gn rfl ?_
      refine wl_v 10 rfl (v_bin rfl rfl rfl) gn rfl ?_
      refine wl_s 11 rfl (s_stB (vs := [.int .i64 1, .string (x1.extract (x2 : Int).toNat (w64 (x2 + r15) : Int).toNat), .int .i64 0, .int .i64 x2]) (cs' := [.int .i64 1, .string (x1.extract (x2 : Int).toNat (w64 (x2 + r15) : Int).toNat), .int .i64 0, .int .i64 x2]) (M' := [.box gb3 29 [.int .i64 1, .string (x1.extract (x2 : Int).toNat (w64 (x2 + r15) : Int).toNat), .int .i64 0, .int .i64 x2]]) 0 sz_29 rfl rfl rfl rfl rfl rfl rfl rfl rfl ?_) gn
      refine wl_v 12 rfl (v_assign rfl) gn rfl ?_
      refine wl_v 13 rfl (v_assign rfl) gn rfl ?_
      refine wl_v 14 rfl (v_assign rfl) gn rfl ?_
      refine w_end 15 rfl ?_
      refine g_retR (c := trellisref8_Word_c23) [.agg #[.int .i64 1, .string (x1.extract (x2 : Int).toNat (w64 (x2 + r15) : Int).toNat), .int .i64 0, .int .i64 x2], .int .i64 (w64 (x2 + r15)), .int .i64 0, .int .i64 0] rfl Try.func14 rfl (.cell (us := [.int .i64 1, .string (x1.extract (x2 : Int).toNat (w64 (x2 + r15) : Int).toNat), .int .i64 0, .int .i64 x2]) (cs := [.int .i64 1, .string (x1.extract (x2 : Int).toNat (w64 (x2 + r15) : Int).toNat), .int .i64 0, .int .i64 x2]) 0 rfl ld_29 rfl rfl rfl (.tmp rfl (.tmp rfl (.tmp rfl (.nil))))) fun wr hLr => ?_
      show trellisref8_Word_R w F r (.returned (packV [.agg #[.int .i64 1, .string (x1.extract (x2 : Int).toNat (w64 (x2 + r15) : Int).toNat), .int .i64 0, .int .i64 x2], .int .i64 (w64 (x2 + r15)), .int .i64 0, .int .i64 0])) wr
      rw [h]
      exact ⟨rfl, hLr.below (me 1 rfl)⟩
  · have h := if_neg' hp12 h
    refine g_false (c := trellisref8_Word_c9) rfl _ rfl ((bf hp12)) ?_
    refine g_seq (c := trellisref8_Word_c11) rfl ?_
    refine g_region (c := trellisref8_Word_c24) rfl rfl ?_
    refine wl_v 0 rfl (v_move rfl) gn rfl ?_
    obtain ⟨r23, hv24, h⟩ := h
    refine wl_s 1 rfl (s_call [.string (⟨#[48, 49, 50, 51, 52, 53, 54, 55, 56, 57]⟩ : ByteArray), .int .u8 (bt x1 x2)] rfl Try.func13 rfl rfl rfl fun w21 hL22 => ?_) gn
    refine Calls.mono (trellisref8_in_calls (w := w21) (F := fun b => b < w21.heap.size) (fun b hb => hb) (⟨#[48, 49, 50, 51, 52, 53, 54, 55, 56, 57]⟩ : ByteArray) (bt x1 x2) r23 hv24) ?_
    rintro _ w25 ⟨rfl, hbl26⟩
    refine ⟨_, _, _, rfl, hL22.sameB hbl26, ?_⟩
    refine wl_v 2 rfl (v_assign rfl) gn rfl ?_
    refine w_end 3 rfl ?_
    by_cases hp27 : r23 = true
    · have h := if_pos' hp27 h
      refine g_true (c := trellisref8_Word_c25) rfl _ rfl (hp27) ?_
      refine g_seq (c := trellisref8_Word_c26) rfl ?_
      refine g_region (c := trellisref8_Word_c28) rfl rfl ?_
      refine wl_v 0 rfl (v_move rfl) gn rfl ?_
      refine wl_v 1 rfl (v_move rfl) gn rfl ?_
      obtain ⟨r30, hv31, h⟩ := h
      refine wl_s 2 rfl (s_call [.string x1, .int .i64 x2, .string (⟨#[48, 49, 50, 51, 52, 53, 54, 55, 56, 57]⟩ : ByteArray)] rfl Try.func18 rfl rfl rfl fun w28 hL29 => ?_) gn
      refine Calls.mono (trellisref8_run_calls (w := w28) (F := fun b => b < w28.heap.size) (fun b hb => hb) x1 x2 (⟨#[48, 49, 50, 51, 52, 53, 54, 55, 56, 57]⟩ : ByteArray) r30 hv31) ?_
      rintro _ w32 ⟨rfl, hbl33⟩
      refine ⟨_, _, _, rfl, hL29.sameB hbl33, ?_⟩
      refine wl_v 3 rfl (v_assign rfl) gn rfl ?_
      refine w_end 4 rfl ?_
      refine g_seq (c := trellisref8_Word_c29) rfl ?_
      refine g_region (c := trellisref8_Word_c30) rfl rfl ?_
      refine wl_v 0 rfl (v_move rfl) gn rfl ?_
      refine wl_v 1 rfl (v_move rfl) gn rfl ?_
      refine wl_v 2 rfl (v_move rfl) gn rfl ?_
      refine wl_v 3 rfl (v_move rfl) gn rfl ?_
      refine wl_v 4 rfl (v_bin rfl rfl rfl) gn rfl ?_
      obtain ⟨hb34, h⟩ := h
      refine wl_v 5 rfl (v_cutS x2 (w64 (x2 + r30)) un_9 rfl (.inr ⟨_, _, rfl, rfl⟩) (.inr ⟨_, _, rfl, rfl⟩) ⟨hb34.1, hb34.2.1⟩ hb34.2.2) gn rfl ?_
      obtain ⟨r37, hv38, h⟩ := h
      refine wl_s 6 rfl (s_call [.string (x1.extract (x2 : Int).toNat (w64 (x2 + r30) : Int).toNat)] rfl Try.func19 rfl rfl rfl fun w35 hL36 => ?_) gn
      refine Calls.mono (trellisref8_number_calls (w := w35) (F := fun b => b < w35.heap.size) (fun b hb => hb) (x1.extract (x2 : Int).toNat (w64 (x2 + r30) : Int).toNat) r37 hv38) ?_
      rintro _ w39 ⟨rfl, hbl40⟩
      refine ⟨_, _, _, rfl, hL36.sameB hbl40, ?_⟩
      refine wl_v 7 rfl (v_assign rfl) gn rfl ?_
      refine w_end 8 rfl ?_
      refine g_seq (c := trellisref8_Word_c31) rfl ?_
      refine g_seq (c := trellisref8_Word_c32) rfl ?_
      refine g_region (c := trellisref8_Word_c34) rfl rfl ?_
      refine wl_v 0 rfl (v_move rfl) gn rfl ?_
      refine wl_v 1 rfl (v_bin rfl rfl rfl) gn rfl ?_
      refine w_end 2 rfl ?_
      by_cases hp41 : r37 > 65535
      · have h := if_pos' hp41 h
        refine g_true (c := trellisref8_Word_c35) rfl _ rfl ((decide_eq_true hp41)) ?_
        refine g_seq (c := trellisref8_Word_c36) rfl ?_
        refine g_region (c := trellisref8_Word_c38) rfl rfl ?_
        refine wl_v 0 rfl (v_build #[.int .i64 0, .string (⟨#[]⟩ : ByteArray), .int .i64 0, .int .i64 0] bd_29 rfl (by kernel_rfl)) gn rfl ?_
        refine wl_v 1 rfl (v_move rfl) gn rfl ?_
        refine wl_s 2 rfl (s_stB (vs := [.int .i64 0, .string (⟨#[]⟩ : ByteArray), .int .i64 0, .int .i64 0]) (cs' := [.int .i64 0, .string (⟨#[]⟩ : ByteArray), .int .i64 0, .int .i64 0]) (M' := [.box gb3 29 [.int .i64 0, .string (⟨#[]⟩ : ByteArray), .int .i64 0, .int .i64 0]]) 0 sz_29 rfl rfl rfl rfl rfl rfl rfl rfl rfl ?_) gn
        refine wl_v 3 rfl (v_assign rfl) gn rfl ?_
        refine wl_v 4 rfl (v_assign rfl) gn rfl ?_
        refine wl_v 5 rfl (v_assign rfl) gn rfl ?_
        refine w_end 6 rfl ?_
        refine g_retR (c := trellisref8_Word_c39) [.agg #[.int .i64 0, .string (⟨#[]⟩ : ByteArray), .int .i64 0, .int .i64 0], .int .i64 0, .int .i64 84, .int .i64 x2] rfl Try.func14 rfl (.cell (us := [.int .i64 0, .string (⟨#[]⟩ : ByteArray), .int .i64 0, .int .i64 0]) (cs := [.int .i64 0, .string (⟨#[]⟩ : ByteArray), .int .i64 0, .int .i64 0]) 0 rfl ld_29 rfl rfl rfl (.tmp rfl (.tmp rfl (.tmp rfl (.nil))))) fun wr hLr => ?_
        show trellisref8_Word_R w F r (.returned (packV [.agg #[.int .i64 0, .string (⟨#[]⟩ : ByteArray), .int .i64 0, .int .i64 0], .int .i64 0, .int .i64 84, .int .i64 x2])) wr
        rw [h]
        exact ⟨rfl, hLr.below (me 1 rfl)⟩
      · have h := if_neg' hp41 h
        refine g_false (c := trellisref8_Word_c35) rfl _ rfl ((decide_eq_false hp41)) ?_
        refine g_skip (c := trellisref8_Word_c37) rfl ?_
        refine g_seq (c := trellisref8_Word_c33) rfl ?_
        refine g_region (c := trellisref8_Word_c40) rfl rfl ?_
        refine wl_v 0 rfl (v_move rfl) gn rfl ?_
        refine wl_v 1 rfl (v_move rfl) gn rfl ?_
        refine wl_v 2 rfl (v_build #[.int .i64 4, .string (⟨#[]⟩ : ByteArray), .int .i64 r37, .int .i64 x2] bd_29 rfl (by kernel_rfl)) gn rfl ?_
        refine wl_v 3 rfl (v_move rfl) gn rfl ?_
        refine wl_v 4 rfl (v_move rfl) gn rfl ?_
        refine wl_v 5 rfl (v_bin rfl rfl rfl) gn rfl ?_
        refine wl_s 6 rfl (s_stB (vs := [.int .i64 4, .string (⟨#[]⟩ : ByteArray), .int .i64 r37, .int .i64 x2]) (cs' := [.int .i64 4, .string (⟨#[]⟩ : ByteArray), .int .i64 r37, .int .i64 x2]) (M' := [.box gb3 29 [.int .i64 4, .string (⟨#[]⟩ : ByteArray), .int .i64 r37, .int .i64 x2]]) 0 sz_29 rfl rfl rfl rfl rfl rfl rfl rfl rfl ?_) gn
        refine wl_v 7 rfl (v_assign rfl) gn rfl ?_
        refine wl_v 8 rfl (v_assign rfl) gn rfl ?_
        refine wl_v 9 rfl (v_assign rfl) gn rfl ?_
        refine w_end 10 rfl ?_
        refine g_retR (c := trellisref8_Word_c41) [.agg #[.int .i64 4, .string (⟨#[]⟩ : ByteArray), .int .i64 r37, .int .i64 x2], .int .i64 (w64 (x2 + r30)), .int .i64 0, .int .i64 0] rfl Try.func14 rfl (.cell (us := [.int .i64 4, .string (⟨#[]⟩ : ByteArray), .int .i64 r37, .int .i64 x2]) (cs := [.int .i64 4, .string (⟨#[]⟩ : ByteArray), .int .i64 r37, .int .i64 x2]) 0 rfl ld_29 rfl rfl rfl (.tmp rfl (.tmp rfl (.tmp rfl (.nil))))) fun wr hLr => ?_
        show trellisref8_Word_R w F r (.returned (packV [.agg #[.int .i64 4, .string (⟨#[]⟩ : ByteArray), .int .i64 r37, .int .i64 x2], .int .i64 (w64 (x2 + r30)), .int .i64 0, .int .i64 0])) wr
        rw [h]
        exact ⟨rfl, hLr.below (me 1 rfl)⟩
    · have h := if_neg' hp27 h
      refine g_false (c := trellisref8_Word_c25) rfl _ rfl ((bf hp27)) ?_
      refine g_seq (c := trellisref8_Word_c27) rfl ?_
      refine g_region (c := trellisref8_Word_c42) rfl rfl ?_
      refine wl_v 0 rfl (v_move rfl) gn rfl ?_
      refine wl_v 1 rfl (v_bin rfl rfl rfl) gn rfl ?_
      refine wl_v 2 rfl (v_assign rfl) gn rfl ?_
      refine w_end 3 rfl ?_
      by_cases hp42 : bt x1 x2 = 34
      · have h := if_pos' hp42 h
        refine g_true (c := trellisref8_Word_c43) rfl _ rfl ((eqi hp42)) ?_
        refine g_seq (c := trellisref8_Word_c44) rfl ?_
        refine g_region (c := trellisref8_Word_c46) rfl rfl ?_
        refine wl_v 0 rfl (v_move rfl) gn rfl ?_
        refine wl_v 1 rfl (v_move rfl) gn rfl ?_
        obtain ⟨r45, hv46, h⟩ := h
        refine wl_s 2 rfl (s_call [.string x1, .int .i64 x2] rfl Try.func20 rfl rfl rfl fun w43 hL44 => ?_) gn
        refine Calls.mono (trellisref8_str_calls (w := w43) (F := fun b => b < w43.heap.size) (fun b hb => hb) x1 x2 r45 hv46) ?_
        rintro _ w47 ⟨rfl, hbl48⟩
        refine ⟨_, _, _, rfl, hL44.sameB hbl48, ?_⟩
        refine wl_v 3 rfl (v_move rfl) gn rfl ?_
        refine wl_v 4 rfl (v_extract rfl rfl) gn rfl ?_
        refine wl_v 5 rfl (v_extract rfl rfl) gn rfl ?_
        refine wl_v 6 rfl (v_extract rfl rfl) gn rfl ?_
        refine wl_v 7 rfl (v_extract rfl rfl) gn rfl ?_
        refine wl_v 8 rfl (v_assign rfl) gn rfl ?_
        refine wl_v 9 rfl (v_assign rfl) gn rfl ?_
        refine wl_v 10 rfl (v_assign rfl) gn rfl ?_
        refine wl_v 11 rfl (v_assign rfl) gn rfl ?_
        refine w_end 12 rfl ?_
        refine g_seq (c := trellisref8_Word_c47) rfl ?_
        refine g_seq (c := trellisref8_Word_c48) rfl ?_
        refine g_region (c := trellisref8_Word_c50) rfl rfl ?_
        refine wl_v 0 rfl (v_move rfl) gn rfl ?_
        refine wl_v 1 rfl (v_bin rfl rfl rfl) gn rfl ?_
        refine w_end 2 rfl ?_
        by_cases hp49 : r45.2.2.1 = 0
        · have h := if_pos' hp49 h
          refine g_false (c := trellisref8_Word_c51) rfl _ rfl ((eqib hp49)) ?_
          refine g_skip (c := trellisref8_Word_c53) rfl ?_
          refine g_seq (c := trellisref8_Word_c49) rfl ?_
          refine g_region (c := trellisref8_Word_c54) rfl rfl ?_
          refine wl_v 0 rfl (v_move rfl) gn rfl ?_
          refine wl_v 1 rfl (v_move rfl) gn rfl ?_
          refine wl_v 2 rfl (v_build #[.int .i64 2, .string r45.2.1, .int .i64 0, .int .i64 x2] bd_29 rfl (by kernel_rfl)) gn rfl ?_
          refine wl_v 3 rfl (v_move rfl) gn rfl ?_
          refine wl_s 4 rfl (s_stB (vs := [.int .i64 2, .string r45.2.1, .int .i64 0, .int .i64 x2]) (cs' := [.int .i64 2, .string r45.2.1, .int .i64 0, .int .i64 x2]) (M' := [.box gb3 29 [.int .i64 2, .string r45.2.1, .int .i64 0, .int .i64 x2]]) 0 sz_29 rfl rfl rfl rfl rfl rfl rfl rfl rfl ?_) gn
          refine wl_v 5 rfl (v_assign rfl) gn rfl ?_
          refine wl_v 6 rfl (v_assign rfl) gn rfl ?_
          refine wl_v 7 rfl (v_assign rfl) gn rfl ?_
          refine w_end 8 rfl ?_
          refine g_retR (c := trellisref8_Word_c55) [.agg #[.int .i64 2, .string r45.2.1, .int .i64 0, .int .i64 x2], .int .i64 r45.1, .int .i64 0, .int .i64 0] rfl Try.func14 rfl (.cell (us := [.int .i64 2, .string r45.2.1, .int .i64 0, .int .i64 x2]) (cs := [.int .i64 2, .string r45.2.1, .int .i64 0, .int .i64 x2]) 0 rfl ld_29 rfl rfl rfl (.tmp rfl (.tmp rfl (.tmp rfl (.nil))))) fun wr hLr => ?_
          show trellisref8_Word_R w F r (.returned (packV [.agg #[.int .i64 2, .string r45.2.1, .int .i64 0, .int .i64 x2], .int .i64 r45.1, .int .i64 0, .int .i64 0])) wr
          rw [h]
          exact ⟨rfl, hLr.below (me 1 rfl)⟩
        · have h := if_neg' hp49 h
          refine g_true (c := trellisref8_Word_c51) rfl _ rfl ((neib hp49)) ?_
          refine g_seq (c := trellisref8_Word_c52) rfl ?_
          refine g_region (c := trellisref8_Word_c56) rfl rfl ?_
          refine wl_v 0 rfl (v_build #[.int .i64 0, .string (⟨#[]⟩ : ByteArray), .int .i64 0, .int .i64 0] bd_29 rfl (by kernel_rfl)) gn rfl ?_
          refine wl_v 1 rfl (v_move rfl) gn rfl ?_
          refine wl_v 2 rfl (v_move rfl) gn rfl ?_
          refine wl_s 3 rfl (s_stB (vs := [.int .i64 0, .string (⟨#[]⟩ : ByteArray), .int .i64 0, .int .i64 0]) (cs' := [.int .i64 0, .string (⟨#[]⟩ : ByteArray), .int .i64 0, .int .i64 0]) (M' := [.box gb3 29 [.int .i64 0, .string (⟨#[]⟩ : ByteArray), .int .i64 0, .int .i64 0]]) 0 sz_29 rfl rfl rfl rfl rfl rfl rfl rfl rfl ?_) gn
          refine wl_v 4 rfl (v_assign rfl) gn rfl ?_
          refine wl_v 5 rfl (v_assign rfl) gn rfl ?_
          refine wl_v 6 rfl (v_assign rfl) gn rfl ?_
          refine w_end 7 rfl ?_
          refine g_retR (c := trellisref8_Word_c57) [.agg #[.int .i64 0, .string (⟨#[]⟩ : ByteArray), .int .i64 0, .int .i64 0], .int .i64 0, .int .i64 r45.2.2.1, .int .i64 r45.2.2.2] rfl Try.func14 rfl (.cell (us := [.int .i64 0, .string (⟨#[]⟩ : ByteArray), .int .i64 0, .int .i64 0]) (cs := [.int .i64 0, .string (⟨#[]⟩ : ByteArray), .int .i64 0, .int .i64 0]) 0 rfl ld_29 rfl rfl rfl (.tmp rfl (.tmp rfl (.tmp rfl (.nil))))) fun wr hLr => ?_
          show trellisref8_Word_R w F r (.returned (packV [.agg #[.int .i64 0, .string (⟨#[]⟩ : ByteArray), .int .i64 0, .int .i64 0], .int .i64 0, .int .i64 r45.2.2.1, .int .i64 r45.2.2.2])) wr
          rw [h]
          exact ⟨rfl, hLr.below (me 1 rfl)⟩
      · have h := if_neg' hp42 h
        refine g_false (c := trellisref8_Word_c43) rfl _ rfl ((nei hp42)) ?_
        refine g_seq (c := trellisref8_Word_c45) rfl ?_
        refine g_region (c := trellisref8_Word_c58) rfl rfl ?_
        refine wl_v 0 rfl (v_move rfl) gn rfl ?_
        refine wl_v 1 rfl (v_bin rfl rfl rfl) gn rfl ?_
        refine wl_v 2 rfl (v_assign rfl) gn rfl ?_
        refine w_end 3 rfl ?_
        by_cases hp50 : bt x1 x2 = 47
        · have h := if_pos' hp50 h
          refine g_true (c := trellisref8_Word_c59) rfl _ rfl ((eqi hp50)) ?_
          refine g_seq (c := trellisref8_Word_c60) rfl ?_
          refine g_region (c := trellisref8_Word_c62) rfl rfl ?_
          refine wl_v 0 rfl (v_move rfl) gn rfl ?_
          refine wl_v 1 rfl (v_move rfl) gn rfl ?_
          obtain ⟨r53, hv54, h⟩ := h
          refine wl_s 2 rfl (s_call [.string x1, .int .i64 x2] rfl Try.func21 rfl rfl rfl fun w51 hL52 => ?_) gn
          refine Calls.mono (trellisref8_regex_calls (w := w51) (F := fun b => b < w51.heap.size) (fun b hb => hb) x1 x2 r53 hv54) ?_
          rintro _ w55 ⟨rfl, hbl56⟩
          refine ⟨_, _, _, rfl, hL52.sameB hbl56, ?_⟩
          refine wl_v 3 rfl (v_assign rfl) gn rfl ?_
          refine w_end 4 rfl ?_
          refine g_seq (c := trellisref8_Word_c63) rfl ?_
          refine g_seq (c := trellisref8_Word_c64) rfl ?_
          refine g_region (c := trellisref8_Word_c66) rfl rfl ?_
          refine wl_v 0 rfl (v_move rfl) gn rfl ?_
          refine wl_v 1 rfl (v_bin rfl rfl rfl) gn rfl ?_
          refine w_end 2 rfl ?_
          by_cases hp57 : r53 = 0
          · have h := if_pos' hp57 h
            refine g_true (c := trellisref8_Word_c67) rfl _ rfl ((eqi hp57)) ?_
            refine g_seq (c := trellisref8_Word_c68) rfl ?_
            refine g_region (c := trellisref8_Word_c70) rfl rfl ?_
            refine wl_v 0 rfl (v_build #[.int .i64 0, .string (⟨#[]⟩ : ByteArray), .int .i64 0, .int .i64 0] bd_29 rfl (by kernel_rfl)) gn rfl ?_
            refine wl_v 1 rfl (v_move rfl) gn rfl ?_
            refine wl_s 2 rfl (s_stB (vs := [.int .i64 0, .string (⟨#[]⟩ : ByteArray), .int .i64 0, .int .i64 0]) (cs' := [.int .i64 0, .string (⟨#[]⟩ : ByteArray), .int .i64 0, .int .i64 0]) (M' := [.box gb3 29 [.int .i64 0, .string (⟨#[]⟩ : ByteArray), .int .i64 0, .int .i64 0]]) 0 sz_29 rfl rfl rfl rfl rfl rfl rfl rfl rfl ?_) gn
            refine wl_v 3 rfl (v_assign rfl) gn rfl ?_
            refine wl_v 4 rfl (v_assign rfl) gn rfl ?_
            refine wl_v 5 rfl (v_assign rfl) gn rfl ?_
            refine w_end 6 rfl ?_
            refine g_retR (c := trellisref8_Word_c71) [.agg #[.int .i64 0, .string (⟨#[]⟩ : ByteArray), .int .i64 0, .int .i64 0], .int .i64 0, .int .i64 82, .int .i64 x2] rfl Try.func14 rfl (.cell (us := [.int .i64 0, .string (⟨#[]⟩ : ByteArray), .int .i64 0, .int .i64 0]) (cs := [.int .i64 0, .string (⟨#[]⟩ : ByteArray), .int .i64 0, .int .i64 0]) 0 rfl ld_29 rfl rfl rfl (.tmp rfl (.tmp rfl (.tmp rfl (.nil))))) fun wr hLr => ?_
            show trellisref8_Word_R w F r (.returned (packV [.agg #[.int .i64 0, .string (⟨#[]⟩ : ByteArray), .int .i64 0, .int .i64 0], .int .i64 0, .int .i64 82, .int .i64 x2])) wr
            rw [h]
            exact ⟨rfl, hLr.below (me 1 rfl)⟩
          · have h := if_neg' hp57 h
            refine g_false (c := trellisref8_Word_c67) rfl _ rfl ((nei hp57)) ?_
            refine g_skip (c := trellisref8_Word_c69) rfl ?_
            refine g_seq (c := trellisref8_Word_c65) rfl ?_
            refine g_region (c := trellisref8_Word_c72) rfl rfl ?_
            refine wl_v 0 rfl (v_move rfl) gn rfl ?_
            refine wl_v 1 rfl (v_move rfl) gn rfl ?_
            refine wl_v 2 rfl (v_bin rfl rfl rfl) gn rfl ?_
            refine wl_v 3 rfl (v_move rfl) gn rfl ?_
            refine wl_v 4 rfl (v_bin rfl rfl rfl) gn rfl ?_
            obtain ⟨hb58, h⟩ := h
            refine wl_v 5 rfl (v_cutS (w64 (x2 + 1)) (w64 (r53 - 1)) un_9 rfl (.inr ⟨_, _, rfl, rfl⟩) (.inr ⟨_, _, rfl, rfl⟩) ⟨hb58.1, hb58.2.1⟩ hb58.2.2) gn rfl ?_
            refine wl_v 6 rfl (v_move rfl) gn rfl ?_
            refine wl_v 7 rfl (v_build #[.int .i64 3, .string (x1.extract (w64 (x2 + 1) : Int).toNat (w64 (r53 - 1) : Int).toNat), .int .i64 0, .int .i64 x2] bd_29 rfl (by kernel_rfl)) gn rfl ?_
            refine wl_v 8 rfl (v_move rfl) gn rfl ?_
            refine wl_s 9 rfl (s_stB (vs := [.int .i64 3, .string (x1.extract (w64 (x2 + 1) : Int).toNat (w64 (r53 - 1) : Int).toNat), .int .i64 0, .int .i64 x2]) (cs' := [.int .i64 3, .string (x1.extract (w64 (x2 + 1) : Int).toNat (w64 (r53 - 1) : Int).toNat), .int .i64 0, .int .i64 x2]) (M' := [.box gb3 29 [.int .i64 3, .string (x1.extract (w64 (x2 + 1) : Int).toNat (w64 (r53 - 1) : Int).toNat), .int .i64 0, .int .i64 x2]]) 0 sz_29 rfl rfl rfl rfl rfl rfl rfl rfl rfl ?_) gn
            refine wl_v 10 rfl (v_assign rfl) gn rfl ?_
            refine wl_v 11 rfl (v_assign rfl) gn rfl ?_
            refine wl_v 12 rfl (v_assign rfl) gn rfl ?_
            refine w_end 13 rfl ?_
            refine g_retR (c := trellisref8_Word_c73) [.agg #[.int .i64 3, .string (x1.extract (w64 (x2 + 1) : Int).toNat (w64 (r53 - 1) : Int).toNat), .int .i64 0, .int .i64 x2], .int .i64 r53, .int .i64 0, .int .i64 0] rfl Try.func14 rfl (.cell (us := [.int .i64 3, .string (x1.extract (w64 (x2 + 1) : Int).toNat (w64 (r53 - 1) : Int).toNat), .int .i64 0, .int .i64 x2]) (cs := [.int .i64 3, .string (x1.extract (w64 (x2 + 1) : Int).toNat (w64 (r53 - 1) : Int).toNat), .int .i64 0, .int .i64 x2]) 0 rfl ld_29 rfl rfl rfl (.tmp rfl (.tmp rfl (.tmp rfl (.nil))))) fun wr hLr => ?_
            show trellisref8_Word_R w F r (.returned (packV [.agg #[.int .i64 3, .string (x1.extract (w64 (x2 + 1) : Int).toNat (w64 (r53 - 1) : Int).toNat), .int .i64 0, .int .i64 x2], .int .i64 r53, .int .i64 0, .int .i64 0])) wr
            rw [h]
            exact ⟨rfl, hLr.below (me 1 rfl)⟩
        · have h := if_neg' hp50 h
          refine g_false (c := trellisref8_Word_c59) rfl _ rfl ((nei hp50)) ?_
          refine g_seq (c := trellisref8_Word_c61) rfl ?_
          refine g_region (c := trellisref8_Word_c74) rfl rfl ?_
          refine wl_v 0 rfl (v_move rfl) gn rfl ?_
          obtain ⟨r61, hv62, h⟩ := h
          refine wl_s 1 rfl (s_call [.string (⟨#[123, 125, 40, 41, 124, 42, 43, 63, 58, 59, 44, 61, 64]⟩ : ByteArray), .int .u8 (bt x1 x2)] rfl Try.func13 rfl rfl rfl fun w59 hL60 => ?_) gn
          refine Calls.mono (trellisref8_in_calls (w := w59) (F := fun b => b < w59.heap.size) (fun b hb => hb) (⟨#[123, 125, 40, 41, 124, 42, 43, 63, 58, 59, 44, 61, 64]⟩ : ByteArray) (bt x1 x2) r61 hv62) ?_
          rintro _ w63 ⟨rfl, hbl64⟩
          refine ⟨_, _, _, rfl, hL60.sameB hbl64, ?_⟩
          refine wl_v 2 rfl (v_assign rfl) gn rfl ?_
          refine w_end 3 rfl ?_
          by_cases hp65 : r61 = true
          · have h := if_pos' hp65 h
            refine g_true (c := trellisref8_Word_c75) rfl _ rfl (hp65) ?_
            refine g_seq (c := trellisref8_Word_c76) rfl ?_
            refine g_region (c := trellisref8_Word_c78) rfl rfl ?_
            refine wl_v 0 rfl (v_move rfl) gn rfl ?_
            refine wl_v 1 rfl (v_move rfl) gn rfl ?_
            refine wl_v 2 rfl (v_move rfl) gn rfl ?_
            refine wl_v 3 rfl (v_bin rfl rfl rfl) gn rfl ?_
            obtain ⟨hb66, h⟩ := h
            refine wl_v 4 rfl (v_cutS x2 (w64 (x2 + 1)) un_9 rfl (.inr ⟨_, _, rfl, rfl⟩) (.inr ⟨_, _, rfl, rfl⟩) ⟨hb66.1, hb66.2.1⟩ hb66.2.2) gn rfl ?_
            refine wl_v 5 rfl (v_move rfl) gn rfl ?_
            refine wl_v 6 rfl (v_build #[.int .i64 5, .string (x1.extract (x2 : Int).toNat (w64 (x2 + 1) : Int).toNat), .int .i64 0, .int .i64 x2] bd_29 rfl (by kernel_rfl)) gn rfl ?_
            refine wl_v 7 rfl (v_move rfl) gn rfl ?_
            refine wl_v 8 rfl (v_bin rfl rfl rfl) gn rfl ?_
            refine wl_s 9 rfl (s_stB (vs := [.int .i64 5, .string (x1.extract (x2 : Int).toNat (w64 (x2 + 1) : Int).toNat), .int .i64 0, .int .i64 x2]) (cs' := [.int .i64 5, .string (x1.extract (x2 : Int).toNat (w64 (x2 + 1) : Int).toNat), .int .i64 0, .int .i64 x2]) (M' := [.box gb3 29 [.int .i64 5, .string (x1.extract (x2 : Int).toNat (w64 (x2 + 1) : Int).toNat), .int .i64 0, .int .i64 x2]]) 0 sz_29 rfl rfl rfl rfl rfl rfl rfl rfl rfl ?_) gn
            refine wl_v 10 rfl (v_assign rfl) gn rfl ?_
            refine wl_v 11 rfl (v_assign rfl) gn rfl ?_
            refine wl_v 12 rfl (v_assign rfl) gn rfl ?_
            refine w_end 13 rfl ?_
            refine g_retR (c := trellisref8_Word_c79) [.agg #[.int .i64 5, .string (x1.extract (x2 : Int).toNat (w64 (x2 + 1) : Int).toNat), .int .i64 0, .int .i64 x2], .int .i64 (w64 (x2 + 1)), .int .i64 0, .int .i64 0] rfl Try.func14 rfl (.cell (us := [.int .i64 5, .string (x1.extract (x2 : Int).toNat (w64 (x2 + 1) : Int).toNat), .int .i64 0, .int .i64 x2]) (cs := [.int .i64 5, .string (x1.extract (x2 : Int).toNat (w64 (x2 + 1) : Int).toNat), .int .i64 0, .int .i64 x2]) 0 rfl ld_29 rfl rfl rfl (.tmp rfl (.tmp rfl (.tmp rfl (.nil))))) fun wr hLr => ?_
            show trellisref8_Word_R w F r (.returned (packV [.agg #[.int .i64 5, .string (x1.extract (x2 : Int).toNat (w64 (x2 + 1) : Int).toNat), .int .i64 0, .int .i64 x2], .int .i64 (w64 (x2 + 1)), .int .i64 0, .int .i64 0])) wr
            rw [h]
            exact ⟨rfl, hLr.below (me 1 rfl)⟩
          · have h := if_neg' hp65 h
            refine g_false (c := trellisref8_Word_c75) rfl _ rfl ((bf hp65)) ?_
            refine g_skip (c := trellisref8_Word_c77) rfl ?_
            refine g_inBlock ?_
            refine g_seq (c := trellisref8_Word_c6) rfl ?_
            refine g_region (c := trellisref8_Word_c80) rfl rfl ?_
            refine wl_v 0 rfl (v_build #[.int .i64 0, .string (⟨#[]⟩ : ByteArray), .int .i64 0, .int .i64 0] bd_29 rfl (by kernel_rfl)) gn rfl ?_
            refine wl_v 1 rfl (v_move rfl) gn rfl ?_
            refine wl_s 2 rfl (s_stB (vs := [.int .i64 0, .string (⟨#[]⟩ : ByteArray), .int .i64 0, .int .i64 0]) (cs' := [.int .i64 0, .string (⟨#[]⟩ : ByteArray), .int .i64 0, .int .i64 0]) (M' := [.box gb3 29 [.int .i64 0, .string (⟨#[]⟩ : ByteArray), .int .i64 0, .int .i64 0]]) 0 sz_29 rfl rfl rfl rfl rfl rfl rfl rfl rfl ?_) gn
            refine wl_v 3 rfl (v_assign rfl) gn rfl ?_
            refine wl_v 4 rfl (v_assign rfl) gn rfl ?_
            refine wl_v 5 rfl (v_assign rfl) gn rfl ?_
            refine w_end 6 rfl ?_
            refine g_retR (c := trellisref8_Word_c81) [.agg #[.int .i64 0, .string (⟨#[]⟩ : ByteArray), .int .i64 0, .int .i64 0], .int .i64 0, .int .i64 81, .int .i64 x2] rfl Try.func14 rfl (.cell (us := [.int .i64 0, .string (⟨#[]⟩ : ByteArray), .int .i64 0, .int .i64 0]) (cs := [.int .i64 0, .string (⟨#[]⟩ : ByteArray), .int .i64 0, .int .i64 0]) 0 rfl ld_29 rfl rfl rfl (.tmp rfl (.tmp rfl (.tmp rfl (.nil))))) fun wr hLr => ?_
            show trellisref8_Word_R w F r (.returned (packV [.agg #[.int .i64 0, .string (⟨#[]⟩ : ByteArray), .int .i64 0, .int .i64 0], .int .i64 0, .int .i64 81, .int .i64 x2])) wr
            rw [h]
            exact ⟨rfl, hLr.below (me 1 rfl)⟩
noncomputable abbrev trellisref8_Cut_c0 : Code := bodyOf Try.f5
noncomputable abbrev trellisref8_Cut_c1 : Code := Code.fst trellisref8_Cut_c0
noncomputable abbrev trellisref8_Cut_c2 : Code := Code.snd trellisref8_Cut_c0
noncomputable abbrev trellisref8_Cut_c3 : Code := Code.fst trellisref8_Cut_c2
noncomputable abbrev trellisref8_Cut_c4 : Code := Code.snd trellisref8_Cut_c2
noncomputable abbrev trellisref8_Cut_c5 : Code := Code.fst trellisref8_Cut_c3
noncomputable abbrev trellisref8_Cut_c6 : Code := Code.snd trellisref8_Cut_c3
noncomputable abbrev trellisref8_Cut_c7 : Code := Code.fst trellisref8_Cut_c6
noncomputable abbrev trellisref8_Cut_c8 : Code := Code.snd trellisref8_Cut_c6
noncomputable abbrev trellisref8_Cut_c9 : Code := Code.fst trellisref8_Cut_c7
noncomputable abbrev trellisref8_Cut_c10 : Code := Code.snd trellisref8_Cut_c7
noncomputable abbrev trellisref8_Cut_c11 : Code := Code.fst trellisref8_Cut_c4
noncomputable abbrev trellisref8_Cut_c12 : Code := Code.snd trellisref8_Cut_c4
noncomputable abbrev trellisref8_Cut_c13 : Code := Code.fst trellisref8_Cut_c12
noncomputable abbrev trellisref8_Cut_c14 : Code := Code.snd trellisref8_Cut_c12
noncomputable abbrev trellisref8_Cut_c15 : Code := Code.fst trellisref8_Cut_c14
noncomputable abbrev trellisref8_Cut_c16 : Code := Code.snd trellisref8_Cut_c14
noncomputable abbrev trellisref8_Cut_c17 : Code := Code.fst trellisref8_Cut_c15
noncomputable abbrev trellisref8_Cut_c18 : Code := Code.fst trellisref8_Cut_c17
noncomputable abbrev trellisref8_Cut_c19 : Code := Code.fst trellisref8_Cut_c18
noncomputable abbrev trellisref8_Cut_c20 : Code := Code.snd trellisref8_Cut_c18
noncomputable abbrev trellisref8_Cut_c21 : Code := Code.fst trellisref8_Cut_c19
noncomputable abbrev trellisref8_Cut_c22 : Code := Code.snd trellisref8_Cut_c19
noncomputable abbrev trellisref8_Cut_c23 : Code := Code.fst trellisref8_Cut_c22
noncomputable abbrev trellisref8_Cut_c24 : Code := Code.snd trellisref8_Cut_c22
noncomputable abbrev trellisref8_Cut_c25 : Code := Code.fst trellisref8_Cut_c20
noncomputable abbrev trellisref8_Cut_c26 : Code := Code.fst trellisref8_Cut_c25
noncomputable abbrev trellisref8_Cut_c27 : Code := Code.snd trellisref8_Cut_c25
noncomputable abbrev trellisref8_Cut_c28 : Code := Code.fst trellisref8_Cut_c26
noncomputable abbrev trellisref8_Cut_c29 : Code := Code.snd trellisref8_Cut_c26
noncomputable abbrev trellisref8_Cut_c30 : Code := Code.fst trellisref8_Cut_c29
noncomputable abbrev trellisref8_Cut_c31 : Code := Code.snd trellisref8_Cut_c29
noncomputable abbrev trellisref8_Cut_c32 : Code := Code.fst trellisref8_Cut_c30
noncomputable abbrev trellisref8_Cut_c33 : Code := Code.snd trellisref8_Cut_c30
noncomputable abbrev trellisref8_Cut_c34 : Code := Code.fst trellisref8_Cut_c27
noncomputable abbrev trellisref8_Cut_c35 : Code := Code.snd trellisref8_Cut_c27
noncomputable abbrev trellisref8_Cut_c36 : Code := Code.fst trellisref8_Cut_c34
noncomputable abbrev trellisref8_Cut_c37 : Code := Code.snd trellisref8_Cut_c34
noncomputable abbrev trellisref8_Cut_c38 : Code := Code.fst trellisref8_Cut_c37
noncomputable abbrev trellisref8_Cut_c39 : Code := Code.snd trellisref8_Cut_c37
noncomputable abbrev trellisref8_Cut_c40 : Code := Code.fst trellisref8_Cut_c38
noncomputable abbrev trellisref8_Cut_c41 : Code := Code.snd trellisref8_Cut_c38
noncomputable abbrev trellisref8_Cut_c42 : Code := Code.fst trellisref8_Cut_c40
noncomputable abbrev trellisref8_Cut_c43 : Code := Code.fst trellisref8_Cut_c42
noncomputable abbrev trellisref8_Cut_c44 : Code := Code.fst trellisref8_Cut_c43
noncomputable abbrev trellisref8_Cut_c45 : Code := Code.snd trellisref8_Cut_c43
noncomputable abbrev trellisref8_Cut_c46 : Code := Code.fst trellisref8_Cut_c44
noncomputable abbrev trellisref8_Cut_c47 : Code := Code.snd trellisref8_Cut_c44
noncomputable abbrev trellisref8_Cut_c48 : Code := Code.fst trellisref8_Cut_c47
noncomputable abbrev trellisref8_Cut_c49 : Code := Code.snd trellisref8_Cut_c47
noncomputable abbrev trellisref8_Cut_c50 : Code := Code.fst trellisref8_Cut_c45
noncomputable abbrev trellisref8_Cut_c51 : Code := Code.fst trellisref8_Cut_c35
noncomputable abbrev trellisref8_Cut_c52 : Code := Code.snd trellisref8_Cut_c35
noncomputable abbrev trellisref8_Cut_c53 : Code := Code.fst trellisref8_Cut_c52
noncomputable abbrev trellisref8_Cut_c54 : Code := Code.snd trellisref8_Cut_c52
noncomputable abbrev trellisref8_Cut_c55 : Code := Code.fst trellisref8_Cut_c53
noncomputable abbrev trellisref8_Cut_c56 : Code := Code.snd trellisref8_Cut_c53
noncomputable abbrev trellisref8_Cut_c57 : Code := Code.fst trellisref8_Cut_c56
noncomputable abbrev trellisref8_Cut_c58 : Code := Code.snd trellisref8_Cut_c56
noncomputable abbrev trellisref8_Cut_c59 : Code := Code.fst trellisref8_Cut_c54
noncomputable abbrev trellisref8_Cut_c60 : Code := Code.snd trellisref8_Cut_c54
noncomputable abbrev trellisref8_Cut_c61 : Code := Code.fst trellisref8_Cut_c57
noncomputable abbrev trellisref8_Cut_c62 : Code := Code.snd trellisref8_Cut_c57
noncomputable abbrev trellisref8_Cut_c63 : Code := Code.fst trellisref8_Cut_c16
noncomputable abbrev trellisref8_Cut_c64 : Code := Code.snd trellisref8_Cut_c16
abbrev trellisref8_Cut_R (w : World) (F : Nat → Prop) (r : (List api_Word) × Int × Int) : Ending → World → Prop := fun e w' => ∃ A0 : Option Addr, ∃ c0 : Nat, e = .returned (.tuple #[.slice A0 r.1.length c0, .int .i64 r.2.1, .int .i64 r.2.2]) ∧ Below w.heap.size w w' ∧ w'.ownsRow 0 29 4 (.slice A0 r.1.length c0) r.1.length (r.1.flatMap enc_api_Word) ∧ (∀ b, (Value.slice A0 r.1.length c0).ownBlock = some b → w.heap.size ≤ b) ∧ r.1.length ≤ c0 ∧ c0 ≤ maxLen
noncomputable abbrev trellisref8_Cut_C (w : World) (F : Nat → Prop) (r : (List api_Word) × Int × Int) : Cx := ⟨Try.prog, 5, Try.f5, 58, trellisref8_Cut_R w F r, w⟩
theorem trellisref8_Cut_calls {w : World} {F : Nat → Prop} (hF : ∀ b, F b → b < w.heap.size) (x1 : ByteArray) (r : (List api_Word) × Int × Int) (h : trellisref8_Cut x1 r) : Calls Try.prog 5 #[.string x1] w (trellisref8_Cut_R w F r) := by
  unfold trellisref8_Cut at h
  refine calls_of_G (vs := [.string x1]) 58 Try.func5 rfl Try.ntmps5 rfl F ?_
  show G (trellisref8_Cut_C w F r) _ _ _ _
  refine g_seq (c := trellisref8_Cut_c0) rfl ?_
  refine g_region (c := trellisref8_Cut_c1) rfl rfl ?_
  refine wl_v 0 rfl (v_assign rfl) gn rfl ?_
  refine wl_v 1 rfl (v_assign rfl) gn rfl ?_
  refine wl_v 2 rfl (v_assign rfl) gn rfl ?_
  refine w_end 3 rfl ?_
  refine g_seq (c := trellisref8_Cut_c2) rfl ?_
  refine g_seq (c := trellisref8_Cut_c3) rfl ?_
  refine g_region (c := trellisref8_Cut_c5) rfl rfl ?_
  refine wl_v 0 rfl (v_move rfl) gn rfl ?_
  refine wl_v 1 rfl (v_lenS un_9 rfl) gn rfl ?_
  refine wl_v 2 rfl (v_bin rfl rfl rfl) gn rfl ?_
  refine w_end 3 rfl ?_
  by_cases hp2 : (x1.size : Int) > 16384
  · have h := if_pos' hp2 h
    refine g_true (c := trellisref8_Cut_c6) rfl _ rfl ((decide_eq_true hp2)) ?_
    refine g_seq (c := trellisref8_Cut_c7) rfl ?_
    refine g_region (c := trellisref8_Cut_c9) rfl rfl ?_
    refine wl_v 0 rfl (v_assign rfl) gn rfl ?_
    refine wl_v 1 rfl (v_assign rfl) gn rfl ?_
    refine wl_v 2 rfl (v_assign rfl) gn rfl ?_
    refine w_end 3 rfl ?_
    refine g_retR (c := trellisref8_Cut_c10) [.slice none 0 0, .int .i64 80, .int .i64 16384] rfl Try.func5 rfl (.tmp rfl (.tmp rfl (.tmp rfl (.nil)))) fun wr hLr => ?_
    show trellisref8_Cut_R w F r (.returned (packV [.slice none 0 0, .int .i64 80, .int .i64 16384])) wr
    rw [h]
    exact ⟨none, 0, rfl, hLr.below (me 1 rfl), World.ownsRow_nil _ _ _ _, (fun b hb => by cases hb), Nat.zero_le _, Nat.zero_le _⟩
  · have h := if_neg' hp2 h
    refine g_false (c := trellisref8_Cut_c6) rfl _ rfl ((decide_eq_false hp2)) ?_
    refine g_skip (c := trellisref8_Cut_c8) rfl ?_
    refine g_seq (c := trellisref8_Cut_c4) rfl ?_
    refine g_region (c := trellisref8_Cut_c11) rfl rfl ?_
    refine wl_v 0 rfl (v_assign rfl) gn rfl ?_
    refine w_end 1 rfl ?_
    refine g_seq (c := trellisref8_Cut_c12) rfl ?_
    refine g_region (c := trellisref8_Cut_c13) rfl rfl ?_
    refine wl_v 0 rfl (v_assign rfl) gn rfl ?_
    refine w_end 1 rfl ?_
    refine g_seq (c := trellisref8_Cut_c14) rfl ?_
    refine g_block (c := trellisref8_Cut_c15) rfl ?_
    refine g_loop (c := trellisref8_Cut_c17) rfl ?_
    have key1 : ∀ s, Rounds (fun (s : (List api_Word) × Int) o => trellisref8_Cut_b1 x1 s.1 s.2 o) s r → (fun (s : (List api_Word) × Int) => ∀ (A43 : Option Addr) (n45 : Nat) (c44 : Nat) (hq49 : n45 = s.1.length) (hA46 : 0 < n45 → A43.isSome = true) (hn47 : n45 ≤ c44) (hm48 : c44 ≤ maxLen), G (trellisref8_Cut_C w F r) [.code trellisref8_Cut_c18, .inLoop trellisref8_Cut_c18, .inBlock 0, .code trellisref8_Cut_c16] [(0, .string x1), (5, .slice A43 n45 c44), (6, .int .i64 s.2)] [.own (.slice A43 n45 c44) 29 4 n45 (s.1.flatMap enc_api_Word)] [Sm w.heap.size F w [], St w []]) s := by
      intro s hs
      refine Rounds.ind (mot := (fun (s : (List api_Word) × Int) => ∀ (A43 : Option Addr) (n45 : Nat) (c44 : Nat) (hq49 : n45 = s.1.length) (hA46 : 0 < n45 → A43.isSome = true) (hn47 : n45 ≤ c44) (hm48 : c44 ≤ maxLen), G (trellisref8_Cut_C w F r) [.code trellisref8_Cut_c18, .inLoop trellisref8_Cut_c18, .inBlock 0, .code trellisref8_Cut_c16] [(0, .string x1), (5, .slice A43 n45 c44), (6, .int .i64 s.2)] [.own (.slice A43 n45 c44) 29 4 n45 (s.1.flatMap enc_api_Word)] [Sm w.heap.size F w [], St w []])) ?_ hs
      clear hs s
      intro s o1 h hO1
      obtain ⟨x42, x50⟩ := s
      intro A43 n45 c44 hq49 hA46 hn47 hm48
      have h : trellisref8_Cut_b1 x1 x42 x50 o1 := h
      unfold trellisref8_Cut_b1 at h
      show G (trellisref8_Cut_C w F r) [.code trellisref8_Cut_c18, .inLoop trellisref8_Cut_c18, .inBlock 0, .code trellisref8_Cut_c16] [(0, .string x1), (5, .slice A43 n45 c44), (6, .int .i64 x50)] [.own (.slice A43 n45 c44) 29 4 n45 (x42.flatMap enc_api_Word)] [Sm w.heap.size F w [], St w []]
      refine g_seq (c := trellisref8_Cut_c18) rfl ?_
      refine g_seq (c := trellisref8_Cut_c19) rfl ?_
      refine g_region (c := trellisref8_Cut_c21) rfl rfl ?_
      refine wl_v 0 rfl (v_move rfl) gn rfl ?_
      refine wl_v 1 rfl (v_move rfl) gn rfl ?_
      refine wl_v 2 rfl (v_lenS un_9 rfl) gn rfl ?_
      refine wl_v 3 rfl (v_bin rfl rfl rfl) gn rfl ?_
      refine w_end 4 rfl ?_
      by_cases hp96 : x50 < (x1.size : Int)
      · have h := if_pos' hp96 h
        refine g_true (c := trellisref8_Cut_c22) rfl _ rfl ((decide_eq_true hp96)) ?_
        refine g_skip (c := trellisref8_Cut_c23) rfl ?_
        refine g_block (c := trellisref8_Cut_c20) rfl ?_
        refine g_seq (c := trellisref8_Cut_c25) rfl ?_
        refine g_seq (c := trellisref8_Cut_c26) rfl ?_
        refine g_region (c := trellisref8_Cut_c28) rfl rfl ?_
        refine wl_v 0 rfl (v_move rfl) gn rfl ?_
        refine wl_v 1 rfl (v_move rfl) gn rfl ?_
        obtain ⟨hb97, h⟩ := h
        refine wl_v 2 rfl (v_indexS un_9 rfl rfl hb97) gn rfl ?_
        obtain ⟨r100, hv101, h⟩ := h
        refine wl_s 3 rfl (s_call [.string (⟨#[32, 9, 13, 10]⟩ : ByteArray), .int .u8 (bt x1 x50)] rfl Try.func13 rfl rfl rfl fun w98 hL99 => ?_) gn
        refine Calls.mono (trellisref8_in_calls (w := w98) (F := fun b => b < w98.heap.size) (fun b hb => hb) (⟨#[32, 9, 13, 10]⟩ : ByteArray) (bt x1 x50) r100 hv101) ?_
        rintro _ w102 ⟨rfl, hbl103⟩
        refine ⟨_, _, _, rfl, hL99.sameB hbl103, ?_⟩
        refine w_end 4 rfl ?_
        by_cases hp104 : r100 = true
        · have h := if_pos' hp104 h
          refine g_true (c := trellisref8_Cut_c29) rfl _ rfl (hp104) ?_
          refine g_seq (c := trellisref8_Cut_c30) rfl ?_
          refine g_region (c := trellisref8_Cut_c32) rfl rfl ?_
          refine wl_v 0 rfl (v_move rfl) gn rfl ?_
          refine wl_v 1 rfl (v_bin rfl rfl rfl) gn rfl ?_
          refine wl_v 2 rfl (v_assign rfl) gn rfl ?_
          refine w_end 3 rfl ?_
          refine g_exit (c := trellisref8_Cut_c33) [.inLoop trellisref8_Cut_c18, .inBlock 0, .code trellisref8_Cut_c16] rfl rfl ?_
          refine g_inLoop ?_
          have ih := Out.inl hO1 h
          exact g_go [0, 1] (ih A43 n45 c44 hq49 hA46 hn47 hm48) ⟨rfl, rfl, rfl, trivial⟩ (.cons_cons _ (.slnil)) rfl
        · have h := if_neg' hp104 h
          refine g_false (c := trellisref8_Cut_c29) rfl _ rfl ((bf hp104)) ?_
          refine g_skip (c := trellisref8_Cut_c31) rfl ?_
          refine g_seq (c := trellisref8_Cut_c27) rfl ?_
          refine g_seq (c := trellisref8_Cut_c34) rfl ?_
          refine g_region (c := trellisref8_Cut_c36) rfl rfl ?_
          refine wl_v 0 rfl (v_move rfl) gn rfl ?_
          refine wl_v 1 rfl (v_move rfl) gn rfl ?_
          refine wl_v 2 rfl (v_indexS un_9 rfl rfl hb97) gn rfl ?_
          refine wl_v 3 rfl (v_bin rfl rfl rfl) gn rfl ?_
          refine w_end 4 rfl ?_
          by_cases hp105 : bt x1 x50 = 35
          · have h := if_pos' hp105 h
            refine g_true (c := trellisref8_Cut_c37) rfl _ rfl ((eqi hp105)) ?_
            refine g_seq (c := trellisref8_Cut_c38) rfl ?_
            refine g_block (c := trellisref8_Cut_c40) rfl ?_
            refine g_loop (c := trellisref8_Cut_c42) rfl ?_
            have key2 : ∀ s, Rounds (fun (s : Int) o => trellisref8_Cut_b2 x1 x42 s o) s o1 → (fun (s : Int) => ∀ (A106 : Option Addr) (n108 : Nat) (c107 : Nat) (hq112 : n108 = x42.length) (hA109 : 0 < n108 → A106.isSome = true) (hn110 : n108 ≤ c107) (hm111 : c107 ≤ maxLen), G (trellisref8_Cut_C w F r) [.code trellisref8_Cut_c43, .inLoop trellisref8_Cut_c43, .inBlock 2, .code trellisref8_Cut_c41, .code trellisref8_Cut_c35, .inBlock 1, .inLoop trellisref8_Cut_c18, .inBlock 0, .code trellisref8_Cut_c16] [(0, .string x1), (5, .slice A106 n108 c107), (6, .int .i64 s)] [.own (.slice A106 n108 c107) 29 4 n108 (x42.flatMap enc_api_Word)] [Sm w.heap.size F w [], St w []]) s := by
              intro s hs
              refine Rounds.ind (mot := (fun (s : Int) => ∀ (A106 : Option Addr) (n108 : Nat) (c107 : Nat) (hq112 : n108 = x42.length) (hA109 : 0 < n108 → A106.isSome = true) (hn110 : n108 ≤ c107) (hm111 : c107 ≤ maxLen), G (trellisref8_Cut_C w F r) [.code trellisref8_Cut_c43, .inLoop trellisref8_Cut_c43, .inBlock 2, .code trellisref8_Cut_c41, .code trellisref8_Cut_c35, .inBlock 1, .inLoop trellisref8_Cut_c18, .inBlock 0, .code trellisref8_Cut_c16] [(0, .string x1), (5, .slice A106 n108 c107), (6, .int .i64 s)] [.own (.slice A106 n108 c107) 29 4 n108 (x42.flatMap enc_api_Word)] [Sm w.heap.size F w [], St w []])) ?_ hs
              clear hs s
              intro x114 o2 h hO2
              intro A106 n108 c107 hq112 hA109 hn110 hm111
              have h : trellisref8_Cut_b2 x1 x42 x114 o2 := h
              unfold trellisref8_Cut_b2 at h
              show G (trellisref8_Cut_C w F r) [.code trellisref8_Cut_c43, .inLoop trellisref8_Cut_c43, .inBlock 2, .code trellisref8_Cut_c41, .code trellisref8_Cut_c35, .inBlock 1, .inLoop trellisref8_Cut_c18, .inBlock 0, .code trellisref8_Cut_c16] [(0, .string x1), (5, .slice A106 n108 c107), (6, .int .i64 x114)] [.own (.slice A106 n108 c107) 29 4 n108 (x42.flatMap enc_api_Word)] [Sm w.heap.size F w [], St w []]
              refine g_seq (c := trellisref8_Cut_c43) rfl ?_
              refine g_seq (c := trellisref8_Cut_c44) rfl ?_
              refine g_region (c := trellisref8_Cut_c46) rfl rfl ?_
              refine wl_v 0 rfl (v_move rfl) gn rfl ?_
              refine wl_v 1 rfl (v_move rfl) gn rfl ?_
              refine wl_v 2 rfl (v_lenS un_9 rfl) gn rfl ?_
              refine wl_v 3 rfl (v_bin rfl rfl rfl) gn rfl ?_
              refine wl_v 4 rfl (v_move rfl) gn rfl ?_
              by_cases hp118 : x114 < (x1.size : Int)
              · have h := if_pos' hp118 h
                refine w_bool 32 rfl ((decide_eq_true hp118)) ?_
                refine wl_v 5 rfl (v_move rfl) (gy 32 rfl rfl) rfl ?_
                refine wl_v 6 rfl (v_move rfl) (gy 32 rfl rfl) rfl ?_
                obtain ⟨hb119, h⟩ := h
                refine wl_v 7 rfl (v_indexS un_9 rfl rfl hb119) (gy 32 rfl rfl) rfl ?_
                refine wl_v 8 rfl (v_bin rfl rfl rfl) (gy 32 rfl rfl) rfl ?_
                refine wl_v 9 rfl (v_pick (b := true) rfl rfl) gn rfl ?_
                refine w_end 10 rfl ?_
                by_cases hp120 : bt x1 x114 = 10
                · have h := if_pos' hp120 h
                  refine g_false (c := trellisref8_Cut_c47) rfl _ rfl ((eqib hp120)) ?_
                  refine g_exit (c := trellisref8_Cut_c49) [.code trellisref8_Cut_c41, .code trellisref8_Cut_c35, .inBlock 1, .inLoop trellisref8_Cut_c18, .inBlock 0, .code trellisref8_Cut_c16] rfl rfl ?_
                  refine g_exit (c := trellisref8_Cut_c41) [.inLoop trellisref8_Cut_c18, .inBlock 0, .code trellisref8_Cut_c16] rfl rfl ?_
                  refine g_inLoop ?_
                  have h := Out.inr hO2 h
                  have ih := Out.inl hO1 h
                  exact g_go [0, 1] (ih A106 n108 c107 hq112 hA109 hn110 hm111) ⟨rfl, rfl, rfl, trivial⟩ (.cons_cons _ (.slnil)) rfl
                · have h := if_neg' hp120 h
                  refine g_true (c := trellisref8_Cut_c47) rfl _ rfl ((neib hp120)) ?_
                  refine g_skip (c := trellisref8_Cut_c48) rfl ?_
                  refine g_block (c := trellisref8_Cut_c45) rfl ?_
                  refine g_region (c := trellisref8_Cut_c50) rfl rfl ?_
                  refine wl_v 0 rfl (v_move rfl) gn rfl ?_
                  refine wl_v 1 rfl (v_bin rfl rfl rfl) gn rfl ?_
                  refine wl_v 2 rfl (v_assign rfl) gn rfl ?_
                  refine w_end 3 rfl ?_
                  refine g_inBlock ?_
                  refine g_inLoop ?_
                  have ih := Out.inl hO2 h
                  exact g_go [0, 1] (ih A106 n108 c107 hq112 hA109 hn110 hm111) ⟨rfl, rfl, rfl, trivial⟩ (.cons_cons _ (.slnil)) rfl
              · have h := if_neg' hp118 h
                refine w_bool 32 rfl ((decide_eq_false hp118)) ?_
                refine wl_pass 5 rfl (ps 32 rfl rfl rfl) ?_
                refine wl_pass 6 rfl (ps 32 rfl rfl rfl) ?_
                refine wl_pass 7 rfl (ps 32 rfl rfl rfl) ?_
                refine wl_pass 8 rfl (ps 32 rfl rfl rfl) ?_
                refine wl_v 9 rfl (v_pick (b := false) rfl rfl) gn rfl ?_
                refine w_end 10 rfl ?_
                refine g_false (c := trellisref8_Cut_c47) rfl _ rfl (rfl) ?_
                refine g_exit (c := trellisref8_Cut_c49) [.code trellisref8_Cut_c41, .code trellisref8_Cut_c35, .inBlock 1, .inLoop trellisref8_Cut_c18, .inBlock 0, .code trellisref8_Cut_c16] rfl rfl ?_
                refine g_exit (c := trellisref8_Cut_c41) [.inLoop trellisref8_Cut_c18, .inBlock 0, .code trellisref8_Cut_c16] rfl rfl ?_
                refine g_inLoop ?_
                have h := Out.inr hO2 h
                have ih := Out.inl hO1 h
                exact g_go [0, 1] (ih A106 n108 c107 hq112 hA109 hn110 hm111) ⟨rfl, rfl, rfl, trivial⟩ (.cons_cons _ (.slnil)) rfl
            exact g_go [0, 1] (key2 _ h A43 n45 c44 hq49 hA46 hn47 hm48) ⟨rfl, rfl, rfl, trivial⟩ (.cons_cons _ (.slnil)) rfl
          · have h := if_neg' hp105 h
            refine g_false (c := trellisref8_Cut_c37) rfl _ rfl ((nei hp105)) ?_
            refine g_skip (c := trellisref8_Cut_c39) rfl ?_
            refine g_seq (c := trellisref8_Cut_c35) rfl ?_
            refine g_region (c := trellisref8_Cut_c51) rfl rfl ?_
            refine wl_v 0 rfl (v_move rfl) gn rfl ?_
            refine wl_v 1 rfl (v_move rfl) gn rfl ?_
            obtain ⟨r123, hv124, h⟩ := h
            refine wl_s 2 rfl (s_call [.string x1, .int .i64 x50] rfl Try.func14 rfl rfl rfl fun w121 hL122 => ?_) gn
            refine Calls.mono (trellisref8_Word_calls (w := w121) (F := fun b => b < w121.heap.size) (fun b hb => hb) x1 x50 r123 hv124) ?_
            rintro _ w125 ⟨rfl, hbl126⟩
            refine ⟨_, _, _, rfl, hL122.sameB hbl126, ?_⟩
            refine wl_v 3 rfl (v_move rfl) gn rfl ?_
            refine wl_v 4 rfl (v_extract rfl rfl) gn rfl ?_
            refine wl_v 5 rfl (v_extract rfl rfl) gn rfl ?_
            refine wl_v 6 rfl (v_extract rfl rfl) gn rfl ?_
            refine wl_v 7 rfl (v_extract rfl rfl) gn rfl ?_
            refine wl_s 8 rfl (s_alloc [.int .i64 0, .string (⟨#[]⟩ : ByteArray), .int .i64 0, .int .i64 0] zr_29 rfl fun gb127 => ?_) gn
            refine wl_s 9 rfl (s_stB (vs := [.int .i64 r123.1.kind, .string r123.1.text, .int .i64 r123.1.n, .int .i64 r123.1.at_]) (cs' := [.int .i64 r123.1.kind, .string r123.1.text, .int .i64 r123.1.n, .int .i64 r123.1.at_]) (M' := [.box gb127 29 [.int .i64 r123.1.kind, .string r123.1.text, .int .i64 r123.1.n, .int .i64 r123.1.at_], .own (.slice A43 n45 c44) 29 4 n45 (x42.flatMap enc_api_Word)]) 0 sz_29 rfl rfl rfl rfl rfl rfl rfl rfl rfl ?_) gn
            refine wl_v 10 rfl (v_assign rfl) gn rfl ?_
            refine wl_v 11 rfl (v_assign rfl) gn rfl ?_
            refine wl_v 12 rfl (v_assign rfl) gn rfl ?_
            refine w_end 13 rfl ?_
            refine g_seq (c := trellisref8_Cut_c52) rfl ?_
            refine g_seq (c := trellisref8_Cut_c53) rfl ?_
            refine g_region (c := trellisref8_Cut_c55) rfl rfl ?_
            refine wl_v 0 rfl (v_move rfl) gn rfl ?_
            refine wl_v 1 rfl (v_bin rfl rfl rfl) gn rfl ?_
            refine w_end 2 rfl ?_
            by_cases hp129 : r123.2.2.1 = 0
            · have h := if_pos' hp129 h
              refine g_false (c := trellisref8_Cut_c56) rfl _ rfl ((eqib hp129)) ?_
              refine g_skip (c := trellisref8_Cut_c58) rfl ?_
              refine g_seq (c := trellisref8_Cut_c54) rfl ?_
              refine g_region (c := trellisref8_Cut_c59) rfl rfl ?_
              refine wl_v 0 rfl (v_move rfl) gn rfl ?_
              refine wl_v 1 rfl (v_ldB [.int .i64 r123.1.kind, .string r123.1.text, .int .i64 r123.1.n, .int .i64 r123.1.at_] 0 ld_29 rfl rfl rfl rfl) gn rfl ?_
              refine wl_s 2 rfl (s_lit [.int .i64 r123.1.kind, .string r123.1.text, .int .i64 r123.1.n, .int .i64 r123.1.at_] bs_22_1 rfl (by kernel_rfl) rfl rfl rfl fun gb130 => ?_) gn
              obtain ⟨x137, hv138, h⟩ := h
              obtain ⟨hb139, h⟩ := h
              have hq140 : n45 + 1 = x137.length := by have q1 : n45 = x42.length := hq49; have q2 : 1 = ([(⟨r123.1.kind, r123.1.text, r123.1.n, r123.1.at_⟩ : api_Word)] : List api_Word).length := rfl; rw [hv138, List.length_append]; omega
              refine wl_s 3 rfl (s_appO (cells' := x137.flatMap enc_api_Word) (news := ([(⟨r123.1.kind, r123.1.text, r123.1.n, r123.1.at_⟩ : api_Word)] : List api_Word).flatMap enc_api_Word) 2 0 ap_22 rfl rfl rfl rfl (Nat.le_refl _) (rfl) (fm_all h1_api_Word _) rfl (by rw [hv138, List.flatMap_append] <;> rfl) (by omega) (by omega) (by decide) rfl fun A132 c133 hA134 hn135 hm136 => ?_) gn
              refine wl_v 4 rfl (v_assign rfl) gn rfl ?_
              refine w_end 5 rfl ?_
              refine g_region (c := trellisref8_Cut_c60) rfl rfl ?_
              refine wl_v 0 rfl (v_move rfl) gn rfl ?_
              refine wl_v 1 rfl (v_assign rfl) gn rfl ?_
              refine w_end 2 rfl ?_
              refine g_inBlock ?_
              refine g_inLoop ?_
              have ih := Out.inl hO1 h
              exact g_go [0, 1] (ih A132 (n45 + 1) c133 hq140 hA134 hn135 hm136) ⟨rfl, rfl, rfl, trivial⟩ (.cons _ (.cons _ (.cons_cons _ (.slnil)))) rfl
            · have h := if_neg' hp129 h
              refine g_true (c := trellisref8_Cut_c56) rfl _ rfl ((neib hp129)) ?_
              refine g_seq (c := trellisref8_Cut_c57) rfl ?_
              refine g_region (c := trellisref8_Cut_c61) rfl rfl ?_
              refine wl_v 0 rfl (v_move rfl) gn rfl ?_
              refine wl_v 1 rfl (v_move rfl) gn rfl ?_
              refine wl_v 2 rfl (v_assign rfl) gn rfl ?_
              refine wl_v 3 rfl (v_assign rfl) gn rfl ?_
              refine wl_v 4 rfl (v_assign rfl) gn rfl ?_
              refine w_end 5 rfl ?_
              have h := Out.inr hO1 h
              refine g_retR (c := trellisref8_Cut_c62) [.slice none 0 0, .int .i64 r123.2.2.1, .int .i64 r123.2.2.2] rfl Try.func5 rfl (.tmp rfl (.tmp rfl (.tmp rfl (.nil)))) fun wr hLr => ?_
              show trellisref8_Cut_R w F r (.returned (packV [.slice none 0 0, .int .i64 r123.2.2.1, .int .i64 r123.2.2.2])) wr
              rw [h]
              exact ⟨none, 0, rfl, hLr.below (me 1 rfl), World.ownsRow_nil _ _ _ _, (fun b hb => by cases hb), Nat.zero_le _, Nat.zero_le _⟩
      · have h := if_neg' hp96 h
        refine g_false (c := trellisref8_Cut_c22) rfl _ rfl ((decide_eq_false hp96)) ?_
        refine g_exit (c := trellisref8_Cut_c24) [.code trellisref8_Cut_c16] rfl rfl ?_
        refine g_seq (c := trellisref8_Cut_c16) rfl ?_
        refine g_region (c := trellisref8_Cut_c63) rfl rfl ?_
        refine wl_v 0 rfl (v_move rfl) gn rfl ?_
        refine wl_v 1 rfl (v_assign rfl) gn rfl ?_
        refine wl_v 2 rfl (v_assign rfl) gn rfl ?_
        refine wl_v 3 rfl (v_assign rfl) gn rfl ?_
        refine w_end 4 rfl ?_
        have h := Out.inr hO1 h
        refine g_retR (c := trellisref8_Cut_c64) [.slice A43 n45 c44, .int .i64 0, .int .i64 0] rfl Try.func5 rfl (.tmp rfl (.tmp rfl (.tmp rfl (.nil)))) fun wr hLr => ?_
        show trellisref8_Cut_R w F r (.returned (packV [.slice A43 n45 c44, .int .i64 0, .int .i64 0])) wr
        rw [h]
        rw [show packV [.slice A43 n45 c44, .int .i64 0, .int .i64 0] = packV [.slice A43 x42.length c44, .int .i64 0, .int .i64 0] from by rw [hq49]]
        exact ⟨A43, c44, rfl, hLr.below (me 1 rfl), hq_own hq49 (hLr.ok _ (me 0 rfl)), (fun b hb => (hLr.new (me 1 rfl) (me 0 rfl) (ob_len (n := n45) (c := c44) hb)).1), (hq_le hq49 hn47), hm48⟩
    refine g_nil 29 4 ?_
    exact g_go [0, 1] (key1 _ h none 0 0 rfl (fun h => absurd h (Nat.lt_irrefl 0)) (Nat.le_refl _) (Nat.zero_le _)) ⟨rfl, rfl, rfl, trivial⟩ (.cons_cons _ (.slnil)) rfl
noncomputable abbrev trellislaw8_sameWord_c0 : Code := bodyOf Try.f15
noncomputable abbrev trellislaw8_sameWord_c1 : Code := Code.fst trellislaw8_sameWord_c0
noncomputable abbrev trellislaw8_sameWord_c2 : Code := Code.snd trellislaw8_sameWord_c0
noncomputable abbrev trellislaw8_sameWord_c3 : Code := Code.fst trellislaw8_sameWord_c2
noncomputable abbrev trellislaw8_sameWord_c4 : Code := Code.snd trellislaw8_sameWord_c2
abbrev trellislaw8_sameWord_R (w : World) (F : Nat → Prop) (r : Bool) : Ending → World → Prop := fun e w' => e = .returned (.bool r) ∧ Below w.heap.size w w'
noncomputable abbrev trellislaw8_sameWord_C (w : World) (F : Nat → Prop) (r : Bool) : Cx := ⟨Try.prog, 15, Try.f15, 31, trellislaw8_sameWord_R w F r, w⟩
theorem trellislaw8_sameWord_calls {w : World} {F : Nat → Prop} (hF : ∀ b, F b → b < w.heap.size) (x1 : api_Word) (x2 : api_Word) (r : Bool) (h : trellislaw8_sameWord x1 x2 r) : Calls Try.prog 15 #[.agg #[.int .i64 x1.kind, .string x1.text, .int .i64 x1.n, .int .i64 x1.at_], .agg #[.int .i64 x2.kind, .string x2.text, .int .i64 x2.n, .int .i64 x2.at_]] w (trellislaw8_sameWord_R w F r) := by
  unfold trellislaw8_sameWord at h
  refine calls_of_G (vs := [.agg #[.int .i64 x1.kind, .string x1.text, .int .i64 x1.n, .int .i64 x1.at_], .agg #[.int .i64 x2.kind, .string x2.text, .int .i64 x2.n, .int .i64 x2.at_]]) 31 Try.func15 rfl Try.ntmps15 rfl F ?_
  show G (trellislaw8_sameWord_C w F r) _ _ _ _
  refine g_seq (c := trellislaw8_sameWord_c0) rfl ?_
  refine g_region (c := trellislaw8_sameWord_c1) rfl rfl ?_
  refine wl_s 0 rfl (s_box [.int .i64 x1.kind, .string x1.text, .int .i64 x1.n, .int .i64 x1.at_] rfl rfl rfl fun gb3 => ?_) gn
  refine wl_s 1 rfl (s_box [.int .i64 x2.kind, .string x2.text, .int .i64 x2.n, .int .i64 x2.at_] rfl rfl rfl fun gb5 => ?_) gn
  refine wl_v 2 rfl (v_assign rfl) gn rfl ?_
  refine w_end 3 rfl ?_
  refine g_seq (c := trellislaw8_sameWord_c2) rfl ?_
  refine g_region (c := trellislaw8_sameWord_c3) rfl rfl ?_
  refine wl_v 0 rfl (v_fldB fo_29_0 rfl) gn rfl ?_
  refine wl_v 1 rfl (v_ldB1 1 ld_27 rfl rfl rfl) gn rfl ?_
  refine wl_v 2 rfl (v_fldB fo_29_0 rfl) gn rfl ?_
  refine wl_v 3 rfl (v_ldB1 0 ld_27 rfl rfl rfl) gn rfl ?_
  refine wl_v 4 rfl (v_bin rfl rfl rfl) gn rfl ?_
  refine wl_v 5 rfl (v_move rfl) gn rfl ?_
  by_cases hp7 : x1.kind = x2.kind
  · have h := if_pos' hp7 h
    refine w_bool 10 rfl ((eqi hp7)) ?_
    refine wl_v 6 rfl (v_fldB fo_29_1 rfl) (gy 10 rfl rfl) rfl ?_
    refine wl_v 7 rfl (v_ldB1 1 ld_9 rfl rfl rfl) (gy 10 rfl rfl) rfl ?_
    refine wl_v 8 rfl (v_fldB fo_29_1 rfl) (gy 10 rfl rfl) rfl ?_
    refine wl_v 9 rfl (v_ldB1 0 ld_9 rfl rfl rfl) (gy 10 rfl rfl) rfl ?_
    refine wl_v 10 rfl (v_eqS rfl rfl) (gy 10 rfl rfl) rfl ?_
    refine wl_v 11 rfl (v_pick (b := true) rfl rfl) gn rfl ?_
    refine wl_v 12 rfl (v_move rfl) gn rfl ?_
    by_cases hp8 : x1.text = x2.text
    · have h := if_pos' hp8 h
      refine w_bool 17 rfl ((seq_t hp8)) ?_
      refine wl_v 13 rfl (v_fldB fo_29_2 rfl) (gy 17 rfl rfl) rfl ?_
      refine wl_v 14 rfl (v_ldB1 1 ld_3 rfl rfl rfl) (gy 17 rfl rfl) rfl ?_
      refine wl_v 15 rfl (v_fldB fo_29_2 rfl) (gy 17 rfl rfl) rfl ?_
      refine wl_v 16 rfl (v_ldB1 0 ld_3 rfl rfl rfl) (gy 17 rfl rfl) rfl ?_
      refine wl_v 17 rfl (v_bin rfl rfl rfl) (gy 17 rfl rfl) rfl ?_
      refine wl_v 18 rfl (v_pick (b := true) rfl rfl) gn rfl ?_
      refine wl_v 19 rfl (v_move rfl) gn rfl ?_
      by_cases hp9 : x1.n = x2.n
      · have h := if_pos' hp9 h
        refine w_bool 24 rfl ((eqi hp9)) ?_
        refine wl_v 20 rfl (v_fldB fo_29_3 rfl) (gy 24 rfl rfl) rfl ?_
        refine wl_v 21 rfl (v_ldB1 1 ld_3 rfl rfl rfl) (gy 24 rfl rfl) rfl ?_
        refine wl_v 22 rfl (v_fldB fo_29_3 rfl) (gy 24 rfl rfl) rfl ?_
        refine wl_v 23 rfl (v_ldB1 0 ld_3 rfl rfl rfl) (gy 24 rfl rfl) rfl ?_
        refine wl_v 24 rfl (v_bin rfl rfl rfl) (gy 24 rfl rfl) rfl ?_
        refine wl_v 25 rfl (v_pick (b := true) rfl rfl) gn rfl ?_
        refine wl_v 26 rfl (v_assign rfl) gn rfl ?_
        refine w_end 27 rfl ?_
        refine g_retR (c := trellislaw8_sameWord_c4) [.bool (x1.at_ == x2.at_)] rfl Try.func15 rfl (.tmp rfl (.nil)) fun wr hLr => ?_
        show trellislaw8_sameWord_R w F r (.returned (packV [.bool (x1.at_ == x2.at_)])) wr
        rw [h]
        exact ⟨rfl, hLr.below (me 1 rfl)⟩
      · have h := if_neg' hp9 h
        refine w_bool 24 rfl ((nei hp9)) ?_
        refine wl_pass 20 rfl (ps 24 rfl rfl rfl) ?_
        refine wl_pass 21 rfl (ps 24 rfl rfl rfl) ?_
        refine wl_pass 22 rfl (ps 24 rfl rfl rfl) ?_
        refine wl_pass 23 rfl (ps 24 rfl rfl rfl) ?_
        refine wl_pass 24 rfl (ps 24 rfl rfl rfl) ?_
        refine wl_v 25 rfl (v_pick (b := false) rfl rfl) gn rfl ?_
        refine wl_v 26 rfl (v_assign rfl) gn rfl ?_
        refine w_end 27 rfl ?_
        refine g_retR (c := trellislaw8_sameWord_c4) [.bool false] rfl Try.func15 rfl (.tmp rfl (.nil)) fun wr hLr => ?_
        show trellislaw8_sameWord_R w F r (.returned (packV [.bool false])) wr
        rw [h]
        exact ⟨rfl, hLr.below (me 1 rfl)⟩
    · have h := if_neg' hp8 h
      refine w_bool 17 rfl ((seq_f hp8)) ?_
      refine wl_pass 13 rfl (ps 17 rfl rfl rfl) ?_
      refine wl_pass 14 rfl (ps 17 rfl rfl rfl) ?_
      refine wl_pass 15 rfl (ps 17 rfl rfl rfl) ?_
      refine wl_pass 16 rfl (ps 17 rfl rfl rfl) ?_
      refine wl_pass 17 rfl (ps 17 rfl rfl rfl) ?_
      refine wl_v 18 rfl (v_pick (b := false) rfl rfl) gn rfl ?_
      refine wl_v 19 rfl (v_move rfl) gn rfl ?_
      refine wl_pass 20 rfl (ps 24 rfl rfl rfl) ?_
      refine wl_pass 21 rfl (ps 24 rfl rfl rfl) ?_
      refine wl_pass 22 rfl (ps 24 rfl rfl rfl) ?_
      refine wl_pass 23 rfl (ps 24 rfl rfl rfl) ?_
      refine wl_pass 24 rfl (ps 24 rfl rfl rfl) ?_
      refine wl_v 25 rfl (v_pick (b := false) rfl rfl) gn rfl ?_
      refine wl_v 26 rfl (v_assign rfl) gn rfl ?_
      refine w_end 27 rfl ?_
      refine g_retR (c := trellislaw8_sameWord_c4) [.bool false] rfl Try.func15 rfl (.tmp rfl (.nil)) fun wr hLr => ?_
      show trellislaw8_sameWord_R w F r (.returned (packV [.bool false])) wr
      rw [h]
      exact ⟨rfl, hLr.below (me 1 rfl)⟩
  · have h := if_neg' hp7 h
    refine w_bool 10 rfl ((nei hp7)) ?_
    refine wl_pass 6 rfl (ps 10 rfl rfl rfl) ?_
    refine wl_pass 7 rfl (ps 10 rfl rfl rfl) ?_
    refine wl_pass 8 rfl (ps 10 rfl rfl rfl) ?_
    refine wl_pass 9 rfl (ps 10 rfl rfl rfl) ?_
    refine wl_pass 10 rfl (ps 10 rfl rfl rfl) ?_
    refine wl_v 11 rfl (v_pick (b := false) rfl rfl) gn rfl ?_
    refine wl_v 12 rfl (v_move rfl) gn rfl ?_
    refine wl_pass 13 rfl (ps 17 rfl rfl rfl) ?_
    refine wl_pass 14 rfl (ps 17 rfl rfl rfl) ?_
    refine wl_pass 15 rfl (ps 17 rfl rfl rfl) ?_
    refine wl_pass 16 rfl (ps 17 rfl rfl rfl) ?_
    refine wl_pass 17 rfl (ps 17 rfl rfl rfl) ?_
    refine wl_v 18 rfl (v_pick (b := false) rfl rfl) gn rfl ?_
    refine wl_v 19 rfl (v_move rfl) gn rfl ?_
    refine wl_pass 20 rfl (ps 24 rfl rfl rfl) ?_
    refine wl_pass 21 rfl (ps 24 rfl rfl rfl) ?_
    refine wl_pass 22 rfl (ps 24 rfl rfl rfl) ?_
    refine wl_pass 23 rfl (ps 24 rfl rfl rfl) ?_
    refine wl_pass 24 rfl (ps 24 rfl rfl rfl) ?_
    refine wl_v 25 rfl (v_pick (b := false) rfl rfl) gn rfl ?_
    refine wl_v 26 rfl (v_assign rfl) gn rfl ?_
    refine w_end 27 rfl ?_
    refine g_retR (c := trellislaw8_sameWord_c4) [.bool false] rfl Try.func15 rfl (.tmp rfl (.nil)) fun wr hLr => ?_
    show trellislaw8_sameWord_R w F r (.returned (packV [.bool false])) wr
    rw [h]
    exact ⟨rfl, hLr.below (me 1 rfl)⟩
noncomputable abbrev trellislaw8_same_c0 : Code := bodyOf Try.f6
noncomputable abbrev trellislaw8_same_c1 : Code := Code.fst trellislaw8_same_c0
noncomputable abbrev trellislaw8_same_c2 : Code := Code.snd trellislaw8_same_c0
noncomputable abbrev trellislaw8_same_c3 : Code := Code.fst trellislaw8_same_c2
noncomputable abbrev trellislaw8_same_c4 : Code := Code.snd trellislaw8_same_c2
noncomputable abbrev trellislaw8_same_c5 : Code := Code.fst trellislaw8_same_c3
noncomputable abbrev trellislaw8_same_c6 : Code := Code.snd trellislaw8_same_c3
noncomputable abbrev trellislaw8_same_c7 : Code := Code.fst trellislaw8_same_c6
noncomputable abbrev trellislaw8_same_c8 : Code := Code.snd trellislaw8_same_c6
noncomputable abbrev trellislaw8_same_c9 : Code := Code.fst trellislaw8_same_c4
noncomputable abbrev trellislaw8_same_c10 : Code := Code.snd trellislaw8_same_c4
noncomputable abbrev trellislaw8_same_c11 : Code := Code.fst trellislaw8_same_c9
noncomputable abbrev trellislaw8_same_c12 : Code := Code.snd trellislaw8_same_c9
noncomputable abbrev trellislaw8_same_c13 : Code := Code.fst trellislaw8_same_c12
noncomputable abbrev trellislaw8_same_c14 : Code := Code.fst trellislaw8_same_c13
noncomputable abbrev trellislaw8_same_c15 : Code := Code.fst trellislaw8_same_c14
noncomputable abbrev trellislaw8_same_c16 : Code := Code.snd trellislaw8_same_c14
noncomputable abbrev trellislaw8_same_c17 : Code := Code.fst trellislaw8_same_c15
noncomputable abbrev trellislaw8_same_c18 : Code := Code.snd trellislaw8_same_c15
noncomputable abbrev trellislaw8_same_c19 : Code := Code.fst trellislaw8_same_c18
noncomputable abbrev trellislaw8_same_c20 : Code := Code.snd trellislaw8_same_c18
noncomputable abbrev trellislaw8_same_c21 : Code := Code.fst trellislaw8_same_c16
noncomputable abbrev trellislaw8_same_c22 : Code := Code.snd trellislaw8_same_c16
noncomputable abbrev trellislaw8_same_c23 : Code := Code.fst trellislaw8_same_c21
noncomputable abbrev trellislaw8_same_c24 : Code := Code.fst trellislaw8_same_c23
noncomputable abbrev trellislaw8_same_c25 : Code := Code.snd trellislaw8_same_c23
noncomputable abbrev trellislaw8_same_c26 : Code := Code.fst trellislaw8_same_c25
noncomputable abbrev trellislaw8_same_c27 : Code := Code.snd trellislaw8_same_c25
noncomputable abbrev trellislaw8_same_c28 : Code := Code.fst trellislaw8_same_c26
noncomputable abbrev trellislaw8_same_c29 : Code := Code.snd trellislaw8_same_c26
noncomputable abbrev trellislaw8_same_c30 : Code := Code.fst trellislaw8_same_c10
noncomputable abbrev trellislaw8_same_c31 : Code := Code.snd trellislaw8_same_c10
noncomputable abbrev trellislaw8_same_c32 : Code := Code.fst trellislaw8_same_c7
noncomputable abbrev trellislaw8_same_c33 : Code := Code.snd trellislaw8_same_c7
abbrev trellislaw8_same_R (w : World) (F : Nat → Prop) (r : Bool) : Ending → World → Prop := fun e w' => e = .returned (.bool r) ∧ Below w.heap.size w w'
noncomputable abbrev trellislaw8_same_C (w : World) (F : Nat → Prop) (r : Bool) : Cx := ⟨Try.prog, 6, Try.f6, 27, trellislaw8_same_R w F r, w⟩
theorem trellislaw8_same_calls {w : World} {F : Nat → Prop} (hF : ∀ b, F b → b < w.heap.size) (x1 : List api_Word) (x9 : List api_Word) (A2 : Option Addr) (n3 : Nat) (c4 : Nat) (hq5 : n3 = x1.length) (hR6 : RowOf k_api_Word w F A2 x1) (hn7 : n3 ≤ c4) (hm8 : c4 ≤ maxLen) (A10 : Option Addr) (n11 : Nat) (c12 : Nat) (hq13 : n11 = x9.length) (hR14 : RowOf k_api_Word w F A10 x9) (hn15 : n11 ≤ c12) (hm16 : c12 ≤ maxLen) (r : Bool) (h : trellislaw8_same x1 x9 r) : Calls Try.prog 6 #[.slice A2 n3 c4, .slice A10 n11 c12] w (trellislaw8_same_R w F r) := by
  subst hq5
  subst hq13
  unfold trellislaw8_same at h
  have hR6 := row_in hF hR6
  have hR14 := row_in hF hR14
  refine calls_of_G (vs := [.slice A2 x1.length c4, .slice A10 x9.length c12]) 27 Try.func6 rfl Try.ntmps6 rfl F ?_
  show G (trellislaw8_same_C w F r) _ _ _ _
  refine g_seq (c := trellislaw8_same_c0) rfl ?_
  refine g_region (c := trellislaw8_same_c1) rfl rfl ?_
  refine wl_v 0 rfl (v_assign rfl) gn rfl ?_
  refine w_end 1 rfl ?_
  refine g_seq (c := trellislaw8_same_c2) rfl ?_
  refine g_seq (c := trellislaw8_same_c3) rfl ?_
  refine g_region (c := trellislaw8_same_c5) rfl rfl ?_
  refine wl_v 0 rfl (v_move rfl) gn rfl ?_
  refine wl_v 1 rfl (v_lenQ un_22 rfl rfl) gn rfl ?_
  refine wl_v 2 rfl (v_move rfl) gn rfl ?_
  refine wl_v 3 rfl (v_lenQ un_22 rfl rfl) gn rfl ?_
  refine wl_v 4 rfl (v_bin rfl rfl rfl) gn rfl ?_
  refine w_end 5 rfl ?_
  by_cases hp17 : (x1.length : Int) = (x9.length : Int)
  · have h := if_pos' hp17 h
    refine g_false (c := trellislaw8_same_c6) rfl _ rfl ((eqib hp17)) ?_
    refine g_skip (c := trellislaw8_same_c8) rfl ?_
    refine g_seq (c := trellislaw8_same_c4) rfl ?_
    refine g_seq (c := trellislaw8_same_c9) rfl ?_
    refine g_region (c := trellislaw8_same_c11) rfl rfl ?_
    refine wl_v 0 rfl (v_assign rfl) gn rfl ?_
    refine w_end 1 rfl ?_
    refine g_block (c := trellislaw8_same_c12) rfl ?_
    refine g_loop (c := trellislaw8_same_c13) rfl ?_
    have key1 : ∀ s, Rounds (fun (s : Int) o => trellislaw8_same_b1 x1 x9 s o) s r → (fun (s : Int) => ∀ (_ : Unit), G (trellislaw8_same_C w F r) [.code trellislaw8_same_c14, .inLoop trellislaw8_same_c14, .inBlock 0, .code trellislaw8_same_c10] [(0, .slice A2 x1.length c4), (1, .slice A10 x9.length c12), (5, .int .i64 s)] [] [Sm w.heap.size F w [], St w []]) s := by
      intro s hs
      refine Rounds.ind (mot := (fun (s : Int) => ∀ (_ : Unit), G (trellislaw8_same_C w F r) [.code trellislaw8_same_c14, .inLoop trellislaw8_same_c14, .inBlock 0, .code trellislaw8_same_c10] [(0, .slice A2 x1.length c4), (1, .slice A10 x9.length c12), (5, .int .i64 s)] [] [Sm w.heap.size F w [], St w []])) ?_ hs
      clear hs s
      intro x50 o1 h hO1
      intro _
      have h : trellislaw8_same_b1 x1 x9 x50 o1 := h
      unfold trellislaw8_same_b1 at h
      show G (trellislaw8_same_C w F r) [.code trellislaw8_same_c14, .inLoop trellislaw8_same_c14, .inBlock 0, .code trellislaw8_same_c10] [(0, .slice A2 x1.length c4), (1, .slice A10 x9.length c12), (5, .int .i64 x50)] [] [Sm w.heap.size F w [], St w []]
      refine g_seq (c := trellislaw8_same_c14) rfl ?_
      refine g_seq (c := trellislaw8_same_c15) rfl ?_
      refine g_region (c := trellislaw8_same_c17) rfl rfl ?_
      refine wl_v 0 rfl (v_move rfl) gn rfl ?_
      refine wl_v 1 rfl (v_move rfl) gn rfl ?_
      refine wl_v 2 rfl (v_lenQ un_22 rfl rfl) gn rfl ?_
      refine wl_v 3 rfl (v_bin rfl rfl rfl) gn rfl ?_
      refine w_end 4 rfl ?_
      by_cases hp83 : x50 < (x1.length : Int)
      · have h := if_pos' hp83 h
        refine g_true (c := trellislaw8_same_c18) rfl _ rfl ((decide_eq_true hp83)) ?_
        refine g_skip (c := trellislaw8_same_c19) rfl ?_
        refine g_seq (c := trellislaw8_same_c16) rfl ?_
        refine g_block (c := trellislaw8_same_c21) rfl ?_
        refine g_seq (c := trellislaw8_same_c23) rfl ?_
        obtain ⟨hb84, h⟩ := h
        obtain ⟨hb86, h⟩ := h
        obtain ⟨r90, hv91, h⟩ := h
        have hns : Region.noSelect (Code.ops trellislaw8_same_c24) = true := by kernel_rfl
        refine g_draw (c := trellislaw8_same_c24) [] [Sm w.heap.size F w [], St w []] 10 rfl rfl mix rfl (.slnil) (sels [0, 1] rfl) ?_
        refine wa_v 0 rfl (v_move rfl) gn rfl hns (by kernel_rfl) (by kernel_rfl) rfl ?_
        refine wa_v 1 rfl (v_move rfl) gn rfl hns (by kernel_rfl) (by kernel_rfl) rfl ?_
        have hr104 := RowOf.readF (hl := hl_api_Word) (h1 := h1_api_Word) hR6 hb84
        refine wa_v 2 rfl (v_idx slE_22 rfl rfl hb84 (RowOf.some_ hR6 hb84)) gn rfl hns (by kernel_rfl) (by kernel_rfl) rfl ?_
        refine wa_v 3 rfl (v_ldA (Sm w.heap.size F w []) ld_29 rfl hr104 rfl (me 0 rfl)) gn rfl hns (by kernel_rfl) (by kernel_rfl) rfl ?_
        refine wa_v 4 rfl (v_move rfl) gn rfl hns (by kernel_rfl) (by kernel_rfl) rfl ?_
        refine wa_v 5 rfl (v_move rfl) gn rfl hns (by kernel_rfl) (by kernel_rfl) rfl ?_
        have hr105 := RowOf.readF (hl := hl_api_Word) (h1 := h1_api_Word) hR14 hb86
        refine wa_v 6 rfl (v_idx slE_22 rfl rfl hb86 (RowOf.some_ hR14 hb86)) gn rfl hns (by kernel_rfl) (by kernel_rfl) rfl ?_
        refine wa_v 7 rfl (v_ldA (Sm w.heap.size F w []) ld_29 rfl hr105 rfl (me 0 rfl)) gn rfl hns (by kernel_rfl) (by kernel_rfl) rfl ?_
        refine wa_s 8 rfl (by kernel_rfl) (s_call [.agg #[.int .i64 ((ix x1 x50).kind), .string ((ix x1 x50).text), .int .i64 ((ix x1 x50).n), .int .i64 ((ix x1 x50).at_)], .agg #[.int .i64 ((ix x9 x50).kind), .string ((ix x9 x50).text), .int .i64 ((ix x9 x50).n), .int .i64 ((ix x9 x50).at_)]] rfl Try.func15 rfl rfl rfl fun w110 hL111 => ?_) gn
        refine Calls.mono (trellislaw8_sameWord_calls (w := w110) (F := fun b => b < w110.heap.size) (fun b hb => hb) (ix x1 x50) (ix x9 x50) r90 hv91) ?_
        rintro _ w112 ⟨rfl, hbl113⟩
        refine ⟨_, _, _, rfl, hL111.sameB hbl113, ?_⟩
        refine ⟨sels [] rfl, sels [0, 1] rfl, ?_⟩
        refine wa_v 9 rfl (v_not rfl) gn rfl hns (by kernel_rfl) (by kernel_rfl) rfl ?_
        refine wa_end (by kernel_rfl) ?_
        by_cases hp114 : r90 = true
        · have h := if_pos' hp114 h
          refine g_false (c := trellislaw8_same_c25) rfl _ rfl ((nf hp114)) ?_
          refine g_skip (c := trellislaw8_same_c27) rfl ?_
          refine g_inBlock ?_
          refine g_region (c := trellislaw8_same_c22) rfl rfl ?_
          refine wl_v 0 rfl (v_move rfl) gn rfl ?_
          refine wl_v 1 rfl (v_bin rfl rfl rfl) gn rfl ?_
          refine wl_v 2 rfl (v_assign rfl) gn rfl ?_
          refine w_end 3 rfl ?_
          refine g_inLoop ?_
          have ih := Out.inl hO1 h
          exact g_go [0, 1] (ih ()) ⟨rfl, rfl, rfl, trivial⟩ (.slnil) rfl
        · have h := if_neg' hp114 h
          refine g_true (c := trellislaw8_same_c25) rfl _ rfl ((nt (bf hp114))) ?_
          refine g_seq (c := trellislaw8_same_c26) rfl ?_
          refine g_region (c := trellislaw8_same_c28) rfl rfl ?_
          refine wl_v 0 rfl (v_assign rfl) gn rfl ?_
          refine w_end 1 rfl ?_
          have h := Out.inr hO1 h
          refine g_retR (c := trellislaw8_same_c29) [.bool false] rfl Try.func6 rfl (.tmp rfl (.nil)) fun wr hLr => ?_
          show trellislaw8_same_R w F r (.returned (packV [.bool false])) wr
          rw [h]
          exact ⟨rfl, hLr.below (me 1 rfl)⟩
      · have h := if_neg' hp83 h
        refine g_false (c := trellislaw8_same_c18) rfl _ rfl ((decide_eq_false hp83)) ?_
        refine g_exit (c := trellislaw8_same_c20) [.code trellislaw8_same_c10] rfl rfl ?_
        refine g_seq (c := trellislaw8_same_c10) rfl ?_
        refine g_region (c := trellislaw8_same_c30) rfl rfl ?_
        refine wl_v 0 rfl (v_assign rfl) gn rfl ?_
        refine w_end 1 rfl ?_
        have h := Out.inr hO1 h
        refine g_retR (c := trellislaw8_same_c31) [.bool true] rfl Try.func6 rfl (.tmp rfl (.nil)) fun wr hLr => ?_
        show trellislaw8_same_R w F r (.returned (packV [.bool true])) wr
        rw [h]
        exact ⟨rfl, hLr.below (me 1 rfl)⟩
    exact g_go [0, 1] (key1 _ h ()) ⟨rfl, rfl, rfl, trivial⟩ (.slnil) rfl
  · have h := if_neg' hp17 h
    refine g_true (c := trellislaw8_same_c6) rfl _ rfl ((neib hp17)) ?_
    refine g_seq (c := trellislaw8_same_c7) rfl ?_
    refine g_region (c := trellislaw8_same_c32) rfl rfl ?_
    refine wl_v 0 rfl (v_assign rfl) gn rfl ?_
    refine w_end 1 rfl ?_
    refine g_retR (c := trellislaw8_same_c33) [.bool false] rfl Try.func6 rfl (.tmp rfl (.nil)) fun wr hLr => ?_
    show trellislaw8_same_R w F r (.returned (packV [.bool false])) wr
    rw [h]
    exact ⟨rfl, hLr.below (me 1 rfl)⟩
noncomputable abbrev trellislaw8_WordsCut_c0 : Code := bodyOf Try.f3
noncomputable abbrev trellislaw8_WordsCut_c1 : Code := Code.fst trellislaw8_WordsCut_c0
noncomputable abbrev trellislaw8_WordsCut_c2 : Code := Code.snd trellislaw8_WordsCut_c0
noncomputable abbrev trellislaw8_WordsCut_c3 : Code := Code.fst trellislaw8_WordsCut_c2
noncomputable abbrev trellislaw8_WordsCut_c4 : Code := Code.snd trellislaw8_WordsCut_c2
noncomputable abbrev trellislaw8_WordsCut_c5 : Code := Code.fst trellislaw8_WordsCut_c4
noncomputable abbrev trellislaw8_WordsCut_c6 : Code := Code.snd trellislaw8_WordsCut_c4
noncomputable abbrev trellislaw8_WordsCut_c7 : Code := Code.fst trellislaw8_WordsCut_c6
noncomputable abbrev trellislaw8_WordsCut_c8 : Code := Code.snd trellislaw8_WordsCut_c6
noncomputable abbrev trellislaw8_WordsCut_c9 : Code := Code.fst trellislaw8_WordsCut_c7
noncomputable abbrev trellislaw8_WordsCut_c10 : Code := Code.snd trellislaw8_WordsCut_c7
noncomputable abbrev trellislaw8_WordsCut_c11 : Code := Code.fst trellislaw8_WordsCut_c10
noncomputable abbrev trellislaw8_WordsCut_c12 : Code := Code.snd trellislaw8_WordsCut_c10
noncomputable abbrev trellislaw8_WordsCut_c13 : Code := Code.fst trellislaw8_WordsCut_c11
noncomputable abbrev trellislaw8_WordsCut_c14 : Code := Code.snd trellislaw8_WordsCut_c11
noncomputable abbrev trellislaw8_WordsCut_c15 : Code := Code.fst trellislaw8_WordsCut_c8
noncomputable abbrev trellislaw8_WordsCut_c16 : Code := Code.snd trellislaw8_WordsCut_c8
noncomputable abbrev trellislaw8_WordsCut_c17 : Code := Code.fst trellislaw8_WordsCut_c16
noncomputable abbrev trellislaw8_WordsCut_c18 : Code := Code.snd trellislaw8_WordsCut_c16
noncomputable abbrev trellislaw8_WordsCut_c19 : Code := Code.fst trellislaw8_WordsCut_c17
noncomputable abbrev trellislaw8_WordsCut_c20 : Code := Code.snd trellislaw8_WordsCut_c17
noncomputable abbrev trellislaw8_WordsCut_c21 : Code := Code.fst trellislaw8_WordsCut_c20
noncomputable abbrev trellislaw8_WordsCut_c22 : Code := Code.fst trellislaw8_WordsCut_c21
noncomputable abbrev trellislaw8_WordsCut_c23 : Code := Code.fst trellislaw8_WordsCut_c22
noncomputable abbrev trellislaw8_WordsCut_c24 : Code := Code.snd trellislaw8_WordsCut_c22
noncomputable abbrev trellislaw8_WordsCut_c25 : Code := Code.fst trellislaw8_WordsCut_c23
noncomputable abbrev trellislaw8_WordsCut_c26 : Code := Code.snd trellislaw8_WordsCut_c23
noncomputable abbrev trellislaw8_WordsCut_c27 : Code := Code.fst trellislaw8_WordsCut_c26
noncomputable abbrev trellislaw8_WordsCut_c28 : Code := Code.snd trellislaw8_WordsCut_c26
noncomputable abbrev trellislaw8_WordsCut_c29 : Code := Code.fst trellislaw8_WordsCut_c24
noncomputable abbrev trellislaw8_WordsCut_c30 : Code := Code.snd trellislaw8_WordsCut_c24
noncomputable abbrev trellislaw8_WordsCut_c31 : Code := Code.fst trellislaw8_WordsCut_c29
noncomputable abbrev trellislaw8_WordsCut_c32 : Code := Code.fst trellislaw8_WordsCut_c18
noncomputable abbrev trellislaw8_WordsCut_c33 : Code := Code.snd trellislaw8_WordsCut_c18
noncomputable abbrev trellislaw8_WordsCut_c34 : Code := Code.fst trellislaw8_WordsCut_c33
noncomputable abbrev trellislaw8_WordsCut_c35 : Code := Code.snd trellislaw8_WordsCut_c33
noncomputable abbrev trellislaw8_WordsCut_c36 : Code := Code.fst trellislaw8_WordsCut_c34
noncomputable abbrev trellislaw8_WordsCut_c37 : Code := Code.snd trellislaw8_WordsCut_c34
noncomputable abbrev trellislaw8_WordsCut_c38 : Code := Code.fst trellislaw8_WordsCut_c37
noncomputable abbrev trellislaw8_WordsCut_c39 : Code := Code.fst trellislaw8_WordsCut_c38
noncomputable abbrev trellislaw8_WordsCut_c40 : Code := Code.fst trellislaw8_WordsCut_c39
noncomputable abbrev trellislaw8_WordsCut_c41 : Code := Code.snd trellislaw8_WordsCut_c39
noncomputable abbrev trellislaw8_WordsCut_c42 : Code := Code.fst trellislaw8_WordsCut_c40
noncomputable abbrev trellislaw8_WordsCut_c43 : Code := Code.snd trellislaw8_WordsCut_c40
noncomputable abbrev trellislaw8_WordsCut_c44 : Code := Code.fst trellislaw8_WordsCut_c43
noncomputable abbrev trellislaw8_WordsCut_c45 : Code := Code.snd trellislaw8_WordsCut_c43
noncomputable abbrev trellislaw8_WordsCut_c46 : Code := Code.fst trellislaw8_WordsCut_c41
noncomputable abbrev trellislaw8_WordsCut_c47 : Code := Code.snd trellislaw8_WordsCut_c41
noncomputable abbrev trellislaw8_WordsCut_c48 : Code := Code.fst trellislaw8_WordsCut_c46
noncomputable abbrev trellislaw8_WordsCut_c49 : Code := Code.fst trellislaw8_WordsCut_c35
noncomputable abbrev trellislaw8_WordsCut_c50 : Code := Code.snd trellislaw8_WordsCut_c35
abbrev trellislaw8_WordsCut_R (w : World) (F : Nat → Prop) (r : Bool) : Ending → World → Prop := fun e w' => e = .returned (.bool r) ∧ Below w.heap.size w w'
noncomputable abbrev trellislaw8_WordsCut_C (w : World) (F : Nat → Prop) (r : Bool) : Cx := ⟨Try.prog, 3, Try.f3, 77, trellislaw8_WordsCut_R w F r, w⟩
theorem trellislaw8_WordsCut_calls {w : World} {F : Nat → Prop} (hF : ∀ b, F b → b < w.heap.size) (x1 : ByteArray) (r : Bool) (h : trellislaw8_WordsCut x1 r) : Calls Try.prog 3 #[.string x1] w (trellislaw8_WordsCut_R w F r) := by
  unfold trellislaw8_WordsCut at h
  refine calls_of_G (vs := [.string x1]) 77 Try.func3 rfl Try.ntmps3 rfl F ?_
  show G (trellislaw8_WordsCut_C w F r) _ _ _ _
  refine g_seq (c := trellislaw8_WordsCut_c0) rfl ?_
  refine g_region (c := trellislaw8_WordsCut_c1) rfl rfl ?_
  refine wl_v 0 rfl (v_assign rfl) gn rfl ?_
  refine w_end 1 rfl ?_
  refine g_seq (c := trellislaw8_WordsCut_c2) rfl ?_
  refine g_region (c := trellislaw8_WordsCut_c3) rfl rfl ?_
  refine wl_v 0 rfl (v_move rfl) gn rfl ?_
  obtain ⟨r4, hv5, h⟩ := h
  refine wl_s 1 rfl (s_call [.string x1] rfl Try.func4 rfl rfl rfl fun w2 hL3 => ?_) gn
  refine Calls.mono (words_Cut_calls (w := w2) (F := fun b => b < w2.heap.size) (fun b hb => hb) x1 r4 hv5) ?_
  rintro _ w13 ⟨A6, c7, rfl, hbl14, hR8, hR9, hn10, hm11⟩
  refine ⟨_, _, _, rfl, hL3.ownB hbl14 hR8 hR9, ?_⟩
  refine wl_v 2 rfl (v_move rfl) gn rfl ?_
  refine wl_v 3 rfl (v_extract rfl rfl) gn rfl ?_
  refine wl_v 4 rfl (v_extract rfl rfl) gn rfl ?_
  refine wl_v 5 rfl (v_extract rfl rfl) gn rfl ?_
  refine wl_v 6 rfl (v_assign rfl) gn rfl ?_
  refine wl_v 7 rfl (v_assign rfl) gn rfl ?_
  refine wl_v 8 rfl (v_assign rfl) gn rfl ?_
  refine w_end 9 rfl ?_
  refine g_seq (c := trellislaw8_WordsCut_c4) rfl ?_
  refine g_region (c := trellislaw8_WordsCut_c5) rfl rfl ?_
  refine wl_v 0 rfl (v_move rfl) gn rfl ?_
  obtain ⟨r17, hv18, h⟩ := h
  refine wl_s 1 rfl (s_call [.string x1] rfl Try.func5 rfl rfl rfl fun w15 hL16 => ?_) gn
  refine Calls.mono (trellisref8_Cut_calls (w := w15) (F := fun b => b < w15.heap.size) (fun b hb => hb) x1 r17 hv18) ?_
  rintro _ w26 ⟨A19, c20, rfl, hbl27, hR21, hR22, hn23, hm24⟩
  refine ⟨_, _, _, rfl, hL16.ownB hbl27 hR21 hR22, ?_⟩
  refine wl_v 2 rfl (v_move rfl) gn rfl ?_
  refine wl_v 3 rfl (v_extract rfl rfl) gn rfl ?_
  refine wl_v 4 rfl (v_extract rfl rfl) gn rfl ?_
  refine wl_v 5 rfl (v_extract rfl rfl) gn rfl ?_
  refine wl_v 6 rfl (v_assign rfl) gn rfl ?_
  refine wl_v 7 rfl (v_assign rfl) gn rfl ?_
  refine wl_v 8 rfl (v_assign rfl) gn rfl ?_
  refine w_end 9 rfl ?_
  refine g_seq (c := trellislaw8_WordsCut_c6) rfl ?_
  refine g_seq (c := trellislaw8_WordsCut_c7) rfl ?_
  have j1 : ∀ (x36 : Bool) (h : trellislaw8_WordsCut_j1 x1 r17 r4 x36 r) , G (trellislaw8_WordsCut_C w F r) [.code trellislaw8_WordsCut_c10, .code trellislaw8_WordsCut_c8] [(0, .string x1), (3, .slice A6 r4.1.length c7), (6, .slice A19 r17.1.length c20), (40, .bool x36)] [.own (.slice A19 r17.1.length c20) 29 4 r17.1.length (r17.1.flatMap enc_api_Word), .own (.slice A6 r4.1.length c7) 29 4 r4.1.length (r4.1.flatMap enc_api_Word)] [Sm w.heap.size F w [], St w []] := by
    intro x36 h
    unfold trellislaw8_WordsCut_j1 at h
    by_cases hp37 : x36 = true
    · have h := if_pos' hp37 h
      refine g_true (c := trellislaw8_WordsCut_c10) rfl _ rfl (hp37) ?_
      refine g_seq (c := trellislaw8_WordsCut_c11) rfl ?_
      refine g_region (c := trellislaw8_WordsCut_c13) rfl rfl ?_
      refine wl_v 0 rfl (v_assign rfl) gn rfl ?_
      refine w_end 1 rfl ?_
      refine g_retR (c := trellislaw8_WordsCut_c14) [.bool false] rfl Try.func3 rfl (.tmp rfl (.nil)) fun wr hLr => ?_
      show trellislaw8_WordsCut_R w F r (.returned (packV [.bool false])) wr
      rw [h]
      exact ⟨rfl, hLr.below (me 1 rfl)⟩
    · have h := if_neg' hp37 h
      refine g_false (c := trellislaw8_WordsCut_c10) rfl _ rfl ((bf hp37)) ?_
      refine g_skip (c := trellislaw8_WordsCut_c12) rfl ?_
      refine g_seq (c := trellislaw8_WordsCut_c8) rfl ?_
      refine g_region (c := trellislaw8_WordsCut_c15) rfl rfl ?_
      refine wl_v 0 rfl (v_move rfl) gn rfl ?_
      obtain ⟨r40, hv41, h⟩ := h
      refine wl_s 1 rfl (s_call [.string x1] rfl Try.func4 rfl rfl rfl fun w38 hL39 => ?_) gn
      refine Calls.mono (words_Cut_calls (w := w38) (F := fun b => b < w38.heap.size) (fun b hb => hb) x1 r40 hv41) ?_
      rintro _ w49 ⟨A42, c43, rfl, hbl50, hR44, hR45, hn46, hm47⟩
      refine ⟨_, _, _, rfl, hL39.ownB hbl50 hR44 hR45, ?_⟩
      refine wl_v 2 rfl (v_move rfl) gn rfl ?_
      refine wl_v 3 rfl (v_extract rfl rfl) gn rfl ?_
      refine wl_v 4 rfl (v_extract rfl rfl) gn rfl ?_
      refine wl_v 5 rfl (v_extract rfl rfl) gn rfl ?_
      refine wl_v 6 rfl (v_assign rfl) gn rfl ?_
      refine wl_v 7 rfl (v_assign rfl) gn rfl ?_
      refine wl_v 8 rfl (v_assign rfl) gn rfl ?_
      refine w_end 9 rfl ?_
      refine g_seq (c := trellislaw8_WordsCut_c16) rfl ?_
      refine g_seq (c := trellislaw8_WordsCut_c17) rfl ?_
      refine g_region (c := trellislaw8_WordsCut_c19) rfl rfl ?_
      refine wl_v 0 rfl (v_assign rfl) gn rfl ?_
      refine w_end 1 rfl ?_
      refine g_block (c := trellislaw8_WordsCut_c20) rfl ?_
      refine g_loop (c := trellislaw8_WordsCut_c21) rfl ?_
      have key2 : ∀ s, Rounds (fun (s : (List api_Word) × Int) o => trellislaw8_WordsCut_b2 r40 r17 s.1 s.2 o) s r → (fun (s : (List api_Word) × Int) => ∀ (A115 : Option Addr) (n117 : Nat) (c116 : Nat) (hq121 : n117 = s.1.length) (hA118 : 0 < n117 → A115.isSome = true) (hn119 : n117 ≤ c116) (hm120 : c116 ≤ maxLen), G (trellislaw8_WordsCut_C w F r) [.code trellislaw8_WordsCut_c22, .inLoop trellislaw8_WordsCut_c22, .inBlock 0, .code trellislaw8_WordsCut_c18] [(3, .slice A115 n117 c116), (6, .slice A19 r17.1.length c20), (9, .slice A42 r40.1.length c43), (12, .int .i64 s.2)] [.own (.slice A42 r40.1.length c43) 29 4 r40.1.length (r40.1.flatMap enc_api_Word), .own (.slice A19 r17.1.length c20) 29 4 r17.1.length (r17.1.flatMap enc_api_Word), .own (.slice A115 n117 c116) 29 4 n117 (s.1.flatMap enc_api_Word)] [Sm w.heap.size F w [], St w []]) s := by
        intro s hs
        refine Rounds.ind (mot := (fun (s : (List api_Word) × Int) => ∀ (A115 : Option Addr) (n117 : Nat) (c116 : Nat) (hq121 : n117 = s.1.length) (hA118 : 0 < n117 → A115.isSome = true) (hn119 : n117 ≤ c116) (hm120 : c116 ≤ maxLen), G (trellislaw8_WordsCut_C w F r) [.code trellislaw8_WordsCut_c22, .inLoop trellislaw8_WordsCut_c22, .inBlock 0, .code trellislaw8_WordsCut_c18] [(3, .slice A115 n117 c116), (6, .slice A19 r17.1.length c20), (9, .slice A42 r40.1.length c43), (12, .int .i64 s.2)] [.own (.slice A42 r40.1.length c43) 29 4 r40.1.length (r40.1.flatMap enc_api_Word), .own (.slice A19 r17.1.length c20) 29 4 r17.1.length (r17.1.flatMap enc_api_Word), .own (.slice A115 n117 c116) 29 4 n117 (s.1.flatMap enc_api_Word)] [Sm w.heap.size F w [], St w []])) ?_ hs
        clear hs s
        intro s o1 h hO1
        obtain ⟨x114, x122⟩ := s
        intro A115 n117 c116 hq121 hA118 hn119 hm120
        have h : trellislaw8_WordsCut_b2 r40 r17 x114 x122 o1 := h
        unfold trellislaw8_WordsCut_b2 at h
        show G (trellislaw8_WordsCut_C w F r) [.code trellislaw8_WordsCut_c22, .inLoop trellislaw8_WordsCut_c22, .inBlock 0, .code trellislaw8_WordsCut_c18] [(3, .slice A115 n117 c116), (6, .slice A19 r17.1.length c20), (9, .slice A42 r40.1.length c43), (12, .int .i64 x122)] [.own (.slice A42 r40.1.length c43) 29 4 r40.1.length (r40.1.flatMap enc_api_Word), .own (.slice A19 r17.1.length c20) 29 4 r17.1.length (r17.1.flatMap enc_api_Word), .own (.slice A115 n117 c116) 29 4 n117 (x114.flatMap enc_api_Word)] [Sm w.heap.size F w [], St w []]
        refine g_seq (c := trellislaw8_WordsCut_c22) rfl ?_
        refine g_seq (c := trellislaw8_WordsCut_c23) rfl ?_
        refine g_region (c := trellislaw8_WordsCut_c25) rfl rfl ?_
        refine wl_v 0 rfl (v_move rfl) gn rfl ?_
        refine wl_v 1 rfl (v_move rfl) gn rfl ?_
        refine wl_v 2 rfl (v_lenQ un_22 rfl hq121) gn rfl ?_
        refine wl_v 3 rfl (v_bin rfl rfl rfl) gn rfl ?_
        refine w_end 4 rfl ?_
        by_cases hp186 : x122 < (x114.length : Int)
        · have h := if_pos' hp186 h
          refine g_true (c := trellislaw8_WordsCut_c26) rfl _ rfl ((decide_eq_true hp186)) ?_
          refine g_skip (c := trellislaw8_WordsCut_c27) rfl ?_
          refine g_seq (c := trellislaw8_WordsCut_c24) rfl ?_
          refine g_block (c := trellislaw8_WordsCut_c29) rfl ?_
          refine g_region (c := trellislaw8_WordsCut_c31) rfl rfl ?_
          refine wl_v 0 rfl (v_move rfl) gn rfl ?_
          refine wl_v 1 rfl (v_move rfl) gn rfl ?_
          refine wl_v 2 rfl (v_build #[.int .i64 0, .string (⟨#[]⟩ : ByteArray), .int .i64 77, .int .i64 0] bd_29 rfl (by kernel_rfl)) gn rfl ?_
          obtain ⟨hb187, h⟩ := h
          refine wl_v 3 rfl (v_idx slE_22 rfl rfl (idx_of hq121 hb187) (hA118 (pos_of (idx_of hq121 hb187)))) gn rfl ?_
          obtain ⟨x188, hv189, h⟩ := h
          have hq190 : n117 = x188.length := by rw [hv189, List.length_set]; exact hq121
          refine wl_s 4 rfl (s_stF (enc := enc_api_Word) (o := 0) (z := (⟨0, (⟨#[]⟩ : ByteArray), 77, 0⟩ : api_Word)) (vs := [.int .i64 0, .string (⟨#[]⟩ : ByteArray), .int .i64 77, .int .i64 0]) (i := x122) 2 hl_api_Word sz_29 rfl rfl rfl rfl rfl hq121 hb187 rfl rfl rfl hv189 ?_) gn
          refine w_end 5 rfl ?_
          refine g_inBlock ?_
          refine g_region (c := trellislaw8_WordsCut_c30) rfl rfl ?_
          refine wl_v 0 rfl (v_move rfl) gn rfl ?_
          refine wl_v 1 rfl (v_bin rfl rfl rfl) gn rfl ?_
          refine wl_v 2 rfl (v_assign rfl) gn rfl ?_
          refine w_end 3 rfl ?_
          refine g_inLoop ?_
          have ih := Out.inl hO1 h
          exact g_go [0, 1] (ih A115 n117 c116 hq190 hA118 hn119 hm120) ⟨rfl, rfl, rfl, rfl, trivial⟩ (.cons_cons _ (.cons_cons _ (.cons_cons _ (.slnil)))) rfl
        · have h := if_neg' hp186 h
          refine g_false (c := trellislaw8_WordsCut_c26) rfl _ rfl ((decide_eq_false hp186)) ?_
          refine g_exit (c := trellislaw8_WordsCut_c28) [.code trellislaw8_WordsCut_c18] rfl rfl ?_
          refine g_seq (c := trellislaw8_WordsCut_c18) rfl ?_
          refine g_region (c := trellislaw8_WordsCut_c32) rfl rfl ?_
          refine wl_v 0 rfl (v_move rfl) gn rfl ?_
          refine wl_v 1 rfl (v_assign rfl) gn rfl ?_
          refine w_end 2 rfl ?_
          refine g_seq (c := trellislaw8_WordsCut_c33) rfl ?_
          refine g_seq (c := trellislaw8_WordsCut_c34) rfl ?_
          refine g_region (c := trellislaw8_WordsCut_c36) rfl rfl ?_
          refine wl_v 0 rfl (v_assign rfl) gn rfl ?_
          refine w_end 1 rfl ?_
          refine g_block (c := trellislaw8_WordsCut_c37) rfl ?_
          refine g_loop (c := trellislaw8_WordsCut_c38) rfl ?_
          have key3 : ∀ s, Rounds (fun (s : (List api_Word) × Int) o => trellislaw8_WordsCut_b3 r40 r17 s.1 s.2 o) s o1 → (fun (s : (List api_Word) × Int) => ∀ (A191 : Option Addr) (n193 : Nat) (c192 : Nat) (hq197 : n193 = s.1.length) (hA194 : 0 < n193 → A191.isSome = true) (hn195 : n193 ≤ c192) (hm196 : c192 ≤ maxLen), G (trellislaw8_WordsCut_C w F r) [.code trellislaw8_WordsCut_c39, .inLoop trellislaw8_WordsCut_c39, .inBlock 2, .code trellislaw8_WordsCut_c35] [(6, .slice A19 r17.1.length c20), (9, .slice A42 r40.1.length c43), (13, .slice A191 n193 c192), (14, .int .i64 s.2)] [.own (.slice A42 r40.1.length c43) 29 4 r40.1.length (r40.1.flatMap enc_api_Word), .own (.slice A19 r17.1.length c20) 29 4 r17.1.length (r17.1.flatMap enc_api_Word), .own (.slice A191 n193 c192) 29 4 n193 (s.1.flatMap enc_api_Word)] [Sm w.heap.size F w [], St w []]) s := by
            intro s hs
            refine Rounds.ind (mot := (fun (s : (List api_Word) × Int) => ∀ (A191 : Option Addr) (n193 : Nat) (c192 : Nat) (hq197 : n193 = s.1.length) (hA194 : 0 < n193 → A191.isSome = true) (hn195 : n193 ≤ c192) (hm196 : c192 ≤ maxLen), G (trellislaw8_WordsCut_C w F r) [.code trellislaw8_WordsCut_c39, .inLoop trellislaw8_WordsCut_c39, .inBlock 2, .code trellislaw8_WordsCut_c35] [(6, .slice A19 r17.1.length c20), (9, .slice A42 r40.1.length c43), (13, .slice A191 n193 c192), (14, .int .i64 s.2)] [.own (.slice A42 r40.1.length c43) 29 4 r40.1.length (r40.1.flatMap enc_api_Word), .own (.slice A19 r17.1.length c20) 29 4 r17.1.length (r17.1.flatMap enc_api_Word), .own (.slice A191 n193 c192) 29 4 n193 (s.1.flatMap enc_api_Word)] [Sm w.heap.size F w [], St w []])) ?_ hs
            clear hs s
            intro s o2 h hO2
            obtain ⟨x209, x210⟩ := s
            intro A191 n193 c192 hq197 hA194 hn195 hm196
            have h : trellislaw8_WordsCut_b3 r40 r17 x209 x210 o2 := h
            unfold trellislaw8_WordsCut_b3 at h
            show G (trellislaw8_WordsCut_C w F r) [.code trellislaw8_WordsCut_c39, .inLoop trellislaw8_WordsCut_c39, .inBlock 2, .code trellislaw8_WordsCut_c35] [(6, .slice A19 r17.1.length c20), (9, .slice A42 r40.1.length c43), (13, .slice A191 n193 c192), (14, .int .i64 x210)] [.own (.slice A42 r40.1.length c43) 29 4 r40.1.length (r40.1.flatMap enc_api_Word), .own (.slice A19 r17.1.length c20) 29 4 r17.1.length (r17.1.flatMap enc_api_Word), .own (.slice A191 n193 c192) 29 4 n193 (x209.flatMap enc_api_Word)] [Sm w.heap.size F w [], St w []]
            refine g_seq (c := trellislaw8_WordsCut_c39) rfl ?_
            refine g_seq (c := trellislaw8_WordsCut_c40) rfl ?_
            refine g_region (c := trellislaw8_WordsCut_c42) rfl rfl ?_
            refine wl_v 0 rfl (v_move rfl) gn rfl ?_
            refine wl_v 1 rfl (v_bin rfl rfl rfl) gn rfl ?_
            refine w_end 2 rfl ?_
            by_cases hp230 : x210 < 70
            · have h := if_pos' hp230 h
              refine g_true (c := trellislaw8_WordsCut_c43) rfl _ rfl ((decide_eq_true hp230)) ?_
              refine g_skip (c := trellislaw8_WordsCut_c44) rfl ?_
              refine g_seq (c := trellislaw8_WordsCut_c41) rfl ?_
              refine g_block (c := trellislaw8_WordsCut_c46) rfl ?_
              refine g_region (c := trellislaw8_WordsCut_c48) rfl rfl ?_
              refine wl_v 0 rfl (v_move rfl) gn rfl ?_
              refine wl_v 1 rfl (v_build #[.int .i64 0, .string (⟨#[]⟩ : ByteArray), .int .i64 78, .int .i64 0] bd_29 rfl (by kernel_rfl)) gn rfl ?_
              refine wl_s 2 rfl (s_lit [.int .i64 0, .string (⟨#[]⟩ : ByteArray), .int .i64 78, .int .i64 0] bs_22_1 rfl (by kernel_rfl) rfl rfl rfl fun gb231 => ?_) gn
              obtain ⟨x238, hv239, h⟩ := h
              obtain ⟨hb240, h⟩ := h
              have hq241 : n193 + 1 = x238.length := by have q1 : n193 = x209.length := hq197; have q2 : 1 = ([(⟨0, (⟨#[]⟩ : ByteArray), 78, 0⟩ : api_Word)] : List api_Word).length := rfl; rw [hv239, List.length_append]; omega
              refine wl_s 3 rfl (s_appO (cells' := x238.flatMap enc_api_Word) (news := ([(⟨0, (⟨#[]⟩ : ByteArray), 78, 0⟩ : api_Word)] : List api_Word).flatMap enc_api_Word) 3 0 ap_22 rfl rfl rfl rfl (Nat.le_refl _) (rfl) (fm_all h1_api_Word _) rfl (by rw [hv239, List.flatMap_append] <;> rfl) (by omega) (by omega) (by decide) rfl fun A233 c234 hA235 hn236 hm237 => ?_) gn
              refine wl_v 4 rfl (v_assign rfl) gn rfl ?_
              refine w_end 5 rfl ?_
              refine g_inBlock ?_
              refine g_region (c := trellislaw8_WordsCut_c47) rfl rfl ?_
              refine wl_v 0 rfl (v_move rfl) gn rfl ?_
              refine wl_v 1 rfl (v_bin rfl rfl rfl) gn rfl ?_
              refine wl_v 2 rfl (v_assign rfl) gn rfl ?_
              refine w_end 3 rfl ?_
              refine g_inLoop ?_
              have ih := Out.inl hO2 h
              exact g_go [0, 1] (ih A233 (n193 + 1) c234 hq241 hA235 hn236 hm237) ⟨rfl, rfl, rfl, rfl, trivial⟩ (.cons _ (.cons_cons _ (.cons_cons _ (.cons_cons _ (.slnil))))) rfl
            · have h := if_neg' hp230 h
              refine g_false (c := trellislaw8_WordsCut_c43) rfl _ rfl ((decide_eq_false hp230)) ?_
              refine g_exit (c := trellislaw8_WordsCut_c45) [.code trellislaw8_WordsCut_c35] rfl rfl ?_
              refine g_seq (c := trellislaw8_WordsCut_c35) rfl ?_
              refine g_region (c := trellislaw8_WordsCut_c49) rfl rfl ?_
              refine wl_v 0 rfl (v_move rfl) gn rfl ?_
              refine wl_v 1 rfl (v_move rfl) gn rfl ?_
              obtain ⟨r244, hv245, h⟩ := h
              refine wl_s 2 rfl (s_call [.slice A42 r40.1.length c43, .slice A19 r17.1.length c20] rfl Try.func6 rfl rfl rfl fun w242 hL243 => ?_) gn
              refine Calls.mono (trellislaw8_same_calls (w := w242) (F := fun b => b < w242.heap.size) (fun b hb => hb) r40.1 r17.1 A42 r40.1.length c43 rfl (hL243.arg (hl := hl_api_Word) (h1 := h1_api_Word) 0 rfl rfl rfl) hn46 hm47 A19 r17.1.length c20 rfl (hL243.arg (hl := hl_api_Word) (h1 := h1_api_Word) 1 rfl rfl rfl) hn23 hm24 r244 hv245) ?_
              rintro _ w246 ⟨rfl, hbl247⟩
              refine ⟨_, _, _, rfl, hL243.sameB hbl247, ?_⟩
              refine wl_v 3 rfl (v_move rfl) gn rfl ?_
              by_cases hp248 : r244 = true
              · have h := if_pos' hp248 h
                refine w_bool 69 rfl (hp248) ?_
                refine wl_v 4 rfl (v_move rfl) (gy 69 rfl rfl) rfl ?_
                refine wl_v 5 rfl (v_lenQ un_22 rfl hq197) (gy 69 rfl rfl) rfl ?_
                refine wl_v 6 rfl (v_move rfl) (gy 69 rfl rfl) rfl ?_
                refine wl_v 7 rfl (v_lenQ un_22 rfl rfl) (gy 69 rfl rfl) rfl ?_
                refine wl_v 8 rfl (v_bin rfl rfl rfl) (gy 69 rfl rfl) rfl ?_
                refine wl_v 9 rfl (v_bin rfl rfl rfl) (gy 69 rfl rfl) rfl ?_
                refine wl_v 10 rfl (v_pick (b := true) rfl rfl) gn rfl ?_
                refine wl_v 11 rfl (v_assign rfl) gn rfl ?_
                refine w_end 12 rfl ?_
                have h := Out.inr hO2 h
                have h := Out.inr hO1 h
                refine g_retR (c := trellislaw8_WordsCut_c50) [.bool ((x209.length : Int) == (w64 ((r17.1.length : Int) + 70)))] rfl Try.func3 rfl (.tmp rfl (.nil)) fun wr hLr => ?_
                show trellislaw8_WordsCut_R w F r (.returned (packV [.bool ((x209.length : Int) == (w64 ((r17.1.length : Int) + 70)))])) wr
                rw [h]
                exact ⟨rfl, hLr.below (me 1 rfl)⟩
              · have h := if_neg' hp248 h
                refine w_bool 69 rfl ((bf hp248)) ?_
                refine wl_pass 4 rfl (ps 69 rfl rfl rfl) ?_
                refine wl_pass 5 rfl (ps 69 rfl rfl rfl) ?_
                refine wl_pass 6 rfl (ps 69 rfl rfl rfl) ?_
                refine wl_pass 7 rfl (ps 69 rfl rfl rfl) ?_
                refine wl_pass 8 rfl (ps 69 rfl rfl rfl) ?_
                refine wl_pass 9 rfl (ps 69 rfl rfl rfl) ?_
                refine wl_v 10 rfl (v_pick (b := false) rfl rfl) gn rfl ?_
                refine wl_v 11 rfl (v_assign rfl) gn rfl ?_
                refine w_end 12 rfl ?_
                have h := Out.inr hO2 h
                have h := Out.inr hO1 h
                refine g_retR (c := trellislaw8_WordsCut_c50) [.bool false] rfl Try.func3 rfl (.tmp rfl (.nil)) fun wr hLr => ?_
                show trellislaw8_WordsCut_R w F r (.returned (packV [.bool false])) wr
                rw [h]
                exact ⟨rfl, hLr.below (me 1 rfl)⟩
          exact g_go [0, 1] (key3 _ h A115 n117 c116 hq121 hA118 hn119 hm120) ⟨rfl, rfl, rfl, rfl, trivial⟩ (.cons_cons _ (.cons_cons _ (.cons_cons _ (.slnil)))) rfl
      exact g_go [0, 1] (key2 _ h A6 r4.1.length c7 rfl (own_form' hR8) hn10 hm11) ⟨rfl, rfl, rfl, rfl, trivial⟩ (.cons_cons _ (.cons_cons _ (.cons_cons _ (.slnil)))) rfl
  refine g_region (c := trellislaw8_WordsCut_c9) rfl rfl ?_
  refine wl_v 0 rfl (v_move rfl) gn rfl ?_
  refine wl_v 1 rfl (v_move rfl) gn rfl ?_
  obtain ⟨r251, hv252, h⟩ := h
  refine wl_s 2 rfl (s_call [.slice A6 r4.1.length c7, .slice A19 r17.1.length c20] rfl Try.func6 rfl rfl rfl fun w249 hL250 => ?_) gn
  refine Calls.mono (trellislaw8_same_calls (w := w249) (F := fun b => b < w249.heap.size) (fun b hb => hb) r4.1 r17.1 A6 r4.1.length c7 rfl (hL250.arg (hl := hl_api_Word) (h1 := h1_api_Word) 1 rfl rfl rfl) hn10 hm11 A19 r17.1.length c20 rfl (hL250.arg (hl := hl_api_Word) (h1 := h1_api_Word) 0 rfl rfl rfl) hn23 hm24 r251 hv252) ?_
  rintro _ w253 ⟨rfl, hbl254⟩
  refine ⟨_, _, _, rfl, hL250.sameB hbl254, ?_⟩
  refine wl_v 3 rfl (v_not rfl) gn rfl ?_
  refine wl_v 4 rfl (v_move rfl) gn rfl ?_
  by_cases hp255 : r251 = true
  · have h := if_pos' hp255 h
    refine w_bool 31 rfl ((nf hp255)) ?_
    refine wl_v 5 rfl (v_move rfl) (gy 31 rfl rfl) rfl ?_
    refine wl_v 6 rfl (v_move rfl) (gy 31 rfl rfl) rfl ?_
    refine wl_v 7 rfl (v_bin rfl rfl rfl) (gy 31 rfl rfl) rfl ?_
    refine wl_v 8 rfl (v_pick (b := false) rfl rfl) gn rfl ?_
    refine wl_v 9 rfl (v_move rfl) gn rfl ?_
    by_cases hp256 : r4.2.1 = r17.2.1
    · have h := if_pos' hp256 h
      refine w_bool 36 rfl ((eqib hp256)) ?_
      refine wl_v 10 rfl (v_move rfl) (gy 36 rfl rfl) rfl ?_
      refine wl_v 11 rfl (v_move rfl) (gy 36 rfl rfl) rfl ?_
      refine wl_v 12 rfl (v_bin rfl rfl rfl) (gy 36 rfl rfl) rfl ?_
      refine wl_v 13 rfl (v_pick (b := false) rfl rfl) gn rfl ?_
      refine w_end 14 rfl ?_
      exact g_go [0, 1] (j1 (r4.2.2 != r17.2.2) h) ⟨rfl, rfl, rfl, rfl, trivial⟩ (.cons_cons _ (.cons_cons _ (.slnil))) rfl
    · have h := if_neg' hp256 h
      refine w_bool 36 rfl ((neib hp256)) ?_
      refine wl_pass 10 rfl (ps 36 rfl rfl rfl) ?_
      refine wl_pass 11 rfl (ps 36 rfl rfl rfl) ?_
      refine wl_pass 12 rfl (ps 36 rfl rfl rfl) ?_
      refine wl_v 13 rfl (v_pick (b := true) rfl rfl) gn rfl ?_
      refine w_end 14 rfl ?_
      exact g_go [0, 1] (j1 true h) ⟨rfl, rfl, rfl, rfl, trivial⟩ (.cons_cons _ (.cons_cons _ (.slnil))) rfl
  · have h := if_neg' hp255 h
    refine w_bool 31 rfl ((nt (bf hp255))) ?_
    refine wl_pass 5 rfl (ps 31 rfl rfl rfl) ?_
    refine wl_pass 6 rfl (ps 31 rfl rfl rfl) ?_
    refine wl_pass 7 rfl (ps 31 rfl rfl rfl) ?_
    refine wl_v 8 rfl (v_pick (b := true) rfl rfl) gn rfl ?_
    refine wl_v 9 rfl (v_move rfl) gn rfl ?_
    refine wl_pass 10 rfl (ps 36 rfl rfl rfl) ?_
    refine wl_pass 11 rfl (ps 36 rfl rfl rfl) ?_
    refine wl_pass 12 rfl (ps 36 rfl rfl rfl) ?_
    refine wl_v 13 rfl (v_pick (b := true) rfl rfl) gn rfl ?_
    refine w_end 14 rfl ?_
    exact g_go [0, 1] (j1 true h) ⟨rfl, rfl, rfl, rfl, trivial⟩ (.cons_cons _ (.cons_cons _ (.slnil))) rfl
end Go.Proofs.Ytkaejoffnkhbpaa.K
