/- What the machine's calls do, function by function, printed by my own tool. Condition of each: its relation holds of the answer, and what is handed in lies in memory as told. -/
import Derived.Test.YtkaejoffnkhbpaaDoorK2
set_option linter.unusedVariables false
set_option maxRecDepth 100000
set_option maxHeartbeats 4000000
namespace Go.Proofs.YtkaejoffnkhbpaaDoor.K
open Go.Proofs.YtkaejoffnkhbpaaDoor.B Go.Proofs.YtkaejoffnkhbpaaDoor.R Go.RowKit
noncomputable abbrev words_slashed_c0 : Code := bodyOf Tryd.f31
noncomputable abbrev words_slashed_c1 : Code := Code.fst words_slashed_c0
noncomputable abbrev words_slashed_c2 : Code := Code.snd words_slashed_c0
noncomputable abbrev words_slashed_c3 : Code := Code.fst words_slashed_c2
noncomputable abbrev words_slashed_c4 : Code := Code.fst words_slashed_c3
noncomputable abbrev words_slashed_c5 : Code := Code.snd words_slashed_c3
noncomputable abbrev words_slashed_c6 : Code := Code.fst words_slashed_c5
noncomputable abbrev words_slashed_c7 : Code := Code.snd words_slashed_c5
noncomputable abbrev words_slashed_c8 : Code := Code.fst words_slashed_c7
noncomputable abbrev words_slashed_c9 : Code := Code.snd words_slashed_c7
noncomputable abbrev words_slashed_c10 : Code := Code.fst words_slashed_c8
noncomputable abbrev words_slashed_c11 : Code := Code.fst words_slashed_c10
noncomputable abbrev words_slashed_c12 : Code := Code.snd words_slashed_c10
noncomputable abbrev words_slashed_c13 : Code := Code.fst words_slashed_c12
noncomputable abbrev words_slashed_c14 : Code := Code.snd words_slashed_c12
noncomputable abbrev words_slashed_c15 : Code := Code.fst words_slashed_c13
noncomputable abbrev words_slashed_c16 : Code := Code.snd words_slashed_c13
noncomputable abbrev words_slashed_c17 : Code := Code.fst words_slashed_c14
noncomputable abbrev words_slashed_c18 : Code := Code.snd words_slashed_c14
noncomputable abbrev words_slashed_c19 : Code := Code.fst words_slashed_c18
noncomputable abbrev words_slashed_c20 : Code := Code.snd words_slashed_c18
noncomputable abbrev words_slashed_c21 : Code := Code.fst words_slashed_c19
noncomputable abbrev words_slashed_c22 : Code := Code.snd words_slashed_c19
noncomputable abbrev words_slashed_c23 : Code := Code.fst words_slashed_c20
noncomputable abbrev words_slashed_c24 : Code := Code.snd words_slashed_c20
noncomputable abbrev words_slashed_c25 : Code := Code.fst words_slashed_c24
noncomputable abbrev words_slashed_c26 : Code := Code.snd words_slashed_c24
noncomputable abbrev words_slashed_c27 : Code := Code.fst words_slashed_c9
noncomputable abbrev words_slashed_c28 : Code := Code.snd words_slashed_c9
abbrev words_slashed_R (w : World) (F : Nat → Prop) (r : (List Int) × Int × Int) : Ending → World → Prop := fun e w' => ∃ A0 : Option Addr, ∃ n0 : Nat, ∃ c0 : Nat, e = .returned (.tuple #[.slice A0 n0 c0, .int .i64 r.2.1, .int .i64 r.2.2]) ∧ B.Loc w w' [.own (.slice A0 n0 c0) 5 1 n0 (r.1.flatMap (eI .u8))] [St w []] ∧ Ow w.heap.size A0 n0 c0 r.1
noncomputable abbrev words_slashed_C (w : World) (F : Nat → Prop) (r : (List Int) × Int × Int) : Cx := ⟨Tryd.prog, 31, Tryd.f31, 58, words_slashed_R w F  r, w⟩
theorem words_slashed_calls (w : World) (F : Nat → Prop) (x1 : ByteArray) (x2 : Int) (hF : ∀ b, F b → b < w.heap.size ∧ ∀ o ∈ ([] : List (List Nat)), b ∉ o) (hL0 : B.Loc w w [] [Sm w.heap.size F w [], St w []]) (r : (List Int) × Int × Int) (h : words_slashed x1 x2 r) : Calls Tryd.prog 31 #[.string x1, .int .i64 x2] w (words_slashed_R w F  r) := by
  unfold words_slashed at h
  refine calls_of_Loc (vs := [.string x1, .int .i64 x2]) 58 Tryd.func31 rfl Tryd.ntmps31 rfl hL0 ?_
  show G (words_slashed_C w F r) _ _ _ _
  refine g_seq (c := words_slashed_c0) rfl ?_
  refine g_region (c := words_slashed_c1) rfl rfl ?_
  refine wl_v 0 rfl (v_assign rfl) gn rfl ?_
  refine wl_v 1 rfl (v_assign rfl) gn rfl ?_
  refine wl_v 2 rfl (v_assign rfl) gn rfl ?_
  refine w_end 3 rfl ?_
  refine g_scope (c := words_slashed_c2) rfl ?_
  refine g_seq (c := words_slashed_c3) rfl ?_
  refine g_region (c := words_slashed_c4) rfl rfl ?_
  refine wl_v 0 rfl (v_move rfl) gn rfl ?_
  refine wl_v 1 rfl (v_bin rfl rfl rfl) gn rfl ?_
  refine wl_v 2 rfl (v_assign rfl) gn rfl ?_
  refine w_end 3 rfl ?_
  refine g_seq (c := words_slashed_c5) rfl ?_
  refine g_label (c := words_slashed_c6) rfl ?_
  have key1 : ∀ s, Rounds (fun (s : Int) o => words_slashed_b1 x1 x2 s o) s r → (fun (s : Int) => ∀ (_ : Unit), G (words_slashed_C w F r) [.code words_slashed_c7, .inScope words_slashed_c3] [(0, .string x1), (1, .int .i64 x2), (7, .int .i64 s)] [] [Sm w.heap.size F w [], St w []]) s := by
    intro s hs
    refine Rounds.ind (mot := (fun (s : Int) => ∀ (_ : Unit), G (words_slashed_C w F r) [.code words_slashed_c7, .inScope words_slashed_c3] [(0, .string x1), (1, .int .i64 x2), (7, .int .i64 s)] [] [Sm w.heap.size F w [], St w []])) ?_ hs
    clear hs s
    intro x28 o1 h hO1
    show ∀ (_ : Unit), G (words_slashed_C w F r) [.code words_slashed_c7, .inScope words_slashed_c3] [(0, .string x1), (1, .int .i64 x2), (7, .int .i64 x28)] [] [Sm w.heap.size F w [], St w []]
    intro _
    have h : words_slashed_b1 x1 x2 x28 o1 := h
    unfold words_slashed_b1 at h
    refine g_seq (c := words_slashed_c7) rfl ?_
    refine g_block (c := words_slashed_c8) rfl ?_
    refine g_seq (c := words_slashed_c10) rfl ?_
    have j2 : ∀ (x56 : Bool) (h : words_slashed_j2 x2 x28 x1 x56 o1) , G (words_slashed_C w F r) [.code words_slashed_c12, .inBlock 0, .code words_slashed_c9, .inScope words_slashed_c3] [(0, .string x1), (1, .int .i64 x2), (7, .int .i64 x28), (10, .bool x56)] [] [Sm w.heap.size F w [], St w []] := by
      intro x56 h
      unfold words_slashed_j2 at h
      by_cases hp57 : x56 = true
      · have h := if_pos' hp57 h
        refine g_true (c := words_slashed_c12) rfl _ rfl (hp57) ?_
        refine g_seq (c := words_slashed_c13) rfl ?_
        refine g_region (c := words_slashed_c15) rfl rfl ?_
        refine wl_v 0 rfl (v_move rfl) gn rfl ?_
        refine wl_v 1 rfl (v_assign rfl) gn rfl ?_
        refine wl_v 2 rfl (v_assign rfl) gn rfl ?_
        refine wl_v 3 rfl (v_assign rfl) gn rfl ?_
        refine w_end 4 rfl ?_
        refine g_nil 5 1 ?_
        have h := Out.inr hO1 h
        refine g_retR (c := words_slashed_c16) [.slice none 0 0, .int .i64 82, .int .i64 x2] rfl Tryd.func31 rfl (.tmp rfl (.tmp rfl (.tmp rfl (.nil)))) fun wr hLr => ?_
        have hMr : B.Loc w wr [.own (.slice none 0 0) 5 1 0 (([] : List Int).flatMap (eI .u8))] [St w []] := hLr.pick (rest := []) (perm_of_idx [0] [] rfl rfl (by kernel_rfl)) (sels [1] rfl)
        have hMi : ∀ e ∈ ([.own (.slice none 0 0) 5 1 0 (([] : List Int).flatMap (eI .u8))] : List Ent), e ∈ ([.own (.slice none 0 0) 5 1 0 (([] : List Int).flatMap (eI .u8))] : List Ent) := sels [0] rfl
        show words_slashed_R w F  r (.returned (packV [.slice none 0 0, .int .i64 82, .int .i64 x2])) wr
        rw [h]
        exact ⟨none, 0, 0, rfl, hMr, (Ow.nil (z := w.heap.size))⟩
      · have h := if_neg' hp57 h
        refine g_false (c := words_slashed_c12) rfl _ rfl ((bf hp57)) ?_
        refine g_seq (c := words_slashed_c14) rfl ?_
        refine g_region (c := words_slashed_c17) rfl rfl ?_
        refine wl_v 0 rfl (v_move rfl) gn rfl ?_
        refine wl_v 1 rfl (v_move rfl) gn rfl ?_
        obtain ⟨hb58, h⟩ := h
        refine wl_v 2 rfl (v_indexS un_9 rfl rfl hb58) gn rfl ?_
        refine wl_v 3 rfl (v_bin rfl rfl rfl) gn rfl ?_
        refine wl_v 4 rfl (v_assign rfl) gn rfl ?_
        refine w_end 5 rfl ?_
        by_cases hp59 : bt x1 x28 = 47
        · have h := if_pos' hp59 h
          refine g_true (c := words_slashed_c18) rfl _ rfl ((eqi hp59)) ?_
          refine g_seq (c := words_slashed_c19) rfl ?_
          refine g_region (c := words_slashed_c21) rfl rfl ?_
          refine wl_v 0 rfl (v_move rfl) gn rfl ?_
          refine wl_v 1 rfl (v_move rfl) gn rfl ?_
          refine wl_v 2 rfl (v_bin rfl rfl rfl) gn rfl ?_
          refine wl_v 3 rfl (v_move rfl) gn rfl ?_
          obtain ⟨hb60, h⟩ := h
          refine wl_v 4 rfl (v_cutS (w64 (x2 + 1)) x28 un_9 rfl (.inr ⟨_, _, rfl, rfl⟩) (.inr ⟨_, _, rfl, rfl⟩) ⟨hb60.1, hb60.2.1⟩ hb60.2.2) gn rfl ?_
          obtain ⟨hb61, h⟩ := h
          refine wl_s 5 rfl (s_s2b un_9 slE_44 un_5 rfl hb61 rfl fun A62 c63 h64 => ?_) gn
          refine wl_v 6 rfl (v_move rfl) gn rfl ?_
          refine wl_v 7 rfl (v_bin rfl rfl rfl) gn rfl ?_
          refine wl_v 8 rfl (v_assign rfl) gn rfl ?_
          refine wl_v 9 rfl (v_assign rfl) gn rfl ?_
          refine wl_v 10 rfl (v_assign rfl) gn rfl ?_
          refine w_end 11 rfl ?_
          have h := Out.inr hO1 h
          refine g_retR (c := words_slashed_c22) [.slice A62 ((x1.extract (w64 (x2 + 1) : Int).toNat (x28 : Int).toNat).size) c63, .int .i64 0, .int .i64 (w64 (x28 + 1))] rfl Tryd.func31 rfl (.tmp rfl (.tmp rfl (.tmp rfl (.nil)))) fun wr hLr => ?_
          have hMr : B.Loc w wr [.own (.slice A62 ((x1.extract (w64 (x2 + 1) : Int).toNat (x28 : Int).toNat).size) c63) 5 1 ((x1.extract (w64 (x2 + 1) : Int).toNat (x28 : Int).toNat).size) ((bsOf (x1.extract (w64 (x2 + 1) : Int).toNat (x28 : Int).toNat)).flatMap (eI .u8))] [St w []] := hLr.pick (rest := []) (perm_of_idx [0] [] rfl rfl (by kernel_rfl)) (sels [1] rfl)
          have hMi : ∀ e ∈ ([.own (.slice A62 ((x1.extract (w64 (x2 + 1) : Int).toNat (x28 : Int).toNat).size) c63) 5 1 ((x1.extract (w64 (x2 + 1) : Int).toNat (x28 : Int).toNat).size) ((bsOf (x1.extract (w64 (x2 + 1) : Int).toNat (x28 : Int).toNat)).flatMap (eI .u8))] : List Ent), e ∈ ([.own (.slice A62 ((x1.extract (w64 (x2 + 1) : Int).toNat (x28 : Int).toNat).size) c63) 5 1 ((x1.extract (w64 (x2 + 1) : Int).toNat (x28 : Int).toNat).size) ((bsOf (x1.extract (w64 (x2 + 1) : Int).toNat (x28 : Int).toNat)).flatMap (eI .u8))] : List Ent) := sels [0] rfl
          show words_slashed_R w F  r (.returned (packV [.slice A62 ((x1.extract (w64 (x2 + 1) : Int).toNat (x28 : Int).toNat).size) c63, .int .i64 0, .int .i64 (w64 (x28 + 1))])) wr
          rw [h]
          exact ⟨A62, (x1.extract (w64 (x2 + 1) : Int).toNat (x28 : Int).toNat).size, c63, rfl, hMr, h64⟩
        · have h := if_neg' hp59 h
          refine g_false (c := words_slashed_c18) rfl _ rfl ((nei hp59)) ?_
          refine g_seq (c := words_slashed_c20) rfl ?_
          have j3 : ∀ (x70 : Bool) (h : words_slashed_j3 x28 x70 o1) , G (words_slashed_C w F r) [.code words_slashed_c24, .inBlock 0, .code words_slashed_c9, .inScope words_slashed_c3] [(0, .string x1), (1, .int .i64 x2), (7, .int .i64 x28), (35, .bool x70)] [] [Sm w.heap.size F w [], St w []] := by
            intro x70 h
            unfold words_slashed_j3 at h
            by_cases hp71 : x70 = true
            · have h := if_pos' hp71 h
              refine g_true (c := words_slashed_c24) rfl _ rfl (hp71) ?_
              refine g_region (c := words_slashed_c25) rfl rfl ?_
              refine wl_v 0 rfl (v_move rfl) gn rfl ?_
              refine wl_v 1 rfl (v_bin rfl rfl rfl) gn rfl ?_
              refine wl_v 2 rfl (v_assign rfl) gn rfl ?_
              refine w_end 3 rfl ?_
              refine g_inBlock ?_
              refine g_seq (c := words_slashed_c9) rfl ?_
              refine g_region (c := words_slashed_c27) rfl rfl ?_
              refine wl_v 0 rfl (v_move rfl) gn rfl ?_
              refine wl_v 1 rfl (v_bin rfl rfl rfl) gn rfl ?_
              refine wl_v 2 rfl (v_assign rfl) gn rfl ?_
              refine w_end 3 rfl ?_
              refine g_goto (c := words_slashed_c28) [.code (.seq .skip words_slashed_c7), .inScope words_slashed_c3] rfl rfl ?_
              refine g_seq rfl ?_
              refine g_skip rfl ?_
              have ih := Out.inl hO1 h
              exact g_go [0, 1] (ih ()) ⟨rfl, rfl, rfl, trivial⟩ (.slnil) rfl
            · have h := if_neg' hp71 h
              refine g_false (c := words_slashed_c24) rfl _ rfl ((bf hp71)) ?_
              refine g_skip (c := words_slashed_c26) rfl ?_
              refine g_inBlock ?_
              refine g_seq (c := words_slashed_c9) rfl ?_
              refine g_region (c := words_slashed_c27) rfl rfl ?_
              refine wl_v 0 rfl (v_move rfl) gn rfl ?_
              refine wl_v 1 rfl (v_bin rfl rfl rfl) gn rfl ?_
              refine wl_v 2 rfl (v_assign rfl) gn rfl ?_
              refine w_end 3 rfl ?_
              refine g_goto (c := words_slashed_c28) [.code (.seq .skip words_slashed_c7), .inScope words_slashed_c3] rfl rfl ?_
              refine g_seq rfl ?_
              refine g_skip rfl ?_
              have ih := Out.inl hO1 h
              exact g_go [0, 1] (ih ()) ⟨rfl, rfl, rfl, trivial⟩ (.slnil) rfl
          refine g_region (c := words_slashed_c23) rfl rfl ?_
          refine wl_v 0 rfl (v_move rfl) gn rfl ?_
          refine wl_v 1 rfl (v_move rfl) gn rfl ?_
          refine wl_v 2 rfl (v_indexS un_9 rfl rfl hb58) gn rfl ?_
          refine wl_v 3 rfl (v_bin rfl rfl rfl) gn rfl ?_
          refine wl_v 4 rfl (v_move rfl) gn rfl ?_
          by_cases hp72 : bt x1 x28 = 92
          · have h := if_pos' hp72 h
            refine w_bool 40 rfl ((eqi hp72)) ?_
            refine wl_v 5 rfl (v_move rfl) (gy 40 rfl rfl) rfl ?_
            refine wl_v 6 rfl (v_bin rfl rfl rfl) (gy 40 rfl rfl) rfl ?_
            refine wl_v 7 rfl (v_move rfl) (gy 40 rfl rfl) rfl ?_
            refine wl_v 8 rfl (v_lenS un_9 rfl) (gy 40 rfl rfl) rfl ?_
            refine wl_v 9 rfl (v_bin rfl rfl rfl) (gy 40 rfl rfl) rfl ?_
            refine wl_v 10 rfl (v_pick (b := true) rfl rfl) gn rfl ?_
            refine wl_v 11 rfl (v_move rfl) gn rfl ?_
            by_cases hp73 : w64 (x28 + 1) < (x1.size : Int)
            · have h := if_pos' hp73 h
              refine w_bool 47 rfl ((decide_eq_true hp73)) ?_
              refine wl_v 12 rfl (v_move rfl) (gy 47 rfl rfl) rfl ?_
              refine wl_v 13 rfl (v_move rfl) (gy 47 rfl rfl) rfl ?_
              refine wl_v 14 rfl (v_bin rfl rfl rfl) (gy 47 rfl rfl) rfl ?_
              obtain ⟨hb74, h⟩ := h
              refine wl_v 15 rfl (v_indexS un_9 rfl rfl hb74) (gy 47 rfl rfl) rfl ?_
              refine wl_v 16 rfl (v_bin rfl rfl rfl) (gy 47 rfl rfl) rfl ?_
              refine wl_v 17 rfl (v_pick (b := true) rfl rfl) gn rfl ?_
              refine wl_v 18 rfl (v_assign rfl) gn rfl ?_
              refine w_end 19 rfl ?_
              exact g_go [0, 1] (j3 ((bt x1 (w64 (x28 + 1))) != 10) h) ⟨rfl, rfl, rfl, rfl, trivial⟩ (.slnil) rfl
            · have h := if_neg' hp73 h
              refine w_bool 47 rfl ((decide_eq_false hp73)) ?_
              refine wl_pass 12 rfl (ps 47 rfl rfl rfl) ?_
              refine wl_pass 13 rfl (ps 47 rfl rfl rfl) ?_
              refine wl_pass 14 rfl (ps 47 rfl rfl rfl) ?_
              refine wl_pass 15 rfl (ps 47 rfl rfl rfl) ?_
              refine wl_pass 16 rfl (ps 47 rfl rfl rfl) ?_
              refine wl_v 17 rfl (v_pick (b := false) rfl rfl) gn rfl ?_
              refine wl_v 18 rfl (v_assign rfl) gn rfl ?_
              refine w_end 19 rfl ?_
              exact g_go [0, 1] (j3 false h) ⟨rfl, rfl, rfl, rfl, trivial⟩ (.slnil) rfl
          · have h := if_neg' hp72 h
            refine w_bool 40 rfl ((nei hp72)) ?_
            refine wl_pass 5 rfl (ps 40 rfl rfl rfl) ?_
            refine wl_pass 6 rfl (ps 40 rfl rfl rfl) ?_
            refine wl_pass 7 rfl (ps 40 rfl rfl rfl) ?_
            refine wl_pass 8 rfl (ps 40 rfl rfl rfl) ?_
            refine wl_pass 9 rfl (ps 40 rfl rfl rfl) ?_
            refine wl_v 10 rfl (v_pick (b := false) rfl rfl) gn rfl ?_
            refine wl_v 11 rfl (v_move rfl) gn rfl ?_
            refine wl_pass 12 rfl (ps 47 rfl rfl rfl) ?_
            refine wl_pass 13 rfl (ps 47 rfl rfl rfl) ?_
            refine wl_pass 14 rfl (ps 47 rfl rfl rfl) ?_
            refine wl_pass 15 rfl (ps 47 rfl rfl rfl) ?_
            refine wl_pass 16 rfl (ps 47 rfl rfl rfl) ?_
            refine wl_v 17 rfl (v_pick (b := false) rfl rfl) gn rfl ?_
            refine wl_v 18 rfl (v_assign rfl) gn rfl ?_
            refine w_end 19 rfl ?_
            exact g_go [0, 1] (j3 false h) ⟨rfl, rfl, rfl, rfl, trivial⟩ (.slnil) rfl
    refine g_region (c := words_slashed_c11) rfl rfl ?_
    refine wl_v 0 rfl (v_move rfl) gn rfl ?_
    refine wl_v 1 rfl (v_move rfl) gn rfl ?_
    refine wl_v 2 rfl (v_lenS un_9 rfl) gn rfl ?_
    refine wl_v 3 rfl (v_bin rfl rfl rfl) gn rfl ?_
    refine wl_v 4 rfl (v_move rfl) gn rfl ?_
    by_cases hp75 : x28 = (x1.size : Int)
    · have h := if_pos' hp75 h
      refine w_bool 15 rfl ((eqi hp75)) ?_
      refine wl_pass 5 rfl (ps 15 rfl rfl rfl) ?_
      refine wl_pass 6 rfl (ps 15 rfl rfl rfl) ?_
      refine wl_pass 7 rfl (ps 15 rfl rfl rfl) ?_
      refine wl_pass 8 rfl (ps 15 rfl rfl rfl) ?_
      refine wl_v 9 rfl (v_pick (b := true) rfl rfl) gn rfl ?_
      refine wl_v 10 rfl (v_assign rfl) gn rfl ?_
      refine w_end 11 rfl ?_
      exact g_go [0, 1] (j2 true h) ⟨rfl, rfl, rfl, rfl, trivial⟩ (.slnil) rfl
    · have h := if_neg' hp75 h
      refine w_bool 15 rfl ((nei hp75)) ?_
      refine wl_v 5 rfl (v_move rfl) (gy 15 rfl rfl) rfl ?_
      refine wl_v 6 rfl (v_move rfl) (gy 15 rfl rfl) rfl ?_
      obtain ⟨hb76, h⟩ := h
      refine wl_v 7 rfl (v_indexS un_9 rfl rfl hb76) (gy 15 rfl rfl) rfl ?_
      refine wl_v 8 rfl (v_bin rfl rfl rfl) (gy 15 rfl rfl) rfl ?_
      refine wl_v 9 rfl (v_pick (b := false) rfl rfl) gn rfl ?_
      refine wl_v 10 rfl (v_assign rfl) gn rfl ?_
      refine w_end 11 rfl ?_
      exact g_go [0, 1] (j2 ((bt x1 x28) == 10) h) ⟨rfl, rfl, rfl, rfl, trivial⟩ (.slnil) rfl
  exact g_go [0, 1] (key1 _ h ()) ⟨rfl, rfl, rfl, trivial⟩ (.slnil) rfl
noncomputable abbrev words_Cut_c0 : Code := bodyOf Tryd.f16
noncomputable abbrev words_Cut_c1 : Code := Code.fst words_Cut_c0
noncomputable abbrev words_Cut_c2 : Code := Code.snd words_Cut_c0
noncomputable abbrev words_Cut_c3 : Code := Code.fst words_Cut_c2
noncomputable abbrev words_Cut_c4 : Code := Code.fst words_Cut_c3
noncomputable abbrev words_Cut_c5 : Code := Code.snd words_Cut_c3
noncomputable abbrev words_Cut_c6 : Code := Code.fst words_Cut_c4
noncomputable abbrev words_Cut_c7 : Code := Code.snd words_Cut_c4
noncomputable abbrev words_Cut_c8 : Code := Code.fst words_Cut_c7
noncomputable abbrev words_Cut_c9 : Code := Code.snd words_Cut_c7
noncomputable abbrev words_Cut_c10 : Code := Code.fst words_Cut_c8
noncomputable abbrev words_Cut_c11 : Code := Code.snd words_Cut_c8
noncomputable abbrev words_Cut_c12 : Code := Code.fst words_Cut_c5
noncomputable abbrev words_Cut_c13 : Code := Code.snd words_Cut_c5
noncomputable abbrev words_Cut_c14 : Code := Code.fst words_Cut_c13
noncomputable abbrev words_Cut_c15 : Code := Code.snd words_Cut_c13
noncomputable abbrev words_Cut_c16 : Code := Code.fst words_Cut_c15
noncomputable abbrev words_Cut_c17 : Code := Code.snd words_Cut_c15
noncomputable abbrev words_Cut_c18 : Code := Code.fst words_Cut_c17
noncomputable abbrev words_Cut_c19 : Code := Code.snd words_Cut_c17
noncomputable abbrev words_Cut_c20 : Code := Code.fst words_Cut_c19
noncomputable abbrev words_Cut_c21 : Code := Code.snd words_Cut_c19
noncomputable abbrev words_Cut_c22 : Code := Code.fst words_Cut_c21
noncomputable abbrev words_Cut_c23 : Code := Code.snd words_Cut_c21
noncomputable abbrev words_Cut_c24 : Code := Code.fst words_Cut_c22
noncomputable abbrev words_Cut_c25 : Code := Code.snd words_Cut_c22
noncomputable abbrev words_Cut_c26 : Code := Code.fst words_Cut_c25
noncomputable abbrev words_Cut_c27 : Code := Code.snd words_Cut_c25
noncomputable abbrev words_Cut_c28 : Code := Code.fst words_Cut_c26
noncomputable abbrev words_Cut_c29 : Code := Code.snd words_Cut_c26
noncomputable abbrev words_Cut_c30 : Code := Code.fst words_Cut_c23
noncomputable abbrev words_Cut_c31 : Code := Code.snd words_Cut_c23
noncomputable abbrev words_Cut_c32 : Code := Code.fst words_Cut_c31
noncomputable abbrev words_Cut_c33 : Code := Code.snd words_Cut_c31
noncomputable abbrev words_Cut_c34 : Code := Code.fst words_Cut_c32
noncomputable abbrev words_Cut_c35 : Code := Code.snd words_Cut_c32
noncomputable abbrev words_Cut_c36 : Code := Code.fst words_Cut_c35
noncomputable abbrev words_Cut_c37 : Code := Code.fst words_Cut_c36
noncomputable abbrev words_Cut_c38 : Code := Code.snd words_Cut_c36
noncomputable abbrev words_Cut_c39 : Code := Code.fst words_Cut_c38
noncomputable abbrev words_Cut_c40 : Code := Code.snd words_Cut_c38
noncomputable abbrev words_Cut_c41 : Code := Code.fst words_Cut_c39
noncomputable abbrev words_Cut_c42 : Code := Code.snd words_Cut_c39
noncomputable abbrev words_Cut_c43 : Code := Code.fst words_Cut_c40
noncomputable abbrev words_Cut_c44 : Code := Code.snd words_Cut_c40
noncomputable abbrev words_Cut_c45 : Code := Code.fst words_Cut_c44
noncomputable abbrev words_Cut_c46 : Code := Code.snd words_Cut_c44
noncomputable abbrev words_Cut_c48 : Code := Code.snd words_Cut_c33
noncomputable abbrev words_Cut_c47 : Code := Code.snd words_Cut_c48
noncomputable abbrev words_Cut_c49 : Code := Code.fst words_Cut_c47
noncomputable abbrev words_Cut_c50 : Code := Code.snd words_Cut_c47
noncomputable abbrev words_Cut_c51 : Code := Code.fst words_Cut_c49
noncomputable abbrev words_Cut_c52 : Code := Code.snd words_Cut_c49
noncomputable abbrev words_Cut_c53 : Code := Code.fst words_Cut_c52
noncomputable abbrev words_Cut_c54 : Code := Code.snd words_Cut_c52
noncomputable abbrev words_Cut_c55 : Code := Code.fst words_Cut_c53
noncomputable abbrev words_Cut_c56 : Code := Code.snd words_Cut_c53
noncomputable abbrev words_Cut_c57 : Code := Code.fst words_Cut_c50
noncomputable abbrev words_Cut_c58 : Code := Code.snd words_Cut_c50
noncomputable abbrev words_Cut_c59 : Code := Code.fst words_Cut_c46
noncomputable abbrev words_Cut_c60 : Code := Code.snd words_Cut_c46
noncomputable abbrev words_Cut_c61 : Code := Code.fst words_Cut_c60
noncomputable abbrev words_Cut_c62 : Code := Code.snd words_Cut_c60
noncomputable abbrev words_Cut_c63 : Code := Code.snd words_Cut_c58
noncomputable abbrev words_Cut_c64 : Code := Code.fst words_Cut_c63
noncomputable abbrev words_Cut_c65 : Code := Code.snd words_Cut_c63
noncomputable abbrev words_Cut_c66 : Code := Code.fst words_Cut_c64
noncomputable abbrev words_Cut_c67 : Code := Code.snd words_Cut_c64
noncomputable abbrev words_Cut_c68 : Code := Code.fst words_Cut_c67
noncomputable abbrev words_Cut_c69 : Code := Code.snd words_Cut_c67
noncomputable abbrev words_Cut_c70 : Code := Code.fst words_Cut_c68
noncomputable abbrev words_Cut_c71 : Code := Code.snd words_Cut_c68
noncomputable abbrev words_Cut_c72 : Code := Code.fst words_Cut_c65
noncomputable abbrev words_Cut_c73 : Code := Code.snd words_Cut_c65
noncomputable abbrev words_Cut_c74 : Code := Code.fst words_Cut_c72
noncomputable abbrev words_Cut_c75 : Code := Code.snd words_Cut_c72
noncomputable abbrev words_Cut_c76 : Code := Code.fst words_Cut_c75
noncomputable abbrev words_Cut_c77 : Code := Code.snd words_Cut_c75
noncomputable abbrev words_Cut_c78 : Code := Code.fst words_Cut_c76
noncomputable abbrev words_Cut_c79 : Code := Code.snd words_Cut_c76
noncomputable abbrev words_Cut_c80 : Code := Code.fst words_Cut_c73
noncomputable abbrev words_Cut_c81 : Code := Code.snd words_Cut_c73
noncomputable abbrev words_Cut_c82 : Code := Code.fst words_Cut_c81
noncomputable abbrev words_Cut_c83 : Code := Code.snd words_Cut_c81
noncomputable abbrev words_Cut_c84 : Code := Code.fst words_Cut_c62
noncomputable abbrev words_Cut_c85 : Code := Code.snd words_Cut_c62
noncomputable abbrev words_Cut_c86 : Code := Code.fst words_Cut_c85
noncomputable abbrev words_Cut_c87 : Code := Code.snd words_Cut_c85
noncomputable abbrev words_Cut_c88 : Code := Code.fst words_Cut_c86
noncomputable abbrev words_Cut_c89 : Code := Code.snd words_Cut_c86
noncomputable abbrev words_Cut_c90 : Code := Code.snd words_Cut_c83
noncomputable abbrev words_Cut_c91 : Code := Code.fst words_Cut_c90
noncomputable abbrev words_Cut_c92 : Code := Code.snd words_Cut_c90
noncomputable abbrev words_Cut_c93 : Code := Code.fst words_Cut_c91
noncomputable abbrev words_Cut_c94 : Code := Code.snd words_Cut_c91
noncomputable abbrev words_Cut_c95 : Code := Code.fst words_Cut_c94
noncomputable abbrev words_Cut_c96 : Code := Code.snd words_Cut_c94
noncomputable abbrev words_Cut_c97 : Code := Code.fst words_Cut_c95
noncomputable abbrev words_Cut_c98 : Code := Code.snd words_Cut_c95
noncomputable abbrev words_Cut_c99 : Code := Code.fst words_Cut_c98
noncomputable abbrev words_Cut_c100 : Code := Code.snd words_Cut_c98
noncomputable abbrev words_Cut_c101 : Code := Code.fst words_Cut_c92
noncomputable abbrev words_Cut_c102 : Code := Code.snd words_Cut_c92
noncomputable abbrev words_Cut_c103 : Code := Code.fst words_Cut_c101
noncomputable abbrev words_Cut_c104 : Code := Code.snd words_Cut_c101
noncomputable abbrev words_Cut_c105 : Code := Code.fst words_Cut_c104
noncomputable abbrev words_Cut_c106 : Code := Code.snd words_Cut_c104
noncomputable abbrev words_Cut_c107 : Code := Code.fst words_Cut_c102
noncomputable abbrev words_Cut_c108 : Code := Code.snd words_Cut_c102
noncomputable abbrev words_Cut_c109 : Code := Code.fst words_Cut_c108
noncomputable abbrev words_Cut_c110 : Code := Code.snd words_Cut_c108
noncomputable abbrev words_Cut_c111 : Code := Code.fst words_Cut_c105
noncomputable abbrev words_Cut_c112 : Code := Code.snd words_Cut_c105
noncomputable abbrev words_Cut_c113 : Code := Code.fst words_Cut_c87
noncomputable abbrev words_Cut_c114 : Code := Code.snd words_Cut_c87
noncomputable abbrev words_Cut_c115 : Code := Code.fst words_Cut_c114
noncomputable abbrev words_Cut_c116 : Code := Code.snd words_Cut_c114
noncomputable abbrev words_Cut_c117 : Code := Code.snd words_Cut_c110
noncomputable abbrev words_Cut_c118 : Code := Code.fst words_Cut_c117
noncomputable abbrev words_Cut_c119 : Code := Code.snd words_Cut_c117
noncomputable abbrev words_Cut_c120 : Code := Code.fst words_Cut_c118
noncomputable abbrev words_Cut_c121 : Code := Code.snd words_Cut_c118
noncomputable abbrev words_Cut_c122 : Code := Code.fst words_Cut_c121
noncomputable abbrev words_Cut_c123 : Code := Code.snd words_Cut_c121
noncomputable abbrev words_Cut_c124 : Code := Code.fst words_Cut_c123
noncomputable abbrev words_Cut_c125 : Code := Code.snd words_Cut_c123
noncomputable abbrev words_Cut_c126 : Code := Code.fst words_Cut_c119
noncomputable abbrev words_Cut_c127 : Code := Code.snd words_Cut_c119
noncomputable abbrev words_Cut_c128 : Code := Code.fst words_Cut_c127
noncomputable abbrev words_Cut_c129 : Code := Code.snd words_Cut_c127
noncomputable abbrev words_Cut_c130 : Code := Code.fst words_Cut_c124
noncomputable abbrev words_Cut_c131 : Code := Code.snd words_Cut_c124
noncomputable abbrev words_Cut_c132 : Code := Code.fst words_Cut_c116
noncomputable abbrev words_Cut_c133 : Code := Code.snd words_Cut_c116
noncomputable abbrev words_Cut_c134 : Code := Code.fst words_Cut_c133
noncomputable abbrev words_Cut_c135 : Code := Code.snd words_Cut_c133
noncomputable abbrev words_Cut_c136 : Code := Code.snd words_Cut_c129
noncomputable abbrev words_Cut_c137 : Code := Code.fst words_Cut_c136
noncomputable abbrev words_Cut_c138 : Code := Code.snd words_Cut_c136
noncomputable abbrev words_Cut_c139 : Code := Code.fst words_Cut_c137
noncomputable abbrev words_Cut_c140 : Code := Code.snd words_Cut_c137
noncomputable abbrev words_Cut_c141 : Code := Code.fst words_Cut_c140
noncomputable abbrev words_Cut_c142 : Code := Code.snd words_Cut_c140
noncomputable abbrev words_Cut_c143 : Code := Code.fst words_Cut_c142
noncomputable abbrev words_Cut_c144 : Code := Code.snd words_Cut_c142
noncomputable abbrev words_Cut_c145 : Code := Code.fst words_Cut_c138
noncomputable abbrev words_Cut_c146 : Code := Code.snd words_Cut_c138
noncomputable abbrev words_Cut_c147 : Code := Code.fst words_Cut_c143
noncomputable abbrev words_Cut_c148 : Code := Code.snd words_Cut_c143
noncomputable abbrev words_Cut_c149 : Code := Code.fst words_Cut_c135
noncomputable abbrev words_Cut_c150 : Code := Code.snd words_Cut_c135
noncomputable abbrev words_Cut_c151 : Code := Code.fst words_Cut_c150
noncomputable abbrev words_Cut_c152 : Code := Code.snd words_Cut_c150
noncomputable abbrev words_Cut_c153 : Code := Code.fst words_Cut_c151
noncomputable abbrev words_Cut_c154 : Code := Code.snd words_Cut_c151
noncomputable abbrev words_Cut_c155 : Code := Code.fst words_Cut_c154
noncomputable abbrev words_Cut_c156 : Code := Code.snd words_Cut_c154
noncomputable abbrev words_Cut_c157 : Code := Code.fst words_Cut_c33
noncomputable abbrev words_Cut_c158 : Code := Code.fst words_Cut_c157
noncomputable abbrev words_Cut_c159 : Code := Code.snd words_Cut_c157
abbrev words_Cut_R (w : World) (F : Nat → Prop) (r : (List api_Word) × Int × Int) : Ending → World → Prop := fun e w' => ∃ A0 : Option Addr, ∃ n0 : Nat, ∃ c0 : Nat, e = .returned (.tuple #[.slice A0 n0 c0, .int .i64 r.2.1, .int .i64 r.2.2]) ∧ B.Loc w w' [.own (.slice A0 n0 c0) 27 4 n0 (r.1.flatMap enc_api_Word)] [St w []] ∧ Ow w.heap.size A0 n0 c0 r.1
noncomputable abbrev words_Cut_C (w : World) (F : Nat → Prop) (r : (List api_Word) × Int × Int) : Cx := ⟨Tryd.prog, 16, Tryd.f16, 170, words_Cut_R w F  r, w⟩
theorem words_Cut_calls (w : World) (F : Nat → Prop) (x1 : ByteArray) (hF : ∀ b, F b → b < w.heap.size ∧ ∀ o ∈ ([] : List (List Nat)), b ∉ o) (hL0 : B.Loc w w [] [Sm w.heap.size F w [], St w []]) (r : (List api_Word) × Int × Int) (h : words_Cut x1 r) : Calls Tryd.prog 16 #[.string x1] w (words_Cut_R w F  r) := by
  unfold words_Cut at h
  refine calls_of_Loc (vs := [.string x1]) 170 Tryd.func16 rfl Tryd.ntmps16 rfl hL0 ?_
  show G (words_Cut_C w F r) _ _ _ _
  refine g_seq (c := words_Cut_c0) rfl ?_
  refine g_region (c := words_Cut_c1) rfl rfl ?_
  refine wl_v 0 rfl (v_assign rfl) gn rfl ?_
  refine wl_v 1 rfl (v_assign rfl) gn rfl ?_
  refine wl_v 2 rfl (v_assign rfl) gn rfl ?_
  refine w_end 3 rfl ?_
  refine g_scope (c := words_Cut_c2) rfl ?_
  refine g_seq (c := words_Cut_c3) rfl ?_
  refine g_seq (c := words_Cut_c4) rfl ?_
  refine g_region (c := words_Cut_c6) rfl rfl ?_
  refine wl_v 0 rfl (v_move rfl) gn rfl ?_
  refine wl_v 1 rfl (v_lenS un_9 rfl) gn rfl ?_
  refine wl_v 2 rfl (v_bin rfl rfl rfl) gn rfl ?_
  refine w_end 3 rfl ?_
  by_cases hp2 : (x1.size : Int) > 16384
  · have h := if_pos' hp2 h
    refine g_true (c := words_Cut_c7) rfl _ rfl ((decide_eq_true hp2)) ?_
    refine g_seq (c := words_Cut_c8) rfl ?_
    refine g_region (c := words_Cut_c10) rfl rfl ?_
    refine wl_v 0 rfl (v_assign rfl) gn rfl ?_
    refine wl_v 1 rfl (v_assign rfl) gn rfl ?_
    refine wl_v 2 rfl (v_assign rfl) gn rfl ?_
    refine w_end 3 rfl ?_
    refine g_nil 27 4 ?_
    refine g_retR (c := words_Cut_c11) [.slice none 0 0, .int .i64 80, .int .i64 16384] rfl Tryd.func16 rfl (.tmp rfl (.tmp rfl (.tmp rfl (.nil)))) fun wr hLr => ?_
    have hMr : B.Loc w wr [.own (.slice none 0 0) 27 4 0 (([] : List api_Word).flatMap enc_api_Word)] [St w []] := hLr.pick (rest := []) (perm_of_idx [0] [] rfl rfl (by kernel_rfl)) (sels [1] rfl)
    have hMi : ∀ e ∈ ([.own (.slice none 0 0) 27 4 0 (([] : List api_Word).flatMap enc_api_Word)] : List Ent), e ∈ ([.own (.slice none 0 0) 27 4 0 (([] : List api_Word).flatMap enc_api_Word)] : List Ent) := sels [0] rfl
    show words_Cut_R w F  r (.returned (packV [.slice none 0 0, .int .i64 80, .int .i64 16384])) wr
    rw [h]
    exact ⟨none, 0, 0, rfl, hMr, (Ow.nil (z := w.heap.size))⟩
  · have h := if_neg' hp2 h
    refine g_false (c := words_Cut_c7) rfl _ rfl ((decide_eq_false hp2)) ?_
    refine g_skip (c := words_Cut_c9) rfl ?_
    refine g_seq (c := words_Cut_c5) rfl ?_
    refine g_region (c := words_Cut_c12) rfl rfl ?_
    refine wl_v 0 rfl (v_assign rfl) gn rfl ?_
    refine w_end 1 rfl ?_
    refine g_seq (c := words_Cut_c13) rfl ?_
    refine g_region (c := words_Cut_c14) rfl rfl ?_
    refine wl_v 0 rfl (v_assign rfl) gn rfl ?_
    refine w_end 1 rfl ?_
    refine g_seq (c := words_Cut_c15) rfl ?_
    refine g_region (c := words_Cut_c16) rfl rfl ?_
    refine wl_v 0 rfl (v_assign rfl) gn rfl ?_
    refine w_end 1 rfl ?_
    refine g_seq (c := words_Cut_c17) rfl ?_
    refine g_region (c := words_Cut_c18) rfl rfl ?_
    refine wl_v 0 rfl (v_assign rfl) gn rfl ?_
    refine wl_v 1 rfl (v_assign rfl) gn rfl ?_
    refine wl_v 2 rfl (v_assign rfl) gn rfl ?_
    refine w_end 3 rfl ?_
    refine g_seq (c := words_Cut_c19) rfl ?_
    refine g_label (c := words_Cut_c20) rfl ?_
    have key1 : ∀ s, Rounds (fun (s : (List api_Word) × Int) o => words_Cut_b1 x1 s.1 s.2 o) s r → (fun (s : (List api_Word) × Int) => ∀ (A439 : Option Addr) (n440 : Nat) (c441 : Nat) (h442 : Ow w.heap.size A439 n440 c441 s.1), G (words_Cut_C w F r) [.code words_Cut_c21, .inScope words_Cut_c3] [(0, .string x1), (5, .slice A439 n440 c441), (8, .int .i64 s.2)] [.own (.slice A439 n440 c441) 27 4 n440 (s.1.flatMap enc_api_Word)] [Sm w.heap.size F w [], St w []]) s := by
      intro s hs
      refine Rounds.ind (mot := (fun (s : (List api_Word) × Int) => ∀ (A439 : Option Addr) (n440 : Nat) (c441 : Nat) (h442 : Ow w.heap.size A439 n440 c441 s.1), G (words_Cut_C w F r) [.code words_Cut_c21, .inScope words_Cut_c3] [(0, .string x1), (5, .slice A439 n440 c441), (8, .int .i64 s.2)] [.own (.slice A439 n440 c441) 27 4 n440 (s.1.flatMap enc_api_Word)] [Sm w.heap.size F w [], St w []])) ?_ hs
      clear hs s
      intro s o1 h hO1
      obtain ⟨x438, x443⟩ := s
      show ∀ (A439 : Option Addr) (n440 : Nat) (c441 : Nat) (h442 : Ow w.heap.size A439 n440 c441 x438), G (words_Cut_C w F r) [.code words_Cut_c21, .inScope words_Cut_c3] [(0, .string x1), (5, .slice A439 n440 c441), (8, .int .i64 x443)] [.own (.slice A439 n440 c441) 27 4 n440 (x438.flatMap enc_api_Word)] [Sm w.heap.size F w [], St w []]
      intro A439 n440 c441 h442
      have h : words_Cut_b1 x1 x438 x443 o1 := h
      unfold words_Cut_b1 at h
      refine g_seq (c := words_Cut_c21) rfl ?_
      refine g_seq (c := words_Cut_c22) rfl ?_
      refine g_region (c := words_Cut_c24) rfl rfl ?_
      refine wl_v 0 rfl (v_move rfl) gn rfl ?_
      refine wl_v 1 rfl (v_move rfl) gn rfl ?_
      refine wl_v 2 rfl (v_lenS un_9 rfl) gn rfl ?_
      refine wl_v 3 rfl (v_bin rfl rfl rfl) gn rfl ?_
      refine w_end 4 rfl ?_
      by_cases hp867 : x443 = (x1.size : Int)
      · have h := if_pos' hp867 h
        refine g_true (c := words_Cut_c25) rfl _ rfl ((eqi hp867)) ?_
        refine g_seq (c := words_Cut_c26) rfl ?_
        refine g_region (c := words_Cut_c28) rfl rfl ?_
        refine wl_v 0 rfl (v_move rfl) gn rfl ?_
        refine wl_v 1 rfl (v_assign rfl) gn rfl ?_
        refine wl_v 2 rfl (v_assign rfl) gn rfl ?_
        refine wl_v 3 rfl (v_assign rfl) gn rfl ?_
        refine w_end 4 rfl ?_
        have h := Out.inr hO1 h
        refine g_retR (c := words_Cut_c29) [.slice A439 n440 c441, .int .i64 0, .int .i64 0] rfl Tryd.func16 rfl (.tmp rfl (.tmp rfl (.tmp rfl (.nil)))) fun wr hLr => ?_
        have hMr : B.Loc w wr [.own (.slice A439 n440 c441) 27 4 n440 (x438.flatMap enc_api_Word)] [St w []] := hLr.pick (rest := []) (perm_of_idx [0] [] rfl rfl (by kernel_rfl)) (sels [1] rfl)
        have hMi : ∀ e ∈ ([.own (.slice A439 n440 c441) 27 4 n440 (x438.flatMap enc_api_Word)] : List Ent), e ∈ ([.own (.slice A439 n440 c441) 27 4 n440 (x438.flatMap enc_api_Word)] : List Ent) := sels [0] rfl
        show words_Cut_R w F  r (.returned (packV [.slice A439 n440 c441, .int .i64 0, .int .i64 0])) wr
        rw [h]
        exact ⟨A439, n440, c441, rfl, hMr, h442⟩
      · have h := if_neg' hp867 h
        refine g_false (c := words_Cut_c25) rfl _ rfl ((nei hp867)) ?_
        refine g_skip (c := words_Cut_c27) rfl ?_
        refine g_seq (c := words_Cut_c23) rfl ?_
        refine g_region (c := words_Cut_c30) rfl rfl ?_
        refine wl_v 0 rfl (v_move rfl) gn rfl ?_
        refine wl_v 1 rfl (v_assign rfl) gn rfl ?_
        refine w_end 2 rfl ?_
        refine g_seq (c := words_Cut_c31) rfl ?_
        refine g_seq (c := words_Cut_c32) rfl ?_
        refine g_region (c := words_Cut_c34) rfl rfl ?_
        refine wl_v 0 rfl (v_move rfl) gn rfl ?_
        refine wl_v 1 rfl (v_move rfl) gn rfl ?_
        obtain ⟨hb868, h⟩ := h
        refine wl_v 2 rfl (v_indexS un_9 rfl rfl hb868) gn rfl ?_
        refine wl_v 3 rfl (v_assign rfl) gn rfl ?_
        refine w_end 4 rfl ?_
        refine g_block (c := words_Cut_c35) rfl ?_
        refine g_seq (c := words_Cut_c36) rfl ?_
        refine g_region (c := words_Cut_c37) rfl rfl ?_
        refine wl_v 0 rfl (v_move rfl) gn rfl ?_
        obtain ⟨r872, hv873, h⟩ := h
        refine wl_s 1 rfl (s_call [.int .u8 (bt x1 x443)] rfl Tryd.func26 rfl rfl rfl fun w869 hL870 => ?_) gn
        have hp871 : List.Perm ([.own (.slice A439 n440 c441) 27 4 n440 (x438.flatMap enc_api_Word)] : List Ent) (([] : List Ent) ++ ([.own (.slice A439 n440 c441) 27 4 n440 (x438.flatMap enc_api_Word)] : List Ent)) := perm_of_idx [] [0] rfl rfl (by kernel_rfl)
        refine Calls.mono (words_blank_calls w869 (Fl ([] : List Snap)) (bt x1 x443) (hL870.hFl (Sl := ([] : List Snap)) hp871 (sels [] rfl)) (hL870.into hp871 (Fl ([] : List Snap))) r872 hv873) ?_
        rintro _ w874 ⟨rfl, hM875⟩
        have hL876 := hL870.call hp871 hM875
        refine ⟨_, _, _, rfl, hL876, ?_⟩
        refine wl_v 2 rfl (v_assign rfl) gn rfl ?_
        refine w_end 3 rfl ?_
        by_cases hp877 : r872 = true
        · have h := if_pos' hp877 h
          refine g_true (c := words_Cut_c38) rfl _ rfl (hp877) ?_
          refine g_seq (c := words_Cut_c39) rfl ?_
          refine g_region (c := words_Cut_c41) rfl rfl ?_
          refine wl_v 0 rfl (v_move rfl) gn rfl ?_
          refine wl_v 1 rfl (v_bin rfl rfl rfl) gn rfl ?_
          refine wl_v 2 rfl (v_assign rfl) gn rfl ?_
          refine w_end 3 rfl ?_
          refine g_goto (c := words_Cut_c42) [.code (.seq .skip words_Cut_c21), .inScope words_Cut_c3] rfl rfl ?_
          refine g_seq rfl ?_
          refine g_skip rfl ?_
          have ih := Out.inl hO1 h
          exact g_go [0, 1] (ih A439 n440 c441 h442) ⟨rfl, rfl, rfl, trivial⟩ (.cons_cons _ (.slnil)) rfl
        · have h := if_neg' hp877 h
          refine g_false (c := words_Cut_c38) rfl _ rfl ((bf hp877)) ?_
          refine g_seq (c := words_Cut_c40) rfl ?_
          refine g_region (c := words_Cut_c43) rfl rfl ?_
          refine wl_v 0 rfl (v_move rfl) gn rfl ?_
          refine wl_v 1 rfl (v_bin rfl rfl rfl) gn rfl ?_
          refine wl_v 2 rfl (v_assign rfl) gn rfl ?_
          refine w_end 3 rfl ?_
          by_cases hp878 : bt x1 x443 = 35
          · have h := if_pos' hp878 h
            refine g_true (c := words_Cut_c44) rfl _ rfl ((eqi hp878)) ?_
            refine g_goto (c := words_Cut_c45) [.code (.seq .skip words_Cut_c47), .inScope words_Cut_c3] rfl rfl ?_
            refine g_seq rfl ?_
            refine g_skip rfl ?_
            have key2 : ∀ s, Rounds (fun (s : Int) o => words_Cut_b2 x1 x438 s o) s o1 → (fun (s : Int) => ∀ (_ : Unit), G (words_Cut_C w F r) [.code words_Cut_c47, .inScope words_Cut_c3] [(0, .string x1), (5, .slice A439 n440 c441), (8, .int .i64 s)] [.own (.slice A439 n440 c441) 27 4 n440 (x438.flatMap enc_api_Word)] [Sm w.heap.size F w [], St w []]) s := by
              intro s hs
              refine Rounds.ind (mot := (fun (s : Int) => ∀ (_ : Unit), G (words_Cut_C w F r) [.code words_Cut_c47, .inScope words_Cut_c3] [(0, .string x1), (5, .slice A439 n440 c441), (8, .int .i64 s)] [.own (.slice A439 n440 c441) 27 4 n440 (x438.flatMap enc_api_Word)] [Sm w.heap.size F w [], St w []])) ?_ hs
              clear hs s
              intro x885 o2 h hO2
              show ∀ (_ : Unit), G (words_Cut_C w F r) [.code words_Cut_c47, .inScope words_Cut_c3] [(0, .string x1), (5, .slice A439 n440 c441), (8, .int .i64 x885)] [.own (.slice A439 n440 c441) 27 4 n440 (x438.flatMap enc_api_Word)] [Sm w.heap.size F w [], St w []]
              intro _
              have h : words_Cut_b2 x1 x438 x885 o2 := h
              unfold words_Cut_b2 at h
              refine g_seq (c := words_Cut_c47) rfl ?_
              refine g_seq (c := words_Cut_c49) rfl ?_
              have j3 : ∀ (x896 : Bool) (h : words_Cut_j3 x885 x438 x896 o2) , G (words_Cut_C w F r) [.code words_Cut_c52, .code words_Cut_c50, .inScope words_Cut_c3] [(0, .string x1), (5, .slice A439 n440 c441), (8, .int .i64 x885), (69, .bool x896)] [.own (.slice A439 n440 c441) 27 4 n440 (x438.flatMap enc_api_Word)] [Sm w.heap.size F w [], St w []] := by
                intro x896 h
                unfold words_Cut_j3 at h
                by_cases hp897 : x896 = true
                · have h := if_pos' hp897 h
                  refine g_true (c := words_Cut_c52) rfl _ rfl (hp897) ?_
                  refine g_seq (c := words_Cut_c53) rfl ?_
                  refine g_region (c := words_Cut_c55) rfl rfl ?_
                  refine wl_v 0 rfl (v_move rfl) gn rfl ?_
                  refine wl_v 1 rfl (v_bin rfl rfl rfl) gn rfl ?_
                  refine wl_v 2 rfl (v_assign rfl) gn rfl ?_
                  refine w_end 3 rfl ?_
                  refine g_goto (c := words_Cut_c56) [.code (.seq .skip words_Cut_c47), .inScope words_Cut_c3] rfl rfl ?_
                  refine g_seq rfl ?_
                  refine g_skip rfl ?_
                  have ih := Out.inl hO2 h
                  exact g_go [0, 1] (ih ()) ⟨rfl, rfl, rfl, trivial⟩ (.cons_cons _ (.slnil)) rfl
                · have h := if_neg' hp897 h
                  refine g_false (c := words_Cut_c52) rfl _ rfl ((bf hp897)) ?_
                  refine g_skip (c := words_Cut_c54) rfl ?_
                  refine g_seq (c := words_Cut_c50) rfl ?_
                  refine g_goto (c := words_Cut_c57) [.code (.seq .skip words_Cut_c21), .inScope words_Cut_c3] rfl rfl ?_
                  refine g_seq rfl ?_
                  refine g_skip rfl ?_
                  have h := Out.inr hO2 h
                  have ih := Out.inl hO1 h
                  exact g_go [0, 1] (ih A439 n440 c441 h442) ⟨rfl, rfl, rfl, trivial⟩ (.cons_cons _ (.slnil)) rfl
              refine g_region (c := words_Cut_c51) rfl rfl ?_
              refine wl_v 0 rfl (v_move rfl) gn rfl ?_
              refine wl_v 1 rfl (v_move rfl) gn rfl ?_
              refine wl_v 2 rfl (v_lenS un_9 rfl) gn rfl ?_
              refine wl_v 3 rfl (v_bin rfl rfl rfl) gn rfl ?_
              refine wl_v 4 rfl (v_move rfl) gn rfl ?_
              by_cases hp898 : x885 < (x1.size : Int)
              · have h := if_pos' hp898 h
                refine w_bool 64 rfl ((decide_eq_true hp898)) ?_
                refine wl_v 5 rfl (v_move rfl) (gy 64 rfl rfl) rfl ?_
                refine wl_v 6 rfl (v_move rfl) (gy 64 rfl rfl) rfl ?_
                obtain ⟨hb899, h⟩ := h
                refine wl_v 7 rfl (v_indexS un_9 rfl rfl hb899) (gy 64 rfl rfl) rfl ?_
                refine wl_v 8 rfl (v_bin rfl rfl rfl) (gy 64 rfl rfl) rfl ?_
                refine wl_v 9 rfl (v_pick (b := true) rfl rfl) gn rfl ?_
                refine w_end 10 rfl ?_
                exact g_go [0, 1] (j3 ((bt x1 x885) != 10) h) ⟨rfl, rfl, rfl, rfl, trivial⟩ (.cons_cons _ (.slnil)) rfl
              · have h := if_neg' hp898 h
                refine w_bool 64 rfl ((decide_eq_false hp898)) ?_
                refine wl_pass 5 rfl (ps 64 rfl rfl rfl) ?_
                refine wl_pass 6 rfl (ps 64 rfl rfl rfl) ?_
                refine wl_pass 7 rfl (ps 64 rfl rfl rfl) ?_
                refine wl_pass 8 rfl (ps 64 rfl rfl rfl) ?_
                refine wl_v 9 rfl (v_pick (b := false) rfl rfl) gn rfl ?_
                refine w_end 10 rfl ?_
                exact g_go [0, 1] (j3 false h) ⟨rfl, rfl, rfl, rfl, trivial⟩ (.cons_cons _ (.slnil)) rfl
            exact g_go [0, 1] (key2 _ h ()) ⟨rfl, rfl, rfl, trivial⟩ (.cons_cons _ (.slnil)) rfl
          · have h := if_neg' hp878 h
            refine g_false (c := words_Cut_c44) rfl _ rfl ((nei hp878)) ?_
            refine g_seq (c := words_Cut_c46) rfl ?_
            refine g_region (c := words_Cut_c59) rfl rfl ?_
            refine wl_v 0 rfl (v_move rfl) gn rfl ?_
            obtain ⟨r903, hv904, h⟩ := h
            refine wl_s 1 rfl (s_call [.int .u8 (bt x1 x443)] rfl Tryd.func27 rfl rfl rfl fun w900 hL901 => ?_) gn
            have hp902 : List.Perm ([.own (.slice A439 n440 c441) 27 4 n440 (x438.flatMap enc_api_Word)] : List Ent) (([] : List Ent) ++ ([.own (.slice A439 n440 c441) 27 4 n440 (x438.flatMap enc_api_Word)] : List Ent)) := perm_of_idx [] [0] rfl rfl (by kernel_rfl)
            refine Calls.mono (words_letter_calls w900 (Fl ([] : List Snap)) (bt x1 x443) (hL901.hFl (Sl := ([] : List Snap)) hp902 (sels [] rfl)) (hL901.into hp902 (Fl ([] : List Snap))) r903 hv904) ?_
            rintro _ w905 ⟨rfl, hM906⟩
            have hL907 := hL901.call hp902 hM906
            refine ⟨_, _, _, rfl, hL907, ?_⟩
            refine wl_v 2 rfl (v_assign rfl) gn rfl ?_
            refine w_end 3 rfl ?_
            by_cases hp908 : r903 = true
            · have h := if_pos' hp908 h
              refine g_true (c := words_Cut_c60) rfl _ rfl (hp908) ?_
              refine g_goto (c := words_Cut_c61) [.code (.seq .skip words_Cut_c63), .inScope words_Cut_c3] rfl rfl ?_
              refine g_seq rfl ?_
              refine g_skip rfl ?_
              have key4 : ∀ s, Rounds (fun (s : Int) o => words_Cut_b4 x1 x443 x438 s o) s o1 → (fun (s : Int) => ∀ (_ : Unit), G (words_Cut_C w F r) [.code words_Cut_c63, .inScope words_Cut_c3] [(0, .string x1), (5, .slice A439 n440 c441), (8, .int .i64 s), (9, .int .i64 x443)] [.own (.slice A439 n440 c441) 27 4 n440 (x438.flatMap enc_api_Word)] [Sm w.heap.size F w [], St w []]) s := by
                intro s hs
                refine Rounds.ind (mot := (fun (s : Int) => ∀ (_ : Unit), G (words_Cut_C w F r) [.code words_Cut_c63, .inScope words_Cut_c3] [(0, .string x1), (5, .slice A439 n440 c441), (8, .int .i64 s), (9, .int .i64 x443)] [.own (.slice A439 n440 c441) 27 4 n440 (x438.flatMap enc_api_Word)] [Sm w.heap.size F w [], St w []])) ?_ hs
                clear hs s
                intro x960 o2 h hO2
                show ∀ (_ : Unit), G (words_Cut_C w F r) [.code words_Cut_c63, .inScope words_Cut_c3] [(0, .string x1), (5, .slice A439 n440 c441), (8, .int .i64 x960), (9, .int .i64 x443)] [.own (.slice A439 n440 c441) 27 4 n440 (x438.flatMap enc_api_Word)] [Sm w.heap.size F w [], St w []]
                intro _
                have h : words_Cut_b4 x1 x443 x438 x960 o2 := h
                unfold words_Cut_b4 at h
                refine g_seq (c := words_Cut_c63) rfl ?_
                refine g_seq (c := words_Cut_c64) rfl ?_
                have j5 : ∀ (x1033 : Bool) (h : words_Cut_j5 x960 x443 x1 x438 x1033 o2) , G (words_Cut_C w F r) [.code words_Cut_c67, .code words_Cut_c65, .inScope words_Cut_c3] [(0, .string x1), (5, .slice A439 n440 c441), (8, .int .i64 x960), (9, .int .i64 x443), (87, .bool x1033)] [.own (.slice A439 n440 c441) 27 4 n440 (x438.flatMap enc_api_Word)] [Sm w.heap.size F w [], St w []] := by
                  intro x1033 h
                  unfold words_Cut_j5 at h
                  by_cases hp1034 : x1033 = true
                  · have h := if_pos' hp1034 h
                    refine g_true (c := words_Cut_c67) rfl _ rfl (hp1034) ?_
                    refine g_seq (c := words_Cut_c68) rfl ?_
                    refine g_region (c := words_Cut_c70) rfl rfl ?_
                    refine wl_v 0 rfl (v_move rfl) gn rfl ?_
                    refine wl_v 1 rfl (v_bin rfl rfl rfl) gn rfl ?_
                    refine wl_v 2 rfl (v_assign rfl) gn rfl ?_
                    refine w_end 3 rfl ?_
                    refine g_goto (c := words_Cut_c71) [.code (.seq .skip words_Cut_c63), .inScope words_Cut_c3] rfl rfl ?_
                    refine g_seq rfl ?_
                    refine g_skip rfl ?_
                    have ih := Out.inl hO2 h
                    exact g_go [0, 1] (ih ()) ⟨rfl, rfl, rfl, rfl, trivial⟩ (.cons_cons _ (.slnil)) rfl
                  · have h := if_neg' hp1034 h
                    refine g_false (c := words_Cut_c67) rfl _ rfl ((bf hp1034)) ?_
                    refine g_skip (c := words_Cut_c69) rfl ?_
                    refine g_seq (c := words_Cut_c65) rfl ?_
                    refine g_seq (c := words_Cut_c72) rfl ?_
                    refine g_region (c := words_Cut_c74) rfl rfl ?_
                    refine wl_v 0 rfl (v_move rfl) gn rfl ?_
                    refine wl_v 1 rfl (v_move rfl) gn rfl ?_
                    refine wl_v 2 rfl (v_bin rfl rfl rfl) gn rfl ?_
                    refine wl_v 3 rfl (v_bin rfl rfl rfl) gn rfl ?_
                    refine w_end 4 rfl ?_
                    by_cases hp1035 : w64 (x960 - x443) > 24
                    · have h := if_pos' hp1035 h
                      refine g_true (c := words_Cut_c75) rfl _ rfl ((decide_eq_true hp1035)) ?_
                      refine g_seq (c := words_Cut_c76) rfl ?_
                      refine g_region (c := words_Cut_c78) rfl rfl ?_
                      refine wl_v 0 rfl (v_move rfl) gn rfl ?_
                      refine wl_v 1 rfl (v_assign rfl) gn rfl ?_
                      refine wl_v 2 rfl (v_assign rfl) gn rfl ?_
                      refine wl_v 3 rfl (v_assign rfl) gn rfl ?_
                      refine w_end 4 rfl ?_
                      refine g_nil 27 4 ?_
                      have h := Out.inr hO2 h
                      have h := Out.inr hO1 h
                      refine g_retR (c := words_Cut_c79) [.slice none 0 0, .int .i64 83, .int .i64 x443] rfl Tryd.func16 rfl (.tmp rfl (.tmp rfl (.tmp rfl (.nil)))) fun wr hLr => ?_
                      have hMr : B.Loc w wr [.own (.slice none 0 0) 27 4 0 (([] : List api_Word).flatMap enc_api_Word)] [St w []] := hLr.pick (rest := [.own (.slice A439 n440 c441) 27 4 n440 (x438.flatMap enc_api_Word)]) (perm_of_idx [0] [1] rfl rfl (by kernel_rfl)) (sels [1] rfl)
                      have hMi : ∀ e ∈ ([.own (.slice none 0 0) 27 4 0 (([] : List api_Word).flatMap enc_api_Word)] : List Ent), e ∈ ([.own (.slice none 0 0) 27 4 0 (([] : List api_Word).flatMap enc_api_Word), .own (.slice A439 n440 c441) 27 4 n440 (x438.flatMap enc_api_Word)] : List Ent) := sels [0] rfl
                      show words_Cut_R w F  r (.returned (packV [.slice none 0 0, .int .i64 83, .int .i64 x443])) wr
                      rw [h]
                      exact ⟨none, 0, 0, rfl, hMr, (Ow.nil (z := w.heap.size))⟩
                    · have h := if_neg' hp1035 h
                      refine g_false (c := words_Cut_c75) rfl _ rfl ((decide_eq_false hp1035)) ?_
                      refine g_skip (c := words_Cut_c77) rfl ?_
                      refine g_seq (c := words_Cut_c73) rfl ?_
                      refine g_region (c := words_Cut_c80) rfl rfl ?_
                      refine wl_v 0 rfl (v_move rfl) gn rfl ?_
                      refine wl_v 1 rfl (v_move rfl) gn rfl ?_
                      refine wl_v 2 rfl (v_move rfl) gn rfl ?_
                      refine wl_v 3 rfl (v_move rfl) gn rfl ?_
                      obtain ⟨hb1036, h⟩ := h
                      refine wl_v 4 rfl (v_cutS x443 x960 un_9 rfl (.inr ⟨_, _, rfl, rfl⟩) (.inr ⟨_, _, rfl, rfl⟩) ⟨hb1036.1, hb1036.2.1⟩ hb1036.2.2) gn rfl ?_
                      refine wl_v 5 rfl (v_move rfl) gn rfl ?_
                      refine wl_v 6 rfl (v_build #[.int .i64 1, .string (x1.extract (x443 : Int).toNat (x960 : Int).toNat), .int .i64 0, .int .i64 x443] bd_27 rfl (by kernel_rfl)) gn rfl ?_
                      refine wl_s 7 rfl (s_litO (xs := ([(⟨1, x1.extract (x443 : Int).toNat (x960 : Int).toNat, 0, x443⟩ : api_Word)] : List api_Word)) [.int .i64 1, .string (x1.extract (x443 : Int).toNat (x960 : Int).toNat), .int .i64 0, .int .i64 x443] bs_22_1 rfl (by kernel_rfl) rfl rfl rfl rfl fun gb1038 h1039 => ?_) gn
                      obtain ⟨x1043, hv1044, h⟩ := h
                      obtain ⟨hb1045, h⟩ := h
                      refine wl_s 8 rfl (s_app (zs := x1043) (cells' := x1043.flatMap enc_api_Word) 1 ap_22 rfl rfl rfl h442 (Nat.le_refl _) (Src.ownF (hl := hl_api_Word) (h1 := h1_api_Word) 0 rfl h1039) (by rw [hv1044, List.flatMap_append] <;> rfl) (app_len hv1044 h1039.hq) hb1045 rfl rfl fun A1040 c1041 h1042 => ?_) gn
                      refine wl_v 9 rfl (v_assign rfl) gn rfl ?_
                      refine w_end 10 rfl ?_
                      refine g_seq (c := words_Cut_c81) rfl ?_
                      refine g_goto (c := words_Cut_c82) [.code (.seq .skip words_Cut_c21), .inScope words_Cut_c3] rfl rfl ?_
                      refine g_seq rfl ?_
                      refine g_skip rfl ?_
                      have h := Out.inr hO2 h
                      have ih := Out.inl hO1 h
                      exact g_go [0, 1] (ih A1040 (n440 + 1) c1041 h1042) ⟨rfl, rfl, rfl, trivial⟩ (.cons _ (.cons_cons _ (.slnil))) rfl
                refine g_region (c := words_Cut_c66) rfl rfl ?_
                refine wl_v 0 rfl (v_move rfl) gn rfl ?_
                refine wl_v 1 rfl (v_move rfl) gn rfl ?_
                refine wl_v 2 rfl (v_lenS un_9 rfl) gn rfl ?_
                refine wl_v 3 rfl (v_bin rfl rfl rfl) gn rfl ?_
                refine wl_v 4 rfl (v_move rfl) gn rfl ?_
                by_cases hp1046 : x960 < (x1.size : Int)
                · have h := if_pos' hp1046 h
                  refine w_bool 76 rfl ((decide_eq_true hp1046)) ?_
                  refine wl_v 5 rfl (v_move rfl) (gy 76 rfl rfl) rfl ?_
                  refine wl_v 6 rfl (v_move rfl) (gy 76 rfl rfl) rfl ?_
                  obtain ⟨hb1047, h⟩ := h
                  refine wl_v 7 rfl (v_indexS un_9 rfl rfl hb1047) (gy 76 rfl rfl) rfl ?_
                  obtain ⟨r1051, hv1052, h⟩ := h
                  refine wl_s 8 rfl (s_call [.int .u8 (bt x1 x960)] rfl Tryd.func27 rfl rfl rfl fun w1048 hL1049 => ?_) (gy 76 rfl rfl)
                  have hp1050 : List.Perm ([.own (.slice A439 n440 c441) 27 4 n440 (x438.flatMap enc_api_Word)] : List Ent) (([] : List Ent) ++ ([.own (.slice A439 n440 c441) 27 4 n440 (x438.flatMap enc_api_Word)] : List Ent)) := perm_of_idx [] [0] rfl rfl (by kernel_rfl)
                  refine Calls.mono (words_letter_calls w1048 (Fl ([] : List Snap)) (bt x1 x960) (hL1049.hFl (Sl := ([] : List Snap)) hp1050 (sels [] rfl)) (hL1049.into hp1050 (Fl ([] : List Snap))) r1051 hv1052) ?_
                  rintro _ w1053 ⟨rfl, hM1054⟩
                  have hL1055 := hL1049.call hp1050 hM1054
                  refine ⟨_, _, _, rfl, hL1055, ?_⟩
                  refine wl_v 9 rfl (v_move rfl) (gy 76 rfl rfl) rfl ?_
                  by_cases hp1056 : r1051 = true
                  · have h := if_pos' hp1056 h
                    refine w_bool 81 rfl (hp1056) ?_
                    refine wl_pass 10 rfl (ps 81 rfl rfl rfl) ?_
                    refine wl_pass 11 rfl (ps 81 rfl rfl rfl) ?_
                    refine wl_pass 12 rfl (ps 81 rfl rfl rfl) ?_
                    refine wl_pass 13 rfl (ps 81 rfl rfl rfl) ?_
                    refine wl_v 14 rfl (v_pick (b := true) rfl rfl) (gy 76 rfl rfl) rfl ?_
                    refine wl_v 15 rfl (v_pick (b := true) rfl rfl) gn rfl ?_
                    refine w_end 16 rfl ?_
                    exact g_go [0, 1] (j5 true h) ⟨rfl, rfl, rfl, rfl, rfl, trivial⟩ (.cons_cons _ (.slnil)) rfl
                  · have h := if_neg' hp1056 h
                    refine w_bool 81 rfl ((bf hp1056)) ?_
                    refine wl_v 10 rfl (v_move rfl) (gy 81 rfl rfl) rfl ?_
                    refine wl_v 11 rfl (v_move rfl) (gy 81 rfl rfl) rfl ?_
                    refine wl_v 12 rfl (v_indexS un_9 rfl rfl hb1047) (gy 81 rfl rfl) rfl ?_
                    obtain ⟨r1060, hv1061, h⟩ := h
                    refine wl_s 13 rfl (s_call [.int .u8 (bt x1 x960)] rfl Tryd.func28 rfl rfl rfl fun w1057 hL1058 => ?_) (gy 81 rfl rfl)
                    have hp1059 : List.Perm ([.own (.slice A439 n440 c441) 27 4 n440 (x438.flatMap enc_api_Word)] : List Ent) (([] : List Ent) ++ ([.own (.slice A439 n440 c441) 27 4 n440 (x438.flatMap enc_api_Word)] : List Ent)) := perm_of_idx [] [0] rfl rfl (by kernel_rfl)
                    refine Calls.mono (words_digit_calls w1057 (Fl ([] : List Snap)) (bt x1 x960) (hL1058.hFl (Sl := ([] : List Snap)) hp1059 (sels [] rfl)) (hL1058.into hp1059 (Fl ([] : List Snap))) r1060 hv1061) ?_
                    rintro _ w1062 ⟨rfl, hM1063⟩
                    have hL1064 := hL1058.call hp1059 hM1063
                    refine ⟨_, _, _, rfl, hL1064, ?_⟩
                    refine wl_v 14 rfl (v_pick (b := false) rfl rfl) (gy 76 rfl rfl) rfl ?_
                    refine wl_v 15 rfl (v_pick (b := true) rfl rfl) gn rfl ?_
                    refine w_end 16 rfl ?_
                    exact g_go [0, 1] (j5 r1060 h) ⟨rfl, rfl, rfl, rfl, rfl, trivial⟩ (.cons_cons _ (.slnil)) rfl
                · have h := if_neg' hp1046 h
                  refine w_bool 76 rfl ((decide_eq_false hp1046)) ?_
                  refine wl_pass 5 rfl (ps 76 rfl rfl rfl) ?_
                  refine wl_pass 6 rfl (ps 76 rfl rfl rfl) ?_
                  refine wl_pass 7 rfl (ps 76 rfl rfl rfl) ?_
                  refine wl_pass 8 rfl (ps 76 rfl rfl rfl) ?_
                  refine wl_pass 9 rfl (ps 76 rfl rfl rfl) ?_
                  refine wl_pass 10 rfl (pu 81 rfl rfl) ?_
                  refine wl_pass 11 rfl (pu 81 rfl rfl) ?_
                  refine wl_pass 12 rfl (pu 81 rfl rfl) ?_
                  refine wl_pass 13 rfl (pu 81 rfl rfl) ?_
                  refine wl_pass 14 rfl (ps 76 rfl rfl rfl) ?_
                  refine wl_v 15 rfl (v_pick (b := false) rfl rfl) gn rfl ?_
                  refine w_end 16 rfl ?_
                  exact g_go [0, 1] (j5 false h) ⟨rfl, rfl, rfl, rfl, rfl, trivial⟩ (.cons_cons _ (.slnil)) rfl
              exact g_go [0, 1] (key4 _ h ()) ⟨rfl, rfl, rfl, rfl, trivial⟩ (.cons_cons _ (.slnil)) rfl
            · have h := if_neg' hp908 h
              refine g_false (c := words_Cut_c60) rfl _ rfl ((bf hp908)) ?_
              refine g_seq (c := words_Cut_c62) rfl ?_
              refine g_region (c := words_Cut_c84) rfl rfl ?_
              refine wl_v 0 rfl (v_move rfl) gn rfl ?_
              obtain ⟨r1068, hv1069, h⟩ := h
              refine wl_s 1 rfl (s_call [.int .u8 (bt x1 x443)] rfl Tryd.func28 rfl rfl rfl fun w1065 hL1066 => ?_) gn
              have hp1067 : List.Perm ([.own (.slice A439 n440 c441) 27 4 n440 (x438.flatMap enc_api_Word)] : List Ent) (([] : List Ent) ++ ([.own (.slice A439 n440 c441) 27 4 n440 (x438.flatMap enc_api_Word)] : List Ent)) := perm_of_idx [] [0] rfl rfl (by kernel_rfl)
              refine Calls.mono (words_digit_calls w1065 (Fl ([] : List Snap)) (bt x1 x443) (hL1066.hFl (Sl := ([] : List Snap)) hp1067 (sels [] rfl)) (hL1066.into hp1067 (Fl ([] : List Snap))) r1068 hv1069) ?_
              rintro _ w1070 ⟨rfl, hM1071⟩
              have hL1072 := hL1066.call hp1067 hM1071
              refine ⟨_, _, _, rfl, hL1072, ?_⟩
              refine wl_v 2 rfl (v_assign rfl) gn rfl ?_
              refine w_end 3 rfl ?_
              by_cases hp1073 : r1068 = true
              · have h := if_pos' hp1073 h
                refine g_true (c := words_Cut_c85) rfl _ rfl (hp1073) ?_
                refine g_seq (c := words_Cut_c86) rfl ?_
                refine g_region (c := words_Cut_c88) rfl rfl ?_
                refine wl_v 0 rfl (v_assign rfl) gn rfl ?_
                refine w_end 1 rfl ?_
                refine g_goto (c := words_Cut_c89) [.code (.seq .skip words_Cut_c90), .inScope words_Cut_c3] rfl rfl ?_
                refine g_seq rfl ?_
                refine g_skip rfl ?_
                have key6 : ∀ s, Rounds (fun (s : Int × Int) o => words_Cut_b6 x1 x443 x438 s.1 s.2 o) s o1 → (fun (s : Int × Int) => ∀ (_ : Unit), G (words_Cut_C w F r) [.code words_Cut_c90, .inScope words_Cut_c3] [(0, .string x1), (5, .slice A439 n440 c441), (8, .int .i64 s.1), (9, .int .i64 x443), (10, .int .i64 s.2)] [.own (.slice A439 n440 c441) 27 4 n440 (x438.flatMap enc_api_Word)] [Sm w.heap.size F w [], St w []]) s := by
                  intro s hs
                  refine Rounds.ind (mot := (fun (s : Int × Int) => ∀ (_ : Unit), G (words_Cut_C w F r) [.code words_Cut_c90, .inScope words_Cut_c3] [(0, .string x1), (5, .slice A439 n440 c441), (8, .int .i64 s.1), (9, .int .i64 x443), (10, .int .i64 s.2)] [.own (.slice A439 n440 c441) 27 4 n440 (x438.flatMap enc_api_Word)] [Sm w.heap.size F w [], St w []])) ?_ hs
                  clear hs s
                  intro s o2 h hO2
                  obtain ⟨x1105, x1106⟩ := s
                  show ∀ (_ : Unit), G (words_Cut_C w F r) [.code words_Cut_c90, .inScope words_Cut_c3] [(0, .string x1), (5, .slice A439 n440 c441), (8, .int .i64 x1105), (9, .int .i64 x443), (10, .int .i64 x1106)] [.own (.slice A439 n440 c441) 27 4 n440 (x438.flatMap enc_api_Word)] [Sm w.heap.size F w [], St w []]
                  intro _
                  have h : words_Cut_b6 x1 x443 x438 x1105 x1106 o2 := h
                  unfold words_Cut_b6 at h
                  refine g_seq (c := words_Cut_c90) rfl ?_
                  refine g_seq (c := words_Cut_c91) rfl ?_
                  have j7 : ∀ (x1152 : Bool) (h : words_Cut_j7 x1105 x1 x1106 x443 x438 x1152 o2) , G (words_Cut_C w F r) [.code words_Cut_c94, .code words_Cut_c92, .inScope words_Cut_c3] [(0, .string x1), (5, .slice A439 n440 c441), (8, .int .i64 x1105), (9, .int .i64 x443), (10, .int .i64 x1106), (113, .bool x1152)] [.own (.slice A439 n440 c441) 27 4 n440 (x438.flatMap enc_api_Word)] [Sm w.heap.size F w [], St w []] := by
                    intro x1152 h
                    unfold words_Cut_j7 at h
                    by_cases hp1153 : x1152 = true
                    · have h := if_pos' hp1153 h
                      refine g_true (c := words_Cut_c94) rfl _ rfl (hp1153) ?_
                      refine g_seq (c := words_Cut_c95) rfl ?_
                      refine g_region (c := words_Cut_c97) rfl rfl ?_
                      refine wl_v 0 rfl (v_move rfl) gn rfl ?_
                      refine wl_v 1 rfl (v_bin rfl rfl rfl) gn rfl ?_
                      refine wl_v 2 rfl (v_move rfl) gn rfl ?_
                      refine wl_v 3 rfl (v_move rfl) gn rfl ?_
                      obtain ⟨hb1154, h⟩ := h
                      refine wl_v 4 rfl (v_indexS un_9 rfl rfl hb1154) gn rfl ?_
                      refine wl_v 5 rfl (v_bin rfl rfl rfl) gn rfl ?_
                      refine wl_v 6 rfl (v_conv ⟨_, un_5⟩ un_3 rfl) gn rfl ?_
                      refine wl_v 7 rfl (v_bin rfl rfl rfl) gn rfl ?_
                      refine wl_v 8 rfl (v_min rfl rfl) gn rfl ?_
                      refine wl_v 9 rfl (v_assign rfl) gn rfl ?_
                      refine w_end 10 rfl ?_
                      refine g_seq (c := words_Cut_c98) rfl ?_
                      refine g_region (c := words_Cut_c99) rfl rfl ?_
                      refine wl_v 0 rfl (v_move rfl) gn rfl ?_
                      refine wl_v 1 rfl (v_bin rfl rfl rfl) gn rfl ?_
                      refine wl_v 2 rfl (v_assign rfl) gn rfl ?_
                      refine w_end 3 rfl ?_
                      refine g_goto (c := words_Cut_c100) [.code (.seq .skip words_Cut_c90), .inScope words_Cut_c3] rfl rfl ?_
                      refine g_seq rfl ?_
                      refine g_skip rfl ?_
                      have ih := Out.inl hO2 h
                      exact g_go [0, 1] (ih ()) ⟨rfl, rfl, rfl, rfl, rfl, trivial⟩ (.cons_cons _ (.slnil)) rfl
                    · have h := if_neg' hp1153 h
                      refine g_false (c := words_Cut_c94) rfl _ rfl ((bf hp1153)) ?_
                      refine g_skip (c := words_Cut_c96) rfl ?_
                      refine g_seq (c := words_Cut_c92) rfl ?_
                      refine g_seq (c := words_Cut_c101) rfl ?_
                      refine g_region (c := words_Cut_c103) rfl rfl ?_
                      refine wl_v 0 rfl (v_move rfl) gn rfl ?_
                      refine wl_v 1 rfl (v_bin rfl rfl rfl) gn rfl ?_
                      refine w_end 2 rfl ?_
                      by_cases hp1155 : x1106 > 65535
                      · have h := if_pos' hp1155 h
                        refine g_true (c := words_Cut_c104) rfl _ rfl ((decide_eq_true hp1155)) ?_
                        refine g_seq (c := words_Cut_c105) rfl ?_
                        refine g_region (c := words_Cut_c111) rfl rfl ?_
                        refine wl_v 0 rfl (v_move rfl) gn rfl ?_
                        refine wl_v 1 rfl (v_assign rfl) gn rfl ?_
                        refine wl_v 2 rfl (v_assign rfl) gn rfl ?_
                        refine wl_v 3 rfl (v_assign rfl) gn rfl ?_
                        refine w_end 4 rfl ?_
                        refine g_nil 27 4 ?_
                        have h := Out.inr hO2 h
                        have h := Out.inr hO1 h
                        refine g_retR (c := words_Cut_c112) [.slice none 0 0, .int .i64 84, .int .i64 x443] rfl Tryd.func16 rfl (.tmp rfl (.tmp rfl (.tmp rfl (.nil)))) fun wr hLr => ?_
                        have hMr : B.Loc w wr [.own (.slice none 0 0) 27 4 0 (([] : List api_Word).flatMap enc_api_Word)] [St w []] := hLr.pick (rest := [.own (.slice A439 n440 c441) 27 4 n440 (x438.flatMap enc_api_Word)]) (perm_of_idx [0] [1] rfl rfl (by kernel_rfl)) (sels [1] rfl)
                        have hMi : ∀ e ∈ ([.own (.slice none 0 0) 27 4 0 (([] : List api_Word).flatMap enc_api_Word)] : List Ent), e ∈ ([.own (.slice none 0 0) 27 4 0 (([] : List api_Word).flatMap enc_api_Word), .own (.slice A439 n440 c441) 27 4 n440 (x438.flatMap enc_api_Word)] : List Ent) := sels [0] rfl
                        show words_Cut_R w F  r (.returned (packV [.slice none 0 0, .int .i64 84, .int .i64 x443])) wr
                        rw [h]
                        exact ⟨none, 0, 0, rfl, hMr, (Ow.nil (z := w.heap.size))⟩
                      · have h := if_neg' hp1155 h
                        refine g_false (c := words_Cut_c104) rfl _ rfl ((decide_eq_false hp1155)) ?_
                        refine g_skip (c := words_Cut_c106) rfl ?_
                        refine g_seq (c := words_Cut_c102) rfl ?_
                        refine g_region (c := words_Cut_c107) rfl rfl ?_
                        refine wl_v 0 rfl (v_move rfl) gn rfl ?_
                        refine wl_v 1 rfl (v_move rfl) gn rfl ?_
                        refine wl_v 2 rfl (v_move rfl) gn rfl ?_
                        refine wl_v 3 rfl (v_build #[.int .i64 4, .string (⟨#[]⟩ : ByteArray), .int .i64 x1106, .int .i64 x443] bd_27 rfl (by kernel_rfl)) gn rfl ?_
                        refine wl_s 4 rfl (s_litO (xs := ([(⟨4, (⟨#[]⟩ : ByteArray), x1106, x443⟩ : api_Word)] : List api_Word)) [.int .i64 4, .string (⟨#[]⟩ : ByteArray), .int .i64 x1106, .int .i64 x443] bs_22_1 rfl (by kernel_rfl) rfl rfl rfl rfl fun gb1157 h1158 => ?_) gn
                        obtain ⟨x1162, hv1163, h⟩ := h
                        obtain ⟨hb1164, h⟩ := h
                        refine wl_s 5 rfl (s_app (zs := x1162) (cells' := x1162.flatMap enc_api_Word) 1 ap_22 rfl rfl rfl h442 (Nat.le_refl _) (Src.ownF (hl := hl_api_Word) (h1 := h1_api_Word) 0 rfl h1158) (by rw [hv1163, List.flatMap_append] <;> rfl) (app_len hv1163 h1158.hq) hb1164 rfl rfl fun A1159 c1160 h1161 => ?_) gn
                        refine wl_v 6 rfl (v_assign rfl) gn rfl ?_
                        refine w_end 7 rfl ?_
                        refine g_seq (c := words_Cut_c108) rfl ?_
                        refine g_goto (c := words_Cut_c109) [.code (.seq .skip words_Cut_c21), .inScope words_Cut_c3] rfl rfl ?_
                        refine g_seq rfl ?_
                        refine g_skip rfl ?_
                        have h := Out.inr hO2 h
                        have ih := Out.inl hO1 h
                        exact g_go [0, 1] (ih A1159 (n440 + 1) c1160 h1161) ⟨rfl, rfl, rfl, trivial⟩ (.cons _ (.cons_cons _ (.slnil))) rfl
                  refine g_region (c := words_Cut_c93) rfl rfl ?_
                  refine wl_v 0 rfl (v_move rfl) gn rfl ?_
                  refine wl_v 1 rfl (v_move rfl) gn rfl ?_
                  refine wl_v 2 rfl (v_lenS un_9 rfl) gn rfl ?_
                  refine wl_v 3 rfl (v_bin rfl rfl rfl) gn rfl ?_
                  refine wl_v 4 rfl (v_move rfl) gn rfl ?_
                  by_cases hp1165 : x1105 < (x1.size : Int)
                  · have h := if_pos' hp1165 h
                    refine w_bool 108 rfl ((decide_eq_true hp1165)) ?_
                    refine wl_v 5 rfl (v_move rfl) (gy 108 rfl rfl) rfl ?_
                    refine wl_v 6 rfl (v_move rfl) (gy 108 rfl rfl) rfl ?_
                    obtain ⟨hb1166, h⟩ := h
                    refine wl_v 7 rfl (v_indexS un_9 rfl rfl hb1166) (gy 108 rfl rfl) rfl ?_
                    obtain ⟨r1170, hv1171, h⟩ := h
                    refine wl_s 8 rfl (s_call [.int .u8 (bt x1 x1105)] rfl Tryd.func28 rfl rfl rfl fun w1167 hL1168 => ?_) (gy 108 rfl rfl)
                    have hp1169 : List.Perm ([.own (.slice A439 n440 c441) 27 4 n440 (x438.flatMap enc_api_Word)] : List Ent) (([] : List Ent) ++ ([.own (.slice A439 n440 c441) 27 4 n440 (x438.flatMap enc_api_Word)] : List Ent)) := perm_of_idx [] [0] rfl rfl (by kernel_rfl)
                    refine Calls.mono (words_digit_calls w1167 (Fl ([] : List Snap)) (bt x1 x1105) (hL1168.hFl (Sl := ([] : List Snap)) hp1169 (sels [] rfl)) (hL1168.into hp1169 (Fl ([] : List Snap))) r1170 hv1171) ?_
                    rintro _ w1172 ⟨rfl, hM1173⟩
                    have hL1174 := hL1168.call hp1169 hM1173
                    refine ⟨_, _, _, rfl, hL1174, ?_⟩
                    refine wl_v 9 rfl (v_pick (b := true) rfl rfl) gn rfl ?_
                    refine w_end 10 rfl ?_
                    exact g_go [0, 1] (j7 r1170 h) ⟨rfl, rfl, rfl, rfl, rfl, rfl, trivial⟩ (.cons_cons _ (.slnil)) rfl
                  · have h := if_neg' hp1165 h
                    refine w_bool 108 rfl ((decide_eq_false hp1165)) ?_
                    refine wl_pass 5 rfl (ps 108 rfl rfl rfl) ?_
                    refine wl_pass 6 rfl (ps 108 rfl rfl rfl) ?_
                    refine wl_pass 7 rfl (ps 108 rfl rfl rfl) ?_
                    refine wl_pass 8 rfl (ps 108 rfl rfl rfl) ?_
                    refine wl_v 9 rfl (v_pick (b := false) rfl rfl) gn rfl ?_
                    refine w_end 10 rfl ?_
                    exact g_go [0, 1] (j7 false h) ⟨rfl, rfl, rfl, rfl, rfl, rfl, trivial⟩ (.cons_cons _ (.slnil)) rfl
                exact g_go [0, 1] (key6 _ h ()) ⟨rfl, rfl, rfl, rfl, rfl, trivial⟩ (.cons_cons _ (.slnil)) rfl
              · have h := if_neg' hp1073 h
                refine g_false (c := words_Cut_c85) rfl _ rfl ((bf hp1073)) ?_
                refine g_seq (c := words_Cut_c87) rfl ?_
                refine g_region (c := words_Cut_c113) rfl rfl ?_
                refine wl_v 0 rfl (v_move rfl) gn rfl ?_
                refine wl_v 1 rfl (v_bin rfl rfl rfl) gn rfl ?_
                refine wl_v 2 rfl (v_assign rfl) gn rfl ?_
                refine w_end 3 rfl ?_
                by_cases hp1175 : bt x1 x443 = 34
                · have h := if_pos' hp1175 h
                  refine g_true (c := words_Cut_c114) rfl _ rfl ((eqi hp1175)) ?_
                  refine g_goto (c := words_Cut_c115) [.code (.seq .skip words_Cut_c117), .inScope words_Cut_c3] rfl rfl ?_
                  refine g_seq rfl ?_
                  refine g_skip rfl ?_
                  refine g_seq (c := words_Cut_c117) rfl ?_
                  refine g_seq (c := words_Cut_c118) rfl ?_
                  refine g_region (c := words_Cut_c120) rfl rfl ?_
                  refine wl_v 0 rfl (v_move rfl) gn rfl ?_
                  refine wl_v 1 rfl (v_move rfl) gn rfl ?_
                  obtain ⟨r1203, hv1204, h⟩ := h
                  refine wl_s 2 rfl (s_call [.string x1, .int .i64 x443] rfl Tryd.func30 rfl rfl rfl fun w1200 hL1201 => ?_) gn
                  have hp1202 : List.Perm ([.own (.slice A439 n440 c441) 27 4 n440 (x438.flatMap enc_api_Word)] : List Ent) (([] : List Ent) ++ ([.own (.slice A439 n440 c441) 27 4 n440 (x438.flatMap enc_api_Word)] : List Ent)) := perm_of_idx [] [0] rfl rfl (by kernel_rfl)
                  refine Calls.mono (words_quoted_calls w1200 (Fl ([] : List Snap)) x1 x443 (hL1201.hFl (Sl := ([] : List Snap)) hp1202 (sels [] rfl)) (hL1201.into hp1202 (Fl ([] : List Snap))) r1203 hv1204) ?_
                  rintro _ w1210 ⟨A1205, n1206, c1207, rfl, hM1211, h1208⟩
                  have hL1212 := hL1201.call hp1202 hM1211
                  refine ⟨_, _, _, rfl, hL1212, ?_⟩
                  refine wl_v 3 rfl (v_move rfl) gn rfl ?_
                  refine wl_v 4 rfl (v_extract rfl rfl) gn rfl ?_
                  refine wl_v 5 rfl (v_extract rfl rfl) gn rfl ?_
                  refine wl_v 6 rfl (v_extract rfl rfl) gn rfl ?_
                  refine wl_v 7 rfl (v_assign rfl) gn rfl ?_
                  refine wl_v 8 rfl (v_assign rfl) gn rfl ?_
                  refine wl_v 9 rfl (v_assign rfl) gn rfl ?_
                  refine w_end 10 rfl ?_
                  refine g_seq (c := words_Cut_c121) rfl ?_
                  refine g_region (c := words_Cut_c122) rfl rfl ?_
                  refine wl_v 0 rfl (v_move rfl) gn rfl ?_
                  refine wl_v 1 rfl (v_bin rfl rfl rfl) gn rfl ?_
                  refine w_end 2 rfl ?_
                  by_cases hp1213 : r1203.2.1 = 0
                  · have h := if_pos' hp1213 h
                    refine g_false (c := words_Cut_c123) rfl _ rfl ((eqib hp1213)) ?_
                    refine g_skip (c := words_Cut_c125) rfl ?_
                    refine g_seq (c := words_Cut_c119) rfl ?_
                    refine g_region (c := words_Cut_c126) rfl rfl ?_
                    refine wl_v 0 rfl (v_move rfl) gn rfl ?_
                    refine wl_v 1 rfl (v_move rfl) gn rfl ?_
                    refine wl_v 2 rfl (v_b2s u8_44 un_9 rfl (Src.ownF (hl := (hlI .u8)) (h1 := (hone_int .u8)) 0 rfl (Ow.weak hL1201.env.size h1208)) (Ow.weak hL1201.env.size h1208).hq) gn rfl ?_
                    refine wl_v 3 rfl (v_move rfl) gn rfl ?_
                    refine wl_v 4 rfl (v_build #[.int .i64 2, .string (ofBs r1203.1), .int .i64 0, .int .i64 x443] bd_27 rfl (by kernel_rfl)) gn rfl ?_
                    refine wl_s 5 rfl (s_litO (xs := ([(⟨2, ofBs r1203.1, 0, x443⟩ : api_Word)] : List api_Word)) [.int .i64 2, .string (ofBs r1203.1), .int .i64 0, .int .i64 x443] bs_22_1 rfl (by kernel_rfl) rfl rfl rfl rfl fun gb1215 h1216 => ?_) gn
                    obtain ⟨x1220, hv1221, h⟩ := h
                    obtain ⟨hb1222, h⟩ := h
                    refine wl_s 6 rfl (s_app (zs := x1220) (cells' := x1220.flatMap enc_api_Word) 2 ap_22 rfl rfl rfl h442 (Nat.le_refl _) (Src.ownF (hl := hl_api_Word) (h1 := h1_api_Word) 0 rfl h1216) (by rw [hv1221, List.flatMap_append] <;> rfl) (app_len hv1221 h1216.hq) hb1222 rfl rfl fun A1217 c1218 h1219 => ?_) gn
                    refine wl_v 7 rfl (v_assign rfl) gn rfl ?_
                    refine w_end 8 rfl ?_
                    refine g_seq (c := words_Cut_c127) rfl ?_
                    refine g_goto (c := words_Cut_c128) [.code (.seq .skip words_Cut_c21), .inScope words_Cut_c3] rfl rfl ?_
                    refine g_seq rfl ?_
                    refine g_skip rfl ?_
                    have ih := Out.inl hO1 h
                    exact g_go [0, 1] (ih A1217 (n440 + 1) c1218 h1219) ⟨rfl, rfl, rfl, trivial⟩ (.cons _ (.cons _ (.cons_cons _ (.slnil)))) rfl
                  · have h := if_neg' hp1213 h
                    refine g_true (c := words_Cut_c123) rfl _ rfl ((neib hp1213)) ?_
                    refine g_seq (c := words_Cut_c124) rfl ?_
                    refine g_region (c := words_Cut_c130) rfl rfl ?_
                    refine wl_v 0 rfl (v_move rfl) gn rfl ?_
                    refine wl_v 1 rfl (v_move rfl) gn rfl ?_
                    refine wl_v 2 rfl (v_assign rfl) gn rfl ?_
                    refine wl_v 3 rfl (v_assign rfl) gn rfl ?_
                    refine wl_v 4 rfl (v_assign rfl) gn rfl ?_
                    refine w_end 5 rfl ?_
                    refine g_nil 27 4 ?_
                    have h := Out.inr hO1 h
                    refine g_retR (c := words_Cut_c131) [.slice none 0 0, .int .i64 r1203.2.1, .int .i64 r1203.2.2] rfl Tryd.func16 rfl (.tmp rfl (.tmp rfl (.tmp rfl (.nil)))) fun wr hLr => ?_
                    have hMr : B.Loc w wr [.own (.slice none 0 0) 27 4 0 (([] : List api_Word).flatMap enc_api_Word)] [St w []] := hLr.pick (rest := [.own (.slice A1205 n1206 c1207) 5 1 n1206 (r1203.1.flatMap (eI .u8)), .own (.slice A439 n440 c441) 27 4 n440 (x438.flatMap enc_api_Word)]) (perm_of_idx [0] [1, 2] rfl rfl (by kernel_rfl)) (sels [1] rfl)
                    have hMi : ∀ e ∈ ([.own (.slice none 0 0) 27 4 0 (([] : List api_Word).flatMap enc_api_Word)] : List Ent), e ∈ ([.own (.slice none 0 0) 27 4 0 (([] : List api_Word).flatMap enc_api_Word), .own (.slice A1205 n1206 c1207) 5 1 n1206 (r1203.1.flatMap (eI .u8)), .own (.slice A439 n440 c441) 27 4 n440 (x438.flatMap enc_api_Word)] : List Ent) := sels [0] rfl
                    show words_Cut_R w F  r (.returned (packV [.slice none 0 0, .int .i64 r1203.2.1, .int .i64 r1203.2.2])) wr
                    rw [h]
                    exact ⟨none, 0, 0, rfl, hMr, (Ow.nil (z := w.heap.size))⟩
                · have h := if_neg' hp1175 h
                  refine g_false (c := words_Cut_c114) rfl _ rfl ((nei hp1175)) ?_
                  refine g_seq (c := words_Cut_c116) rfl ?_
                  refine g_region (c := words_Cut_c132) rfl rfl ?_
                  refine wl_v 0 rfl (v_move rfl) gn rfl ?_
                  refine wl_v 1 rfl (v_bin rfl rfl rfl) gn rfl ?_
                  refine wl_v 2 rfl (v_assign rfl) gn rfl ?_
                  refine w_end 3 rfl ?_
                  by_cases hp1223 : bt x1 x443 = 47
                  · have h := if_pos' hp1223 h
                    refine g_true (c := words_Cut_c133) rfl _ rfl ((eqi hp1223)) ?_
                    refine g_goto (c := words_Cut_c134) [.code (.seq .skip words_Cut_c136), .inScope words_Cut_c3] rfl rfl ?_
                    refine g_seq rfl ?_
                    refine g_skip rfl ?_
                    refine g_seq (c := words_Cut_c136) rfl ?_
                    refine g_seq (c := words_Cut_c137) rfl ?_
                    refine g_region (c := words_Cut_c139) rfl rfl ?_
                    refine wl_v 0 rfl (v_move rfl) gn rfl ?_
                    refine wl_v 1 rfl (v_move rfl) gn rfl ?_
                    obtain ⟨r1251, hv1252, h⟩ := h
                    refine wl_s 2 rfl (s_call [.string x1, .int .i64 x443] rfl Tryd.func31 rfl rfl rfl fun w1248 hL1249 => ?_) gn
                    have hp1250 : List.Perm ([.own (.slice A439 n440 c441) 27 4 n440 (x438.flatMap enc_api_Word)] : List Ent) (([] : List Ent) ++ ([.own (.slice A439 n440 c441) 27 4 n440 (x438.flatMap enc_api_Word)] : List Ent)) := perm_of_idx [] [0] rfl rfl (by kernel_rfl)
                    refine Calls.mono (words_slashed_calls w1248 (Fl ([] : List Snap)) x1 x443 (hL1249.hFl (Sl := ([] : List Snap)) hp1250 (sels [] rfl)) (hL1249.into hp1250 (Fl ([] : List Snap))) r1251 hv1252) ?_
                    rintro _ w1258 ⟨A1253, n1254, c1255, rfl, hM1259, h1256⟩
                    have hL1260 := hL1249.call hp1250 hM1259
                    refine ⟨_, _, _, rfl, hL1260, ?_⟩
                    refine wl_v 3 rfl (v_move rfl) gn rfl ?_
                    refine wl_v 4 rfl (v_extract rfl rfl) gn rfl ?_
                    refine wl_v 5 rfl (v_extract rfl rfl) gn rfl ?_
                    refine wl_v 6 rfl (v_extract rfl rfl) gn rfl ?_
                    refine wl_v 7 rfl (v_assign rfl) gn rfl ?_
                    refine wl_v 8 rfl (v_assign rfl) gn rfl ?_
                    refine wl_v 9 rfl (v_assign rfl) gn rfl ?_
                    refine w_end 10 rfl ?_
                    refine g_seq (c := words_Cut_c140) rfl ?_
                    refine g_region (c := words_Cut_c141) rfl rfl ?_
                    refine wl_v 0 rfl (v_move rfl) gn rfl ?_
                    refine wl_v 1 rfl (v_bin rfl rfl rfl) gn rfl ?_
                    refine w_end 2 rfl ?_
                    by_cases hp1261 : r1251.2.1 = 0
                    · have h := if_pos' hp1261 h
                      refine g_false (c := words_Cut_c142) rfl _ rfl ((eqib hp1261)) ?_
                      refine g_skip (c := words_Cut_c144) rfl ?_
                      refine g_seq (c := words_Cut_c138) rfl ?_
                      refine g_region (c := words_Cut_c145) rfl rfl ?_
                      refine wl_v 0 rfl (v_move rfl) gn rfl ?_
                      refine wl_v 1 rfl (v_move rfl) gn rfl ?_
                      refine wl_v 2 rfl (v_b2s u8_44 un_9 rfl (Src.ownF (hl := (hlI .u8)) (h1 := (hone_int .u8)) 0 rfl (Ow.weak hL1249.env.size h1256)) (Ow.weak hL1249.env.size h1256).hq) gn rfl ?_
                      refine wl_v 3 rfl (v_move rfl) gn rfl ?_
                      refine wl_v 4 rfl (v_build #[.int .i64 3, .string (ofBs r1251.1), .int .i64 0, .int .i64 x443] bd_27 rfl (by kernel_rfl)) gn rfl ?_
                      refine wl_s 5 rfl (s_litO (xs := ([(⟨3, ofBs r1251.1, 0, x443⟩ : api_Word)] : List api_Word)) [.int .i64 3, .string (ofBs r1251.1), .int .i64 0, .int .i64 x443] bs_22_1 rfl (by kernel_rfl) rfl rfl rfl rfl fun gb1263 h1264 => ?_) gn
                      obtain ⟨x1268, hv1269, h⟩ := h
                      obtain ⟨hb1270, h⟩ := h
                      refine wl_s 6 rfl (s_app (zs := x1268) (cells' := x1268.flatMap enc_api_Word) 2 ap_22 rfl rfl rfl h442 (Nat.le_refl _) (Src.ownF (hl := hl_api_Word) (h1 := h1_api_Word) 0 rfl h1264) (by rw [hv1269, List.flatMap_append] <;> rfl) (app_len hv1269 h1264.hq) hb1270 rfl rfl fun A1265 c1266 h1267 => ?_) gn
                      refine wl_v 7 rfl (v_assign rfl) gn rfl ?_
                      refine w_end 8 rfl ?_
                      refine g_goto (c := words_Cut_c146) [.code (.seq .skip words_Cut_c21), .inScope words_Cut_c3] rfl rfl ?_
                      refine g_seq rfl ?_
                      refine g_skip rfl ?_
                      have ih := Out.inl hO1 h
                      exact g_go [0, 1] (ih A1265 (n440 + 1) c1266 h1267) ⟨rfl, rfl, rfl, trivial⟩ (.cons _ (.cons _ (.cons_cons _ (.slnil)))) rfl
                    · have h := if_neg' hp1261 h
                      refine g_true (c := words_Cut_c142) rfl _ rfl ((neib hp1261)) ?_
                      refine g_seq (c := words_Cut_c143) rfl ?_
                      refine g_region (c := words_Cut_c147) rfl rfl ?_
                      refine wl_v 0 rfl (v_move rfl) gn rfl ?_
                      refine wl_v 1 rfl (v_move rfl) gn rfl ?_
                      refine wl_v 2 rfl (v_assign rfl) gn rfl ?_
                      refine wl_v 3 rfl (v_assign rfl) gn rfl ?_
                      refine wl_v 4 rfl (v_assign rfl) gn rfl ?_
                      refine w_end 5 rfl ?_
                      refine g_nil 27 4 ?_
                      have h := Out.inr hO1 h
                      refine g_retR (c := words_Cut_c148) [.slice none 0 0, .int .i64 r1251.2.1, .int .i64 r1251.2.2] rfl Tryd.func16 rfl (.tmp rfl (.tmp rfl (.tmp rfl (.nil)))) fun wr hLr => ?_
                      have hMr : B.Loc w wr [.own (.slice none 0 0) 27 4 0 (([] : List api_Word).flatMap enc_api_Word)] [St w []] := hLr.pick (rest := [.own (.slice A1253 n1254 c1255) 5 1 n1254 (r1251.1.flatMap (eI .u8)), .own (.slice A439 n440 c441) 27 4 n440 (x438.flatMap enc_api_Word)]) (perm_of_idx [0] [1, 2] rfl rfl (by kernel_rfl)) (sels [1] rfl)
                      have hMi : ∀ e ∈ ([.own (.slice none 0 0) 27 4 0 (([] : List api_Word).flatMap enc_api_Word)] : List Ent), e ∈ ([.own (.slice none 0 0) 27 4 0 (([] : List api_Word).flatMap enc_api_Word), .own (.slice A1253 n1254 c1255) 5 1 n1254 (r1251.1.flatMap (eI .u8)), .own (.slice A439 n440 c441) 27 4 n440 (x438.flatMap enc_api_Word)] : List Ent) := sels [0] rfl
                      show words_Cut_R w F  r (.returned (packV [.slice none 0 0, .int .i64 r1251.2.1, .int .i64 r1251.2.2])) wr
                      rw [h]
                      exact ⟨none, 0, 0, rfl, hMr, (Ow.nil (z := w.heap.size))⟩
                  · have h := if_neg' hp1223 h
                    refine g_false (c := words_Cut_c133) rfl _ rfl ((nei hp1223)) ?_
                    refine g_seq (c := words_Cut_c135) rfl ?_
                    refine g_region (c := words_Cut_c149) rfl rfl ?_
                    refine wl_v 0 rfl (v_move rfl) gn rfl ?_
                    obtain ⟨r1274, hv1275, h⟩ := h
                    refine wl_s 1 rfl (s_call [.string (⟨#[123, 125, 40, 41, 124, 42, 43, 63, 58, 59, 44, 61, 64]⟩ : ByteArray), .int .u8 (bt x1 x443)] rfl Tryd.func29 rfl rfl rfl fun w1271 hL1272 => ?_) gn
                    have hp1273 : List.Perm ([.own (.slice A439 n440 c441) 27 4 n440 (x438.flatMap enc_api_Word)] : List Ent) (([] : List Ent) ++ ([.own (.slice A439 n440 c441) 27 4 n440 (x438.flatMap enc_api_Word)] : List Ent)) := perm_of_idx [] [0] rfl rfl (by kernel_rfl)
                    refine Calls.mono (strings_IndexByte_calls w1271 (Fl ([] : List Snap)) (⟨#[123, 125, 40, 41, 124, 42, 43, 63, 58, 59, 44, 61, 64]⟩ : ByteArray) (bt x1 x443) (hL1272.hFl (Sl := ([] : List Snap)) hp1273 (sels [] rfl)) (hL1272.into hp1273 (Fl ([] : List Snap))) r1274 hv1275) ?_
                    rintro _ w1276 ⟨rfl, hM1277⟩
                    have hL1278 := hL1272.call hp1273 hM1277
                    refine ⟨_, _, _, rfl, hL1278, ?_⟩
                    refine wl_v 2 rfl (v_bin rfl rfl rfl) gn rfl ?_
                    refine wl_v 3 rfl (v_assign rfl) gn rfl ?_
                    refine w_end 4 rfl ?_
                    by_cases hp1279 : r1274 ≥ 0
                    · have h := if_pos' hp1279 h
                      refine g_true (c := words_Cut_c150) rfl _ rfl ((decide_eq_true hp1279)) ?_
                      refine g_seq (c := words_Cut_c151) rfl ?_
                      refine g_region (c := words_Cut_c153) rfl rfl ?_
                      refine wl_v 0 rfl (v_move rfl) gn rfl ?_
                      refine wl_v 1 rfl (v_bin rfl rfl rfl) gn rfl ?_
                      refine wl_v 2 rfl (v_assign rfl) gn rfl ?_
                      refine w_end 3 rfl ?_
                      refine g_seq (c := words_Cut_c154) rfl ?_
                      refine g_region (c := words_Cut_c155) rfl rfl ?_
                      refine wl_v 0 rfl (v_move rfl) gn rfl ?_
                      refine wl_v 1 rfl (v_move rfl) gn rfl ?_
                      refine wl_v 2 rfl (v_move rfl) gn rfl ?_
                      refine wl_v 3 rfl (v_move rfl) gn rfl ?_
                      obtain ⟨hb1280, h⟩ := h
                      refine wl_v 4 rfl (v_cutS x443 (w64 (x443 + 1)) un_9 rfl (.inr ⟨_, _, rfl, rfl⟩) (.inr ⟨_, _, rfl, rfl⟩) ⟨hb1280.1, hb1280.2.1⟩ hb1280.2.2) gn rfl ?_
                      refine wl_v 5 rfl (v_move rfl) gn rfl ?_
                      refine wl_v 6 rfl (v_build #[.int .i64 5, .string (x1.extract (x443 : Int).toNat (w64 (x443 + 1) : Int).toNat), .int .i64 0, .int .i64 x443] bd_27 rfl (by kernel_rfl)) gn rfl ?_
                      refine wl_s 7 rfl (s_litO (xs := ([(⟨5, x1.extract (x443 : Int).toNat (w64 (x443 + 1) : Int).toNat, 0, x443⟩ : api_Word)] : List api_Word)) [.int .i64 5, .string (x1.extract (x443 : Int).toNat (w64 (x443 + 1) : Int).toNat), .int .i64 0, .int .i64 x443] bs_22_1 rfl (by kernel_rfl) rfl rfl rfl rfl fun gb1282 h1283 => ?_) gn
                      obtain ⟨x1287, hv1288, h⟩ := h
                      obtain ⟨hb1289, h⟩ := h
                      refine wl_s 8 rfl (s_app (zs := x1287) (cells' := x1287.flatMap enc_api_Word) 1 ap_22 rfl rfl rfl h442 (Nat.le_refl _) (Src.ownF (hl := hl_api_Word) (h1 := h1_api_Word) 0 rfl h1283) (by rw [hv1288, List.flatMap_append] <;> rfl) (app_len hv1288 h1283.hq) hb1289 rfl rfl fun A1284 c1285 h1286 => ?_) gn
                      refine wl_v 9 rfl (v_assign rfl) gn rfl ?_
                      refine w_end 10 rfl ?_
                      refine g_goto (c := words_Cut_c156) [.code (.seq .skip words_Cut_c21), .inScope words_Cut_c3] rfl rfl ?_
                      refine g_seq rfl ?_
                      refine g_skip rfl ?_
                      have ih := Out.inl hO1 h
                      exact g_go [0, 1] (ih A1284 (n440 + 1) c1285 h1286) ⟨rfl, rfl, rfl, trivial⟩ (.cons _ (.cons_cons _ (.slnil))) rfl
                    · have h := if_neg' hp1279 h
                      refine g_false (c := words_Cut_c150) rfl _ rfl ((decide_eq_false hp1279)) ?_
                      refine g_skip (c := words_Cut_c152) rfl ?_
                      refine g_inBlock ?_
                      refine g_seq (c := words_Cut_c33) rfl ?_
                      refine g_seq (c := words_Cut_c157) rfl ?_
                      refine g_region (c := words_Cut_c158) rfl rfl ?_
                      refine wl_v 0 rfl (v_move rfl) gn rfl ?_
                      refine wl_v 1 rfl (v_assign rfl) gn rfl ?_
                      refine wl_v 2 rfl (v_assign rfl) gn rfl ?_
                      refine wl_v 3 rfl (v_assign rfl) gn rfl ?_
                      refine w_end 4 rfl ?_
                      refine g_nil 27 4 ?_
                      have h := Out.inr hO1 h
                      refine g_retR (c := words_Cut_c159) [.slice none 0 0, .int .i64 81, .int .i64 x443] rfl Tryd.func16 rfl (.tmp rfl (.tmp rfl (.tmp rfl (.nil)))) fun wr hLr => ?_
                      have hMr : B.Loc w wr [.own (.slice none 0 0) 27 4 0 (([] : List api_Word).flatMap enc_api_Word)] [St w []] := hLr.pick (rest := [.own (.slice A439 n440 c441) 27 4 n440 (x438.flatMap enc_api_Word)]) (perm_of_idx [0] [1] rfl rfl (by kernel_rfl)) (sels [1] rfl)
                      have hMi : ∀ e ∈ ([.own (.slice none 0 0) 27 4 0 (([] : List api_Word).flatMap enc_api_Word)] : List Ent), e ∈ ([.own (.slice none 0 0) 27 4 0 (([] : List api_Word).flatMap enc_api_Word), .own (.slice A439 n440 c441) 27 4 n440 (x438.flatMap enc_api_Word)] : List Ent) := sels [0] rfl
                      show words_Cut_R w F  r (.returned (packV [.slice none 0 0, .int .i64 81, .int .i64 x443])) wr
                      rw [h]
                      exact ⟨none, 0, 0, rfl, hMr, (Ow.nil (z := w.heap.size))⟩
    refine g_nil 27 4 ?_
    exact g_go [0, 1] (key1 _ h none 0 0 (Ow.nil (z := w.heap.size))) ⟨rfl, rfl, rfl, trivial⟩ (.cons_cons _ (.slnil)) rfl
noncomputable abbrev trellislaw8_started_c0 : Code := bodyOf Tryd.f15
noncomputable abbrev trellislaw8_started_c1 : Code := Code.fst trellislaw8_started_c0
noncomputable abbrev trellislaw8_started_c2 : Code := Code.snd trellislaw8_started_c0
noncomputable abbrev trellislaw8_started_c3 : Code := Code.fst trellislaw8_started_c2
noncomputable abbrev trellislaw8_started_c4 : Code := Code.snd trellislaw8_started_c2
noncomputable abbrev trellislaw8_started_c5 : Code := Code.fst trellislaw8_started_c4
noncomputable abbrev trellislaw8_started_c6 : Code := Code.snd trellislaw8_started_c4
noncomputable abbrev trellislaw8_started_c7 : Code := Code.fst trellislaw8_started_c5
noncomputable abbrev trellislaw8_started_c8 : Code := Code.snd trellislaw8_started_c5
noncomputable abbrev trellislaw8_started_c9 : Code := Code.fst trellislaw8_started_c8
noncomputable abbrev trellislaw8_started_c10 : Code := Code.snd trellislaw8_started_c8
noncomputable abbrev trellislaw8_started_c11 : Code := Code.fst trellislaw8_started_c9
noncomputable abbrev trellislaw8_started_c12 : Code := Code.snd trellislaw8_started_c9
noncomputable abbrev trellislaw8_started_c13 : Code := Code.fst trellislaw8_started_c6
noncomputable abbrev trellislaw8_started_c14 : Code := Code.snd trellislaw8_started_c6
abbrev trellislaw8_started_R (w : World) (F : Nat → Prop) (r : Bool) : Ending → World → Prop := fun e w' => e = .returned (.bool r) ∧ B.Loc w w' [] [St w []]
noncomputable abbrev trellislaw8_started_C (w : World) (F : Nat → Prop) (r : Bool) : Cx := ⟨Tryd.prog, 15, Tryd.f15, 44, trellislaw8_started_R w F  r, w⟩
theorem trellislaw8_started_calls (w : World) (F : Nat → Prop)  (hG : Tb Tryd.prog (St w [])) (hF : ∀ b, F b → b < w.heap.size ∧ ∀ o ∈ ([] : List (List Nat)), b ∉ o) (hL0 : B.Loc w w [] [Sm w.heap.size F w [], St w []]) (r : Bool) (h : trellislaw8_started  r) : Calls Tryd.prog 15 #[] w (trellislaw8_started_R w F  r) := by
  unfold trellislaw8_started at h
  refine calls_of_Loc (vs := []) 44 Tryd.func15 rfl Tryd.ntmps15 rfl hL0 ?_
  show G (trellislaw8_started_C w F r) _ _ _ _
  refine g_seq (c := trellislaw8_started_c0) rfl ?_
  refine g_region (c := trellislaw8_started_c1) rfl rfl ?_
  refine wl_v 0 rfl (v_assign rfl) gn rfl ?_
  refine w_end 1 rfl ?_
  refine g_seq (c := trellislaw8_started_c2) rfl ?_
  refine g_region (c := trellislaw8_started_c3) rfl rfl ?_
  obtain ⟨r4, hv5, h⟩ := h
  refine wl_s 0 rfl (s_call [.string (⟨#[97, 32, 61, 32, 34, 92, 110, 34, 32, 47, 98, 47, 32, 48, 55, 59]⟩ : ByteArray)] rfl Tryd.func16 rfl rfl rfl fun w1 hL2 => ?_) gn
  have hp3 : List.Perm ([] : List Ent) (([] : List Ent) ++ ([] : List Ent)) := perm_of_idx [] [] rfl rfl (by kernel_rfl)
  refine Calls.mono (words_Cut_calls w1 (Fl ([] : List Snap)) (⟨#[97, 32, 61, 32, 34, 92, 110, 34, 32, 47, 98, 47, 32, 48, 55, 59]⟩ : ByteArray) (hL2.hFl (Sl := ([] : List Snap)) hp3 (sels [] rfl)) (hL2.into hp3 (Fl ([] : List Snap))) r4 hv5) ?_
  rintro _ w11 ⟨A6, n7, c8, rfl, hM12, h9⟩
  have hL13 := hL2.call hp3 hM12
  refine ⟨_, _, _, rfl, hL13, ?_⟩
  refine wl_v 1 rfl (v_move rfl) gn rfl ?_
  refine wl_v 2 rfl (v_extract rfl rfl) gn rfl ?_
  refine wl_v 3 rfl (v_extract rfl rfl) gn rfl ?_
  refine wl_v 4 rfl (v_extract rfl rfl) gn rfl ?_
  refine wl_v 5 rfl (v_assign rfl) gn rfl ?_
  refine wl_v 6 rfl (v_assign rfl) gn rfl ?_
  refine wl_v 7 rfl (v_assign rfl) gn rfl ?_
  refine w_end 8 rfl ?_
  refine g_seq (c := trellislaw8_started_c4) rfl ?_
  refine g_seq (c := trellislaw8_started_c5) rfl ?_
  have j1 : ∀ (x23 : Bool) (h : trellislaw8_started_j1 r4 x23 r) , G (trellislaw8_started_C w F r) [.code trellislaw8_started_c8, .code trellislaw8_started_c6] [(1, .slice A6 n7 c8), (40, .bool x23)] [.own (.slice A6 n7 c8) 27 4 n7 (r4.1.flatMap enc_api_Word)] [Sm w.heap.size F w [], St w []] := by
    intro x23 h
    unfold trellislaw8_started_j1 at h
    by_cases hp24 : x23 = true
    · have h := if_pos' hp24 h
      refine g_true (c := trellislaw8_started_c8) rfl _ rfl (hp24) ?_
      refine g_seq (c := trellislaw8_started_c9) rfl ?_
      refine g_region (c := trellislaw8_started_c11) rfl rfl ?_
      refine wl_v 0 rfl (v_assign rfl) gn rfl ?_
      refine w_end 1 rfl ?_
      refine g_retR (c := trellislaw8_started_c12) [.bool false] rfl Tryd.func15 rfl (.tmp rfl (.nil)) fun wr hLr => ?_
      have hMr : B.Loc w wr [] [St w []] := hLr.pick (rest := [.own (.slice A6 n7 c8) 27 4 n7 (r4.1.flatMap enc_api_Word)]) (perm_of_idx [] [0] rfl rfl (by kernel_rfl)) (sels [1] rfl)
      have hMi : ∀ e ∈ ([] : List Ent), e ∈ ([.own (.slice A6 n7 c8) 27 4 n7 (r4.1.flatMap enc_api_Word)] : List Ent) := sels [] rfl
      show trellislaw8_started_R w F  r (.returned (packV [.bool false])) wr
      rw [h]
      exact ⟨rfl, hMr⟩
    · have h := if_neg' hp24 h
      refine g_false (c := trellislaw8_started_c8) rfl _ rfl ((bf hp24)) ?_
      refine g_skip (c := trellislaw8_started_c10) rfl ?_
      refine g_seq (c := trellislaw8_started_c6) rfl ?_
      refine g_region (c := trellislaw8_started_c13) rfl rfl ?_
      refine wl_v 0 rfl (v_move rfl) gn rfl ?_
      obtain ⟨r28, hv29, h⟩ := h
      refine wl_s 1 rfl (s_call [.slice A6 n7 c8] rfl Tryd.func12 rfl rfl rfl fun w25 hL26 => ?_) gn
      have hp27 : List.Perm ([.own (.slice A6 n7 c8) 27 4 n7 (r4.1.flatMap enc_api_Word)] : List Ent) (([] : List Ent) ++ ([.own (.slice A6 n7 c8) 27 4 n7 (r4.1.flatMap enc_api_Word)] : List Ent)) := perm_of_idx [] [0] rfl rfl (by kernel_rfl)
      refine Calls.mono (words_Join_calls w25 (Fl ([] : List Snap)) r4.1 A6 n7 c8 (hL26.argO (dk := k_api_Word) hp27 [] rfl 0 rfl rfl (Ow.weak hL2.env.size h9) (me 0 rfl) (Cells.flat _)) (hL26.tb hp27 hG (me 1 rfl)) (hL26.hFl (Sl := ([] : List Snap)) hp27 (sels [] rfl)) (hL26.into hp27 (Fl ([] : List Snap))) r28 hv29) ?_
      rintro _ w30 ⟨rfl, hM31⟩
      have hL32 := hL26.call hp27 hM31
      refine ⟨_, _, _, rfl, hL32, ?_⟩
      refine wl_v 2 rfl (v_eqS rfl rfl) gn rfl ?_
      refine wl_v 3 rfl (v_assign rfl) gn rfl ?_
      refine w_end 4 rfl ?_
      refine g_retR (c := trellislaw8_started_c14) [.bool (seq r28 (⟨#[97, 32, 61, 32, 34, 92, 110, 34, 32, 47, 98, 47, 32, 55, 32, 59]⟩ : ByteArray))] rfl Tryd.func15 rfl (.tmp rfl (.nil)) fun wr hLr => ?_
      have hMr : B.Loc w wr [] [St w []] := hLr.pick (rest := [.own (.slice A6 n7 c8) 27 4 n7 (r4.1.flatMap enc_api_Word)]) (perm_of_idx [] [0] rfl rfl (by kernel_rfl)) (sels [1] rfl)
      have hMi : ∀ e ∈ ([] : List Ent), e ∈ ([.own (.slice A6 n7 c8) 27 4 n7 (r4.1.flatMap enc_api_Word)] : List Ent) := sels [] rfl
      show trellislaw8_started_R w F  r (.returned (packV [.bool (seq r28 (⟨#[97, 32, 61, 32, 34, 92, 110, 34, 32, 47, 98, 47, 32, 55, 32, 59]⟩ : ByteArray))])) wr
      rw [h]
      exact ⟨rfl, hMr⟩
  refine g_region (c := trellislaw8_started_c7) rfl rfl ?_
  refine wl_v 0 rfl (v_move rfl) gn rfl ?_
  refine wl_v 1 rfl (v_bin rfl rfl rfl) gn rfl ?_
  refine wl_v 2 rfl (v_move rfl) gn rfl ?_
  by_cases hp33 : r4.2.1 = 0
  · have h := if_pos' hp33 h
    refine w_bool 11 rfl ((eqib hp33)) ?_
    refine wl_v 3 rfl (v_move rfl) (gy 11 rfl rfl) rfl ?_
    refine wl_v 4 rfl (v_bin rfl rfl rfl) (gy 11 rfl rfl) rfl ?_
    refine wl_v 5 rfl (v_pick (b := false) rfl rfl) gn rfl ?_
    refine wl_v 6 rfl (v_move rfl) gn rfl ?_
    by_cases hp34 : r4.2.2 = 0
    · have h := if_pos' hp34 h
      refine w_bool 15 rfl ((eqib hp34)) ?_
      refine wl_v 7 rfl (v_move rfl) (gy 15 rfl rfl) rfl ?_
      refine wl_v 8 rfl (v_lenQ un_22 rfl (Ow.weak hL2.env.size h9).hq) (gy 15 rfl rfl) rfl ?_
      refine wl_v 9 rfl (v_bin rfl rfl rfl) (gy 15 rfl rfl) rfl ?_
      refine wl_v 10 rfl (v_pick (b := false) rfl rfl) gn rfl ?_
      refine wl_v 11 rfl (v_move rfl) gn rfl ?_
      by_cases hp35 : (r4.1.length : Int) = 6
      · have h := if_pos' hp35 h
        refine w_bool 20 rfl ((eqib hp35)) ?_
        refine wl_v 12 rfl (v_move rfl) (gy 20 rfl rfl) rfl ?_
        obtain ⟨hb36, h⟩ := h
        refine wl_v 13 rfl (v_idxO slE_22 rfl rfl (Ow.weak hL2.env.size h9) hb36) (gy 20 rfl rfl) rfl ?_
        refine wl_v 14 rfl (v_fldA fo_27_1 rfl) (gy 20 rfl rfl) rfl ?_
        refine wl_v 15 rfl (v_ldO1 (.string ((ix r4.1 2).text)) 0 ld_9 rfl rfl (fm_get hl_api_Word hb36 rfl)) (gy 20 rfl rfl) rfl ?_
        refine wl_v 16 rfl (v_neS rfl rfl) (gy 20 rfl rfl) rfl ?_
        refine wl_v 17 rfl (v_pick (b := false) rfl rfl) gn rfl ?_
        refine wl_v 18 rfl (v_move rfl) gn rfl ?_
        by_cases hp37 : (ix r4.1 2).text = (⟨#[10]⟩ : ByteArray)
        · have h := if_pos' hp37 h
          refine w_bool 27 rfl ((nf (seq_t hp37))) ?_
          refine wl_v 19 rfl (v_move rfl) (gy 27 rfl rfl) rfl ?_
          obtain ⟨hb38, h⟩ := h
          refine wl_v 20 rfl (v_idxO slE_22 rfl rfl (Ow.weak hL2.env.size h9) hb38) (gy 27 rfl rfl) rfl ?_
          refine wl_v 21 rfl (v_fldA fo_27_2 rfl) (gy 27 rfl rfl) rfl ?_
          refine wl_v 22 rfl (v_ldO1 (.int .i64 ((ix r4.1 4).n)) 0 ld_3 rfl rfl (fm_get hl_api_Word hb38 rfl)) (gy 27 rfl rfl) rfl ?_
          refine wl_v 23 rfl (v_bin rfl rfl rfl) (gy 27 rfl rfl) rfl ?_
          refine wl_v 24 rfl (v_pick (b := false) rfl rfl) gn rfl ?_
          refine wl_v 25 rfl (v_move rfl) gn rfl ?_
          by_cases hp39 : (ix r4.1 4).n = 7
          · have h := if_pos' hp39 h
            refine w_bool 34 rfl ((eqib hp39)) ?_
            refine wl_v 26 rfl (v_move rfl) (gy 34 rfl rfl) rfl ?_
            obtain ⟨hb40, h⟩ := h
            refine wl_v 27 rfl (v_idxO slE_22 rfl rfl (Ow.weak hL2.env.size h9) hb40) (gy 34 rfl rfl) rfl ?_
            refine wl_v 28 rfl (v_fldA fo_27_3 rfl) (gy 34 rfl rfl) rfl ?_
            refine wl_v 29 rfl (v_ldO1 (.int .i64 ((ix r4.1 5).at_)) 0 ld_3 rfl rfl (fm_get hl_api_Word hb40 rfl)) (gy 34 rfl rfl) rfl ?_
            refine wl_v 30 rfl (v_bin rfl rfl rfl) (gy 34 rfl rfl) rfl ?_
            refine wl_v 31 rfl (v_pick (b := false) rfl rfl) gn rfl ?_
            refine w_end 32 rfl ?_
            exact g_go [0, 1] (j1 (((ix r4.1 5).at_) != 15) h) ⟨rfl, rfl, trivial⟩ (.cons_cons _ (.slnil)) rfl
          · have h := if_neg' hp39 h
            refine w_bool 34 rfl ((neib hp39)) ?_
            refine wl_pass 26 rfl (ps 34 rfl rfl rfl) ?_
            refine wl_pass 27 rfl (ps 34 rfl rfl rfl) ?_
            refine wl_pass 28 rfl (ps 34 rfl rfl rfl) ?_
            refine wl_pass 29 rfl (ps 34 rfl rfl rfl) ?_
            refine wl_pass 30 rfl (ps 34 rfl rfl rfl) ?_
            refine wl_v 31 rfl (v_pick (b := true) rfl rfl) gn rfl ?_
            refine w_end 32 rfl ?_
            exact g_go [0, 1] (j1 true h) ⟨rfl, rfl, trivial⟩ (.cons_cons _ (.slnil)) rfl
        · have h := if_neg' hp37 h
          refine w_bool 27 rfl ((nt (seq_f hp37))) ?_
          refine wl_pass 19 rfl (ps 27 rfl rfl rfl) ?_
          refine wl_pass 20 rfl (ps 27 rfl rfl rfl) ?_
          refine wl_pass 21 rfl (ps 27 rfl rfl rfl) ?_
          refine wl_pass 22 rfl (ps 27 rfl rfl rfl) ?_
          refine wl_pass 23 rfl (ps 27 rfl rfl rfl) ?_
          refine wl_v 24 rfl (v_pick (b := true) rfl rfl) gn rfl ?_
          refine wl_v 25 rfl (v_move rfl) gn rfl ?_
          refine wl_pass 26 rfl (ps 34 rfl rfl rfl) ?_
          refine wl_pass 27 rfl (ps 34 rfl rfl rfl) ?_
          refine wl_pass 28 rfl (ps 34 rfl rfl rfl) ?_
          refine wl_pass 29 rfl (ps 34 rfl rfl rfl) ?_
          refine wl_pass 30 rfl (ps 34 rfl rfl rfl) ?_
          refine wl_v 31 rfl (v_pick (b := true) rfl rfl) gn rfl ?_
          refine w_end 32 rfl ?_
          exact g_go [0, 1] (j1 true h) ⟨rfl, rfl, trivial⟩ (.cons_cons _ (.slnil)) rfl
      · have h := if_neg' hp35 h
        refine w_bool 20 rfl ((neib hp35)) ?_
        refine wl_pass 12 rfl (ps 20 rfl rfl rfl) ?_
        refine wl_pass 13 rfl (ps 20 rfl rfl rfl) ?_
        refine wl_pass 14 rfl (ps 20 rfl rfl rfl) ?_
        refine wl_pass 15 rfl (ps 20 rfl rfl rfl) ?_
        refine wl_pass 16 rfl (ps 20 rfl rfl rfl) ?_
        refine wl_v 17 rfl (v_pick (b := true) rfl rfl) gn rfl ?_
        refine wl_v 18 rfl (v_move rfl) gn rfl ?_
        refine wl_pass 19 rfl (ps 27 rfl rfl rfl) ?_
        refine wl_pass 20 rfl (ps 27 rfl rfl rfl) ?_
        refine wl_pass 21 rfl (ps 27 rfl rfl rfl) ?_
        refine wl_pass 22 rfl (ps 27 rfl rfl rfl) ?_
        refine wl_pass 23 rfl (ps 27 rfl rfl rfl) ?_
        refine wl_v 24 rfl (v_pick (b := true) rfl rfl) gn rfl ?_
        refine wl_v 25 rfl (v_move rfl) gn rfl ?_
        refine wl_pass 26 rfl (ps 34 rfl rfl rfl) ?_
        refine wl_pass 27 rfl (ps 34 rfl rfl rfl) ?_
        refine wl_pass 28 rfl (ps 34 rfl rfl rfl) ?_
        refine wl_pass 29 rfl (ps 34 rfl rfl rfl) ?_
        refine wl_pass 30 rfl (ps 34 rfl rfl rfl) ?_
        refine wl_v 31 rfl (v_pick (b := true) rfl rfl) gn rfl ?_
        refine w_end 32 rfl ?_
        exact g_go [0, 1] (j1 true h) ⟨rfl, rfl, trivial⟩ (.cons_cons _ (.slnil)) rfl
    · have h := if_neg' hp34 h
      refine w_bool 15 rfl ((neib hp34)) ?_
      refine wl_pass 7 rfl (ps 15 rfl rfl rfl) ?_
      refine wl_pass 8 rfl (ps 15 rfl rfl rfl) ?_
      refine wl_pass 9 rfl (ps 15 rfl rfl rfl) ?_
      refine wl_v 10 rfl (v_pick (b := true) rfl rfl) gn rfl ?_
      refine wl_v 11 rfl (v_move rfl) gn rfl ?_
      refine wl_pass 12 rfl (ps 20 rfl rfl rfl) ?_
      refine wl_pass 13 rfl (ps 20 rfl rfl rfl) ?_
      refine wl_pass 14 rfl (ps 20 rfl rfl rfl) ?_
      refine wl_pass 15 rfl (ps 20 rfl rfl rfl) ?_
      refine wl_pass 16 rfl (ps 20 rfl rfl rfl) ?_
      refine wl_v 17 rfl (v_pick (b := true) rfl rfl) gn rfl ?_
      refine wl_v 18 rfl (v_move rfl) gn rfl ?_
      refine wl_pass 19 rfl (ps 27 rfl rfl rfl) ?_
      refine wl_pass 20 rfl (ps 27 rfl rfl rfl) ?_
      refine wl_pass 21 rfl (ps 27 rfl rfl rfl) ?_
      refine wl_pass 22 rfl (ps 27 rfl rfl rfl) ?_
      refine wl_pass 23 rfl (ps 27 rfl rfl rfl) ?_
      refine wl_v 24 rfl (v_pick (b := true) rfl rfl) gn rfl ?_
      refine wl_v 25 rfl (v_move rfl) gn rfl ?_
      refine wl_pass 26 rfl (ps 34 rfl rfl rfl) ?_
      refine wl_pass 27 rfl (ps 34 rfl rfl rfl) ?_
      refine wl_pass 28 rfl (ps 34 rfl rfl rfl) ?_
      refine wl_pass 29 rfl (ps 34 rfl rfl rfl) ?_
      refine wl_pass 30 rfl (ps 34 rfl rfl rfl) ?_
      refine wl_v 31 rfl (v_pick (b := true) rfl rfl) gn rfl ?_
      refine w_end 32 rfl ?_
      exact g_go [0, 1] (j1 true h) ⟨rfl, rfl, trivial⟩ (.cons_cons _ (.slnil)) rfl
  · have h := if_neg' hp33 h
    refine w_bool 11 rfl ((neib hp33)) ?_
    refine wl_pass 3 rfl (ps 11 rfl rfl rfl) ?_
    refine wl_pass 4 rfl (ps 11 rfl rfl rfl) ?_
    refine wl_v 5 rfl (v_pick (b := true) rfl rfl) gn rfl ?_
    refine wl_v 6 rfl (v_move rfl) gn rfl ?_
    refine wl_pass 7 rfl (ps 15 rfl rfl rfl) ?_
    refine wl_pass 8 rfl (ps 15 rfl rfl rfl) ?_
    refine wl_pass 9 rfl (ps 15 rfl rfl rfl) ?_
    refine wl_v 10 rfl (v_pick (b := true) rfl rfl) gn rfl ?_
    refine wl_v 11 rfl (v_move rfl) gn rfl ?_
    refine wl_pass 12 rfl (ps 20 rfl rfl rfl) ?_
    refine wl_pass 13 rfl (ps 20 rfl rfl rfl) ?_
    refine wl_pass 14 rfl (ps 20 rfl rfl rfl) ?_
    refine wl_pass 15 rfl (ps 20 rfl rfl rfl) ?_
    refine wl_pass 16 rfl (ps 20 rfl rfl rfl) ?_
    refine wl_v 17 rfl (v_pick (b := true) rfl rfl) gn rfl ?_
    refine wl_v 18 rfl (v_move rfl) gn rfl ?_
    refine wl_pass 19 rfl (ps 27 rfl rfl rfl) ?_
    refine wl_pass 20 rfl (ps 27 rfl rfl rfl) ?_
    refine wl_pass 21 rfl (ps 27 rfl rfl rfl) ?_
    refine wl_pass 22 rfl (ps 27 rfl rfl rfl) ?_
    refine wl_pass 23 rfl (ps 27 rfl rfl rfl) ?_
    refine wl_v 24 rfl (v_pick (b := true) rfl rfl) gn rfl ?_
    refine wl_v 25 rfl (v_move rfl) gn rfl ?_
    refine wl_pass 26 rfl (ps 34 rfl rfl rfl) ?_
    refine wl_pass 27 rfl (ps 34 rfl rfl rfl) ?_
    refine wl_pass 28 rfl (ps 34 rfl rfl rfl) ?_
    refine wl_pass 29 rfl (ps 34 rfl rfl rfl) ?_
    refine wl_pass 30 rfl (ps 34 rfl rfl rfl) ?_
    refine wl_v 31 rfl (v_pick (b := true) rfl rfl) gn rfl ?_
    refine w_end 32 rfl ?_
    exact g_go [0, 1] (j1 true h) ⟨rfl, rfl, trivial⟩ (.cons_cons _ (.slnil)) rfl
noncomputable abbrev trellislaw8_WordsBack_c0 : Code := bodyOf Tryd.f4
noncomputable abbrev trellislaw8_WordsBack_c1 : Code := Code.fst trellislaw8_WordsBack_c0
noncomputable abbrev trellislaw8_WordsBack_c2 : Code := Code.snd trellislaw8_WordsBack_c0
noncomputable abbrev trellislaw8_WordsBack_c3 : Code := Code.fst trellislaw8_WordsBack_c2
noncomputable abbrev trellislaw8_WordsBack_c4 : Code := Code.snd trellislaw8_WordsBack_c2
noncomputable abbrev trellislaw8_WordsBack_c5 : Code := Code.fst trellislaw8_WordsBack_c3
noncomputable abbrev trellislaw8_WordsBack_c6 : Code := Code.snd trellislaw8_WordsBack_c3
noncomputable abbrev trellislaw8_WordsBack_c7 : Code := Code.fst trellislaw8_WordsBack_c6
noncomputable abbrev trellislaw8_WordsBack_c8 : Code := Code.snd trellislaw8_WordsBack_c6
noncomputable abbrev trellislaw8_WordsBack_c9 : Code := Code.fst trellislaw8_WordsBack_c4
noncomputable abbrev trellislaw8_WordsBack_c10 : Code := Code.snd trellislaw8_WordsBack_c4
noncomputable abbrev trellislaw8_WordsBack_c11 : Code := Code.fst trellislaw8_WordsBack_c10
noncomputable abbrev trellislaw8_WordsBack_c12 : Code := Code.snd trellislaw8_WordsBack_c10
noncomputable abbrev trellislaw8_WordsBack_c13 : Code := Code.fst trellislaw8_WordsBack_c12
noncomputable abbrev trellislaw8_WordsBack_c14 : Code := Code.snd trellislaw8_WordsBack_c12
noncomputable abbrev trellislaw8_WordsBack_c15 : Code := Code.fst trellislaw8_WordsBack_c14
noncomputable abbrev trellislaw8_WordsBack_c16 : Code := Code.snd trellislaw8_WordsBack_c14
noncomputable abbrev trellislaw8_WordsBack_c17 : Code := Code.fst trellislaw8_WordsBack_c15
noncomputable abbrev trellislaw8_WordsBack_c18 : Code := Code.snd trellislaw8_WordsBack_c15
noncomputable abbrev trellislaw8_WordsBack_c19 : Code := Code.fst trellislaw8_WordsBack_c18
noncomputable abbrev trellislaw8_WordsBack_c20 : Code := Code.fst trellislaw8_WordsBack_c19
noncomputable abbrev trellislaw8_WordsBack_c21 : Code := Code.fst trellislaw8_WordsBack_c20
noncomputable abbrev trellislaw8_WordsBack_c22 : Code := Code.snd trellislaw8_WordsBack_c20
noncomputable abbrev trellislaw8_WordsBack_c23 : Code := Code.fst trellislaw8_WordsBack_c21
noncomputable abbrev trellislaw8_WordsBack_c24 : Code := Code.snd trellislaw8_WordsBack_c21
noncomputable abbrev trellislaw8_WordsBack_c25 : Code := Code.fst trellislaw8_WordsBack_c24
noncomputable abbrev trellislaw8_WordsBack_c26 : Code := Code.snd trellislaw8_WordsBack_c24
noncomputable abbrev trellislaw8_WordsBack_c27 : Code := Code.fst trellislaw8_WordsBack_c22
noncomputable abbrev trellislaw8_WordsBack_c28 : Code := Code.snd trellislaw8_WordsBack_c22
noncomputable abbrev trellislaw8_WordsBack_c29 : Code := Code.fst trellislaw8_WordsBack_c27
noncomputable abbrev trellislaw8_WordsBack_c30 : Code := Code.fst trellislaw8_WordsBack_c29
noncomputable abbrev trellislaw8_WordsBack_c31 : Code := Code.snd trellislaw8_WordsBack_c29
noncomputable abbrev trellislaw8_WordsBack_c32 : Code := Code.fst trellislaw8_WordsBack_c31
noncomputable abbrev trellislaw8_WordsBack_c33 : Code := Code.snd trellislaw8_WordsBack_c31
noncomputable abbrev trellislaw8_WordsBack_c34 : Code := Code.fst trellislaw8_WordsBack_c32
noncomputable abbrev trellislaw8_WordsBack_c35 : Code := Code.snd trellislaw8_WordsBack_c32
noncomputable abbrev trellislaw8_WordsBack_c36 : Code := Code.fst trellislaw8_WordsBack_c35
noncomputable abbrev trellislaw8_WordsBack_c37 : Code := Code.snd trellislaw8_WordsBack_c35
noncomputable abbrev trellislaw8_WordsBack_c38 : Code := Code.fst trellislaw8_WordsBack_c36
noncomputable abbrev trellislaw8_WordsBack_c39 : Code := Code.snd trellislaw8_WordsBack_c36
noncomputable abbrev trellislaw8_WordsBack_c40 : Code := Code.fst trellislaw8_WordsBack_c33
noncomputable abbrev trellislaw8_WordsBack_c41 : Code := Code.snd trellislaw8_WordsBack_c33
noncomputable abbrev trellislaw8_WordsBack_c42 : Code := Code.fst trellislaw8_WordsBack_c41
noncomputable abbrev trellislaw8_WordsBack_c43 : Code := Code.snd trellislaw8_WordsBack_c41
noncomputable abbrev trellislaw8_WordsBack_c44 : Code := Code.fst trellislaw8_WordsBack_c42
noncomputable abbrev trellislaw8_WordsBack_c45 : Code := Code.snd trellislaw8_WordsBack_c42
noncomputable abbrev trellislaw8_WordsBack_c46 : Code := Code.fst trellislaw8_WordsBack_c45
noncomputable abbrev trellislaw8_WordsBack_c47 : Code := Code.snd trellislaw8_WordsBack_c45
noncomputable abbrev trellislaw8_WordsBack_c48 : Code := Code.fst trellislaw8_WordsBack_c46
noncomputable abbrev trellislaw8_WordsBack_c49 : Code := Code.snd trellislaw8_WordsBack_c46
noncomputable abbrev trellislaw8_WordsBack_c50 : Code := Code.fst trellislaw8_WordsBack_c43
noncomputable abbrev trellislaw8_WordsBack_c51 : Code := Code.snd trellislaw8_WordsBack_c43
noncomputable abbrev trellislaw8_WordsBack_c52 : Code := Code.fst trellislaw8_WordsBack_c16
noncomputable abbrev trellislaw8_WordsBack_c53 : Code := Code.snd trellislaw8_WordsBack_c16
noncomputable abbrev trellislaw8_WordsBack_c54 : Code := Code.fst trellislaw8_WordsBack_c52
noncomputable abbrev trellislaw8_WordsBack_c55 : Code := Code.snd trellislaw8_WordsBack_c52
noncomputable abbrev trellislaw8_WordsBack_c56 : Code := Code.fst trellislaw8_WordsBack_c55
noncomputable abbrev trellislaw8_WordsBack_c57 : Code := Code.snd trellislaw8_WordsBack_c55
noncomputable abbrev trellislaw8_WordsBack_c58 : Code := Code.fst trellislaw8_WordsBack_c56
noncomputable abbrev trellislaw8_WordsBack_c59 : Code := Code.snd trellislaw8_WordsBack_c56
noncomputable abbrev trellislaw8_WordsBack_c60 : Code := Code.fst trellislaw8_WordsBack_c53
noncomputable abbrev trellislaw8_WordsBack_c61 : Code := Code.snd trellislaw8_WordsBack_c53
noncomputable abbrev trellislaw8_WordsBack_c62 : Code := Code.fst trellislaw8_WordsBack_c61
noncomputable abbrev trellislaw8_WordsBack_c63 : Code := Code.snd trellislaw8_WordsBack_c61
noncomputable abbrev trellislaw8_WordsBack_c64 : Code := Code.fst trellislaw8_WordsBack_c62
noncomputable abbrev trellislaw8_WordsBack_c65 : Code := Code.snd trellislaw8_WordsBack_c62
noncomputable abbrev trellislaw8_WordsBack_c66 : Code := Code.fst trellislaw8_WordsBack_c65
noncomputable abbrev trellislaw8_WordsBack_c67 : Code := Code.snd trellislaw8_WordsBack_c65
noncomputable abbrev trellislaw8_WordsBack_c68 : Code := Code.fst trellislaw8_WordsBack_c66
noncomputable abbrev trellislaw8_WordsBack_c69 : Code := Code.snd trellislaw8_WordsBack_c66
noncomputable abbrev trellislaw8_WordsBack_c70 : Code := Code.fst trellislaw8_WordsBack_c63
noncomputable abbrev trellislaw8_WordsBack_c71 : Code := Code.snd trellislaw8_WordsBack_c63
noncomputable abbrev trellislaw8_WordsBack_c72 : Code := Code.fst trellislaw8_WordsBack_c7
noncomputable abbrev trellislaw8_WordsBack_c73 : Code := Code.snd trellislaw8_WordsBack_c7
abbrev trellislaw8_WordsBack_R (w : World) (F : Nat → Prop) (r : Bool) : Ending → World → Prop := fun e w' => e = .returned (.bool r) ∧ B.Loc w w' [] [St w []]
noncomputable abbrev trellislaw8_WordsBack_C (w : World) (F : Nat → Prop) (r : Bool) : Cx := ⟨Tryd.prog, 4, Tryd.f4, 106, trellislaw8_WordsBack_R w F  r, w⟩
theorem trellislaw8_WordsBack_calls (w : World) (F : Nat → Prop) (x1 : List api_Word) (A2 : Option Addr) (n3 : Nat) (c4 : Nat) (h5 : Rw k_api_Word w (St w []).av A2 n3 c4 x1) (hG : Tb Tryd.prog (St w [])) (hF : ∀ b, F b → b < w.heap.size ∧ ∀ o ∈ ([] : List (List Nat)), b ∉ o) (hL0 : B.Loc w w [] [Sm w.heap.size F w [], St w []]) (r : Bool) (h : trellislaw8_WordsBack x1 r) : Calls Tryd.prog 4 #[.slice A2 n3 c4] w (trellislaw8_WordsBack_R w F  r) := by
  unfold trellislaw8_WordsBack at h
  refine calls_of_Loc (vs := [.slice A2 n3 c4]) 106 Tryd.func4 rfl Tryd.ntmps4 rfl hL0 ?_
  show G (trellislaw8_WordsBack_C w F r) _ _ _ _
  refine g_seq (c := trellislaw8_WordsBack_c0) rfl ?_
  refine g_region (c := trellislaw8_WordsBack_c1) rfl rfl ?_
  refine wl_v 0 rfl (v_assign rfl) gn rfl ?_
  refine w_end 1 rfl ?_
  refine g_seq (c := trellislaw8_WordsBack_c2) rfl ?_
  refine g_seq (c := trellislaw8_WordsBack_c3) rfl ?_
  refine g_region (c := trellislaw8_WordsBack_c5) rfl rfl ?_
  obtain ⟨r9, hv10, h⟩ := h
  refine wl_s 0 rfl (s_call [] rfl Tryd.func15 rfl rfl rfl fun w6 hL7 => ?_) gn
  have hp8 : List.Perm ([] : List Ent) (([] : List Ent) ++ ([] : List Ent)) := perm_of_idx [] [] rfl rfl (by kernel_rfl)
  refine Calls.mono (trellislaw8_started_calls w6 (Fl ([] : List Snap)) (hL7.tb hp8 hG (me 1 rfl)) (hL7.hFl (Sl := ([] : List Snap)) hp8 (sels [] rfl)) (hL7.into hp8 (Fl ([] : List Snap))) r9 hv10) ?_
  rintro _ w11 ⟨rfl, hM12⟩
  have hL13 := hL7.call hp8 hM12
  refine ⟨_, _, _, rfl, hL13, ?_⟩
  refine wl_v 1 rfl (v_not rfl) gn rfl ?_
  refine w_end 2 rfl ?_
  by_cases hp14 : r9 = true
  · have h := if_pos' hp14 h
    refine g_false (c := trellislaw8_WordsBack_c6) rfl _ rfl ((nf hp14)) ?_
    refine g_skip (c := trellislaw8_WordsBack_c8) rfl ?_
    refine g_seq (c := trellislaw8_WordsBack_c4) rfl ?_
    refine g_region (c := trellislaw8_WordsBack_c9) rfl rfl ?_
    refine wl_v 0 rfl (v_move rfl) gn rfl ?_
    obtain ⟨r18, hv19, h⟩ := h
    refine wl_s 1 rfl (s_call [.slice A2 n3 c4] rfl Tryd.func12 rfl rfl rfl fun w15 hL16 => ?_) gn
    have hp17 : List.Perm ([] : List Ent) (([] : List Ent) ++ ([] : List Ent)) := perm_of_idx [] [] rfl rfl (by kernel_rfl)
    refine Calls.mono (words_Join_calls w15 (Fl ([] : List Snap)) x1 A2 n3 c4 (Rw.mono h5 (hL16.toSt hp17 (me 1 rfl))) (hL16.tb hp17 hG (me 1 rfl)) (hL16.hFl (Sl := ([] : List Snap)) hp17 (sels [] rfl)) (hL16.into hp17 (Fl ([] : List Snap))) r18 hv19) ?_
    rintro _ w20 ⟨rfl, hM21⟩
    have hL22 := hL16.call hp17 hM21
    refine ⟨_, _, _, rfl, hL22, ?_⟩
    refine wl_v 2 rfl (v_assign rfl) gn rfl ?_
    refine w_end 3 rfl ?_
    refine g_seq (c := trellislaw8_WordsBack_c10) rfl ?_
    refine g_region (c := trellislaw8_WordsBack_c11) rfl rfl ?_
    refine wl_v 0 rfl (v_assign rfl) gn rfl ?_
    refine w_end 1 rfl ?_
    refine g_seq (c := trellislaw8_WordsBack_c12) rfl ?_
    refine g_region (c := trellislaw8_WordsBack_c13) rfl rfl ?_
    refine wl_v 0 rfl (v_assign rfl) gn rfl ?_
    refine w_end 1 rfl ?_
    refine g_seq (c := trellislaw8_WordsBack_c14) rfl ?_
    refine g_seq (c := trellislaw8_WordsBack_c15) rfl ?_
    refine g_region (c := trellislaw8_WordsBack_c17) rfl rfl ?_
    refine wl_v 0 rfl (v_assign rfl) gn rfl ?_
    refine w_end 1 rfl ?_
    refine g_block (c := trellislaw8_WordsBack_c18) rfl ?_
    refine g_loop (c := trellislaw8_WordsBack_c19) rfl ?_
    have key1 : ∀ s, Rounds (fun (s : Int × (List api_Word) × Int) o => trellislaw8_WordsBack_b1 x1 r18 s.1 s.2.1 s.2.2 o) s r → (fun (s : Int × (List api_Word) × Int) => ∀ (A98 : Option Addr) (n99 : Nat) (c100 : Nat) (h101 : Ow w.heap.size A98 n99 c100 s.2.1), G (trellislaw8_WordsBack_C w F r) [.code trellislaw8_WordsBack_c20, .inLoop trellislaw8_WordsBack_c20, .inBlock 0, .code trellislaw8_WordsBack_c16] [(0, .slice A2 n3 c4), (3, .string r18), (4, .int .i64 s.1), (5, .slice A98 n99 c100), (6, .int .i64 s.2.2)] [.own (.slice A98 n99 c100) 27 4 n99 (s.2.1.flatMap enc_api_Word)] [Sm w.heap.size F w [], St w []]) s := by
      intro s hs
      refine Rounds.ind (mot := (fun (s : Int × (List api_Word) × Int) => ∀ (A98 : Option Addr) (n99 : Nat) (c100 : Nat) (h101 : Ow w.heap.size A98 n99 c100 s.2.1), G (trellislaw8_WordsBack_C w F r) [.code trellislaw8_WordsBack_c20, .inLoop trellislaw8_WordsBack_c20, .inBlock 0, .code trellislaw8_WordsBack_c16] [(0, .slice A2 n3 c4), (3, .string r18), (4, .int .i64 s.1), (5, .slice A98 n99 c100), (6, .int .i64 s.2.2)] [.own (.slice A98 n99 c100) 27 4 n99 (s.2.1.flatMap enc_api_Word)] [Sm w.heap.size F w [], St w []])) ?_ hs
      clear hs s
      intro s o1 h hO1
      obtain ⟨x96, x97, x102⟩ := s
      show ∀ (A98 : Option Addr) (n99 : Nat) (c100 : Nat) (h101 : Ow w.heap.size A98 n99 c100 x97), G (trellislaw8_WordsBack_C w F r) [.code trellislaw8_WordsBack_c20, .inLoop trellislaw8_WordsBack_c20, .inBlock 0, .code trellislaw8_WordsBack_c16] [(0, .slice A2 n3 c4), (3, .string r18), (4, .int .i64 x96), (5, .slice A98 n99 c100), (6, .int .i64 x102)] [.own (.slice A98 n99 c100) 27 4 n99 (x97.flatMap enc_api_Word)] [Sm w.heap.size F w [], St w []]
      intro A98 n99 c100 h101
      have h : trellislaw8_WordsBack_b1 x1 r18 x96 x97 x102 o1 := h
      unfold trellislaw8_WordsBack_b1 at h
      refine g_seq (c := trellislaw8_WordsBack_c20) rfl ?_
      refine g_seq (c := trellislaw8_WordsBack_c21) rfl ?_
      refine g_region (c := trellislaw8_WordsBack_c23) rfl rfl ?_
      refine wl_v 0 rfl (v_move rfl) gn rfl ?_
      refine wl_v 1 rfl (v_move rfl) gn rfl ?_
      refine wl_v 2 rfl (v_lenQ un_22 rfl h5.hq) gn rfl ?_
      refine wl_v 3 rfl (v_bin rfl rfl rfl) gn rfl ?_
      refine w_end 4 rfl ?_
      by_cases hp174 : x102 < (x1.length : Int)
      · have h := if_pos' hp174 h
        refine g_true (c := trellislaw8_WordsBack_c24) rfl _ rfl ((decide_eq_true hp174)) ?_
        refine g_skip (c := trellislaw8_WordsBack_c25) rfl ?_
        refine g_seq (c := trellislaw8_WordsBack_c22) rfl ?_
        refine g_block (c := trellislaw8_WordsBack_c27) rfl ?_
        refine g_seq (c := trellislaw8_WordsBack_c29) rfl ?_
        refine g_region (c := trellislaw8_WordsBack_c30) rfl rfl ?_
        refine wl_v 0 rfl (v_move rfl) gn rfl ?_
        refine wl_v 1 rfl (v_move rfl) gn rfl ?_
        obtain ⟨hb175, h⟩ := h
        have hr176 := Rw.readF (s := St w []) (hl := hl_api_Word) (h1 := h1_api_Word) h5 hb175
        refine wl_v 2 rfl (v_idxR (s := St w []) slE_22 rfl rfl h5 hb175) gn rfl ?_
        refine wl_v 3 rfl (v_ldA (St w []) ld_27 rfl hr176 rfl (me 1 rfl)) gn rfl ?_
        obtain ⟨r180, hv181, h⟩ := h
        refine wl_s 4 rfl (s_call [.agg #[.int .i64 ((ix x1 x102).kind), .string ((ix x1 x102).text), .int .i64 ((ix x1 x102).n), .int .i64 ((ix x1 x102).at_)]] rfl Tryd.func9 rfl rfl rfl fun w177 hL178 => ?_) gn
        have hp179 : List.Perm ([.own (.slice A98 n99 c100) 27 4 n99 (x97.flatMap enc_api_Word)] : List Ent) (([] : List Ent) ++ ([.own (.slice A98 n99 c100) 27 4 n99 (x97.flatMap enc_api_Word)] : List Ent)) := perm_of_idx [] [0] rfl rfl (by kernel_rfl)
        refine Calls.mono (words_Spell_calls w177 (Fl ([] : List Snap)) (ix x1 x102) (hL178.tb hp179 hG (me 1 rfl)) (hL178.hFl (Sl := ([] : List Snap)) hp179 (sels [] rfl)) (hL178.into hp179 (Fl ([] : List Snap))) r180 hv181) ?_
        rintro _ w182 ⟨rfl, hM183⟩
        have hL184 := hL178.call hp179 hM183
        refine ⟨_, _, _, rfl, hL184, ?_⟩
        refine wl_v 5 rfl (v_assign rfl) gn rfl ?_
        refine w_end 6 rfl ?_
        refine g_seq (c := trellislaw8_WordsBack_c31) rfl ?_
        refine g_seq (c := trellislaw8_WordsBack_c32) rfl ?_
        refine g_region (c := trellislaw8_WordsBack_c34) rfl rfl ?_
        refine wl_v 0 rfl (v_move rfl) gn rfl ?_
        refine wl_v 1 rfl (v_eqS rfl rfl) gn rfl ?_
        refine w_end 2 rfl ?_
        by_cases hp185 : r180 = (⟨#[]⟩ : ByteArray)
        · have h := if_pos' hp185 h
          refine g_true (c := trellislaw8_WordsBack_c35) rfl _ rfl ((seq_t hp185)) ?_
          refine g_seq (c := trellislaw8_WordsBack_c36) rfl ?_
          refine g_region (c := trellislaw8_WordsBack_c38) rfl rfl ?_
          refine wl_v 0 rfl (v_move rfl) gn rfl ?_
          refine wl_v 1 rfl (v_eqS rfl rfl) gn rfl ?_
          refine wl_v 2 rfl (v_assign rfl) gn rfl ?_
          refine w_end 3 rfl ?_
          have h := Out.inr hO1 h
          refine g_retR (c := trellislaw8_WordsBack_c39) [.bool (seq r18 (⟨#[]⟩ : ByteArray))] rfl Tryd.func4 rfl (.tmp rfl (.nil)) fun wr hLr => ?_
          have hMr : B.Loc w wr [] [St w []] := hLr.pick (rest := [.own (.slice A98 n99 c100) 27 4 n99 (x97.flatMap enc_api_Word)]) (perm_of_idx [] [0] rfl rfl (by kernel_rfl)) (sels [1] rfl)
          have hMi : ∀ e ∈ ([] : List Ent), e ∈ ([.own (.slice A98 n99 c100) 27 4 n99 (x97.flatMap enc_api_Word)] : List Ent) := sels [] rfl
          show trellislaw8_WordsBack_R w F  r (.returned (packV [.bool (seq r18 (⟨#[]⟩ : ByteArray))])) wr
          rw [h]
          exact ⟨rfl, hMr⟩
        · have h := if_neg' hp185 h
          refine g_false (c := trellislaw8_WordsBack_c35) rfl _ rfl ((seq_f hp185)) ?_
          refine g_skip (c := trellislaw8_WordsBack_c37) rfl ?_
          refine g_seq (c := trellislaw8_WordsBack_c33) rfl ?_
          have hns : Region.noSelect (Code.ops trellislaw8_WordsBack_c40) = true := by kernel_rfl
          refine g_drawF (c := trellislaw8_WordsBack_c40) [.own (.slice A98 n99 c100) 27 4 n99 (x97.flatMap enc_api_Word)] [Sm w.heap.size F w [], St w []] [] 14 rfl rfl mix rfl (.cons_cons _ (.slnil)) (sels [0, 1] rfl) ?_
          refine wf_v 0 rfl (v_move rfl) gn rfl hns (by kernel_rfl) (by kernel_rfl) rfl rfl ?_
          refine wf_v 1 rfl (v_move rfl) gn rfl hns (by kernel_rfl) (by kernel_rfl) rfl rfl ?_
          have hr194 := Rw.readF (s := St w []) (hl := hl_api_Word) (h1 := h1_api_Word) h5 hb175
          refine wf_v 2 rfl (v_idxR (s := St w []) slE_22 rfl rfl h5 hb175) gn rfl hns (by kernel_rfl) (by kernel_rfl) rfl rfl ?_
          refine wf_v 3 rfl (v_fldA fo_27_0 rfl) gn rfl hns (by kernel_rfl) (by kernel_rfl) rfl rfl ?_
          refine wf_v 4 rfl (v_ldA1 (kk := (x102 : Int).toNat * 4) (j := 0) (St w []) ld_25 rfl hr194 rfl (me 1 rfl)) gn rfl hns (by kernel_rfl) (by kernel_rfl) rfl rfl ?_
          refine wf_v 5 rfl (v_move rfl) gn rfl hns (by kernel_rfl) (by kernel_rfl) rfl rfl ?_
          refine wf_v 6 rfl (v_move rfl) gn rfl hns (by kernel_rfl) (by kernel_rfl) rfl rfl ?_
          have hr195 := Rw.readF (s := St w []) (hl := hl_api_Word) (h1 := h1_api_Word) h5 hb175
          refine wf_v 7 rfl (v_idxR (s := St w []) slE_22 rfl rfl h5 hb175) gn rfl hns (by kernel_rfl) (by kernel_rfl) rfl rfl ?_
          refine wf_v 8 rfl (v_fldA fo_27_1 rfl) gn rfl hns (by kernel_rfl) (by kernel_rfl) rfl rfl ?_
          refine wf_v 9 rfl (v_ldA1 (kk := (x102 : Int).toNat * 4) (j := 1) (St w []) ld_9 rfl hr195 rfl (me 1 rfl)) gn rfl hns (by kernel_rfl) (by kernel_rfl) rfl rfl ?_
          refine wf_v 10 rfl (v_move rfl) gn rfl hns (by kernel_rfl) (by kernel_rfl) rfl rfl ?_
          refine wf_v 11 rfl (v_build #[.int .i64 ((ix x1 x102).kind), .string ((ix x1 x102).text), .int .i64 0, .int .i64 x96] bd_27 rfl (by kernel_rfl)) gn rfl hns (by kernel_rfl) (by kernel_rfl) rfl rfl ?_
          refine wf_all [12] (by kernel_rfl) rfl ⟨on_s 12 rfl gn rfl (s_alloc [.int .i64 0, .string (⟨#[]⟩ : ByteArray), .int .i64 0, .int .i64 0] zr_27 rfl fun gb197 => ?_), trivial⟩
          refine ⟨sels [1] rfl, sels [0, 1] rfl, ?_⟩
          refine wf_all [13] (by kernel_rfl) rfl ⟨on_s 13 rfl gn rfl (s_stB (vs := [.int .i64 ((ix x1 x102).kind), .string ((ix x1 x102).text), .int .i64 0, .int .i64 x96]) (cs' := [.int .i64 ((ix x1 x102).kind), .string ((ix x1 x102).text), .int .i64 0, .int .i64 x96]) (M' := [.box gb197 27 [.int .i64 ((ix x1 x102).kind), .string ((ix x1 x102).text), .int .i64 0, .int .i64 x96], .own (.slice A98 n99 c100) 27 4 n99 (x97.flatMap enc_api_Word)]) 0 sz_27 rfl rfl rfl rfl rfl rfl rfl rfl rfl ?_), trivial⟩
          refine ⟨sels [1] rfl, sels [0, 1] rfl, ?_⟩
          refine wf_end (by kernel_rfl) ?_
          refine g_seq (c := trellislaw8_WordsBack_c41) rfl ?_
          refine g_seq (c := trellislaw8_WordsBack_c42) rfl ?_
          refine g_region (c := trellislaw8_WordsBack_c44) rfl rfl ?_
          refine wl_v 0 rfl (v_move rfl) gn rfl ?_
          refine wl_v 1 rfl (v_move rfl) gn rfl ?_
          have hr198 := Rw.readF (s := St w []) (hl := hl_api_Word) (h1 := h1_api_Word) h5 hb175
          refine wl_v 2 rfl (v_idxR (s := St w []) slE_22 rfl rfl h5 hb175) gn rfl ?_
          refine wl_v 3 rfl (v_fldA fo_27_0 rfl) gn rfl ?_
          refine wl_v 4 rfl (v_ldA1 (kk := (x102 : Int).toNat * 4) (j := 0) (St w []) ld_25 rfl hr198 rfl (me 1 rfl)) gn rfl ?_
          refine wl_v 5 rfl (v_bin rfl rfl rfl) gn rfl ?_
          refine w_end 6 rfl ?_
          have j2 : ∀ (x202 : ByteArray) (x203 : Int) (h : trellislaw8_WordsBack_j2 x97 x1 x102 x96 r180 x202 x203 o1) , G (trellislaw8_WordsBack_C w F r) [.code trellislaw8_WordsBack_c43, .inBlock 1, .code trellislaw8_WordsBack_c28, .inLoop trellislaw8_WordsBack_c20, .inBlock 0, .code trellislaw8_WordsBack_c16] [(0, .slice A2 n3 c4), (3, .string r18), (4, .int .i64 x96), (5, .slice A98 n99 c100), (6, .int .i64 x102), (7, .string r180), (8, .pointer (some ⟨gb197, 0, none⟩))] [.box gb197 27 [.int .i64 ((ix x1 x102).kind), .string x202, .int .i64 x203, .int .i64 x96], .own (.slice A98 n99 c100) 27 4 n99 (x97.flatMap enc_api_Word)] [Sm w.heap.size F w [], St w []] := by
            intro x202 x203 h
            unfold trellislaw8_WordsBack_j2 at h
            refine g_seq (c := trellislaw8_WordsBack_c43) rfl ?_
            refine g_region (c := trellislaw8_WordsBack_c50) rfl rfl ?_
            refine wl_v 0 rfl (v_move rfl) gn rfl ?_
            refine wl_v 1 rfl (v_ldB [.int .i64 ((ix x1 x102).kind), .string x202, .int .i64 x203, .int .i64 x96] 0 ld_27 rfl rfl rfl rfl) gn rfl ?_
            refine wl_s 2 rfl (s_litO (xs := ([(⟨(ix x1 x102).kind, x202, x203, x96⟩ : api_Word)] : List api_Word)) [.int .i64 ((ix x1 x102).kind), .string x202, .int .i64 x203, .int .i64 x96] bs_22_1 rfl (by kernel_rfl) rfl rfl rfl rfl fun gb205 h206 => ?_) gn
            obtain ⟨x210, hv211, h⟩ := h
            obtain ⟨hb212, h⟩ := h
            refine wl_s 3 rfl (s_app (zs := x210) (cells' := x210.flatMap enc_api_Word) 2 ap_22 rfl rfl rfl h101 (Nat.le_refl _) (Src.ownF (hl := hl_api_Word) (h1 := h1_api_Word) 0 rfl h206) (by rw [hv211, List.flatMap_append] <;> rfl) (app_len hv211 h206.hq) hb212 rfl rfl fun A207 c208 h209 => ?_) gn
            refine wl_v 4 rfl (v_assign rfl) gn rfl ?_
            refine w_end 5 rfl ?_
            refine g_region (c := trellislaw8_WordsBack_c51) rfl rfl ?_
            refine wl_v 0 rfl (v_move rfl) gn rfl ?_
            refine wl_v 1 rfl (v_move rfl) gn rfl ?_
            refine wl_v 2 rfl (v_lenS un_9 rfl) gn rfl ?_
            refine wl_v 3 rfl (v_bin rfl rfl rfl) gn rfl ?_
            refine wl_v 4 rfl (v_bin rfl rfl rfl) gn rfl ?_
            refine wl_v 5 rfl (v_assign rfl) gn rfl ?_
            refine w_end 6 rfl ?_
            refine g_inBlock ?_
            refine g_region (c := trellislaw8_WordsBack_c28) rfl rfl ?_
            refine wl_v 0 rfl (v_move rfl) gn rfl ?_
            refine wl_v 1 rfl (v_bin rfl rfl rfl) gn rfl ?_
            refine wl_v 2 rfl (v_assign rfl) gn rfl ?_
            refine w_end 3 rfl ?_
            refine g_inLoop ?_
            have ih := Out.inl hO1 h
            exact g_go [0, 1] (ih A207 (n99 + 1) c208 h209) ⟨rfl, rfl, rfl, rfl, rfl, trivial⟩ (.cons _ (.cons _ (.cons_cons _ (.slnil)))) rfl
          by_cases hp199 : (ix x1 x102).kind = 4
          · have h := if_pos' hp199 h
            refine g_true (c := trellislaw8_WordsBack_c45) rfl _ rfl ((eqi hp199)) ?_
            refine g_seq (c := trellislaw8_WordsBack_c46) rfl ?_
            refine g_region (c := trellislaw8_WordsBack_c48) rfl rfl ?_
            refine wl_v 0 rfl (v_fldB fo_27_1 rfl) gn rfl ?_
            refine wl_s 1 rfl (s_stB (vs := [.string (⟨#[]⟩ : ByteArray)]) (cs' := [.int .i64 ((ix x1 x102).kind), .string (⟨#[]⟩ : ByteArray), .int .i64 0, .int .i64 x96]) (M' := [.box gb197 27 [.int .i64 ((ix x1 x102).kind), .string (⟨#[]⟩ : ByteArray), .int .i64 0, .int .i64 x96], .own (.slice A98 n99 c100) 27 4 n99 (x97.flatMap enc_api_Word)]) 0 sz_9 rfl rfl rfl rfl rfl rfl rfl rfl rfl ?_) gn
            refine w_end 2 rfl ?_
            refine g_region (c := trellislaw8_WordsBack_c49) rfl rfl ?_
            refine wl_v 0 rfl (v_move rfl) gn rfl ?_
            refine wl_v 1 rfl (v_move rfl) gn rfl ?_
            have hr213 := Rw.readF (s := St w []) (hl := hl_api_Word) (h1 := h1_api_Word) h5 hb175
            refine wl_v 2 rfl (v_idxR (s := St w []) slE_22 rfl rfl h5 hb175) gn rfl ?_
            refine wl_v 3 rfl (v_fldA fo_27_2 rfl) gn rfl ?_
            refine wl_v 4 rfl (v_ldA1 (kk := (x102 : Int).toNat * 4) (j := 2) (St w []) ld_3 rfl hr213 rfl (me 1 rfl)) gn rfl ?_
            refine wl_v 5 rfl (v_fldB fo_27_2 rfl) gn rfl ?_
            refine wl_s 6 rfl (s_stB (vs := [.int .i64 ((ix x1 x102).n)]) (cs' := [.int .i64 ((ix x1 x102).kind), .string (⟨#[]⟩ : ByteArray), .int .i64 ((ix x1 x102).n), .int .i64 x96]) (M' := [.box gb197 27 [.int .i64 ((ix x1 x102).kind), .string (⟨#[]⟩ : ByteArray), .int .i64 ((ix x1 x102).n), .int .i64 x96], .own (.slice A98 n99 c100) 27 4 n99 (x97.flatMap enc_api_Word)]) 0 sz_3 rfl rfl rfl rfl rfl rfl rfl rfl rfl ?_) gn
            refine w_end 7 rfl ?_
            exact g_go [0, 1] (j2 (⟨#[]⟩ : ByteArray) ((ix x1 x102).n) h) ⟨rfl, rfl, rfl, rfl, rfl, rfl, rfl, trivial⟩ (.cons_cons _ (.cons_cons _ (.slnil))) rfl
          · have h := if_neg' hp199 h
            refine g_false (c := trellislaw8_WordsBack_c45) rfl _ rfl ((nei hp199)) ?_
            refine g_skip (c := trellislaw8_WordsBack_c47) rfl ?_
            exact g_go [0, 1] (j2 ((ix x1 x102).text) 0 h) ⟨rfl, rfl, rfl, rfl, rfl, rfl, rfl, trivial⟩ (.cons_cons _ (.cons_cons _ (.slnil))) rfl
      · have h := if_neg' hp174 h
        refine g_false (c := trellislaw8_WordsBack_c24) rfl _ rfl ((decide_eq_false hp174)) ?_
        refine g_exit (c := trellislaw8_WordsBack_c26) [.code trellislaw8_WordsBack_c16] rfl rfl ?_
        refine g_seq (c := trellislaw8_WordsBack_c16) rfl ?_
        refine g_seq (c := trellislaw8_WordsBack_c52) rfl ?_
        have j3 : ∀ (x216 : Bool) (h : trellislaw8_WordsBack_j3 r18 x97 x216 o1) , G (trellislaw8_WordsBack_C w F r) [.code trellislaw8_WordsBack_c55, .code trellislaw8_WordsBack_c53] [(3, .string r18), (5, .slice A98 n99 c100), (74, .bool x216)] [.own (.slice A98 n99 c100) 27 4 n99 (x97.flatMap enc_api_Word)] [Sm w.heap.size F w [], St w []] := by
          intro x216 h
          unfold trellislaw8_WordsBack_j3 at h
          by_cases hp217 : x216 = true
          · have h := if_pos' hp217 h
            refine g_true (c := trellislaw8_WordsBack_c55) rfl _ rfl (hp217) ?_
            refine g_seq (c := trellislaw8_WordsBack_c56) rfl ?_
            refine g_region (c := trellislaw8_WordsBack_c58) rfl rfl ?_
            refine wl_v 0 rfl (v_assign rfl) gn rfl ?_
            refine w_end 1 rfl ?_
            have h := Out.inr hO1 h
            refine g_retR (c := trellislaw8_WordsBack_c59) [.bool false] rfl Tryd.func4 rfl (.tmp rfl (.nil)) fun wr hLr => ?_
            have hMr : B.Loc w wr [] [St w []] := hLr.pick (rest := [.own (.slice A98 n99 c100) 27 4 n99 (x97.flatMap enc_api_Word)]) (perm_of_idx [] [0] rfl rfl (by kernel_rfl)) (sels [1] rfl)
            have hMi : ∀ e ∈ ([] : List Ent), e ∈ ([.own (.slice A98 n99 c100) 27 4 n99 (x97.flatMap enc_api_Word)] : List Ent) := sels [] rfl
            show trellislaw8_WordsBack_R w F  r (.returned (packV [.bool false])) wr
            rw [h]
            exact ⟨rfl, hMr⟩
          · have h := if_neg' hp217 h
            refine g_false (c := trellislaw8_WordsBack_c55) rfl _ rfl ((bf hp217)) ?_
            refine g_skip (c := trellislaw8_WordsBack_c57) rfl ?_
            refine g_seq (c := trellislaw8_WordsBack_c53) rfl ?_
            refine g_region (c := trellislaw8_WordsBack_c60) rfl rfl ?_
            refine wl_v 0 rfl (v_move rfl) gn rfl ?_
            obtain ⟨r221, hv222, h⟩ := h
            refine wl_s 1 rfl (s_call [.string r18] rfl Tryd.func16 rfl rfl rfl fun w218 hL219 => ?_) gn
            have hp220 : List.Perm ([.own (.slice A98 n99 c100) 27 4 n99 (x97.flatMap enc_api_Word)] : List Ent) (([] : List Ent) ++ ([.own (.slice A98 n99 c100) 27 4 n99 (x97.flatMap enc_api_Word)] : List Ent)) := perm_of_idx [] [0] rfl rfl (by kernel_rfl)
            refine Calls.mono (words_Cut_calls w218 (Fl ([] : List Snap)) r18 (hL219.hFl (Sl := ([] : List Snap)) hp220 (sels [] rfl)) (hL219.into hp220 (Fl ([] : List Snap))) r221 hv222) ?_
            rintro _ w228 ⟨A223, n224, c225, rfl, hM229, h226⟩
            have hL230 := hL219.call hp220 hM229
            refine ⟨_, _, _, rfl, hL230, ?_⟩
            refine wl_v 2 rfl (v_move rfl) gn rfl ?_
            refine wl_v 3 rfl (v_extract rfl rfl) gn rfl ?_
            refine wl_v 4 rfl (v_extract rfl rfl) gn rfl ?_
            refine wl_v 5 rfl (v_extract rfl rfl) gn rfl ?_
            refine wl_v 6 rfl (v_assign rfl) gn rfl ?_
            refine wl_v 7 rfl (v_assign rfl) gn rfl ?_
            refine wl_v 8 rfl (v_assign rfl) gn rfl ?_
            refine w_end 9 rfl ?_
            refine g_seq (c := trellislaw8_WordsBack_c61) rfl ?_
            refine g_seq (c := trellislaw8_WordsBack_c62) rfl ?_
            refine g_region (c := trellislaw8_WordsBack_c64) rfl rfl ?_
            refine wl_v 0 rfl (v_move rfl) gn rfl ?_
            refine wl_v 1 rfl (v_lenS un_9 rfl) gn rfl ?_
            refine wl_v 2 rfl (v_bin rfl rfl rfl) gn rfl ?_
            refine w_end 3 rfl ?_
            by_cases hp231 : (r18.size : Int) > 16384
            · have h := if_pos' hp231 h
              refine g_true (c := trellislaw8_WordsBack_c65) rfl _ rfl ((decide_eq_true hp231)) ?_
              refine g_seq (c := trellislaw8_WordsBack_c66) rfl ?_
              refine g_region (c := trellislaw8_WordsBack_c68) rfl rfl ?_
              refine wl_v 0 rfl (v_move rfl) gn rfl ?_
              refine wl_v 1 rfl (v_bin rfl rfl rfl) gn rfl ?_
              refine wl_v 2 rfl (v_move rfl) gn rfl ?_
              by_cases hp232 : r221.2.1 = 80
              · have h := if_pos' hp232 h
                refine w_bool 86 rfl ((eqi hp232)) ?_
                refine wl_v 3 rfl (v_move rfl) (gy 86 rfl rfl) rfl ?_
                refine wl_v 4 rfl (v_bin rfl rfl rfl) (gy 86 rfl rfl) rfl ?_
                refine wl_v 5 rfl (v_pick (b := true) rfl rfl) gn rfl ?_
                refine wl_v 6 rfl (v_move rfl) gn rfl ?_
                by_cases hp233 : r221.2.2 = 16384
                · have h := if_pos' hp233 h
                  refine w_bool 90 rfl ((eqi hp233)) ?_
                  refine wl_v 7 rfl (v_move rfl) (gy 90 rfl rfl) rfl ?_
                  refine wl_v 8 rfl (v_lenQ un_22 rfl (Ow.weak hL219.env.size h226).hq) (gy 90 rfl rfl) rfl ?_
                  refine wl_v 9 rfl (v_bin rfl rfl rfl) (gy 90 rfl rfl) rfl ?_
                  refine wl_v 10 rfl (v_pick (b := true) rfl rfl) gn rfl ?_
                  refine wl_v 11 rfl (v_assign rfl) gn rfl ?_
                  refine w_end 12 rfl ?_
                  have h := Out.inr hO1 h
                  refine g_retR (c := trellislaw8_WordsBack_c69) [.bool ((r221.1.length : Int) == 0)] rfl Tryd.func4 rfl (.tmp rfl (.nil)) fun wr hLr => ?_
                  have hMr : B.Loc w wr [] [St w []] := hLr.pick (rest := [.own (.slice A223 n224 c225) 27 4 n224 (r221.1.flatMap enc_api_Word), .own (.slice A98 n99 c100) 27 4 n99 (x97.flatMap enc_api_Word)]) (perm_of_idx [] [0, 1] rfl rfl (by kernel_rfl)) (sels [1] rfl)
                  have hMi : ∀ e ∈ ([] : List Ent), e ∈ ([.own (.slice A223 n224 c225) 27 4 n224 (r221.1.flatMap enc_api_Word), .own (.slice A98 n99 c100) 27 4 n99 (x97.flatMap enc_api_Word)] : List Ent) := sels [] rfl
                  show trellislaw8_WordsBack_R w F  r (.returned (packV [.bool ((r221.1.length : Int) == 0)])) wr
                  rw [h]
                  exact ⟨rfl, hMr⟩
                · have h := if_neg' hp233 h
                  refine w_bool 90 rfl ((nei hp233)) ?_
                  refine wl_pass 7 rfl (ps 90 rfl rfl rfl) ?_
                  refine wl_pass 8 rfl (ps 90 rfl rfl rfl) ?_
                  refine wl_pass 9 rfl (ps 90 rfl rfl rfl) ?_
                  refine wl_v 10 rfl (v_pick (b := false) rfl rfl) gn rfl ?_
                  refine wl_v 11 rfl (v_assign rfl) gn rfl ?_
                  refine w_end 12 rfl ?_
                  have h := Out.inr hO1 h
                  refine g_retR (c := trellislaw8_WordsBack_c69) [.bool false] rfl Tryd.func4 rfl (.tmp rfl (.nil)) fun wr hLr => ?_
                  have hMr : B.Loc w wr [] [St w []] := hLr.pick (rest := [.own (.slice A223 n224 c225) 27 4 n224 (r221.1.flatMap enc_api_Word), .own (.slice A98 n99 c100) 27 4 n99 (x97.flatMap enc_api_Word)]) (perm_of_idx [] [0, 1] rfl rfl (by kernel_rfl)) (sels [1] rfl)
                  have hMi : ∀ e ∈ ([] : List Ent), e ∈ ([.own (.slice A223 n224 c225) 27 4 n224 (r221.1.flatMap enc_api_Word), .own (.slice A98 n99 c100) 27 4 n99 (x97.flatMap enc_api_Word)] : List Ent) := sels [] rfl
                  show trellislaw8_WordsBack_R w F  r (.returned (packV [.bool false])) wr
                  rw [h]
                  exact ⟨rfl, hMr⟩
              · have h := if_neg' hp232 h
                refine w_bool 86 rfl ((nei hp232)) ?_
                refine wl_pass 3 rfl (ps 86 rfl rfl rfl) ?_
                refine wl_pass 4 rfl (ps 86 rfl rfl rfl) ?_
                refine wl_v 5 rfl (v_pick (b := false) rfl rfl) gn rfl ?_
                refine wl_v 6 rfl (v_move rfl) gn rfl ?_
                refine wl_pass 7 rfl (ps 90 rfl rfl rfl) ?_
                refine wl_pass 8 rfl (ps 90 rfl rfl rfl) ?_
                refine wl_pass 9 rfl (ps 90 rfl rfl rfl) ?_
                refine wl_v 10 rfl (v_pick (b := false) rfl rfl) gn rfl ?_
                refine wl_v 11 rfl (v_assign rfl) gn rfl ?_
                refine w_end 12 rfl ?_
                have h := Out.inr hO1 h
                refine g_retR (c := trellislaw8_WordsBack_c69) [.bool false] rfl Tryd.func4 rfl (.tmp rfl (.nil)) fun wr hLr => ?_
                have hMr : B.Loc w wr [] [St w []] := hLr.pick (rest := [.own (.slice A223 n224 c225) 27 4 n224 (r221.1.flatMap enc_api_Word), .own (.slice A98 n99 c100) 27 4 n99 (x97.flatMap enc_api_Word)]) (perm_of_idx [] [0, 1] rfl rfl (by kernel_rfl)) (sels [1] rfl)
                have hMi : ∀ e ∈ ([] : List Ent), e ∈ ([.own (.slice A223 n224 c225) 27 4 n224 (r221.1.flatMap enc_api_Word), .own (.slice A98 n99 c100) 27 4 n99 (x97.flatMap enc_api_Word)] : List Ent) := sels [] rfl
                show trellislaw8_WordsBack_R w F  r (.returned (packV [.bool false])) wr
                rw [h]
                exact ⟨rfl, hMr⟩
            · have h := if_neg' hp231 h
              refine g_false (c := trellislaw8_WordsBack_c65) rfl _ rfl ((decide_eq_false hp231)) ?_
              refine g_skip (c := trellislaw8_WordsBack_c67) rfl ?_
              refine g_seq (c := trellislaw8_WordsBack_c63) rfl ?_
              refine g_region (c := trellislaw8_WordsBack_c70) rfl rfl ?_
              refine wl_v 0 rfl (v_move rfl) gn rfl ?_
              refine wl_v 1 rfl (v_bin rfl rfl rfl) gn rfl ?_
              refine wl_v 2 rfl (v_move rfl) gn rfl ?_
              by_cases hp234 : r221.2.1 = 0
              · have h := if_pos' hp234 h
                refine w_bool 97 rfl ((eqi hp234)) ?_
                refine wl_v 3 rfl (v_move rfl) (gy 97 rfl rfl) rfl ?_
                refine wl_v 4 rfl (v_bin rfl rfl rfl) (gy 97 rfl rfl) rfl ?_
                refine wl_v 5 rfl (v_pick (b := true) rfl rfl) gn rfl ?_
                refine wl_v 6 rfl (v_move rfl) gn rfl ?_
                by_cases hp235 : r221.2.2 = 0
                · have h := if_pos' hp235 h
                  refine w_bool 101 rfl ((eqi hp235)) ?_
                  refine wl_v 7 rfl (v_move rfl) (gy 101 rfl rfl) rfl ?_
                  refine wl_v 8 rfl (v_move rfl) (gy 101 rfl rfl) rfl ?_
                  obtain ⟨r239, hv240, h⟩ := h
                  refine wl_s 9 rfl (s_call [.slice A223 n224 c225, .slice A98 n99 c100] rfl Tryd.func17 rfl rfl rfl fun w236 hL237 => ?_) (gy 101 rfl rfl)
                  have hp238 : List.Perm ([.own (.slice A223 n224 c225) 27 4 n224 (r221.1.flatMap enc_api_Word), .own (.slice A98 n99 c100) 27 4 n99 (x97.flatMap enc_api_Word)] : List Ent) (([] : List Ent) ++ ([.own (.slice A223 n224 c225) 27 4 n224 (r221.1.flatMap enc_api_Word), .own (.slice A98 n99 c100) 27 4 n99 (x97.flatMap enc_api_Word)] : List Ent)) := perm_of_idx [] [0, 1] rfl rfl (by kernel_rfl)
                  refine Calls.mono (trellislaw8_same_calls w236 (Fl ([] : List Snap)) r221.1 x97 A223 n224 c225 A98 n99 c100 (hL237.argO (dk := k_api_Word) hp238 [] rfl 0 rfl rfl (Ow.weak hL219.env.size h226) (me 0 rfl) (Cells.flat _)) (hL237.argO (dk := k_api_Word) hp238 [] rfl 1 rfl rfl h101 (me 0 rfl) (Cells.flat _)) (hL237.hFl (Sl := ([] : List Snap)) hp238 (sels [] rfl)) (hL237.into hp238 (Fl ([] : List Snap))) r239 hv240) ?_
                  rintro _ w241 ⟨rfl, hM242⟩
                  have hL243 := hL237.call hp238 hM242
                  refine ⟨_, _, _, rfl, hL243, ?_⟩
                  refine wl_v 10 rfl (v_pick (b := true) rfl rfl) gn rfl ?_
                  refine wl_v 11 rfl (v_assign rfl) gn rfl ?_
                  refine w_end 12 rfl ?_
                  have h := Out.inr hO1 h
                  refine g_retR (c := trellislaw8_WordsBack_c71) [.bool r239] rfl Tryd.func4 rfl (.tmp rfl (.nil)) fun wr hLr => ?_
                  have hMr : B.Loc w wr [] [St w []] := hLr.pick (rest := [.own (.slice A223 n224 c225) 27 4 n224 (r221.1.flatMap enc_api_Word), .own (.slice A98 n99 c100) 27 4 n99 (x97.flatMap enc_api_Word)]) (perm_of_idx [] [0, 1] rfl rfl (by kernel_rfl)) (sels [1] rfl)
                  have hMi : ∀ e ∈ ([] : List Ent), e ∈ ([.own (.slice A223 n224 c225) 27 4 n224 (r221.1.flatMap enc_api_Word), .own (.slice A98 n99 c100) 27 4 n99 (x97.flatMap enc_api_Word)] : List Ent) := sels [] rfl
                  show trellislaw8_WordsBack_R w F  r (.returned (packV [.bool r239])) wr
                  rw [h]
                  exact ⟨rfl, hMr⟩
                · have h := if_neg' hp235 h
                  refine w_bool 101 rfl ((nei hp235)) ?_
                  refine wl_pass 7 rfl (ps 101 rfl rfl rfl) ?_
                  refine wl_pass 8 rfl (ps 101 rfl rfl rfl) ?_
                  refine wl_pass 9 rfl (ps 101 rfl rfl rfl) ?_
                  refine wl_v 10 rfl (v_pick (b := false) rfl rfl) gn rfl ?_
                  refine wl_v 11 rfl (v_assign rfl) gn rfl ?_
                  refine w_end 12 rfl ?_
                  have h := Out.inr hO1 h
                  refine g_retR (c := trellislaw8_WordsBack_c71) [.bool false] rfl Tryd.func4 rfl (.tmp rfl (.nil)) fun wr hLr => ?_
                  have hMr : B.Loc w wr [] [St w []] := hLr.pick (rest := [.own (.slice A223 n224 c225) 27 4 n224 (r221.1.flatMap enc_api_Word), .own (.slice A98 n99 c100) 27 4 n99 (x97.flatMap enc_api_Word)]) (perm_of_idx [] [0, 1] rfl rfl (by kernel_rfl)) (sels [1] rfl)
                  have hMi : ∀ e ∈ ([] : List Ent), e ∈ ([.own (.slice A223 n224 c225) 27 4 n224 (r221.1.flatMap enc_api_Word), .own (.slice A98 n99 c100) 27 4 n99 (x97.flatMap enc_api_Word)] : List Ent) := sels [] rfl
                  show trellislaw8_WordsBack_R w F  r (.returned (packV [.bool false])) wr
                  rw [h]
                  exact ⟨rfl, hMr⟩
              · have h := if_neg' hp234 h
                refine w_bool 97 rfl ((nei hp234)) ?_
                refine wl_pass 3 rfl (ps 97 rfl rfl rfl) ?_
                refine wl_pass 4 rfl (ps 97 rfl rfl rfl) ?_
                refine wl_v 5 rfl (v_pick (b := false) rfl rfl) gn rfl ?_
                refine wl_v 6 rfl (v_move rfl) gn rfl ?_
                refine wl_pass 7 rfl (ps 101 rfl rfl rfl) ?_
                refine wl_pass 8 rfl (ps 101 rfl rfl rfl) ?_
                refine wl_pass 9 rfl (ps 101 rfl rfl rfl) ?_
                refine wl_v 10 rfl (v_pick (b := false) rfl rfl) gn rfl ?_
                refine wl_v 11 rfl (v_assign rfl) gn rfl ?_
                refine w_end 12 rfl ?_
                have h := Out.inr hO1 h
                refine g_retR (c := trellislaw8_WordsBack_c71) [.bool false] rfl Tryd.func4 rfl (.tmp rfl (.nil)) fun wr hLr => ?_
                have hMr : B.Loc w wr [] [St w []] := hLr.pick (rest := [.own (.slice A223 n224 c225) 27 4 n224 (r221.1.flatMap enc_api_Word), .own (.slice A98 n99 c100) 27 4 n99 (x97.flatMap enc_api_Word)]) (perm_of_idx [] [0, 1] rfl rfl (by kernel_rfl)) (sels [1] rfl)
                have hMi : ∀ e ∈ ([] : List Ent), e ∈ ([.own (.slice A223 n224 c225) 27 4 n224 (r221.1.flatMap enc_api_Word), .own (.slice A98 n99 c100) 27 4 n99 (x97.flatMap enc_api_Word)] : List Ent) := sels [] rfl
                show trellislaw8_WordsBack_R w F  r (.returned (packV [.bool false])) wr
                rw [h]
                exact ⟨rfl, hMr⟩
        refine g_region (c := trellislaw8_WordsBack_c54) rfl rfl ?_
        refine wl_v 0 rfl (v_move rfl) gn rfl ?_
        refine wl_v 1 rfl (v_lenQ un_22 rfl h5.hq) gn rfl ?_
        refine wl_v 2 rfl (v_bin rfl rfl rfl) gn rfl ?_
        refine wl_v 3 rfl (v_move rfl) gn rfl ?_
        by_cases hp244 : (x1.length : Int) > 0
        · have h := if_pos' hp244 h
          refine w_bool 68 rfl ((decide_eq_true hp244)) ?_
          refine wl_v 4 rfl (v_move rfl) (gy 68 rfl rfl) rfl ?_
          refine wl_v 5 rfl (v_lenS un_9 rfl) (gy 68 rfl rfl) rfl ?_
          refine wl_v 6 rfl (v_move rfl) (gy 68 rfl rfl) rfl ?_
          refine wl_v 7 rfl (v_bin rfl rfl rfl) (gy 68 rfl rfl) rfl ?_
          refine wl_v 8 rfl (v_bin rfl rfl rfl) (gy 68 rfl rfl) rfl ?_
          refine wl_v 9 rfl (v_pick (b := true) rfl rfl) gn rfl ?_
          refine w_end 10 rfl ?_
          exact g_go [0, 1] (j3 ((r18.size : Int) != (w64 (x96 - 1))) h) ⟨rfl, rfl, rfl, trivial⟩ (.cons_cons _ (.slnil)) rfl
        · have h := if_neg' hp244 h
          refine w_bool 68 rfl ((decide_eq_false hp244)) ?_
          refine wl_pass 4 rfl (ps 68 rfl rfl rfl) ?_
          refine wl_pass 5 rfl (ps 68 rfl rfl rfl) ?_
          refine wl_pass 6 rfl (ps 68 rfl rfl rfl) ?_
          refine wl_pass 7 rfl (ps 68 rfl rfl rfl) ?_
          refine wl_pass 8 rfl (ps 68 rfl rfl rfl) ?_
          refine wl_v 9 rfl (v_pick (b := false) rfl rfl) gn rfl ?_
          refine w_end 10 rfl ?_
          exact g_go [0, 1] (j3 false h) ⟨rfl, rfl, rfl, trivial⟩ (.cons_cons _ (.slnil)) rfl
    refine g_nil 27 4 ?_
    exact g_go [0, 1] (key1 _ h none 0 0 (Ow.nil (z := w.heap.size))) ⟨rfl, rfl, rfl, rfl, rfl, trivial⟩ (.cons_cons _ (.slnil)) rfl
  · have h := if_neg' hp14 h
    refine g_true (c := trellislaw8_WordsBack_c6) rfl _ rfl ((nt (bf hp14))) ?_
    refine g_seq (c := trellislaw8_WordsBack_c7) rfl ?_
    refine g_region (c := trellislaw8_WordsBack_c72) rfl rfl ?_
    refine wl_v 0 rfl (v_assign rfl) gn rfl ?_
    refine w_end 1 rfl ?_
    refine g_retR (c := trellislaw8_WordsBack_c73) [.bool false] rfl Tryd.func4 rfl (.tmp rfl (.nil)) fun wr hLr => ?_
    have hMr : B.Loc w wr [] [St w []] := hLr.pick (rest := []) (perm_of_idx [] [] rfl rfl (by kernel_rfl)) (sels [1] rfl)
    have hMi : ∀ e ∈ ([] : List Ent), e ∈ ([] : List Ent) := sels [] rfl
    show trellislaw8_WordsBack_R w F  r (.returned (packV [.bool false])) wr
    rw [h]
    exact ⟨rfl, hMr⟩
noncomputable abbrev trellislaw8_alike_c0 : Code := bodyOf Tryd.f18
noncomputable abbrev trellislaw8_alike_c1 : Code := Code.fst trellislaw8_alike_c0
noncomputable abbrev trellislaw8_alike_c2 : Code := Code.snd trellislaw8_alike_c0
noncomputable abbrev trellislaw8_alike_c3 : Code := Code.fst trellislaw8_alike_c2
noncomputable abbrev trellislaw8_alike_c4 : Code := Code.snd trellislaw8_alike_c2
noncomputable abbrev trellislaw8_alike_c5 : Code := Code.fst trellislaw8_alike_c3
noncomputable abbrev trellislaw8_alike_c6 : Code := Code.snd trellislaw8_alike_c3
noncomputable abbrev trellislaw8_alike_c7 : Code := Code.fst trellislaw8_alike_c6
noncomputable abbrev trellislaw8_alike_c8 : Code := Code.snd trellislaw8_alike_c6
noncomputable abbrev trellislaw8_alike_c9 : Code := Code.fst trellislaw8_alike_c4
noncomputable abbrev trellislaw8_alike_c10 : Code := Code.snd trellislaw8_alike_c4
noncomputable abbrev trellislaw8_alike_c11 : Code := Code.fst trellislaw8_alike_c9
noncomputable abbrev trellislaw8_alike_c12 : Code := Code.snd trellislaw8_alike_c9
noncomputable abbrev trellislaw8_alike_c13 : Code := Code.fst trellislaw8_alike_c12
noncomputable abbrev trellislaw8_alike_c14 : Code := Code.fst trellislaw8_alike_c13
noncomputable abbrev trellislaw8_alike_c15 : Code := Code.fst trellislaw8_alike_c14
noncomputable abbrev trellislaw8_alike_c16 : Code := Code.snd trellislaw8_alike_c14
noncomputable abbrev trellislaw8_alike_c17 : Code := Code.fst trellislaw8_alike_c15
noncomputable abbrev trellislaw8_alike_c18 : Code := Code.snd trellislaw8_alike_c15
noncomputable abbrev trellislaw8_alike_c19 : Code := Code.fst trellislaw8_alike_c18
noncomputable abbrev trellislaw8_alike_c20 : Code := Code.snd trellislaw8_alike_c18
noncomputable abbrev trellislaw8_alike_c21 : Code := Code.fst trellislaw8_alike_c16
noncomputable abbrev trellislaw8_alike_c22 : Code := Code.snd trellislaw8_alike_c16
noncomputable abbrev trellislaw8_alike_c23 : Code := Code.fst trellislaw8_alike_c21
noncomputable abbrev trellislaw8_alike_c24 : Code := Code.fst trellislaw8_alike_c23
noncomputable abbrev trellislaw8_alike_c25 : Code := Code.snd trellislaw8_alike_c23
noncomputable abbrev trellislaw8_alike_c26 : Code := Code.fst trellislaw8_alike_c25
noncomputable abbrev trellislaw8_alike_c27 : Code := Code.snd trellislaw8_alike_c25
noncomputable abbrev trellislaw8_alike_c28 : Code := Code.fst trellislaw8_alike_c26
noncomputable abbrev trellislaw8_alike_c29 : Code := Code.snd trellislaw8_alike_c26
noncomputable abbrev trellislaw8_alike_c30 : Code := Code.fst trellislaw8_alike_c10
noncomputable abbrev trellislaw8_alike_c31 : Code := Code.snd trellislaw8_alike_c10
noncomputable abbrev trellislaw8_alike_c32 : Code := Code.fst trellislaw8_alike_c7
noncomputable abbrev trellislaw8_alike_c33 : Code := Code.snd trellislaw8_alike_c7
abbrev trellislaw8_alike_R (w : World) (F : Nat → Prop) (r : Bool) : Ending → World → Prop := fun e w' => e = .returned (.bool r) ∧ B.Loc w w' [] [St w []]
noncomputable abbrev trellislaw8_alike_C (w : World) (F : Nat → Prop) (r : Bool) : Cx := ⟨Tryd.prog, 18, Tryd.f18, 54, trellislaw8_alike_R w F  r, w⟩
theorem trellislaw8_alike_calls (w : World) (F : Nat → Prop) (x1 : List api_Word) (x6 : List api_Word) (A2 : Option Addr) (n3 : Nat) (c4 : Nat) (A7 : Option Addr) (n8 : Nat) (c9 : Nat) (h5 : Rw k_api_Word w (St w []).av A2 n3 c4 x1) (h10 : Rw k_api_Word w (St w []).av A7 n8 c9 x6) (hF : ∀ b, F b → b < w.heap.size ∧ ∀ o ∈ ([] : List (List Nat)), b ∉ o) (hL0 : B.Loc w w [] [Sm w.heap.size F w [], St w []]) (r : Bool) (h : trellislaw8_alike x1 x6 r) : Calls Tryd.prog 18 #[.slice A2 n3 c4, .slice A7 n8 c9] w (trellislaw8_alike_R w F  r) := by
  unfold trellislaw8_alike at h
  refine calls_of_Loc (vs := [.slice A2 n3 c4, .slice A7 n8 c9]) 54 Tryd.func18 rfl Tryd.ntmps18 rfl hL0 ?_
  show G (trellislaw8_alike_C w F r) _ _ _ _
  refine g_seq (c := trellislaw8_alike_c0) rfl ?_
  refine g_region (c := trellislaw8_alike_c1) rfl rfl ?_
  refine wl_v 0 rfl (v_assign rfl) gn rfl ?_
  refine w_end 1 rfl ?_
  refine g_seq (c := trellislaw8_alike_c2) rfl ?_
  refine g_seq (c := trellislaw8_alike_c3) rfl ?_
  refine g_region (c := trellislaw8_alike_c5) rfl rfl ?_
  refine wl_v 0 rfl (v_move rfl) gn rfl ?_
  refine wl_v 1 rfl (v_lenQ un_22 rfl h5.hq) gn rfl ?_
  refine wl_v 2 rfl (v_move rfl) gn rfl ?_
  refine wl_v 3 rfl (v_lenQ un_22 rfl h10.hq) gn rfl ?_
  refine wl_v 4 rfl (v_bin rfl rfl rfl) gn rfl ?_
  refine w_end 5 rfl ?_
  by_cases hp11 : (x1.length : Int) = (x6.length : Int)
  · have h := if_pos' hp11 h
    refine g_false (c := trellislaw8_alike_c6) rfl _ rfl ((eqib hp11)) ?_
    refine g_skip (c := trellislaw8_alike_c8) rfl ?_
    refine g_seq (c := trellislaw8_alike_c4) rfl ?_
    refine g_seq (c := trellislaw8_alike_c9) rfl ?_
    refine g_region (c := trellislaw8_alike_c11) rfl rfl ?_
    refine wl_v 0 rfl (v_assign rfl) gn rfl ?_
    refine w_end 1 rfl ?_
    refine g_block (c := trellislaw8_alike_c12) rfl ?_
    refine g_loop (c := trellislaw8_alike_c13) rfl ?_
    have key1 : ∀ s, Rounds (fun (s : Int) o => trellislaw8_alike_b1 x1 x6 s o) s r → (fun (s : Int) => ∀ (_ : Unit), G (trellislaw8_alike_C w F r) [.code trellislaw8_alike_c14, .inLoop trellislaw8_alike_c14, .inBlock 0, .code trellislaw8_alike_c10] [(0, .slice A2 n3 c4), (1, .slice A7 n8 c9), (5, .int .i64 s)] [] [Sm w.heap.size F w [], St w []]) s := by
      intro s hs
      refine Rounds.ind (mot := (fun (s : Int) => ∀ (_ : Unit), G (trellislaw8_alike_C w F r) [.code trellislaw8_alike_c14, .inLoop trellislaw8_alike_c14, .inBlock 0, .code trellislaw8_alike_c10] [(0, .slice A2 n3 c4), (1, .slice A7 n8 c9), (5, .int .i64 s)] [] [Sm w.heap.size F w [], St w []])) ?_ hs
      clear hs s
      intro x49 o1 h hO1
      show ∀ (_ : Unit), G (trellislaw8_alike_C w F r) [.code trellislaw8_alike_c14, .inLoop trellislaw8_alike_c14, .inBlock 0, .code trellislaw8_alike_c10] [(0, .slice A2 n3 c4), (1, .slice A7 n8 c9), (5, .int .i64 x49)] [] [Sm w.heap.size F w [], St w []]
      intro _
      have h : trellislaw8_alike_b1 x1 x6 x49 o1 := h
      unfold trellislaw8_alike_b1 at h
      refine g_seq (c := trellislaw8_alike_c14) rfl ?_
      refine g_seq (c := trellislaw8_alike_c15) rfl ?_
      refine g_region (c := trellislaw8_alike_c17) rfl rfl ?_
      refine wl_v 0 rfl (v_move rfl) gn rfl ?_
      refine wl_v 1 rfl (v_move rfl) gn rfl ?_
      refine wl_v 2 rfl (v_lenQ un_22 rfl h5.hq) gn rfl ?_
      refine wl_v 3 rfl (v_bin rfl rfl rfl) gn rfl ?_
      refine w_end 4 rfl ?_
      by_cases hp86 : x49 < (x1.length : Int)
      · have h := if_pos' hp86 h
        refine g_true (c := trellislaw8_alike_c18) rfl _ rfl ((decide_eq_true hp86)) ?_
        refine g_skip (c := trellislaw8_alike_c19) rfl ?_
        refine g_seq (c := trellislaw8_alike_c16) rfl ?_
        refine g_block (c := trellislaw8_alike_c21) rfl ?_
        refine g_seq (c := trellislaw8_alike_c23) rfl ?_
        obtain ⟨hb87, h⟩ := h
        obtain ⟨hb89, h⟩ := h
        by_cases hp91 : (ix x1 x49).kind = (ix x6 x49).kind
        · have h := if_pos' hp91 h
          by_cases hp94 : (ix x1 x49).text = (ix x6 x49).text
          · have h := if_pos' hp94 h
            have hns : Region.noSelect (Code.ops trellislaw8_alike_c24) = true := by kernel_rfl
            refine g_drawF (c := trellislaw8_alike_c24) [] [Sm w.heap.size F w [], St w []] [] 37 rfl rfl mix rfl (.slnil) (sels [0, 1] rfl) ?_
            refine wf_v 0 rfl (v_move rfl) gn rfl hns (by kernel_rfl) (by kernel_rfl) rfl rfl ?_
            refine wf_v 1 rfl (v_move rfl) gn rfl hns (by kernel_rfl) (by kernel_rfl) rfl rfl ?_
            have hr103 := Rw.readF (s := St w []) (hl := hl_api_Word) (h1 := h1_api_Word) h5 hb87
            refine wf_v 2 rfl (v_idxR (s := St w []) slE_22 rfl rfl h5 hb87) gn rfl hns (by kernel_rfl) (by kernel_rfl) rfl rfl ?_
            refine wf_v 3 rfl (v_fldA fo_27_0 rfl) gn rfl hns (by kernel_rfl) (by kernel_rfl) rfl rfl ?_
            refine wf_v 4 rfl (v_ldA1 (kk := (x49 : Int).toNat * 4) (j := 0) (St w []) ld_25 rfl hr103 rfl (me 1 rfl)) gn rfl hns (by kernel_rfl) (by kernel_rfl) rfl rfl ?_
            refine wf_v 5 rfl (v_move rfl) gn rfl hns (by kernel_rfl) (by kernel_rfl) rfl rfl ?_
            refine wf_v 6 rfl (v_move rfl) gn rfl hns (by kernel_rfl) (by kernel_rfl) rfl rfl ?_
            have hr104 := Rw.readF (s := St w []) (hl := hl_api_Word) (h1 := h1_api_Word) h10 hb89
            refine wf_v 7 rfl (v_idxR (s := St w []) slE_22 rfl rfl h10 hb89) gn rfl hns (by kernel_rfl) (by kernel_rfl) rfl rfl ?_
            refine wf_v 8 rfl (v_fldA fo_27_0 rfl) gn rfl hns (by kernel_rfl) (by kernel_rfl) rfl rfl ?_
            refine wf_v 9 rfl (v_ldA1 (kk := (x49 : Int).toNat * 4) (j := 0) (St w []) ld_25 rfl hr104 rfl (me 1 rfl)) gn rfl hns (by kernel_rfl) (by kernel_rfl) rfl rfl ?_
            refine wf_v 10 rfl (v_bin rfl rfl rfl) gn rfl hns (by kernel_rfl) (by kernel_rfl) rfl rfl ?_
            refine wf_v 11 rfl (v_move rfl) gn rfl hns (by kernel_rfl) (by kernel_rfl) rfl rfl ?_
            refine wf_bool 28 rfl ((eqib hp91)) ?_
            refine wf_v 12 rfl (v_move rfl) (gy 28 rfl rfl) rfl hns (by kernel_rfl) (by kernel_rfl) rfl rfl ?_
            refine wf_v 13 rfl (v_move rfl) (gy 28 rfl rfl) rfl hns (by kernel_rfl) (by kernel_rfl) rfl rfl ?_
            have hr105 := Rw.readF (s := St w []) (hl := hl_api_Word) (h1 := h1_api_Word) h5 hb87
            refine wf_v 14 rfl (v_idxR (s := St w []) slE_22 rfl rfl h5 hb87) (gy 28 rfl rfl) rfl hns (by kernel_rfl) (by kernel_rfl) rfl rfl ?_
            refine wf_v 15 rfl (v_fldA fo_27_1 rfl) (gy 28 rfl rfl) rfl hns (by kernel_rfl) (by kernel_rfl) rfl rfl ?_
            refine wf_v 16 rfl (v_ldA1 (kk := (x49 : Int).toNat * 4) (j := 1) (St w []) ld_9 rfl hr105 rfl (me 1 rfl)) (gy 28 rfl rfl) rfl hns (by kernel_rfl) (by kernel_rfl) rfl rfl ?_
            refine wf_v 17 rfl (v_move rfl) (gy 28 rfl rfl) rfl hns (by kernel_rfl) (by kernel_rfl) rfl rfl ?_
            refine wf_v 18 rfl (v_move rfl) (gy 28 rfl rfl) rfl hns (by kernel_rfl) (by kernel_rfl) rfl rfl ?_
            have hr106 := Rw.readF (s := St w []) (hl := hl_api_Word) (h1 := h1_api_Word) h10 hb89
            refine wf_v 19 rfl (v_idxR (s := St w []) slE_22 rfl rfl h10 hb89) (gy 28 rfl rfl) rfl hns (by kernel_rfl) (by kernel_rfl) rfl rfl ?_
            refine wf_v 20 rfl (v_fldA fo_27_1 rfl) (gy 28 rfl rfl) rfl hns (by kernel_rfl) (by kernel_rfl) rfl rfl ?_
            refine wf_v 21 rfl (v_ldA1 (kk := (x49 : Int).toNat * 4) (j := 1) (St w []) ld_9 rfl hr106 rfl (me 1 rfl)) (gy 28 rfl rfl) rfl hns (by kernel_rfl) (by kernel_rfl) rfl rfl ?_
            refine wf_v 22 rfl (v_neS rfl rfl) (gy 28 rfl rfl) rfl hns (by kernel_rfl) (by kernel_rfl) rfl rfl ?_
            refine wf_v 23 rfl (v_pick (b := false) rfl rfl) gn rfl hns (by kernel_rfl) (by kernel_rfl) rfl rfl ?_
            refine wf_v 24 rfl (v_move rfl) gn rfl hns (by kernel_rfl) (by kernel_rfl) rfl rfl ?_
            refine wf_bool 41 rfl ((nf (seq_t hp94))) ?_
            refine wf_v 25 rfl (v_move rfl) (gy 41 rfl rfl) rfl hns (by kernel_rfl) (by kernel_rfl) rfl rfl ?_
            refine wf_v 26 rfl (v_move rfl) (gy 41 rfl rfl) rfl hns (by kernel_rfl) (by kernel_rfl) rfl rfl ?_
            have hr107 := Rw.readF (s := St w []) (hl := hl_api_Word) (h1 := h1_api_Word) h5 hb87
            refine wf_v 27 rfl (v_idxR (s := St w []) slE_22 rfl rfl h5 hb87) (gy 41 rfl rfl) rfl hns (by kernel_rfl) (by kernel_rfl) rfl rfl ?_
            refine wf_v 28 rfl (v_fldA fo_27_2 rfl) (gy 41 rfl rfl) rfl hns (by kernel_rfl) (by kernel_rfl) rfl rfl ?_
            refine wf_v 29 rfl (v_ldA1 (kk := (x49 : Int).toNat * 4) (j := 2) (St w []) ld_3 rfl hr107 rfl (me 1 rfl)) (gy 41 rfl rfl) rfl hns (by kernel_rfl) (by kernel_rfl) rfl rfl ?_
            refine wf_v 30 rfl (v_move rfl) (gy 41 rfl rfl) rfl hns (by kernel_rfl) (by kernel_rfl) rfl rfl ?_
            refine wf_v 31 rfl (v_move rfl) (gy 41 rfl rfl) rfl hns (by kernel_rfl) (by kernel_rfl) rfl rfl ?_
            have hr108 := Rw.readF (s := St w []) (hl := hl_api_Word) (h1 := h1_api_Word) h10 hb89
            refine wf_v 32 rfl (v_idxR (s := St w []) slE_22 rfl rfl h10 hb89) (gy 41 rfl rfl) rfl hns (by kernel_rfl) (by kernel_rfl) rfl rfl ?_
            refine wf_v 33 rfl (v_fldA fo_27_2 rfl) (gy 41 rfl rfl) rfl hns (by kernel_rfl) (by kernel_rfl) rfl rfl ?_
            refine wf_v 34 rfl (v_ldA1 (kk := (x49 : Int).toNat * 4) (j := 2) (St w []) ld_3 rfl hr108 rfl (me 1 rfl)) (gy 41 rfl rfl) rfl hns (by kernel_rfl) (by kernel_rfl) rfl rfl ?_
            refine wf_v 35 rfl (v_bin rfl rfl rfl) (gy 41 rfl rfl) rfl hns (by kernel_rfl) (by kernel_rfl) rfl rfl ?_
            refine wf_v 36 rfl (v_pick (b := false) rfl rfl) gn rfl hns (by kernel_rfl) (by kernel_rfl) rfl rfl ?_
            refine wf_end (by kernel_rfl) ?_
            by_cases hp109 : (ix x1 x49).n = (ix x6 x49).n
            · have h := if_pos' hp109 h
              refine g_false (c := trellislaw8_alike_c25) rfl _ rfl ((eqib hp109)) ?_
              refine g_skip (c := trellislaw8_alike_c27) rfl ?_
              refine g_inBlock ?_
              refine g_region (c := trellislaw8_alike_c22) rfl rfl ?_
              refine wl_v 0 rfl (v_move rfl) gn rfl ?_
              refine wl_v 1 rfl (v_bin rfl rfl rfl) gn rfl ?_
              refine wl_v 2 rfl (v_assign rfl) gn rfl ?_
              refine w_end 3 rfl ?_
              refine g_inLoop ?_
              have ih := Out.inl hO1 h
              exact g_go [0, 1] (ih ()) ⟨rfl, rfl, rfl, trivial⟩ (.slnil) rfl
            · have h := if_neg' hp109 h
              refine g_true (c := trellislaw8_alike_c25) rfl _ rfl ((neib hp109)) ?_
              refine g_seq (c := trellislaw8_alike_c26) rfl ?_
              refine g_region (c := trellislaw8_alike_c28) rfl rfl ?_
              refine wl_v 0 rfl (v_assign rfl) gn rfl ?_
              refine w_end 1 rfl ?_
              have h := Out.inr hO1 h
              refine g_retR (c := trellislaw8_alike_c29) [.bool false] rfl Tryd.func18 rfl (.tmp rfl (.nil)) fun wr hLr => ?_
              have hMr : B.Loc w wr [] [St w []] := hLr.pick (rest := []) (perm_of_idx [] [] rfl rfl (by kernel_rfl)) (sels [1] rfl)
              have hMi : ∀ e ∈ ([] : List Ent), e ∈ ([] : List Ent) := sels [] rfl
              show trellislaw8_alike_R w F  r (.returned (packV [.bool false])) wr
              rw [h]
              exact ⟨rfl, hMr⟩
          · have h := if_neg' hp94 h
            have hns : Region.noSelect (Code.ops trellislaw8_alike_c24) = true := by kernel_rfl
            refine g_drawF (c := trellislaw8_alike_c24) [] [Sm w.heap.size F w [], St w []] [] 37 rfl rfl mix rfl (.slnil) (sels [0, 1] rfl) ?_
            refine wf_v 0 rfl (v_move rfl) gn rfl hns (by kernel_rfl) (by kernel_rfl) rfl rfl ?_
            refine wf_v 1 rfl (v_move rfl) gn rfl hns (by kernel_rfl) (by kernel_rfl) rfl rfl ?_
            have hr114 := Rw.readF (s := St w []) (hl := hl_api_Word) (h1 := h1_api_Word) h5 hb87
            refine wf_v 2 rfl (v_idxR (s := St w []) slE_22 rfl rfl h5 hb87) gn rfl hns (by kernel_rfl) (by kernel_rfl) rfl rfl ?_
            refine wf_v 3 rfl (v_fldA fo_27_0 rfl) gn rfl hns (by kernel_rfl) (by kernel_rfl) rfl rfl ?_
            refine wf_v 4 rfl (v_ldA1 (kk := (x49 : Int).toNat * 4) (j := 0) (St w []) ld_25 rfl hr114 rfl (me 1 rfl)) gn rfl hns (by kernel_rfl) (by kernel_rfl) rfl rfl ?_
            refine wf_v 5 rfl (v_move rfl) gn rfl hns (by kernel_rfl) (by kernel_rfl) rfl rfl ?_
            refine wf_v 6 rfl (v_move rfl) gn rfl hns (by kernel_rfl) (by kernel_rfl) rfl rfl ?_
            have hr115 := Rw.readF (s := St w []) (hl := hl_api_Word) (h1 := h1_api_Word) h10 hb89
            refine wf_v 7 rfl (v_idxR (s := St w []) slE_22 rfl rfl h10 hb89) gn rfl hns (by kernel_rfl) (by kernel_rfl) rfl rfl ?_
            refine wf_v 8 rfl (v_fldA fo_27_0 rfl) gn rfl hns (by kernel_rfl) (by kernel_rfl) rfl rfl ?_
            refine wf_v 9 rfl (v_ldA1 (kk := (x49 : Int).toNat * 4) (j := 0) (St w []) ld_25 rfl hr115 rfl (me 1 rfl)) gn rfl hns (by kernel_rfl) (by kernel_rfl) rfl rfl ?_
            refine wf_v 10 rfl (v_bin rfl rfl rfl) gn rfl hns (by kernel_rfl) (by kernel_rfl) rfl rfl ?_
            refine wf_v 11 rfl (v_move rfl) gn rfl hns (by kernel_rfl) (by kernel_rfl) rfl rfl ?_
            refine wf_bool 28 rfl ((eqib hp91)) ?_
            refine wf_v 12 rfl (v_move rfl) (gy 28 rfl rfl) rfl hns (by kernel_rfl) (by kernel_rfl) rfl rfl ?_
            refine wf_v 13 rfl (v_move rfl) (gy 28 rfl rfl) rfl hns (by kernel_rfl) (by kernel_rfl) rfl rfl ?_
            have hr116 := Rw.readF (s := St w []) (hl := hl_api_Word) (h1 := h1_api_Word) h5 hb87
            refine wf_v 14 rfl (v_idxR (s := St w []) slE_22 rfl rfl h5 hb87) (gy 28 rfl rfl) rfl hns (by kernel_rfl) (by kernel_rfl) rfl rfl ?_
            refine wf_v 15 rfl (v_fldA fo_27_1 rfl) (gy 28 rfl rfl) rfl hns (by kernel_rfl) (by kernel_rfl) rfl rfl ?_
            refine wf_v 16 rfl (v_ldA1 (kk := (x49 : Int).toNat * 4) (j := 1) (St w []) ld_9 rfl hr116 rfl (me 1 rfl)) (gy 28 rfl rfl) rfl hns (by kernel_rfl) (by kernel_rfl) rfl rfl ?_
            refine wf_v 17 rfl (v_move rfl) (gy 28 rfl rfl) rfl hns (by kernel_rfl) (by kernel_rfl) rfl rfl ?_
            refine wf_v 18 rfl (v_move rfl) (gy 28 rfl rfl) rfl hns (by kernel_rfl) (by kernel_rfl) rfl rfl ?_
            have hr117 := Rw.readF (s := St w []) (hl := hl_api_Word) (h1 := h1_api_Word) h10 hb89
            refine wf_v 19 rfl (v_idxR (s := St w []) slE_22 rfl rfl h10 hb89) (gy 28 rfl rfl) rfl hns (by kernel_rfl) (by kernel_rfl) rfl rfl ?_
            refine wf_v 20 rfl (v_fldA fo_27_1 rfl) (gy 28 rfl rfl) rfl hns (by kernel_rfl) (by kernel_rfl) rfl rfl ?_
            refine wf_v 21 rfl (v_ldA1 (kk := (x49 : Int).toNat * 4) (j := 1) (St w []) ld_9 rfl hr117 rfl (me 1 rfl)) (gy 28 rfl rfl) rfl hns (by kernel_rfl) (by kernel_rfl) rfl rfl ?_
            refine wf_v 22 rfl (v_neS rfl rfl) (gy 28 rfl rfl) rfl hns (by kernel_rfl) (by kernel_rfl) rfl rfl ?_
            refine wf_v 23 rfl (v_pick (b := false) rfl rfl) gn rfl hns (by kernel_rfl) (by kernel_rfl) rfl rfl ?_
            refine wf_v 24 rfl (v_move rfl) gn rfl hns (by kernel_rfl) (by kernel_rfl) rfl rfl ?_
            refine wf_bool 41 rfl ((nt (seq_f hp94))) ?_
            refine wf_pass 25 rfl (ps 41 rfl rfl rfl) hns (by kernel_rfl) (by kernel_rfl) rfl rfl ?_
            refine wf_pass 26 rfl (ps 41 rfl rfl rfl) hns (by kernel_rfl) (by kernel_rfl) rfl rfl ?_
            refine wf_pass 27 rfl (ps 41 rfl rfl rfl) hns (by kernel_rfl) (by kernel_rfl) rfl rfl ?_
            refine wf_pass 28 rfl (ps 41 rfl rfl rfl) hns (by kernel_rfl) (by kernel_rfl) rfl rfl ?_
            refine wf_pass 29 rfl (ps 41 rfl rfl rfl) hns (by kernel_rfl) (by kernel_rfl) rfl rfl ?_
            refine wf_pass 30 rfl (ps 41 rfl rfl rfl) hns (by kernel_rfl) (by kernel_rfl) rfl rfl ?_
            refine wf_pass 31 rfl (ps 41 rfl rfl rfl) hns (by kernel_rfl) (by kernel_rfl) rfl rfl ?_
            refine wf_pass 32 rfl (ps 41 rfl rfl rfl) hns (by kernel_rfl) (by kernel_rfl) rfl rfl ?_
            refine wf_pass 33 rfl (ps 41 rfl rfl rfl) hns (by kernel_rfl) (by kernel_rfl) rfl rfl ?_
            refine wf_pass 34 rfl (ps 41 rfl rfl rfl) hns (by kernel_rfl) (by kernel_rfl) rfl rfl ?_
            refine wf_pass 35 rfl (ps 41 rfl rfl rfl) hns (by kernel_rfl) (by kernel_rfl) rfl rfl ?_
            refine wf_v 36 rfl (v_pick (b := true) rfl rfl) gn rfl hns (by kernel_rfl) (by kernel_rfl) rfl rfl ?_
            refine wf_end (by kernel_rfl) ?_
            refine g_true (c := trellislaw8_alike_c25) rfl _ rfl (rfl) ?_
            refine g_seq (c := trellislaw8_alike_c26) rfl ?_
            refine g_region (c := trellislaw8_alike_c28) rfl rfl ?_
            refine wl_v 0 rfl (v_assign rfl) gn rfl ?_
            refine w_end 1 rfl ?_
            have h := Out.inr hO1 h
            refine g_retR (c := trellislaw8_alike_c29) [.bool false] rfl Tryd.func18 rfl (.tmp rfl (.nil)) fun wr hLr => ?_
            have hMr : B.Loc w wr [] [St w []] := hLr.pick (rest := []) (perm_of_idx [] [] rfl rfl (by kernel_rfl)) (sels [1] rfl)
            have hMi : ∀ e ∈ ([] : List Ent), e ∈ ([] : List Ent) := sels [] rfl
            show trellislaw8_alike_R w F  r (.returned (packV [.bool false])) wr
            rw [h]
            exact ⟨rfl, hMr⟩
        · have h := if_neg' hp91 h
          have hns : Region.noSelect (Code.ops trellislaw8_alike_c24) = true := by kernel_rfl
          refine g_drawF (c := trellislaw8_alike_c24) [] [Sm w.heap.size F w [], St w []] [] 37 rfl rfl mix rfl (.slnil) (sels [0, 1] rfl) ?_
          refine wf_v 0 rfl (v_move rfl) gn rfl hns (by kernel_rfl) (by kernel_rfl) rfl rfl ?_
          refine wf_v 1 rfl (v_move rfl) gn rfl hns (by kernel_rfl) (by kernel_rfl) rfl rfl ?_
          have hr120 := Rw.readF (s := St w []) (hl := hl_api_Word) (h1 := h1_api_Word) h5 hb87
          refine wf_v 2 rfl (v_idxR (s := St w []) slE_22 rfl rfl h5 hb87) gn rfl hns (by kernel_rfl) (by kernel_rfl) rfl rfl ?_
          refine wf_v 3 rfl (v_fldA fo_27_0 rfl) gn rfl hns (by kernel_rfl) (by kernel_rfl) rfl rfl ?_
          refine wf_v 4 rfl (v_ldA1 (kk := (x49 : Int).toNat * 4) (j := 0) (St w []) ld_25 rfl hr120 rfl (me 1 rfl)) gn rfl hns (by kernel_rfl) (by kernel_rfl) rfl rfl ?_
          refine wf_v 5 rfl (v_move rfl) gn rfl hns (by kernel_rfl) (by kernel_rfl) rfl rfl ?_
          refine wf_v 6 rfl (v_move rfl) gn rfl hns (by kernel_rfl) (by kernel_rfl) rfl rfl ?_
          have hr121 := Rw.readF (s := St w []) (hl := hl_api_Word) (h1 := h1_api_Word) h10 hb89
          refine wf_v 7 rfl (v_idxR (s := St w []) slE_22 rfl rfl h10 hb89) gn rfl hns (by kernel_rfl) (by kernel_rfl) rfl rfl ?_
          refine wf_v 8 rfl (v_fldA fo_27_0 rfl) gn rfl hns (by kernel_rfl) (by kernel_rfl) rfl rfl ?_
          refine wf_v 9 rfl (v_ldA1 (kk := (x49 : Int).toNat * 4) (j := 0) (St w []) ld_25 rfl hr121 rfl (me 1 rfl)) gn rfl hns (by kernel_rfl) (by kernel_rfl) rfl rfl ?_
          refine wf_v 10 rfl (v_bin rfl rfl rfl) gn rfl hns (by kernel_rfl) (by kernel_rfl) rfl rfl ?_
          refine wf_v 11 rfl (v_move rfl) gn rfl hns (by kernel_rfl) (by kernel_rfl) rfl rfl ?_
          refine wf_bool 28 rfl ((neib hp91)) ?_
          refine wf_pass 12 rfl (ps 28 rfl rfl rfl) hns (by kernel_rfl) (by kernel_rfl) rfl rfl ?_
          refine wf_pass 13 rfl (ps 28 rfl rfl rfl) hns (by kernel_rfl) (by kernel_rfl) rfl rfl ?_
          refine wf_pass 14 rfl (ps 28 rfl rfl rfl) hns (by kernel_rfl) (by kernel_rfl) rfl rfl ?_
          refine wf_pass 15 rfl (ps 28 rfl rfl rfl) hns (by kernel_rfl) (by kernel_rfl) rfl rfl ?_
          refine wf_pass 16 rfl (ps 28 rfl rfl rfl) hns (by kernel_rfl) (by kernel_rfl) rfl rfl ?_
          refine wf_pass 17 rfl (ps 28 rfl rfl rfl) hns (by kernel_rfl) (by kernel_rfl) rfl rfl ?_
          refine wf_pass 18 rfl (ps 28 rfl rfl rfl) hns (by kernel_rfl) (by kernel_rfl) rfl rfl ?_
          refine wf_pass 19 rfl (ps 28 rfl rfl rfl) hns (by kernel_rfl) (by kernel_rfl) rfl rfl ?_
          refine wf_pass 20 rfl (ps 28 rfl rfl rfl) hns (by kernel_rfl) (by kernel_rfl) rfl rfl ?_
          refine wf_pass 21 rfl (ps 28 rfl rfl rfl) hns (by kernel_rfl) (by kernel_rfl) rfl rfl ?_
          refine wf_pass 22 rfl (ps 28 rfl rfl rfl) hns (by kernel_rfl) (by kernel_rfl) rfl rfl ?_
          refine wf_v 23 rfl (v_pick (b := true) rfl rfl) gn rfl hns (by kernel_rfl) (by kernel_rfl) rfl rfl ?_
          refine wf_v 24 rfl (v_move rfl) gn rfl hns (by kernel_rfl) (by kernel_rfl) rfl rfl ?_
          refine wf_pass 25 rfl (ps 41 rfl rfl rfl) hns (by kernel_rfl) (by kernel_rfl) rfl rfl ?_
          refine wf_pass 26 rfl (ps 41 rfl rfl rfl) hns (by kernel_rfl) (by kernel_rfl) rfl rfl ?_
          refine wf_pass 27 rfl (ps 41 rfl rfl rfl) hns (by kernel_rfl) (by kernel_rfl) rfl rfl ?_
          refine wf_pass 28 rfl (ps 41 rfl rfl rfl) hns (by kernel_rfl) (by kernel_rfl) rfl rfl ?_
          refine wf_pass 29 rfl (ps 41 rfl rfl rfl) hns (by kernel_rfl) (by kernel_rfl) rfl rfl ?_
          refine wf_pass 30 rfl (ps 41 rfl rfl rfl) hns (by kernel_rfl) (by kernel_rfl) rfl rfl ?_
          refine wf_pass 31 rfl (ps 41 rfl rfl rfl) hns (by kernel_rfl) (by kernel_rfl) rfl rfl ?_
          refine wf_pass 32 rfl (ps 41 rfl rfl rfl) hns (by kernel_rfl) (by kernel_rfl) rfl rfl ?_
          refine wf_pass 33 rfl (ps 41 rfl rfl rfl) hns (by kernel_rfl) (by kernel_rfl) rfl rfl ?_
          refine wf_pass 34 rfl (ps 41 rfl rfl rfl) hns (by kernel_rfl) (by kernel_rfl) rfl rfl ?_
          refine wf_pass 35 rfl (ps 41 rfl rfl rfl) hns (by kernel_rfl) (by kernel_rfl) rfl rfl ?_
          refine wf_v 36 rfl (v_pick (b := true) rfl rfl) gn rfl hns (by kernel_rfl) (by kernel_rfl) rfl rfl ?_
          refine wf_end (by kernel_rfl) ?_
          refine g_true (c := trellislaw8_alike_c25) rfl _ rfl (rfl) ?_
          refine g_seq (c := trellislaw8_alike_c26) rfl ?_
          refine g_region (c := trellislaw8_alike_c28) rfl rfl ?_
          refine wl_v 0 rfl (v_assign rfl) gn rfl ?_
          refine w_end 1 rfl ?_
          have h := Out.inr hO1 h
          refine g_retR (c := trellislaw8_alike_c29) [.bool false] rfl Tryd.func18 rfl (.tmp rfl (.nil)) fun wr hLr => ?_
          have hMr : B.Loc w wr [] [St w []] := hLr.pick (rest := []) (perm_of_idx [] [] rfl rfl (by kernel_rfl)) (sels [1] rfl)
          have hMi : ∀ e ∈ ([] : List Ent), e ∈ ([] : List Ent) := sels [] rfl
          show trellislaw8_alike_R w F  r (.returned (packV [.bool false])) wr
          rw [h]
          exact ⟨rfl, hMr⟩
      · have h := if_neg' hp86 h
        refine g_false (c := trellislaw8_alike_c18) rfl _ rfl ((decide_eq_false hp86)) ?_
        refine g_exit (c := trellislaw8_alike_c20) [.code trellislaw8_alike_c10] rfl rfl ?_
        refine g_seq (c := trellislaw8_alike_c10) rfl ?_
        refine g_region (c := trellislaw8_alike_c30) rfl rfl ?_
        refine wl_v 0 rfl (v_assign rfl) gn rfl ?_
        refine w_end 1 rfl ?_
        have h := Out.inr hO1 h
        refine g_retR (c := trellislaw8_alike_c31) [.bool true] rfl Tryd.func18 rfl (.tmp rfl (.nil)) fun wr hLr => ?_
        have hMr : B.Loc w wr [] [St w []] := hLr.pick (rest := []) (perm_of_idx [] [] rfl rfl (by kernel_rfl)) (sels [1] rfl)
        have hMi : ∀ e ∈ ([] : List Ent), e ∈ ([] : List Ent) := sels [] rfl
        show trellislaw8_alike_R w F  r (.returned (packV [.bool true])) wr
        rw [h]
        exact ⟨rfl, hMr⟩
    exact g_go [0, 1] (key1 _ h ()) ⟨rfl, rfl, rfl, trivial⟩ (.slnil) rfl
  · have h := if_neg' hp11 h
    refine g_true (c := trellislaw8_alike_c6) rfl _ rfl ((neib hp11)) ?_
    refine g_seq (c := trellislaw8_alike_c7) rfl ?_
    refine g_region (c := trellislaw8_alike_c32) rfl rfl ?_
    refine wl_v 0 rfl (v_assign rfl) gn rfl ?_
    refine w_end 1 rfl ?_
    refine g_retR (c := trellislaw8_alike_c33) [.bool false] rfl Tryd.func18 rfl (.tmp rfl (.nil)) fun wr hLr => ?_
    have hMr : B.Loc w wr [] [St w []] := hLr.pick (rest := []) (perm_of_idx [] [] rfl rfl (by kernel_rfl)) (sels [1] rfl)
    have hMi : ∀ e ∈ ([] : List Ent), e ∈ ([] : List Ent) := sels [] rfl
    show trellislaw8_alike_R w F  r (.returned (packV [.bool false])) wr
    rw [h]
    exact ⟨rfl, hMr⟩
noncomputable abbrev trellislaw8_WordsCanon_c0 : Code := bodyOf Tryd.f5
noncomputable abbrev trellislaw8_WordsCanon_c1 : Code := Code.fst trellislaw8_WordsCanon_c0
noncomputable abbrev trellislaw8_WordsCanon_c2 : Code := Code.snd trellislaw8_WordsCanon_c0
noncomputable abbrev trellislaw8_WordsCanon_c3 : Code := Code.fst trellislaw8_WordsCanon_c2
noncomputable abbrev trellislaw8_WordsCanon_c4 : Code := Code.snd trellislaw8_WordsCanon_c2
noncomputable abbrev trellislaw8_WordsCanon_c5 : Code := Code.fst trellislaw8_WordsCanon_c3
noncomputable abbrev trellislaw8_WordsCanon_c6 : Code := Code.snd trellislaw8_WordsCanon_c3
noncomputable abbrev trellislaw8_WordsCanon_c7 : Code := Code.fst trellislaw8_WordsCanon_c6
noncomputable abbrev trellislaw8_WordsCanon_c8 : Code := Code.snd trellislaw8_WordsCanon_c6
noncomputable abbrev trellislaw8_WordsCanon_c9 : Code := Code.fst trellislaw8_WordsCanon_c4
noncomputable abbrev trellislaw8_WordsCanon_c10 : Code := Code.snd trellislaw8_WordsCanon_c4
noncomputable abbrev trellislaw8_WordsCanon_c11 : Code := Code.fst trellislaw8_WordsCanon_c10
noncomputable abbrev trellislaw8_WordsCanon_c12 : Code := Code.snd trellislaw8_WordsCanon_c10
noncomputable abbrev trellislaw8_WordsCanon_c13 : Code := Code.fst trellislaw8_WordsCanon_c11
noncomputable abbrev trellislaw8_WordsCanon_c14 : Code := Code.snd trellislaw8_WordsCanon_c11
noncomputable abbrev trellislaw8_WordsCanon_c15 : Code := Code.fst trellislaw8_WordsCanon_c14
noncomputable abbrev trellislaw8_WordsCanon_c16 : Code := Code.snd trellislaw8_WordsCanon_c14
noncomputable abbrev trellislaw8_WordsCanon_c17 : Code := Code.fst trellislaw8_WordsCanon_c12
noncomputable abbrev trellislaw8_WordsCanon_c18 : Code := Code.snd trellislaw8_WordsCanon_c12
noncomputable abbrev trellislaw8_WordsCanon_c19 : Code := Code.fst trellislaw8_WordsCanon_c18
noncomputable abbrev trellislaw8_WordsCanon_c20 : Code := Code.snd trellislaw8_WordsCanon_c18
noncomputable abbrev trellislaw8_WordsCanon_c21 : Code := Code.fst trellislaw8_WordsCanon_c20
noncomputable abbrev trellislaw8_WordsCanon_c22 : Code := Code.snd trellislaw8_WordsCanon_c20
noncomputable abbrev trellislaw8_WordsCanon_c23 : Code := Code.fst trellislaw8_WordsCanon_c21
noncomputable abbrev trellislaw8_WordsCanon_c24 : Code := Code.snd trellislaw8_WordsCanon_c21
noncomputable abbrev trellislaw8_WordsCanon_c25 : Code := Code.fst trellislaw8_WordsCanon_c24
noncomputable abbrev trellislaw8_WordsCanon_c26 : Code := Code.snd trellislaw8_WordsCanon_c24
noncomputable abbrev trellislaw8_WordsCanon_c27 : Code := Code.fst trellislaw8_WordsCanon_c25
noncomputable abbrev trellislaw8_WordsCanon_c28 : Code := Code.snd trellislaw8_WordsCanon_c25
noncomputable abbrev trellislaw8_WordsCanon_c29 : Code := Code.fst trellislaw8_WordsCanon_c22
noncomputable abbrev trellislaw8_WordsCanon_c30 : Code := Code.snd trellislaw8_WordsCanon_c22
noncomputable abbrev trellislaw8_WordsCanon_c31 : Code := Code.fst trellislaw8_WordsCanon_c15
noncomputable abbrev trellislaw8_WordsCanon_c32 : Code := Code.snd trellislaw8_WordsCanon_c15
noncomputable abbrev trellislaw8_WordsCanon_c33 : Code := Code.fst trellislaw8_WordsCanon_c7
noncomputable abbrev trellislaw8_WordsCanon_c34 : Code := Code.snd trellislaw8_WordsCanon_c7
abbrev trellislaw8_WordsCanon_R (w : World) (F : Nat → Prop) (r : Bool) : Ending → World → Prop := fun e w' => e = .returned (.bool r) ∧ B.Loc w w' [] [St w []]
noncomputable abbrev trellislaw8_WordsCanon_C (w : World) (F : Nat → Prop) (r : Bool) : Cx := ⟨Tryd.prog, 5, Tryd.f5, 59, trellislaw8_WordsCanon_R w F  r, w⟩
theorem trellislaw8_WordsCanon_calls (w : World) (F : Nat → Prop) (x1 : ByteArray) (hG : Tb Tryd.prog (St w [])) (hF : ∀ b, F b → b < w.heap.size ∧ ∀ o ∈ ([] : List (List Nat)), b ∉ o) (hL0 : B.Loc w w [] [Sm w.heap.size F w [], St w []]) (r : Bool) (h : trellislaw8_WordsCanon x1 r) : Calls Tryd.prog 5 #[.string x1] w (trellislaw8_WordsCanon_R w F  r) := by
  unfold trellislaw8_WordsCanon at h
  refine calls_of_Loc (vs := [.string x1]) 59 Tryd.func5 rfl Tryd.ntmps5 rfl hL0 ?_
  show G (trellislaw8_WordsCanon_C w F r) _ _ _ _
  refine g_seq (c := trellislaw8_WordsCanon_c0) rfl ?_
  refine g_region (c := trellislaw8_WordsCanon_c1) rfl rfl ?_
  refine wl_v 0 rfl (v_assign rfl) gn rfl ?_
  refine w_end 1 rfl ?_
  refine g_seq (c := trellislaw8_WordsCanon_c2) rfl ?_
  refine g_seq (c := trellislaw8_WordsCanon_c3) rfl ?_
  refine g_region (c := trellislaw8_WordsCanon_c5) rfl rfl ?_
  obtain ⟨r5, hv6, h⟩ := h
  refine wl_s 0 rfl (s_call [] rfl Tryd.func15 rfl rfl rfl fun w2 hL3 => ?_) gn
  have hp4 : List.Perm ([] : List Ent) (([] : List Ent) ++ ([] : List Ent)) := perm_of_idx [] [] rfl rfl (by kernel_rfl)
  refine Calls.mono (trellislaw8_started_calls w2 (Fl ([] : List Snap)) (hL3.tb hp4 hG (me 1 rfl)) (hL3.hFl (Sl := ([] : List Snap)) hp4 (sels [] rfl)) (hL3.into hp4 (Fl ([] : List Snap))) r5 hv6) ?_
  rintro _ w7 ⟨rfl, hM8⟩
  have hL9 := hL3.call hp4 hM8
  refine ⟨_, _, _, rfl, hL9, ?_⟩
  refine wl_v 1 rfl (v_not rfl) gn rfl ?_
  refine w_end 2 rfl ?_
  by_cases hp10 : r5 = true
  · have h := if_pos' hp10 h
    refine g_false (c := trellislaw8_WordsCanon_c6) rfl _ rfl ((nf hp10)) ?_
    refine g_skip (c := trellislaw8_WordsCanon_c8) rfl ?_
    refine g_seq (c := trellislaw8_WordsCanon_c4) rfl ?_
    refine g_region (c := trellislaw8_WordsCanon_c9) rfl rfl ?_
    refine wl_v 0 rfl (v_move rfl) gn rfl ?_
    obtain ⟨r14, hv15, h⟩ := h
    refine wl_s 1 rfl (s_call [.string x1] rfl Tryd.func16 rfl rfl rfl fun w11 hL12 => ?_) gn
    have hp13 : List.Perm ([] : List Ent) (([] : List Ent) ++ ([] : List Ent)) := perm_of_idx [] [] rfl rfl (by kernel_rfl)
    refine Calls.mono (words_Cut_calls w11 (Fl ([] : List Snap)) x1 (hL12.hFl (Sl := ([] : List Snap)) hp13 (sels [] rfl)) (hL12.into hp13 (Fl ([] : List Snap))) r14 hv15) ?_
    rintro _ w21 ⟨A16, n17, c18, rfl, hM22, h19⟩
    have hL23 := hL12.call hp13 hM22
    refine ⟨_, _, _, rfl, hL23, ?_⟩
    refine wl_v 2 rfl (v_move rfl) gn rfl ?_
    refine wl_v 3 rfl (v_extract rfl rfl) gn rfl ?_
    refine wl_v 4 rfl (v_extract rfl rfl) gn rfl ?_
    refine wl_v 5 rfl (v_extract rfl rfl) gn rfl ?_
    refine wl_v 6 rfl (v_assign rfl) gn rfl ?_
    refine wl_v 7 rfl (v_assign rfl) gn rfl ?_
    refine wl_v 8 rfl (v_assign rfl) gn rfl ?_
    refine w_end 9 rfl ?_
    refine g_seq (c := trellislaw8_WordsCanon_c10) rfl ?_
    refine g_seq (c := trellislaw8_WordsCanon_c11) rfl ?_
    refine g_region (c := trellislaw8_WordsCanon_c13) rfl rfl ?_
    refine wl_v 0 rfl (v_move rfl) gn rfl ?_
    refine wl_v 1 rfl (v_bin rfl rfl rfl) gn rfl ?_
    refine w_end 2 rfl ?_
    by_cases hp24 : r14.2.1 = 0
    · have h := if_pos' hp24 h
      refine g_false (c := trellislaw8_WordsCanon_c14) rfl _ rfl ((eqib hp24)) ?_
      refine g_skip (c := trellislaw8_WordsCanon_c16) rfl ?_
      refine g_seq (c := trellislaw8_WordsCanon_c12) rfl ?_
      refine g_region (c := trellislaw8_WordsCanon_c17) rfl rfl ?_
      refine wl_v 0 rfl (v_move rfl) gn rfl ?_
      obtain ⟨r28, hv29, h⟩ := h
      refine wl_s 1 rfl (s_call [.slice A16 n17 c18] rfl Tryd.func12 rfl rfl rfl fun w25 hL26 => ?_) gn
      have hp27 : List.Perm ([.own (.slice A16 n17 c18) 27 4 n17 (r14.1.flatMap enc_api_Word)] : List Ent) (([] : List Ent) ++ ([.own (.slice A16 n17 c18) 27 4 n17 (r14.1.flatMap enc_api_Word)] : List Ent)) := perm_of_idx [] [0] rfl rfl (by kernel_rfl)
      refine Calls.mono (words_Join_calls w25 (Fl ([] : List Snap)) r14.1 A16 n17 c18 (hL26.argO (dk := k_api_Word) hp27 [] rfl 0 rfl rfl (Ow.weak hL12.env.size h19) (me 0 rfl) (Cells.flat _)) (hL26.tb hp27 hG (me 1 rfl)) (hL26.hFl (Sl := ([] : List Snap)) hp27 (sels [] rfl)) (hL26.into hp27 (Fl ([] : List Snap))) r28 hv29) ?_
      rintro _ w30 ⟨rfl, hM31⟩
      have hL32 := hL26.call hp27 hM31
      refine ⟨_, _, _, rfl, hL32, ?_⟩
      refine wl_v 2 rfl (v_assign rfl) gn rfl ?_
      refine w_end 3 rfl ?_
      refine g_seq (c := trellislaw8_WordsCanon_c18) rfl ?_
      refine g_region (c := trellislaw8_WordsCanon_c19) rfl rfl ?_
      refine wl_v 0 rfl (v_move rfl) gn rfl ?_
      obtain ⟨r36, hv37, h⟩ := h
      refine wl_s 1 rfl (s_call [.string r28] rfl Tryd.func16 rfl rfl rfl fun w33 hL34 => ?_) gn
      have hp35 : List.Perm ([.own (.slice A16 n17 c18) 27 4 n17 (r14.1.flatMap enc_api_Word)] : List Ent) (([] : List Ent) ++ ([.own (.slice A16 n17 c18) 27 4 n17 (r14.1.flatMap enc_api_Word)] : List Ent)) := perm_of_idx [] [0] rfl rfl (by kernel_rfl)
      refine Calls.mono (words_Cut_calls w33 (Fl ([] : List Snap)) r28 (hL34.hFl (Sl := ([] : List Snap)) hp35 (sels [] rfl)) (hL34.into hp35 (Fl ([] : List Snap))) r36 hv37) ?_
      rintro _ w43 ⟨A38, n39, c40, rfl, hM44, h41⟩
      have hL45 := hL34.call hp35 hM44
      refine ⟨_, _, _, rfl, hL45, ?_⟩
      refine wl_v 2 rfl (v_move rfl) gn rfl ?_
      refine wl_v 3 rfl (v_extract rfl rfl) gn rfl ?_
      refine wl_v 4 rfl (v_extract rfl rfl) gn rfl ?_
      refine wl_v 5 rfl (v_extract rfl rfl) gn rfl ?_
      refine wl_v 6 rfl (v_assign rfl) gn rfl ?_
      refine wl_v 7 rfl (v_assign rfl) gn rfl ?_
      refine wl_v 8 rfl (v_assign rfl) gn rfl ?_
      refine w_end 9 rfl ?_
      refine g_seq (c := trellislaw8_WordsCanon_c20) rfl ?_
      refine g_seq (c := trellislaw8_WordsCanon_c21) rfl ?_
      refine g_region (c := trellislaw8_WordsCanon_c23) rfl rfl ?_
      refine wl_v 0 rfl (v_move rfl) gn rfl ?_
      refine wl_v 1 rfl (v_lenS un_9 rfl) gn rfl ?_
      refine wl_v 2 rfl (v_bin rfl rfl rfl) gn rfl ?_
      refine w_end 3 rfl ?_
      by_cases hp46 : (r28.size : Int) > 16384
      · have h := if_pos' hp46 h
        refine g_true (c := trellislaw8_WordsCanon_c24) rfl _ rfl ((decide_eq_true hp46)) ?_
        refine g_seq (c := trellislaw8_WordsCanon_c25) rfl ?_
        refine g_region (c := trellislaw8_WordsCanon_c27) rfl rfl ?_
        refine wl_v 0 rfl (v_move rfl) gn rfl ?_
        refine wl_v 1 rfl (v_bin rfl rfl rfl) gn rfl ?_
        refine wl_v 2 rfl (v_assign rfl) gn rfl ?_
        refine w_end 3 rfl ?_
        refine g_retR (c := trellislaw8_WordsCanon_c28) [.bool (r36.2.1 == 80)] rfl Tryd.func5 rfl (.tmp rfl (.nil)) fun wr hLr => ?_
        have hMr : B.Loc w wr [] [St w []] := hLr.pick (rest := [.own (.slice A38 n39 c40) 27 4 n39 (r36.1.flatMap enc_api_Word), .own (.slice A16 n17 c18) 27 4 n17 (r14.1.flatMap enc_api_Word)]) (perm_of_idx [] [0, 1] rfl rfl (by kernel_rfl)) (sels [1] rfl)
        have hMi : ∀ e ∈ ([] : List Ent), e ∈ ([.own (.slice A38 n39 c40) 27 4 n39 (r36.1.flatMap enc_api_Word), .own (.slice A16 n17 c18) 27 4 n17 (r14.1.flatMap enc_api_Word)] : List Ent) := sels [] rfl
        show trellislaw8_WordsCanon_R w F  r (.returned (packV [.bool (r36.2.1 == 80)])) wr
        rw [h]
        exact ⟨rfl, hMr⟩
      · have h := if_neg' hp46 h
        refine g_false (c := trellislaw8_WordsCanon_c24) rfl _ rfl ((decide_eq_false hp46)) ?_
        refine g_skip (c := trellislaw8_WordsCanon_c26) rfl ?_
        refine g_seq (c := trellislaw8_WordsCanon_c22) rfl ?_
        refine g_region (c := trellislaw8_WordsCanon_c29) rfl rfl ?_
        refine wl_v 0 rfl (v_move rfl) gn rfl ?_
        refine wl_v 1 rfl (v_bin rfl rfl rfl) gn rfl ?_
        refine wl_v 2 rfl (v_move rfl) gn rfl ?_
        by_cases hp47 : r36.2.1 = 0
        · have h := if_pos' hp47 h
          refine w_bool 48 rfl ((eqi hp47)) ?_
          refine wl_v 3 rfl (v_move rfl) (gy 48 rfl rfl) rfl ?_
          refine wl_v 4 rfl (v_move rfl) (gy 48 rfl rfl) rfl ?_
          obtain ⟨r51, hv52, h⟩ := h
          refine wl_s 5 rfl (s_call [.slice A16 n17 c18, .slice A38 n39 c40] rfl Tryd.func18 rfl rfl rfl fun w48 hL49 => ?_) (gy 48 rfl rfl)
          have hp50 : List.Perm ([.own (.slice A38 n39 c40) 27 4 n39 (r36.1.flatMap enc_api_Word), .own (.slice A16 n17 c18) 27 4 n17 (r14.1.flatMap enc_api_Word)] : List Ent) (([] : List Ent) ++ ([.own (.slice A38 n39 c40) 27 4 n39 (r36.1.flatMap enc_api_Word), .own (.slice A16 n17 c18) 27 4 n17 (r14.1.flatMap enc_api_Word)] : List Ent)) := perm_of_idx [] [0, 1] rfl rfl (by kernel_rfl)
          refine Calls.mono (trellislaw8_alike_calls w48 (Fl ([] : List Snap)) r14.1 r36.1 A16 n17 c18 A38 n39 c40 (hL49.argO (dk := k_api_Word) hp50 [] rfl 1 rfl rfl (Ow.weak hL12.env.size h19) (me 0 rfl) (Cells.flat _)) (hL49.argO (dk := k_api_Word) hp50 [] rfl 0 rfl rfl (Ow.weak hL34.env.size h41) (me 0 rfl) (Cells.flat _)) (hL49.hFl (Sl := ([] : List Snap)) hp50 (sels [] rfl)) (hL49.into hp50 (Fl ([] : List Snap))) r51 hv52) ?_
          rintro _ w53 ⟨rfl, hM54⟩
          have hL55 := hL49.call hp50 hM54
          refine ⟨_, _, _, rfl, hL55, ?_⟩
          refine wl_v 6 rfl (v_pick (b := true) rfl rfl) gn rfl ?_
          refine wl_v 7 rfl (v_move rfl) gn rfl ?_
          by_cases hp56 : r51 = true
          · have h := if_pos' hp56 h
            refine w_bool 53 rfl (hp56) ?_
            refine wl_v 8 rfl (v_move rfl) (gy 53 rfl rfl) rfl ?_
            obtain ⟨r60, hv61, h⟩ := h
            refine wl_s 9 rfl (s_call [.slice A38 n39 c40] rfl Tryd.func12 rfl rfl rfl fun w57 hL58 => ?_) (gy 53 rfl rfl)
            have hp59 : List.Perm ([.own (.slice A38 n39 c40) 27 4 n39 (r36.1.flatMap enc_api_Word), .own (.slice A16 n17 c18) 27 4 n17 (r14.1.flatMap enc_api_Word)] : List Ent) (([] : List Ent) ++ ([.own (.slice A38 n39 c40) 27 4 n39 (r36.1.flatMap enc_api_Word), .own (.slice A16 n17 c18) 27 4 n17 (r14.1.flatMap enc_api_Word)] : List Ent)) := perm_of_idx [] [0, 1] rfl rfl (by kernel_rfl)
            refine Calls.mono (words_Join_calls w57 (Fl ([] : List Snap)) r36.1 A38 n39 c40 (hL58.argO (dk := k_api_Word) hp59 [] rfl 0 rfl rfl (Ow.weak hL34.env.size h41) (me 0 rfl) (Cells.flat _)) (hL58.tb hp59 hG (me 1 rfl)) (hL58.hFl (Sl := ([] : List Snap)) hp59 (sels [] rfl)) (hL58.into hp59 (Fl ([] : List Snap))) r60 hv61) ?_
            rintro _ w62 ⟨rfl, hM63⟩
            have hL64 := hL58.call hp59 hM63
            refine ⟨_, _, _, rfl, hL64, ?_⟩
            refine wl_v 10 rfl (v_move rfl) (gy 53 rfl rfl) rfl ?_
            refine wl_v 11 rfl (v_eqS rfl rfl) (gy 53 rfl rfl) rfl ?_
            refine wl_v 12 rfl (v_pick (b := true) rfl rfl) gn rfl ?_
            refine wl_v 13 rfl (v_assign rfl) gn rfl ?_
            refine w_end 14 rfl ?_
            refine g_retR (c := trellislaw8_WordsCanon_c30) [.bool (seq r60 r28)] rfl Tryd.func5 rfl (.tmp rfl (.nil)) fun wr hLr => ?_
            have hMr : B.Loc w wr [] [St w []] := hLr.pick (rest := [.own (.slice A38 n39 c40) 27 4 n39 (r36.1.flatMap enc_api_Word), .own (.slice A16 n17 c18) 27 4 n17 (r14.1.flatMap enc_api_Word)]) (perm_of_idx [] [0, 1] rfl rfl (by kernel_rfl)) (sels [1] rfl)
            have hMi : ∀ e ∈ ([] : List Ent), e ∈ ([.own (.slice A38 n39 c40) 27 4 n39 (r36.1.flatMap enc_api_Word), .own (.slice A16 n17 c18) 27 4 n17 (r14.1.flatMap enc_api_Word)] : List Ent) := sels [] rfl
            show trellislaw8_WordsCanon_R w F  r (.returned (packV [.bool (seq r60 r28)])) wr
            rw [h]
            exact ⟨rfl, hMr⟩
          · have h := if_neg' hp56 h
            refine w_bool 53 rfl ((bf hp56)) ?_
            refine wl_pass 8 rfl (ps 53 rfl rfl rfl) ?_
            refine wl_pass 9 rfl (ps 53 rfl rfl rfl) ?_
            refine wl_pass 10 rfl (ps 53 rfl rfl rfl) ?_
            refine wl_pass 11 rfl (ps 53 rfl rfl rfl) ?_
            refine wl_v 12 rfl (v_pick (b := false) rfl rfl) gn rfl ?_
            refine wl_v 13 rfl (v_assign rfl) gn rfl ?_
            refine w_end 14 rfl ?_
            refine g_retR (c := trellislaw8_WordsCanon_c30) [.bool false] rfl Tryd.func5 rfl (.tmp rfl (.nil)) fun wr hLr => ?_
            have hMr : B.Loc w wr [] [St w []] := hLr.pick (rest := [.own (.slice A38 n39 c40) 27 4 n39 (r36.1.flatMap enc_api_Word), .own (.slice A16 n17 c18) 27 4 n17 (r14.1.flatMap enc_api_Word)]) (perm_of_idx [] [0, 1] rfl rfl (by kernel_rfl)) (sels [1] rfl)
            have hMi : ∀ e ∈ ([] : List Ent), e ∈ ([.own (.slice A38 n39 c40) 27 4 n39 (r36.1.flatMap enc_api_Word), .own (.slice A16 n17 c18) 27 4 n17 (r14.1.flatMap enc_api_Word)] : List Ent) := sels [] rfl
            show trellislaw8_WordsCanon_R w F  r (.returned (packV [.bool false])) wr
            rw [h]
            exact ⟨rfl, hMr⟩
        · have h := if_neg' hp47 h
          refine w_bool 48 rfl ((nei hp47)) ?_
          refine wl_pass 3 rfl (ps 48 rfl rfl rfl) ?_
          refine wl_pass 4 rfl (ps 48 rfl rfl rfl) ?_
          refine wl_pass 5 rfl (ps 48 rfl rfl rfl) ?_
          refine wl_v 6 rfl (v_pick (b := false) rfl rfl) gn rfl ?_
          refine wl_v 7 rfl (v_move rfl) gn rfl ?_
          refine wl_pass 8 rfl (ps 53 rfl rfl rfl) ?_
          refine wl_pass 9 rfl (ps 53 rfl rfl rfl) ?_
          refine wl_pass 10 rfl (ps 53 rfl rfl rfl) ?_
          refine wl_pass 11 rfl (ps 53 rfl rfl rfl) ?_
          refine wl_v 12 rfl (v_pick (b := false) rfl rfl) gn rfl ?_
          refine wl_v 13 rfl (v_assign rfl) gn rfl ?_
          refine w_end 14 rfl ?_
          refine g_retR (c := trellislaw8_WordsCanon_c30) [.bool false] rfl Tryd.func5 rfl (.tmp rfl (.nil)) fun wr hLr => ?_
          have hMr : B.Loc w wr [] [St w []] := hLr.pick (rest := [.own (.slice A38 n39 c40) 27 4 n39 (r36.1.flatMap enc_api_Word), .own (.slice A16 n17 c18) 27 4 n17 (r14.1.flatMap enc_api_Word)]) (perm_of_idx [] [0, 1] rfl rfl (by kernel_rfl)) (sels [1] rfl)
          have hMi : ∀ e ∈ ([] : List Ent), e ∈ ([.own (.slice A38 n39 c40) 27 4 n39 (r36.1.flatMap enc_api_Word), .own (.slice A16 n17 c18) 27 4 n17 (r14.1.flatMap enc_api_Word)] : List Ent) := sels [] rfl
          show trellislaw8_WordsCanon_R w F  r (.returned (packV [.bool false])) wr
          rw [h]
          exact ⟨rfl, hMr⟩
    · have h := if_neg' hp24 h
      refine g_true (c := trellislaw8_WordsCanon_c14) rfl _ rfl ((neib hp24)) ?_
      refine g_seq (c := trellislaw8_WordsCanon_c15) rfl ?_
      have j1 : ∀ (x68 : Bool) (h : trellislaw8_WordsCanon_j1 x68 r) , G (trellislaw8_WordsCanon_C w F r) [.code trellislaw8_WordsCanon_c32, .code trellislaw8_WordsCanon_c12] [(2, .bool x68)] [] [Sm w.heap.size F w [], St w []] := by
        intro x68 h
        unfold trellislaw8_WordsCanon_j1 at h
        refine g_retR (c := trellislaw8_WordsCanon_c32) [.bool x68] rfl Tryd.func5 rfl (.tmp rfl (.nil)) fun wr hLr => ?_
        have hMr : B.Loc w wr [] [St w []] := hLr.pick (rest := []) (perm_of_idx [] [] rfl rfl (by kernel_rfl)) (sels [1] rfl)
        have hMi : ∀ e ∈ ([] : List Ent), e ∈ ([] : List Ent) := sels [] rfl
        show trellislaw8_WordsCanon_R w F  r (.returned (packV [.bool x68])) wr
        rw [h]
        exact ⟨rfl, hMr⟩
      refine g_region (c := trellislaw8_WordsCanon_c31) rfl rfl ?_
      refine wl_v 0 rfl (v_move rfl) gn rfl ?_
      refine wl_v 1 rfl (v_lenQ un_22 rfl (Ow.weak hL12.env.size h19).hq) gn rfl ?_
      refine wl_v 2 rfl (v_bin rfl rfl rfl) gn rfl ?_
      refine wl_v 3 rfl (v_move rfl) gn rfl ?_
      by_cases hp69 : (r14.1.length : Int) = 0
      · have h := if_pos' hp69 h
        refine w_bool 23 rfl ((eqi hp69)) ?_
        refine wl_v 4 rfl (v_move rfl) (gy 23 rfl rfl) rfl ?_
        refine wl_v 5 rfl (v_bin rfl rfl rfl) (gy 23 rfl rfl) rfl ?_
        refine wl_v 6 rfl (v_pick (b := true) rfl rfl) gn rfl ?_
        refine wl_v 7 rfl (v_move rfl) gn rfl ?_
        by_cases hp70 : r14.2.2 ≥ 0
        · have h := if_pos' hp70 h
          refine w_bool 27 rfl ((decide_eq_true hp70)) ?_
          refine wl_v 8 rfl (v_move rfl) (gy 27 rfl rfl) rfl ?_
          refine wl_v 9 rfl (v_move rfl) (gy 27 rfl rfl) rfl ?_
          refine wl_v 10 rfl (v_lenS un_9 rfl) (gy 27 rfl rfl) rfl ?_
          refine wl_v 11 rfl (v_bin rfl rfl rfl) (gy 27 rfl rfl) rfl ?_
          refine wl_v 12 rfl (v_pick (b := true) rfl rfl) gn rfl ?_
          refine wl_v 13 rfl (v_assign rfl) gn rfl ?_
          refine w_end 14 rfl ?_
          exact g_go [0, 1] (j1 (decide (r14.2.2 ≤ (x1.size : Int))) h) ⟨rfl, trivial⟩ (.cons _ (.slnil)) rfl
        · have h := if_neg' hp70 h
          refine w_bool 27 rfl ((decide_eq_false hp70)) ?_
          refine wl_pass 8 rfl (ps 27 rfl rfl rfl) ?_
          refine wl_pass 9 rfl (ps 27 rfl rfl rfl) ?_
          refine wl_pass 10 rfl (ps 27 rfl rfl rfl) ?_
          refine wl_pass 11 rfl (ps 27 rfl rfl rfl) ?_
          refine wl_v 12 rfl (v_pick (b := false) rfl rfl) gn rfl ?_
          refine wl_v 13 rfl (v_assign rfl) gn rfl ?_
          refine w_end 14 rfl ?_
          exact g_go [0, 1] (j1 false h) ⟨rfl, trivial⟩ (.cons _ (.slnil)) rfl
      · have h := if_neg' hp69 h
        refine w_bool 23 rfl ((nei hp69)) ?_
        refine wl_pass 4 rfl (ps 23 rfl rfl rfl) ?_
        refine wl_pass 5 rfl (ps 23 rfl rfl rfl) ?_
        refine wl_v 6 rfl (v_pick (b := false) rfl rfl) gn rfl ?_
        refine wl_v 7 rfl (v_move rfl) gn rfl ?_
        refine wl_pass 8 rfl (ps 27 rfl rfl rfl) ?_
        refine wl_pass 9 rfl (ps 27 rfl rfl rfl) ?_
        refine wl_pass 10 rfl (ps 27 rfl rfl rfl) ?_
        refine wl_pass 11 rfl (ps 27 rfl rfl rfl) ?_
        refine wl_v 12 rfl (v_pick (b := false) rfl rfl) gn rfl ?_
        refine wl_v 13 rfl (v_assign rfl) gn rfl ?_
        refine w_end 14 rfl ?_
        exact g_go [0, 1] (j1 false h) ⟨rfl, trivial⟩ (.cons _ (.slnil)) rfl
  · have h := if_neg' hp10 h
    refine g_true (c := trellislaw8_WordsCanon_c6) rfl _ rfl ((nt (bf hp10))) ?_
    refine g_seq (c := trellislaw8_WordsCanon_c7) rfl ?_
    refine g_region (c := trellislaw8_WordsCanon_c33) rfl rfl ?_
    refine wl_v 0 rfl (v_assign rfl) gn rfl ?_
    refine w_end 1 rfl ?_
    refine g_retR (c := trellislaw8_WordsCanon_c34) [.bool false] rfl Tryd.func5 rfl (.tmp rfl (.nil)) fun wr hLr => ?_
    have hMr : B.Loc w wr [] [St w []] := hLr.pick (rest := []) (perm_of_idx [] [] rfl rfl (by kernel_rfl)) (sels [1] rfl)
    have hMi : ∀ e ∈ ([] : List Ent), e ∈ ([] : List Ent) := sels [] rfl
    show trellislaw8_WordsCanon_R w F  r (.returned (packV [.bool false])) wr
    rw [h]
    exact ⟨rfl, hMr⟩
end Go.Proofs.YtkaejoffnkhbpaaDoor.K
