/- What the machine's calls do, function by function, printed by my own tool. Condition of each: its relation holds of the answer, and what is handed in lies in memory as told. -/
import Derived.Test.YtjookebbmfiidaaK3
set_option linter.unusedVariables false
set_option maxRecDepth 100000
set_option maxHeartbeats 4000000
namespace Go.Proofs.Ytjookebbmfiidaa.K
open Go.Proofs.Ytjookebbmfiidaa.B Go.Proofs.Ytjookebbmfiidaa.R Go.RowKit
noncomputable abbrev q30c3 := Code.fst (Code.snd (bodyOf Try.f30))
noncomputable abbrev q30c7 := Code.snd (Code.snd q30c3)
noncomputable abbrev q30c9 := Code.snd q30c7
noncomputable abbrev q30c12 := Code.snd (Code.fst (Code.fst q30c7))
noncomputable abbrev q30c24 := Code.snd (Code.snd (Code.snd (Code.snd q30c12)))
abbrev words_slashed_R (w : World) (F : Nat → Prop) (r : (List Int) × Int × Int) : Ending → World → Prop := fun e w' => ∃ A0 : Option Addr, ∃ n0 : Nat, ∃ c0 : Nat, e = .returned (.tuple #[.slice A0 n0 c0, .int .i64 r.2.1, .int .i64 r.2.2]) ∧ B.Loc w w' [.own (.slice A0 n0 c0) 5 1 n0 (r.1.flatMap (eI .u8))] [St w []] ∧ Ow w.heap.size A0 n0 c0 r.1
noncomputable abbrev words_slashed_C (w : World) (F : Nat → Prop) (r : (List Int) × Int × Int) : Cx := ⟨Try.prog, 30, Try.f30, 58, words_slashed_R w F  r, w⟩
theorem words_slashed_calls (w : World) (F : Nat → Prop) (x1 : ByteArray) (x2 : Int) (hF : ∀ b, F b → b < w.heap.size ∧ ∀ o ∈ ([] : List (List Nat)), b ∉ o) (hL0 : B.Loc w w [] [Sm w.heap.size F w [], St w []]) (r : (List Int) × Int × Int) (h : words_slashed x1 x2 r) : Calls Try.prog 30 #[.string x1, .int .i64 x2] w (words_slashed_R w F  r) := by
 unfold words_slashed at h
 refine calls_of_Loc (vs := [.string x1, .int .i64 x2]) 58 Try.func30 rfl Try.ntmps30 rfl hL0 ?_
 show G (words_slashed_C w F r) _ _ _ _
 refine g_seq rfl <| g_region rfl rfl <| wl_v 0 rfl (v_assign rfl) gn rfl <| wl_v 1 rfl (v_assign rfl) gn rfl <| wl_v 2 rfl (v_assign rfl) gn rfl <| w_end 3 rfl <| g_scope rfl <| g_seq rfl <| g_region rfl rfl <| wl_v 0 rfl (v_move rfl) gn rfl <| wl_v 1 rfl (v_bin rfl rfl rfl) gn rfl <| wl_v 2 rfl (v_assign rfl) gn rfl ?_
 refine w_end 3 rfl <| g_seq rfl <| g_label rfl ?_
 have key1 : ∀ s, Rounds (fun (s : Int) o => words_slashed_b1 x1 x2 s o) s r → (fun (s : Int) => ∀ (_ : Unit), G (words_slashed_C w F r) [.code q30c7, .inScope q30c3] [(0, .string x1), (1, .int .i64 x2), (7, .int .i64 s)] [] [Sm w.heap.size F w [], St w []]) s := by
  intro s hs
  refine Rounds.ind (mot := (fun (s : Int) => ∀ (_ : Unit), G (words_slashed_C w F r) [.code q30c7, .inScope q30c3] [(0, .string x1), (1, .int .i64 x2), (7, .int .i64 s)] [] [Sm w.heap.size F w [], St w []])) ?_ hs
  clear hs s
  intro x28 o1 h hO1
  show ∀ (_ : Unit), G (words_slashed_C w F r) [.code q30c7, .inScope q30c3] [(0, .string x1), (1, .int .i64 x2), (7, .int .i64 x28)] [] [Sm w.heap.size F w [], St w []]
  intro _
  have h : words_slashed_b1 x1 x2 x28 o1 := h
  unfold words_slashed_b1 at h
  refine g_seq rfl <| g_block rfl <| g_seq rfl ?_
  have j2 : ∀ (x56 : Bool) (h : words_slashed_j2 x2 x28 x1 x56 o1) , G (words_slashed_C w F r) [.code q30c12, .inBlock 0, .code q30c9, .inScope q30c3] [(0, .string x1), (1, .int .i64 x2), (7, .int .i64 x28), (10, .bool x56)] [] [Sm w.heap.size F w [], St w []] := by
   intro x56 h
   unfold words_slashed_j2 at h
   by_cases hp57 : x56 = true
   ·have h := if_pos' hp57 h
    refine g_true rfl _ rfl (hp57) <| g_seq rfl <| g_region rfl rfl <| wl_v 0 rfl (v_move rfl) gn rfl <| wl_v 1 rfl (v_assign rfl) gn rfl <| wl_v 2 rfl (v_assign rfl) gn rfl <| wl_v 3 rfl (v_assign rfl) gn rfl <| w_end 4 rfl <| g_nil 5 1 ?_
    have h := Out.inr hO1 h
    refine g_retR [.slice none 0 0, .int .i64 82, .int .i64 x2] rfl Try.func30 rfl (.tmp rfl (.tmp rfl (.tmp rfl (.nil)))) fun wr hLr => ?_
    have hMr := hLr.pkI (.c 0 rfl .n) .n (by kernel_rfl) (.c 1 rfl .n)
    show words_slashed_R w F  r (.returned (packV [.slice none 0 0, .int .i64 82, .int .i64 x2])) wr
    rw [h]
    exact ⟨none, 0, 0, rfl, hMr, (Ow.nil (z := w.heap.size))⟩
   ·have h := if_neg' hp57 h
    refine g_false rfl _ rfl ((bf hp57)) <| g_seq rfl <| g_region rfl rfl <| wl_v 0 rfl (v_move rfl) gn rfl <| wl_v 1 rfl (v_move rfl) gn rfl ?_
    obtain ⟨hb58, h⟩ := h
    refine wl_v 2 rfl (v_indexS un_9 rfl rfl hb58) gn rfl <| wl_v 3 rfl (v_bin rfl rfl rfl) gn rfl <| wl_v 4 rfl (v_assign rfl) gn rfl <| w_end 5 rfl ?_
    by_cases hp59 : bt x1 x28 = 47
    ·have h := if_pos' hp59 h
     refine g_true rfl _ rfl ((eqi hp59)) <| g_seq rfl <| g_region rfl rfl <| wl_v 0 rfl (v_move rfl) gn rfl <| wl_v 1 rfl (v_move rfl) gn rfl <| wl_v 2 rfl (v_bin rfl rfl rfl) gn rfl <| wl_v 3 rfl (v_move rfl) gn rfl ?_
     obtain ⟨hb60, h⟩ := h
     refine wl_v 4 rfl (v_cutS (w64 (x2 + 1)) x28 un_9 rfl (.inr ⟨_, _, rfl, rfl⟩) (.inr ⟨_, _, rfl, rfl⟩) ⟨hb60.1, hb60.2.1⟩ hb60.2.2) gn rfl ?_
     obtain ⟨hb61, h⟩ := h
     refine wl_s 5 rfl (s_s2b un_9 slE_58 un_5 rfl hb61 rfl fun A62 c63 h64 => ?_) gn
     refine wl_v 6 rfl (v_move rfl) gn rfl <| wl_v 7 rfl (v_bin rfl rfl rfl) gn rfl <| wl_v 8 rfl (v_assign rfl) gn rfl <| wl_v 9 rfl (v_assign rfl) gn rfl <| wl_v 10 rfl (v_assign rfl) gn rfl <| w_end 11 rfl ?_
     have h := Out.inr hO1 h
     refine g_retR [.slice A62 ((x1.extract (w64 (x2 + 1) : Int).toNat (x28 : Int).toNat).size) c63, .int .i64 0, .int .i64 (w64 (x28 + 1))] rfl Try.func30 rfl (.tmp rfl (.tmp rfl (.tmp rfl (.nil)))) fun wr hLr => ?_
     have hMr := hLr.pkI (.c 0 rfl .n) .n (by kernel_rfl) (.c 1 rfl .n)
     show words_slashed_R w F  r (.returned (packV [.slice A62 ((x1.extract (w64 (x2 + 1) : Int).toNat (x28 : Int).toNat).size) c63, .int .i64 0, .int .i64 (w64 (x28 + 1))])) wr
     rw [h]
     exact ⟨A62, (x1.extract (w64 (x2 + 1) : Int).toNat (x28 : Int).toNat).size, c63, rfl, hMr, h64⟩
    ·have h := if_neg' hp59 h
     refine g_false rfl _ rfl ((nei hp59)) <| g_seq rfl ?_
     have j3 : ∀ (x70 : Bool) (h : words_slashed_j3 x28 x70 o1) , G (words_slashed_C w F r) [.code q30c24, .inBlock 0, .code q30c9, .inScope q30c3] [(0, .string x1), (1, .int .i64 x2), (7, .int .i64 x28), (35, .bool x70)] [] [Sm w.heap.size F w [], St w []] := by
      intro x70 h
      unfold words_slashed_j3 at h
      by_cases hp71 : x70 = true
      ·have h := if_pos' hp71 h
       refine g_true rfl _ rfl (hp71) <| g_region rfl rfl <| wl_v 0 rfl (v_move rfl) gn rfl <| wl_v 1 rfl (v_bin rfl rfl rfl) gn rfl <| wl_v 2 rfl (v_assign rfl) gn rfl <| w_end 3 rfl <| g_inBlock <| g_seq rfl <| g_region rfl rfl <| wl_v 0 rfl (v_move rfl) gn rfl <| wl_v 1 rfl (v_bin rfl rfl rfl) gn rfl <| wl_v 2 rfl (v_assign rfl) gn rfl ?_
       refine w_end 3 rfl <| g_goto [.code (.seq .skip q30c7), .inScope q30c3] rfl rfl <| g_seq rfl <| g_skip rfl ?_
       have ih := Out.inl hO1 h
       exact g_go [0, 1] (ih ()) ⟨rfl, rfl, rfl, trivial⟩ (.slnil) rfl
      ·have h := if_neg' hp71 h
       refine g_false rfl _ rfl ((bf hp71)) <| g_skip rfl <| g_inBlock <| g_seq rfl <| g_region rfl rfl <| wl_v 0 rfl (v_move rfl) gn rfl <| wl_v 1 rfl (v_bin rfl rfl rfl) gn rfl <| wl_v 2 rfl (v_assign rfl) gn rfl <| w_end 3 rfl <| g_goto [.code (.seq .skip q30c7), .inScope q30c3] rfl rfl <| g_seq rfl <| g_skip rfl ?_
       have ih := Out.inl hO1 h
       exact g_go [0, 1] (ih ()) ⟨rfl, rfl, rfl, trivial⟩ (.slnil) rfl
     refine g_region rfl rfl <| wl_v 0 rfl (v_move rfl) gn rfl <| wl_v 1 rfl (v_move rfl) gn rfl <| wl_v 2 rfl (v_indexS un_9 rfl rfl hb58) gn rfl <| wl_v 3 rfl (v_bin rfl rfl rfl) gn rfl <| wl_v 4 rfl (v_move rfl) gn rfl ?_
     by_cases hp72 : bt x1 x28 = 92
     ·have h := if_pos' hp72 h
      refine w_bool 40 rfl ((eqi hp72)) <| wl_v 5 rfl (v_move rfl) (gy 40 rfl rfl) rfl <| wl_v 6 rfl (v_bin rfl rfl rfl) (gy 40 rfl rfl) rfl <| wl_v 7 rfl (v_move rfl) (gy 40 rfl rfl) rfl <| wl_v 8 rfl (v_lenS un_9 rfl) (gy 40 rfl rfl) rfl <| wl_v 9 rfl (v_bin rfl rfl rfl) (gy 40 rfl rfl) rfl <| wl_v 10 rfl (v_pick (b := true) rfl rfl) gn rfl <| wl_v 11 rfl (v_move rfl) gn rfl ?_
      by_cases hp73 : w64 (x28 + 1) < (x1.size : Int)
      ·have h := if_pos' hp73 h
       refine w_bool 47 rfl ((decide_eq_true hp73)) <| wl_v 12 rfl (v_move rfl) (gy 47 rfl rfl) rfl <| wl_v 13 rfl (v_move rfl) (gy 47 rfl rfl) rfl <| wl_v 14 rfl (v_bin rfl rfl rfl) (gy 47 rfl rfl) rfl ?_
       obtain ⟨hb74, h⟩ := h
       refine wl_v 15 rfl (v_indexS un_9 rfl rfl hb74) (gy 47 rfl rfl) rfl <| wl_v 16 rfl (v_bin rfl rfl rfl) (gy 47 rfl rfl) rfl <| wl_v 17 rfl (v_pick (b := true) rfl rfl) gn rfl <| wl_v 18 rfl (v_assign rfl) gn rfl <| w_end 19 rfl ?_
       exact g_go [0, 1] (j3 ((bt x1 (w64 (x28 + 1))) != 10) h) ⟨rfl, rfl, rfl, rfl, trivial⟩ (.slnil) rfl
      ·have h := if_neg' hp73 h
       refine w_bool 47 rfl ((decide_eq_false hp73)) <| wl_pass 12 rfl (ps 47 rfl rfl rfl) <| wl_pass 13 rfl (ps 47 rfl rfl rfl) <| wl_pass 14 rfl (ps 47 rfl rfl rfl) <| wl_pass 15 rfl (ps 47 rfl rfl rfl) <| wl_pass 16 rfl (ps 47 rfl rfl rfl) <| wl_v 17 rfl (v_pick (b := false) rfl rfl) gn rfl <| wl_v 18 rfl (v_assign rfl) gn rfl <| w_end 19 rfl ?_
       exact g_go [0, 1] (j3 false h) ⟨rfl, rfl, rfl, rfl, trivial⟩ (.slnil) rfl
     ·have h := if_neg' hp72 h
      refine w_bool 40 rfl ((nei hp72)) <| wl_pass 5 rfl (ps 40 rfl rfl rfl) <| wl_pass 6 rfl (ps 40 rfl rfl rfl) <| wl_pass 7 rfl (ps 40 rfl rfl rfl) <| wl_pass 8 rfl (ps 40 rfl rfl rfl) <| wl_pass 9 rfl (ps 40 rfl rfl rfl) <| wl_v 10 rfl (v_pick (b := false) rfl rfl) gn rfl <| wl_v 11 rfl (v_move rfl) gn rfl <| wl_pass 12 rfl (ps 47 rfl rfl rfl) <| wl_pass 13 rfl (ps 47 rfl rfl rfl) <| wl_pass 14 rfl (ps 47 rfl rfl rfl) <| wl_pass 15 rfl (ps 47 rfl rfl rfl) ?_
      refine wl_pass 16 rfl (ps 47 rfl rfl rfl) <| wl_v 17 rfl (v_pick (b := false) rfl rfl) gn rfl <| wl_v 18 rfl (v_assign rfl) gn rfl <| w_end 19 rfl ?_
      exact g_go [0, 1] (j3 false h) ⟨rfl, rfl, rfl, rfl, trivial⟩ (.slnil) rfl
  refine g_region rfl rfl <| wl_v 0 rfl (v_move rfl) gn rfl <| wl_v 1 rfl (v_move rfl) gn rfl <| wl_v 2 rfl (v_lenS un_9 rfl) gn rfl <| wl_v 3 rfl (v_bin rfl rfl rfl) gn rfl <| wl_v 4 rfl (v_move rfl) gn rfl ?_
  by_cases hp75 : x28 = (x1.size : Int)
  ·have h := if_pos' hp75 h
   refine w_bool 15 rfl ((eqi hp75)) <| wl_pass 5 rfl (ps 15 rfl rfl rfl) <| wl_pass 6 rfl (ps 15 rfl rfl rfl) <| wl_pass 7 rfl (ps 15 rfl rfl rfl) <| wl_pass 8 rfl (ps 15 rfl rfl rfl) <| wl_v 9 rfl (v_pick (b := true) rfl rfl) gn rfl <| wl_v 10 rfl (v_assign rfl) gn rfl <| w_end 11 rfl ?_
   exact g_go [0, 1] (j2 true h) ⟨rfl, rfl, rfl, rfl, trivial⟩ (.slnil) rfl
  ·have h := if_neg' hp75 h
   refine w_bool 15 rfl ((nei hp75)) <| wl_v 5 rfl (v_move rfl) (gy 15 rfl rfl) rfl <| wl_v 6 rfl (v_move rfl) (gy 15 rfl rfl) rfl ?_
   obtain ⟨hb76, h⟩ := h
   refine wl_v 7 rfl (v_indexS un_9 rfl rfl hb76) (gy 15 rfl rfl) rfl <| wl_v 8 rfl (v_bin rfl rfl rfl) (gy 15 rfl rfl) rfl <| wl_v 9 rfl (v_pick (b := false) rfl rfl) gn rfl <| wl_v 10 rfl (v_assign rfl) gn rfl <| w_end 11 rfl ?_
   exact g_go [0, 1] (j2 ((bt x1 x28) == 10) h) ⟨rfl, rfl, rfl, rfl, trivial⟩ (.slnil) rfl
 exact g_go [0, 1] (key1 _ h ()) ⟨rfl, rfl, rfl, trivial⟩ (.slnil) rfl
noncomputable abbrev q12c3 := Code.fst (Code.snd (bodyOf Try.f12))
noncomputable abbrev q12c21 := Code.snd (Code.snd (Code.snd (Code.snd (Code.snd (Code.snd q12c3)))))
noncomputable abbrev q12c47 := Code.snd (Code.snd (Code.snd (Code.snd (Code.snd q12c21))))
noncomputable abbrev q12c50 := Code.snd q12c47
noncomputable abbrev q12c52 := Code.snd (Code.fst q12c47)
noncomputable abbrev q12c63 := Code.snd (Code.snd q12c50)
noncomputable abbrev q12c65 := Code.snd q12c63
noncomputable abbrev q12c67 := Code.snd (Code.fst q12c63)
noncomputable abbrev q12c90 := Code.snd (Code.snd (Code.snd (Code.snd q12c65)))
noncomputable abbrev q12c92 := Code.snd q12c90
noncomputable abbrev q12c94 := Code.snd (Code.fst q12c90)
noncomputable abbrev q12c117 := Code.snd (Code.snd (Code.snd (Code.snd q12c92)))
noncomputable abbrev q12c136 := Code.snd (Code.snd (Code.snd (Code.snd q12c117)))
abbrev words_Cut_R (w : World) (F : Nat → Prop) (r : (List api_Word) × Int × Int) : Ending → World → Prop := fun e w' => ∃ A0 : Option Addr, ∃ n0 : Nat, ∃ c0 : Nat, e = .returned (.tuple #[.slice A0 n0 c0, .int .i64 r.2.1, .int .i64 r.2.2]) ∧ B.Loc w w' [.own (.slice A0 n0 c0) 41 4 n0 (r.1.flatMap enc_api_Word)] [St w []] ∧ Ow w.heap.size A0 n0 c0 r.1
noncomputable abbrev words_Cut_C (w : World) (F : Nat → Prop) (r : (List api_Word) × Int × Int) : Cx := ⟨Try.prog, 12, Try.f12, 170, words_Cut_R w F  r, w⟩
theorem words_Cut_calls (w : World) (F : Nat → Prop) (x1 : ByteArray) (hF : ∀ b, F b → b < w.heap.size ∧ ∀ o ∈ ([] : List (List Nat)), b ∉ o) (hL0 : B.Loc w w [] [Sm w.heap.size F w [], St w []]) (r : (List api_Word) × Int × Int) (h : words_Cut x1 r) : Calls Try.prog 12 #[.string x1] w (words_Cut_R w F  r) := by
 unfold words_Cut at h
 refine calls_of_Loc (vs := [.string x1]) 170 Try.func12 rfl Try.ntmps12 rfl hL0 ?_
 show G (words_Cut_C w F r) _ _ _ _
 refine g_seq rfl <| g_region rfl rfl <| wl_v 0 rfl (v_assign rfl) gn rfl <| wl_v 1 rfl (v_assign rfl) gn rfl <| wl_v 2 rfl (v_assign rfl) gn rfl <| w_end 3 rfl <| g_scope rfl <| g_seq rfl <| g_seq rfl <| g_region rfl rfl <| wl_v 0 rfl (v_move rfl) gn rfl <| wl_v 1 rfl (v_lenS un_9 rfl) gn rfl ?_
 refine wl_v 2 rfl (v_bin rfl rfl rfl) gn rfl <| w_end 3 rfl ?_
 by_cases hp2 : (x1.size : Int) > 16384
 ·have h := if_pos' hp2 h
  refine g_true rfl _ rfl ((decide_eq_true hp2)) <| g_seq rfl <| g_region rfl rfl <| wl_v 0 rfl (v_assign rfl) gn rfl <| wl_v 1 rfl (v_assign rfl) gn rfl <| wl_v 2 rfl (v_assign rfl) gn rfl <| w_end 3 rfl <| g_nil 41 4 ?_
  refine g_retR [.slice none 0 0, .int .i64 80, .int .i64 16384] rfl Try.func12 rfl (.tmp rfl (.tmp rfl (.tmp rfl (.nil)))) fun wr hLr => ?_
  have hMr := hLr.pkI (.c 0 rfl .n) .n (by kernel_rfl) (.c 1 rfl .n)
  show words_Cut_R w F  r (.returned (packV [.slice none 0 0, .int .i64 80, .int .i64 16384])) wr
  rw [h]
  exact ⟨none, 0, 0, rfl, hMr, (Ow.nil (z := w.heap.size))⟩
 ·have h := if_neg' hp2 h
  refine g_false rfl _ rfl ((decide_eq_false hp2)) <| g_skip rfl <| g_seq rfl <| g_region rfl rfl <| wl_v 0 rfl (v_assign rfl) gn rfl <| w_end 1 rfl <| g_seq rfl <| g_region rfl rfl <| wl_v 0 rfl (v_assign rfl) gn rfl <| w_end 1 rfl <| g_seq rfl <| g_region rfl rfl ?_
  refine wl_v 0 rfl (v_assign rfl) gn rfl <| w_end 1 rfl <| g_seq rfl <| g_region rfl rfl <| wl_v 0 rfl (v_assign rfl) gn rfl <| wl_v 1 rfl (v_assign rfl) gn rfl <| wl_v 2 rfl (v_assign rfl) gn rfl <| w_end 3 rfl <| g_seq rfl <| g_label rfl ?_
  have key1 : ∀ s, Rounds (fun (s : (List api_Word) × Int) o => words_Cut_b1 x1 s.1 s.2 o) s r → (fun (s : (List api_Word) × Int) => ∀ (A439 : Option Addr) (n440 : Nat) (c441 : Nat) (h442 : Ow w.heap.size A439 n440 c441 s.1), G (words_Cut_C w F r) [.code q12c21, .inScope q12c3] [(0, .string x1), (5, .slice A439 n440 c441), (8, .int .i64 s.2)] [.own (.slice A439 n440 c441) 41 4 n440 (s.1.flatMap enc_api_Word)] [Sm w.heap.size F w [], St w []]) s := by
   intro s hs
   refine Rounds.ind (mot := (fun (s : (List api_Word) × Int) => ∀ (A439 : Option Addr) (n440 : Nat) (c441 : Nat) (h442 : Ow w.heap.size A439 n440 c441 s.1), G (words_Cut_C w F r) [.code q12c21, .inScope q12c3] [(0, .string x1), (5, .slice A439 n440 c441), (8, .int .i64 s.2)] [.own (.slice A439 n440 c441) 41 4 n440 (s.1.flatMap enc_api_Word)] [Sm w.heap.size F w [], St w []])) ?_ hs
   clear hs s
   intro s o1 h hO1
   obtain ⟨x438, x443⟩ := s
   show ∀ (A439 : Option Addr) (n440 : Nat) (c441 : Nat) (h442 : Ow w.heap.size A439 n440 c441 x438), G (words_Cut_C w F r) [.code q12c21, .inScope q12c3] [(0, .string x1), (5, .slice A439 n440 c441), (8, .int .i64 x443)] [.own (.slice A439 n440 c441) 41 4 n440 (x438.flatMap enc_api_Word)] [Sm w.heap.size F w [], St w []]
   intro A439 n440 c441 h442
   have h : words_Cut_b1 x1 x438 x443 o1 := h
   unfold words_Cut_b1 at h
   refine g_seq rfl <| g_seq rfl <| g_region rfl rfl <| wl_v 0 rfl (v_move rfl) gn rfl <| wl_v 1 rfl (v_move rfl) gn rfl <| wl_v 2 rfl (v_lenS un_9 rfl) gn rfl <| wl_v 3 rfl (v_bin rfl rfl rfl) gn rfl <| w_end 4 rfl ?_
   by_cases hp867 : x443 = (x1.size : Int)
   ·have h := if_pos' hp867 h
    refine g_true rfl _ rfl ((eqi hp867)) <| g_seq rfl <| g_region rfl rfl <| wl_v 0 rfl (v_move rfl) gn rfl <| wl_v 1 rfl (v_assign rfl) gn rfl <| wl_v 2 rfl (v_assign rfl) gn rfl <| wl_v 3 rfl (v_assign rfl) gn rfl <| w_end 4 rfl ?_
    have h := Out.inr hO1 h
    refine g_retR [.slice A439 n440 c441, .int .i64 0, .int .i64 0] rfl Try.func12 rfl (.tmp rfl (.tmp rfl (.tmp rfl (.nil)))) fun wr hLr => ?_
    have hMr := hLr.pkI (.c 0 rfl .n) .n (by kernel_rfl) (.c 1 rfl .n)
    show words_Cut_R w F  r (.returned (packV [.slice A439 n440 c441, .int .i64 0, .int .i64 0])) wr
    rw [h]
    exact ⟨A439, n440, c441, rfl, hMr, h442⟩
   ·have h := if_neg' hp867 h
    refine g_false rfl _ rfl ((nei hp867)) <| g_skip rfl <| g_seq rfl <| g_region rfl rfl <| wl_v 0 rfl (v_move rfl) gn rfl <| wl_v 1 rfl (v_assign rfl) gn rfl <| w_end 2 rfl <| g_seq rfl <| g_seq rfl <| g_region rfl rfl <| wl_v 0 rfl (v_move rfl) gn rfl <| wl_v 1 rfl (v_move rfl) gn rfl ?_
    obtain ⟨hb868, h⟩ := h
    refine wl_v 2 rfl (v_indexS un_9 rfl rfl hb868) gn rfl <| wl_v 3 rfl (v_assign rfl) gn rfl <| w_end 4 rfl <| g_block rfl <| g_seq rfl <| g_region rfl rfl <| wl_v 0 rfl (v_move rfl) gn rfl ?_
    obtain ⟨r872, hv873, h⟩ := h
    refine wl_s 1 rfl (s_call [.int .u8 (bt x1 x443)] rfl Try.func25 rfl rfl rfl fun w869 hL870 => ?_) gn
    have hp871 := pmI hL870 .n (.c 0 rfl .n) (by kernel_rfl)
    refine Calls.mono (words_blank_calls w869 (Fl ([] : List Snap)) (bt x1 x443) (hL870.hFl hp871 (sels [] rfl)) (hL870.into hp871 _) r872 hv873) ?_
    rintro _ w874 ⟨rfl, hM875⟩
    have hL876 := hL870.call hp871 hM875
    refine ⟨_, _, _, rfl, hL876, ?_⟩
    refine wl_v 2 rfl (v_assign rfl) gn rfl <| w_end 3 rfl ?_
    by_cases hp877 : r872 = true
    ·have h := if_pos' hp877 h
     refine g_true rfl _ rfl (hp877) <| g_seq rfl <| g_region rfl rfl <| wl_v 0 rfl (v_move rfl) gn rfl <| wl_v 1 rfl (v_bin rfl rfl rfl) gn rfl <| wl_v 2 rfl (v_assign rfl) gn rfl <| w_end 3 rfl <| g_goto [.code (.seq .skip q12c21), .inScope q12c3] rfl rfl <| g_seq rfl <| g_skip rfl ?_
     have ih := Out.inl hO1 h
     exact g_go [0, 1] (ih A439 n440 c441 h442) ⟨rfl, rfl, rfl, trivial⟩ (.cons_cons _ (.slnil)) rfl
    ·have h := if_neg' hp877 h
     refine g_false rfl _ rfl ((bf hp877)) <| g_seq rfl <| g_region rfl rfl <| wl_v 0 rfl (v_move rfl) gn rfl <| wl_v 1 rfl (v_bin rfl rfl rfl) gn rfl <| wl_v 2 rfl (v_assign rfl) gn rfl <| w_end 3 rfl ?_
     by_cases hp878 : bt x1 x443 = 35
     ·have h := if_pos' hp878 h
      refine g_true rfl _ rfl ((eqi hp878)) <| g_goto [.code (.seq .skip q12c47), .inScope q12c3] rfl rfl <| g_seq rfl <| g_skip rfl ?_
      have key2 : ∀ s, Rounds (fun (s : Int) o => words_Cut_b2 x1 x438 s o) s o1 → (fun (s : Int) => ∀ (_ : Unit), G (words_Cut_C w F r) [.code q12c47, .inScope q12c3] [(0, .string x1), (5, .slice A439 n440 c441), (8, .int .i64 s)] [.own (.slice A439 n440 c441) 41 4 n440 (x438.flatMap enc_api_Word)] [Sm w.heap.size F w [], St w []]) s := by
       intro s hs
       refine Rounds.ind (mot := (fun (s : Int) => ∀ (_ : Unit), G (words_Cut_C w F r) [.code q12c47, .inScope q12c3] [(0, .string x1), (5, .slice A439 n440 c441), (8, .int .i64 s)] [.own (.slice A439 n440 c441) 41 4 n440 (x438.flatMap enc_api_Word)] [Sm w.heap.size F w [], St w []])) ?_ hs
       clear hs s
       intro x885 o2 h hO2
       show ∀ (_ : Unit), G (words_Cut_C w F r) [.code q12c47, .inScope q12c3] [(0, .string x1), (5, .slice A439 n440 c441), (8, .int .i64 x885)] [.own (.slice A439 n440 c441) 41 4 n440 (x438.flatMap enc_api_Word)] [Sm w.heap.size F w [], St w []]
       intro _
       have h : words_Cut_b2 x1 x438 x885 o2 := h
       unfold words_Cut_b2 at h
       refine g_seq rfl <| g_seq rfl ?_
       have j3 : ∀ (x896 : Bool) (h : words_Cut_j3 x885 x438 x896 o2) , G (words_Cut_C w F r) [.code q12c52, .code q12c50, .inScope q12c3] [(0, .string x1), (5, .slice A439 n440 c441), (8, .int .i64 x885), (69, .bool x896)] [.own (.slice A439 n440 c441) 41 4 n440 (x438.flatMap enc_api_Word)] [Sm w.heap.size F w [], St w []] := by
        intro x896 h
        unfold words_Cut_j3 at h
        by_cases hp897 : x896 = true
        ·have h := if_pos' hp897 h
         refine g_true rfl _ rfl (hp897) <| g_seq rfl <| g_region rfl rfl <| wl_v 0 rfl (v_move rfl) gn rfl <| wl_v 1 rfl (v_bin rfl rfl rfl) gn rfl <| wl_v 2 rfl (v_assign rfl) gn rfl <| w_end 3 rfl <| g_goto [.code (.seq .skip q12c47), .inScope q12c3] rfl rfl <| g_seq rfl <| g_skip rfl ?_
         have ih := Out.inl hO2 h
         exact g_go [0, 1] (ih ()) ⟨rfl, rfl, rfl, trivial⟩ (.cons_cons _ (.slnil)) rfl
        ·have h := if_neg' hp897 h
         refine g_false rfl _ rfl ((bf hp897)) <| g_skip rfl <| g_seq rfl <| g_goto [.code (.seq .skip q12c21), .inScope q12c3] rfl rfl <| g_seq rfl <| g_skip rfl ?_
         have h := Out.inr hO2 h
         have ih := Out.inl hO1 h
         exact g_go [0, 1] (ih A439 n440 c441 h442) ⟨rfl, rfl, rfl, trivial⟩ (.cons_cons _ (.slnil)) rfl
       refine g_region rfl rfl <| wl_v 0 rfl (v_move rfl) gn rfl <| wl_v 1 rfl (v_move rfl) gn rfl <| wl_v 2 rfl (v_lenS un_9 rfl) gn rfl <| wl_v 3 rfl (v_bin rfl rfl rfl) gn rfl <| wl_v 4 rfl (v_move rfl) gn rfl ?_
       by_cases hp898 : x885 < (x1.size : Int)
       ·have h := if_pos' hp898 h
        refine w_bool 64 rfl ((decide_eq_true hp898)) <| wl_v 5 rfl (v_move rfl) (gy 64 rfl rfl) rfl <| wl_v 6 rfl (v_move rfl) (gy 64 rfl rfl) rfl ?_
        obtain ⟨hb899, h⟩ := h
        refine wl_v 7 rfl (v_indexS un_9 rfl rfl hb899) (gy 64 rfl rfl) rfl <| wl_v 8 rfl (v_bin rfl rfl rfl) (gy 64 rfl rfl) rfl <| wl_v 9 rfl (v_pick (b := true) rfl rfl) gn rfl <| w_end 10 rfl ?_
        exact g_go [0, 1] (j3 ((bt x1 x885) != 10) h) ⟨rfl, rfl, rfl, rfl, trivial⟩ (.cons_cons _ (.slnil)) rfl
       ·have h := if_neg' hp898 h
        refine w_bool 64 rfl ((decide_eq_false hp898)) <| wl_pass 5 rfl (ps 64 rfl rfl rfl) <| wl_pass 6 rfl (ps 64 rfl rfl rfl) <| wl_pass 7 rfl (ps 64 rfl rfl rfl) <| wl_pass 8 rfl (ps 64 rfl rfl rfl) <| wl_v 9 rfl (v_pick (b := false) rfl rfl) gn rfl <| w_end 10 rfl ?_
        exact g_go [0, 1] (j3 false h) ⟨rfl, rfl, rfl, rfl, trivial⟩ (.cons_cons _ (.slnil)) rfl
      exact g_go [0, 1] (key2 _ h ()) ⟨rfl, rfl, rfl, trivial⟩ (.cons_cons _ (.slnil)) rfl
     ·have h := if_neg' hp878 h
      refine g_false rfl _ rfl ((nei hp878)) <| g_seq rfl <| g_region rfl rfl <| wl_v 0 rfl (v_move rfl) gn rfl ?_
      obtain ⟨r903, hv904, h⟩ := h
      refine wl_s 1 rfl (s_call [.int .u8 (bt x1 x443)] rfl Try.func26 rfl rfl rfl fun w900 hL901 => ?_) gn
      have hp902 := pmI hL901 .n (.c 0 rfl .n) (by kernel_rfl)
      refine Calls.mono (words_letter_calls w900 (Fl ([] : List Snap)) (bt x1 x443) (hL901.hFl hp902 (sels [] rfl)) (hL901.into hp902 _) r903 hv904) ?_
      rintro _ w905 ⟨rfl, hM906⟩
      have hL907 := hL901.call hp902 hM906
      refine ⟨_, _, _, rfl, hL907, ?_⟩
      refine wl_v 2 rfl (v_assign rfl) gn rfl <| w_end 3 rfl ?_
      by_cases hp908 : r903 = true
      ·have h := if_pos' hp908 h
       refine g_true rfl _ rfl (hp908) <| g_goto [.code (.seq .skip q12c63), .inScope q12c3] rfl rfl <| g_seq rfl <| g_skip rfl ?_
       have key4 : ∀ s, Rounds (fun (s : Int) o => words_Cut_b4 x1 x443 x438 s o) s o1 → (fun (s : Int) => ∀ (_ : Unit), G (words_Cut_C w F r) [.code q12c63, .inScope q12c3] [(0, .string x1), (5, .slice A439 n440 c441), (8, .int .i64 s), (9, .int .i64 x443)] [.own (.slice A439 n440 c441) 41 4 n440 (x438.flatMap enc_api_Word)] [Sm w.heap.size F w [], St w []]) s := by
        intro s hs
        refine Rounds.ind (mot := (fun (s : Int) => ∀ (_ : Unit), G (words_Cut_C w F r) [.code q12c63, .inScope q12c3] [(0, .string x1), (5, .slice A439 n440 c441), (8, .int .i64 s), (9, .int .i64 x443)] [.own (.slice A439 n440 c441) 41 4 n440 (x438.flatMap enc_api_Word)] [Sm w.heap.size F w [], St w []])) ?_ hs
        clear hs s
        intro x960 o2 h hO2
        show ∀ (_ : Unit), G (words_Cut_C w F r) [.code q12c63, .inScope q12c3] [(0, .string x1), (5, .slice A439 n440 c441), (8, .int .i64 x960), (9, .int .i64 x443)] [.own (.slice A439 n440 c441) 41 4 n440 (x438.flatMap enc_api_Word)] [Sm w.heap.size F w [], St w []]
        intro _
        have h : words_Cut_b4 x1 x443 x438 x960 o2 := h
        unfold words_Cut_b4 at h
        refine g_seq rfl <| g_seq rfl ?_
        have j5 : ∀ (x1033 : Bool) (h : words_Cut_j5 x960 x443 x1 x438 x1033 o2) , G (words_Cut_C w F r) [.code q12c67, .code q12c65, .inScope q12c3] [(0, .string x1), (5, .slice A439 n440 c441), (8, .int .i64 x960), (9, .int .i64 x443), (87, .bool x1033)] [.own (.slice A439 n440 c441) 41 4 n440 (x438.flatMap enc_api_Word)] [Sm w.heap.size F w [], St w []] := by
         intro x1033 h
         unfold words_Cut_j5 at h
         by_cases hp1034 : x1033 = true
         ·have h := if_pos' hp1034 h
          refine g_true rfl _ rfl (hp1034) <| g_seq rfl <| g_region rfl rfl <| wl_v 0 rfl (v_move rfl) gn rfl <| wl_v 1 rfl (v_bin rfl rfl rfl) gn rfl <| wl_v 2 rfl (v_assign rfl) gn rfl <| w_end 3 rfl <| g_goto [.code (.seq .skip q12c63), .inScope q12c3] rfl rfl <| g_seq rfl <| g_skip rfl ?_
          have ih := Out.inl hO2 h
          exact g_go [0, 1] (ih ()) ⟨rfl, rfl, rfl, rfl, trivial⟩ (.cons_cons _ (.slnil)) rfl
         ·have h := if_neg' hp1034 h
          refine g_false rfl _ rfl ((bf hp1034)) <| g_skip rfl <| g_seq rfl <| g_seq rfl <| g_region rfl rfl <| wl_v 0 rfl (v_move rfl) gn rfl <| wl_v 1 rfl (v_move rfl) gn rfl <| wl_v 2 rfl (v_bin rfl rfl rfl) gn rfl <| wl_v 3 rfl (v_bin rfl rfl rfl) gn rfl <| w_end 4 rfl ?_
          by_cases hp1035 : w64 (x960 - x443) > 24
          ·have h := if_pos' hp1035 h
           refine g_true rfl _ rfl ((decide_eq_true hp1035)) <| g_seq rfl <| g_region rfl rfl <| wl_v 0 rfl (v_move rfl) gn rfl <| wl_v 1 rfl (v_assign rfl) gn rfl <| wl_v 2 rfl (v_assign rfl) gn rfl <| wl_v 3 rfl (v_assign rfl) gn rfl <| w_end 4 rfl <| g_nil 41 4 ?_
           have h := Out.inr hO2 h
           have h := Out.inr hO1 h
           refine g_retR [.slice none 0 0, .int .i64 83, .int .i64 x443] rfl Try.func12 rfl (.tmp rfl (.tmp rfl (.tmp rfl (.nil)))) fun wr hLr => ?_
           have hMr := hLr.pkI (.c 0 rfl .n) (.c 1 rfl .n) (by kernel_rfl) (.c 1 rfl .n)
           show words_Cut_R w F  r (.returned (packV [.slice none 0 0, .int .i64 83, .int .i64 x443])) wr
           rw [h]
           exact ⟨none, 0, 0, rfl, hMr, (Ow.nil (z := w.heap.size))⟩
          ·have h := if_neg' hp1035 h
           refine g_false rfl _ rfl ((decide_eq_false hp1035)) <| g_skip rfl <| g_seq rfl <| g_region rfl rfl <| wl_v 0 rfl (v_move rfl) gn rfl <| wl_v 1 rfl (v_move rfl) gn rfl <| wl_v 2 rfl (v_move rfl) gn rfl <| wl_v 3 rfl (v_move rfl) gn rfl ?_
           obtain ⟨hb1036, h⟩ := h
           refine wl_v 4 rfl (v_cutS x443 x960 un_9 rfl (.inr ⟨_, _, rfl, rfl⟩) (.inr ⟨_, _, rfl, rfl⟩) ⟨hb1036.1, hb1036.2.1⟩ hb1036.2.2) gn rfl <| wl_v 5 rfl (v_move rfl) gn rfl <| wl_v 6 rfl (v_build #[.int .i64 1, .string (x1.extract (x443 : Int).toNat (x960 : Int).toNat), .int .i64 0, .int .i64 x443] bd_41 rfl (by kernel_rfl)) gn rfl ?_
           refine wl_s 7 rfl (s_litO (xs := ([(⟨1, x1.extract (x443 : Int).toNat (x960 : Int).toNat, 0, x443⟩ : api_Word)] : List api_Word)) [.int .i64 1, .string (x1.extract (x443 : Int).toNat (x960 : Int).toNat), .int .i64 0, .int .i64 x443] bs_33_1 rfl (by kernel_rfl) rfl rfl rfl rfl fun gb1038 h1039 => ?_) gn
           obtain ⟨x1043, hv1044, h⟩ := h
           obtain ⟨hb1045, h⟩ := h
           refine wl_s 8 rfl (s_app (zs := x1043) (cells' := x1043.flatMap enc_api_Word) 1 ap_33 rfl rfl rfl h442 (Nat.le_refl _) (Src.ownF (hl := hl_api_Word) (h1 := h1_api_Word) 0 rfl h1039) (by rw [hv1044, List.flatMap_append] <;> rfl) (app_len hv1044 h1039.hq) hb1045 rfl rfl fun A1040 c1041 h1042 => ?_) gn
           refine wl_v 9 rfl (v_assign rfl) gn rfl <| w_end 10 rfl <| g_seq rfl <| g_goto [.code (.seq .skip q12c21), .inScope q12c3] rfl rfl <| g_seq rfl <| g_skip rfl ?_
           have h := Out.inr hO2 h
           have ih := Out.inl hO1 h
           exact g_go [0, 1] (ih A1040 (n440 + 1) c1041 h1042) ⟨rfl, rfl, rfl, trivial⟩ (.cons _ (.cons_cons _ (.slnil))) rfl
        refine g_region rfl rfl <| wl_v 0 rfl (v_move rfl) gn rfl <| wl_v 1 rfl (v_move rfl) gn rfl <| wl_v 2 rfl (v_lenS un_9 rfl) gn rfl <| wl_v 3 rfl (v_bin rfl rfl rfl) gn rfl <| wl_v 4 rfl (v_move rfl) gn rfl ?_
        by_cases hp1046 : x960 < (x1.size : Int)
        ·have h := if_pos' hp1046 h
         refine w_bool 76 rfl ((decide_eq_true hp1046)) <| wl_v 5 rfl (v_move rfl) (gy 76 rfl rfl) rfl <| wl_v 6 rfl (v_move rfl) (gy 76 rfl rfl) rfl ?_
         obtain ⟨hb1047, h⟩ := h
         refine wl_v 7 rfl (v_indexS un_9 rfl rfl hb1047) (gy 76 rfl rfl) rfl ?_
         obtain ⟨r1051, hv1052, h⟩ := h
         refine wl_s 8 rfl (s_call [.int .u8 (bt x1 x960)] rfl Try.func26 rfl rfl rfl fun w1048 hL1049 => ?_) (gy 76 rfl rfl)
         have hp1050 := pmI hL1049 .n (.c 0 rfl .n) (by kernel_rfl)
         refine Calls.mono (words_letter_calls w1048 (Fl ([] : List Snap)) (bt x1 x960) (hL1049.hFl hp1050 (sels [] rfl)) (hL1049.into hp1050 _) r1051 hv1052) ?_
         rintro _ w1053 ⟨rfl, hM1054⟩
         have hL1055 := hL1049.call hp1050 hM1054
         refine ⟨_, _, _, rfl, hL1055, ?_⟩
         refine wl_v 9 rfl (v_move rfl) (gy 76 rfl rfl) rfl ?_
         by_cases hp1056 : r1051 = true
         ·have h := if_pos' hp1056 h
          refine w_bool 81 rfl (hp1056) <| wl_pass 10 rfl (ps 81 rfl rfl rfl) <| wl_pass 11 rfl (ps 81 rfl rfl rfl) <| wl_pass 12 rfl (ps 81 rfl rfl rfl) <| wl_pass 13 rfl (ps 81 rfl rfl rfl) <| wl_v 14 rfl (v_pick (b := true) rfl rfl) (gy 76 rfl rfl) rfl <| wl_v 15 rfl (v_pick (b := true) rfl rfl) gn rfl <| w_end 16 rfl ?_
          exact g_go [0, 1] (j5 true h) ⟨rfl, rfl, rfl, rfl, rfl, trivial⟩ (.cons_cons _ (.slnil)) rfl
         ·have h := if_neg' hp1056 h
          refine w_bool 81 rfl ((bf hp1056)) <| wl_v 10 rfl (v_move rfl) (gy 81 rfl rfl) rfl <| wl_v 11 rfl (v_move rfl) (gy 81 rfl rfl) rfl <| wl_v 12 rfl (v_indexS un_9 rfl rfl hb1047) (gy 81 rfl rfl) rfl ?_
          obtain ⟨r1060, hv1061, h⟩ := h
          refine wl_s 13 rfl (s_call [.int .u8 (bt x1 x960)] rfl Try.func27 rfl rfl rfl fun w1057 hL1058 => ?_) (gy 81 rfl rfl)
          have hp1059 := pmI hL1058 .n (.c 0 rfl .n) (by kernel_rfl)
          refine Calls.mono (words_digit_calls w1057 (Fl ([] : List Snap)) (bt x1 x960) (hL1058.hFl hp1059 (sels [] rfl)) (hL1058.into hp1059 _) r1060 hv1061) ?_
          rintro _ w1062 ⟨rfl, hM1063⟩
          have hL1064 := hL1058.call hp1059 hM1063
          refine ⟨_, _, _, rfl, hL1064, ?_⟩
          refine wl_v 14 rfl (v_pick (b := false) rfl rfl) (gy 76 rfl rfl) rfl <| wl_v 15 rfl (v_pick (b := true) rfl rfl) gn rfl <| w_end 16 rfl ?_
          exact g_go [0, 1] (j5 r1060 h) ⟨rfl, rfl, rfl, rfl, rfl, trivial⟩ (.cons_cons _ (.slnil)) rfl
        ·have h := if_neg' hp1046 h
         refine w_bool 76 rfl ((decide_eq_false hp1046)) <| wl_pass 5 rfl (ps 76 rfl rfl rfl) <| wl_pass 6 rfl (ps 76 rfl rfl rfl) <| wl_pass 7 rfl (ps 76 rfl rfl rfl) <| wl_pass 8 rfl (ps 76 rfl rfl rfl) <| wl_pass 9 rfl (ps 76 rfl rfl rfl) <| wl_pass 10 rfl (pu 81 rfl rfl) <| wl_pass 11 rfl (pu 81 rfl rfl) <| wl_pass 12 rfl (pu 81 rfl rfl) <| wl_pass 13 rfl (pu 81 rfl rfl) <| wl_pass 14 rfl (ps 76 rfl rfl rfl) <| wl_v 15 rfl (v_pick (b := false) rfl rfl) gn rfl ?_
         refine w_end 16 rfl ?_
         exact g_go [0, 1] (j5 false h) ⟨rfl, rfl, rfl, rfl, rfl, trivial⟩ (.cons_cons _ (.slnil)) rfl
       exact g_go [0, 1] (key4 _ h ()) ⟨rfl, rfl, rfl, rfl, trivial⟩ (.cons_cons _ (.slnil)) rfl
      ·have h := if_neg' hp908 h
       refine g_false rfl _ rfl ((bf hp908)) <| g_seq rfl <| g_region rfl rfl <| wl_v 0 rfl (v_move rfl) gn rfl ?_
       obtain ⟨r1068, hv1069, h⟩ := h
       refine wl_s 1 rfl (s_call [.int .u8 (bt x1 x443)] rfl Try.func27 rfl rfl rfl fun w1065 hL1066 => ?_) gn
       have hp1067 := pmI hL1066 .n (.c 0 rfl .n) (by kernel_rfl)
       refine Calls.mono (words_digit_calls w1065 (Fl ([] : List Snap)) (bt x1 x443) (hL1066.hFl hp1067 (sels [] rfl)) (hL1066.into hp1067 _) r1068 hv1069) ?_
       rintro _ w1070 ⟨rfl, hM1071⟩
       have hL1072 := hL1066.call hp1067 hM1071
       refine ⟨_, _, _, rfl, hL1072, ?_⟩
       refine wl_v 2 rfl (v_assign rfl) gn rfl <| w_end 3 rfl ?_
       by_cases hp1073 : r1068 = true
       ·have h := if_pos' hp1073 h
        refine g_true rfl _ rfl (hp1073) <| g_seq rfl <| g_region rfl rfl <| wl_v 0 rfl (v_assign rfl) gn rfl <| w_end 1 rfl <| g_goto [.code (.seq .skip q12c90), .inScope q12c3] rfl rfl <| g_seq rfl <| g_skip rfl ?_
        have key6 : ∀ s, Rounds (fun (s : Int × Int) o => words_Cut_b6 x1 x443 x438 s.1 s.2 o) s o1 → (fun (s : Int × Int) => ∀ (_ : Unit), G (words_Cut_C w F r) [.code q12c90, .inScope q12c3] [(0, .string x1), (5, .slice A439 n440 c441), (8, .int .i64 s.1), (9, .int .i64 x443), (10, .int .i64 s.2)] [.own (.slice A439 n440 c441) 41 4 n440 (x438.flatMap enc_api_Word)] [Sm w.heap.size F w [], St w []]) s := by
         intro s hs
         refine Rounds.ind (mot := (fun (s : Int × Int) => ∀ (_ : Unit), G (words_Cut_C w F r) [.code q12c90, .inScope q12c3] [(0, .string x1), (5, .slice A439 n440 c441), (8, .int .i64 s.1), (9, .int .i64 x443), (10, .int .i64 s.2)] [.own (.slice A439 n440 c441) 41 4 n440 (x438.flatMap enc_api_Word)] [Sm w.heap.size F w [], St w []])) ?_ hs
         clear hs s
         intro s o2 h hO2
         obtain ⟨x1105, x1106⟩ := s
         show ∀ (_ : Unit), G (words_Cut_C w F r) [.code q12c90, .inScope q12c3] [(0, .string x1), (5, .slice A439 n440 c441), (8, .int .i64 x1105), (9, .int .i64 x443), (10, .int .i64 x1106)] [.own (.slice A439 n440 c441) 41 4 n440 (x438.flatMap enc_api_Word)] [Sm w.heap.size F w [], St w []]
         intro _
         have h : words_Cut_b6 x1 x443 x438 x1105 x1106 o2 := h
         unfold words_Cut_b6 at h
         refine g_seq rfl <| g_seq rfl ?_
         have j7 : ∀ (x1152 : Bool) (h : words_Cut_j7 x1105 x1 x1106 x443 x438 x1152 o2) , G (words_Cut_C w F r) [.code q12c94, .code q12c92, .inScope q12c3] [(0, .string x1), (5, .slice A439 n440 c441), (8, .int .i64 x1105), (9, .int .i64 x443), (10, .int .i64 x1106), (113, .bool x1152)] [.own (.slice A439 n440 c441) 41 4 n440 (x438.flatMap enc_api_Word)] [Sm w.heap.size F w [], St w []] := by
          intro x1152 h
          unfold words_Cut_j7 at h
          by_cases hp1153 : x1152 = true
          ·have h := if_pos' hp1153 h
           refine g_true rfl _ rfl (hp1153) <| g_seq rfl <| g_region rfl rfl <| wl_v 0 rfl (v_move rfl) gn rfl <| wl_v 1 rfl (v_bin rfl rfl rfl) gn rfl <| wl_v 2 rfl (v_move rfl) gn rfl <| wl_v 3 rfl (v_move rfl) gn rfl ?_
           obtain ⟨hb1154, h⟩ := h
           refine wl_v 4 rfl (v_indexS un_9 rfl rfl hb1154) gn rfl <| wl_v 5 rfl (v_bin rfl rfl rfl) gn rfl <| wl_v 6 rfl (v_conv ⟨_, un_5⟩ un_3 rfl) gn rfl <| wl_v 7 rfl (v_bin rfl rfl rfl) gn rfl <| wl_v 8 rfl (v_min rfl rfl) gn rfl <| wl_v 9 rfl (v_assign rfl) gn rfl <| w_end 10 rfl <| g_seq rfl <| g_region rfl rfl <| wl_v 0 rfl (v_move rfl) gn rfl <| wl_v 1 rfl (v_bin rfl rfl rfl) gn rfl <| wl_v 2 rfl (v_assign rfl) gn rfl ?_
           refine w_end 3 rfl <| g_goto [.code (.seq .skip q12c90), .inScope q12c3] rfl rfl <| g_seq rfl <| g_skip rfl ?_
           have ih := Out.inl hO2 h
           exact g_go [0, 1] (ih ()) ⟨rfl, rfl, rfl, rfl, rfl, trivial⟩ (.cons_cons _ (.slnil)) rfl
          ·have h := if_neg' hp1153 h
           refine g_false rfl _ rfl ((bf hp1153)) <| g_skip rfl <| g_seq rfl <| g_seq rfl <| g_region rfl rfl <| wl_v 0 rfl (v_move rfl) gn rfl <| wl_v 1 rfl (v_bin rfl rfl rfl) gn rfl <| w_end 2 rfl ?_
           by_cases hp1155 : x1106 > 65535
           ·have h := if_pos' hp1155 h
            refine g_true rfl _ rfl ((decide_eq_true hp1155)) <| g_seq rfl <| g_region rfl rfl <| wl_v 0 rfl (v_move rfl) gn rfl <| wl_v 1 rfl (v_assign rfl) gn rfl <| wl_v 2 rfl (v_assign rfl) gn rfl <| wl_v 3 rfl (v_assign rfl) gn rfl <| w_end 4 rfl <| g_nil 41 4 ?_
            have h := Out.inr hO2 h
            have h := Out.inr hO1 h
            refine g_retR [.slice none 0 0, .int .i64 84, .int .i64 x443] rfl Try.func12 rfl (.tmp rfl (.tmp rfl (.tmp rfl (.nil)))) fun wr hLr => ?_
            have hMr := hLr.pkI (.c 0 rfl .n) (.c 1 rfl .n) (by kernel_rfl) (.c 1 rfl .n)
            show words_Cut_R w F  r (.returned (packV [.slice none 0 0, .int .i64 84, .int .i64 x443])) wr
            rw [h]
            exact ⟨none, 0, 0, rfl, hMr, (Ow.nil (z := w.heap.size))⟩
           ·have h := if_neg' hp1155 h
            refine g_false rfl _ rfl ((decide_eq_false hp1155)) <| g_skip rfl <| g_seq rfl <| g_region rfl rfl <| wl_v 0 rfl (v_move rfl) gn rfl <| wl_v 1 rfl (v_move rfl) gn rfl <| wl_v 2 rfl (v_move rfl) gn rfl <| wl_v 3 rfl (v_build #[.int .i64 4, .string (⟨#[]⟩ : ByteArray), .int .i64 x1106, .int .i64 x443] bd_41 rfl (by kernel_rfl)) gn rfl ?_
            refine wl_s 4 rfl (s_litO (xs := ([(⟨4, (⟨#[]⟩ : ByteArray), x1106, x443⟩ : api_Word)] : List api_Word)) [.int .i64 4, .string (⟨#[]⟩ : ByteArray), .int .i64 x1106, .int .i64 x443] bs_33_1 rfl (by kernel_rfl) rfl rfl rfl rfl fun gb1157 h1158 => ?_) gn
            obtain ⟨x1162, hv1163, h⟩ := h
            obtain ⟨hb1164, h⟩ := h
            refine wl_s 5 rfl (s_app (zs := x1162) (cells' := x1162.flatMap enc_api_Word) 1 ap_33 rfl rfl rfl h442 (Nat.le_refl _) (Src.ownF (hl := hl_api_Word) (h1 := h1_api_Word) 0 rfl h1158) (by rw [hv1163, List.flatMap_append] <;> rfl) (app_len hv1163 h1158.hq) hb1164 rfl rfl fun A1159 c1160 h1161 => ?_) gn
            refine wl_v 6 rfl (v_assign rfl) gn rfl <| w_end 7 rfl <| g_seq rfl <| g_goto [.code (.seq .skip q12c21), .inScope q12c3] rfl rfl <| g_seq rfl <| g_skip rfl ?_
            have h := Out.inr hO2 h
            have ih := Out.inl hO1 h
            exact g_go [0, 1] (ih A1159 (n440 + 1) c1160 h1161) ⟨rfl, rfl, rfl, trivial⟩ (.cons _ (.cons_cons _ (.slnil))) rfl
         refine g_region rfl rfl <| wl_v 0 rfl (v_move rfl) gn rfl <| wl_v 1 rfl (v_move rfl) gn rfl <| wl_v 2 rfl (v_lenS un_9 rfl) gn rfl <| wl_v 3 rfl (v_bin rfl rfl rfl) gn rfl <| wl_v 4 rfl (v_move rfl) gn rfl ?_
         by_cases hp1165 : x1105 < (x1.size : Int)
         ·have h := if_pos' hp1165 h
          refine w_bool 108 rfl ((decide_eq_true hp1165)) <| wl_v 5 rfl (v_move rfl) (gy 108 rfl rfl) rfl <| wl_v 6 rfl (v_move rfl) (gy 108 rfl rfl) rfl ?_
          obtain ⟨hb1166, h⟩ := h
          refine wl_v 7 rfl (v_indexS un_9 rfl rfl hb1166) (gy 108 rfl rfl) rfl ?_
          obtain ⟨r1170, hv1171, h⟩ := h
          refine wl_s 8 rfl (s_call [.int .u8 (bt x1 x1105)] rfl Try.func27 rfl rfl rfl fun w1167 hL1168 => ?_) (gy 108 rfl rfl)
          have hp1169 := pmI hL1168 .n (.c 0 rfl .n) (by kernel_rfl)
          refine Calls.mono (words_digit_calls w1167 (Fl ([] : List Snap)) (bt x1 x1105) (hL1168.hFl hp1169 (sels [] rfl)) (hL1168.into hp1169 _) r1170 hv1171) ?_
          rintro _ w1172 ⟨rfl, hM1173⟩
          have hL1174 := hL1168.call hp1169 hM1173
          refine ⟨_, _, _, rfl, hL1174, ?_⟩
          refine wl_v 9 rfl (v_pick (b := true) rfl rfl) gn rfl <| w_end 10 rfl ?_
          exact g_go [0, 1] (j7 r1170 h) ⟨rfl, rfl, rfl, rfl, rfl, rfl, trivial⟩ (.cons_cons _ (.slnil)) rfl
         ·have h := if_neg' hp1165 h
          refine w_bool 108 rfl ((decide_eq_false hp1165)) <| wl_pass 5 rfl (ps 108 rfl rfl rfl) <| wl_pass 6 rfl (ps 108 rfl rfl rfl) <| wl_pass 7 rfl (ps 108 rfl rfl rfl) <| wl_pass 8 rfl (ps 108 rfl rfl rfl) <| wl_v 9 rfl (v_pick (b := false) rfl rfl) gn rfl <| w_end 10 rfl ?_
          exact g_go [0, 1] (j7 false h) ⟨rfl, rfl, rfl, rfl, rfl, rfl, trivial⟩ (.cons_cons _ (.slnil)) rfl
        exact g_go [0, 1] (key6 _ h ()) ⟨rfl, rfl, rfl, rfl, rfl, trivial⟩ (.cons_cons _ (.slnil)) rfl
       ·have h := if_neg' hp1073 h
        refine g_false rfl _ rfl ((bf hp1073)) <| g_seq rfl <| g_region rfl rfl <| wl_v 0 rfl (v_move rfl) gn rfl <| wl_v 1 rfl (v_bin rfl rfl rfl) gn rfl <| wl_v 2 rfl (v_assign rfl) gn rfl <| w_end 3 rfl ?_
        by_cases hp1175 : bt x1 x443 = 34
        ·have h := if_pos' hp1175 h
         refine g_true rfl _ rfl ((eqi hp1175)) <| g_goto [.code (.seq .skip q12c117), .inScope q12c3] rfl rfl <| g_seq rfl <| g_skip rfl <| g_seq rfl <| g_seq rfl <| g_region rfl rfl <| wl_v 0 rfl (v_move rfl) gn rfl <| wl_v 1 rfl (v_move rfl) gn rfl ?_
         obtain ⟨r1203, hv1204, h⟩ := h
         refine wl_s 2 rfl (s_call [.string x1, .int .i64 x443] rfl Try.func29 rfl rfl rfl fun w1200 hL1201 => ?_) gn
         have hp1202 := pmI hL1201 .n (.c 0 rfl .n) (by kernel_rfl)
         refine Calls.mono (words_quoted_calls w1200 (Fl ([] : List Snap)) x1 x443 (hL1201.hFl hp1202 (sels [] rfl)) (hL1201.into hp1202 _) r1203 hv1204) ?_
         rintro _ w1210 ⟨A1205, n1206, c1207, rfl, hM1211, h1208⟩
         have hL1212 := hL1201.call hp1202 hM1211
         refine ⟨_, _, _, rfl, hL1212, ?_⟩
         refine wl_v 3 rfl (v_move rfl) gn rfl <| wl_v 4 rfl (v_extract rfl rfl) gn rfl <| wl_v 5 rfl (v_extract rfl rfl) gn rfl <| wl_v 6 rfl (v_extract rfl rfl) gn rfl <| wl_v 7 rfl (v_assign rfl) gn rfl <| wl_v 8 rfl (v_assign rfl) gn rfl <| wl_v 9 rfl (v_assign rfl) gn rfl <| w_end 10 rfl <| g_seq rfl <| g_region rfl rfl <| wl_v 0 rfl (v_move rfl) gn rfl <| wl_v 1 rfl (v_bin rfl rfl rfl) gn rfl ?_
         refine w_end 2 rfl ?_
         by_cases hp1213 : r1203.2.1 = 0
         ·have h := if_pos' hp1213 h
          refine g_false rfl _ rfl ((eqib hp1213)) <| g_skip rfl <| g_seq rfl <| g_region rfl rfl <| wl_v 0 rfl (v_move rfl) gn rfl <| wl_v 1 rfl (v_move rfl) gn rfl <| wl_v 2 rfl (v_b2s u8_58 un_9 rfl (Src.ownF (hl := (hlI .u8)) (h1 := (hone_int .u8)) 0 rfl (Ow.weak hL1201.env.size h1208)) (Ow.weak hL1201.env.size h1208).hq) gn rfl <| wl_v 3 rfl (v_move rfl) gn rfl <| wl_v 4 rfl (v_build #[.int .i64 2, .string (ofBs r1203.1), .int .i64 0, .int .i64 x443] bd_41 rfl (by kernel_rfl)) gn rfl ?_
          refine wl_s 5 rfl (s_litO (xs := ([(⟨2, ofBs r1203.1, 0, x443⟩ : api_Word)] : List api_Word)) [.int .i64 2, .string (ofBs r1203.1), .int .i64 0, .int .i64 x443] bs_33_1 rfl (by kernel_rfl) rfl rfl rfl rfl fun gb1215 h1216 => ?_) gn
          obtain ⟨x1220, hv1221, h⟩ := h
          obtain ⟨hb1222, h⟩ := h
          refine wl_s 6 rfl (s_app (zs := x1220) (cells' := x1220.flatMap enc_api_Word) 2 ap_33 rfl rfl rfl h442 (Nat.le_refl _) (Src.ownF (hl := hl_api_Word) (h1 := h1_api_Word) 0 rfl h1216) (by rw [hv1221, List.flatMap_append] <;> rfl) (app_len hv1221 h1216.hq) hb1222 rfl rfl fun A1217 c1218 h1219 => ?_) gn
          refine wl_v 7 rfl (v_assign rfl) gn rfl <| w_end 8 rfl <| g_seq rfl <| g_goto [.code (.seq .skip q12c21), .inScope q12c3] rfl rfl <| g_seq rfl <| g_skip rfl ?_
          have ih := Out.inl hO1 h
          exact g_go [0, 1] (ih A1217 (n440 + 1) c1218 h1219) ⟨rfl, rfl, rfl, trivial⟩ (.cons _ (.cons _ (.cons_cons _ (.slnil)))) rfl
         ·have h := if_neg' hp1213 h
          refine g_true rfl _ rfl ((neib hp1213)) <| g_seq rfl <| g_region rfl rfl <| wl_v 0 rfl (v_move rfl) gn rfl <| wl_v 1 rfl (v_move rfl) gn rfl <| wl_v 2 rfl (v_assign rfl) gn rfl <| wl_v 3 rfl (v_assign rfl) gn rfl <| wl_v 4 rfl (v_assign rfl) gn rfl <| w_end 5 rfl <| g_nil 41 4 ?_
          have h := Out.inr hO1 h
          refine g_retR [.slice none 0 0, .int .i64 r1203.2.1, .int .i64 r1203.2.2] rfl Try.func12 rfl (.tmp rfl (.tmp rfl (.tmp rfl (.nil)))) fun wr hLr => ?_
          have hMr := hLr.pkI (.c 0 rfl .n) (.c 1 rfl (.c 2 rfl .n)) (by kernel_rfl) (.c 1 rfl .n)
          show words_Cut_R w F  r (.returned (packV [.slice none 0 0, .int .i64 r1203.2.1, .int .i64 r1203.2.2])) wr
          rw [h]
          exact ⟨none, 0, 0, rfl, hMr, (Ow.nil (z := w.heap.size))⟩
        ·have h := if_neg' hp1175 h
         refine g_false rfl _ rfl ((nei hp1175)) <| g_seq rfl <| g_region rfl rfl <| wl_v 0 rfl (v_move rfl) gn rfl <| wl_v 1 rfl (v_bin rfl rfl rfl) gn rfl <| wl_v 2 rfl (v_assign rfl) gn rfl <| w_end 3 rfl ?_
         by_cases hp1223 : bt x1 x443 = 47
         ·have h := if_pos' hp1223 h
          refine g_true rfl _ rfl ((eqi hp1223)) <| g_goto [.code (.seq .skip q12c136), .inScope q12c3] rfl rfl <| g_seq rfl <| g_skip rfl <| g_seq rfl <| g_seq rfl <| g_region rfl rfl <| wl_v 0 rfl (v_move rfl) gn rfl <| wl_v 1 rfl (v_move rfl) gn rfl ?_
          obtain ⟨r1251, hv1252, h⟩ := h
          refine wl_s 2 rfl (s_call [.string x1, .int .i64 x443] rfl Try.func30 rfl rfl rfl fun w1248 hL1249 => ?_) gn
          have hp1250 := pmI hL1249 .n (.c 0 rfl .n) (by kernel_rfl)
          refine Calls.mono (words_slashed_calls w1248 (Fl ([] : List Snap)) x1 x443 (hL1249.hFl hp1250 (sels [] rfl)) (hL1249.into hp1250 _) r1251 hv1252) ?_
          rintro _ w1258 ⟨A1253, n1254, c1255, rfl, hM1259, h1256⟩
          have hL1260 := hL1249.call hp1250 hM1259
          refine ⟨_, _, _, rfl, hL1260, ?_⟩
          refine wl_v 3 rfl (v_move rfl) gn rfl <| wl_v 4 rfl (v_extract rfl rfl) gn rfl <| wl_v 5 rfl (v_extract rfl rfl) gn rfl <| wl_v 6 rfl (v_extract rfl rfl) gn rfl <| wl_v 7 rfl (v_assign rfl) gn rfl <| wl_v 8 rfl (v_assign rfl) gn rfl <| wl_v 9 rfl (v_assign rfl) gn rfl <| w_end 10 rfl <| g_seq rfl <| g_region rfl rfl <| wl_v 0 rfl (v_move rfl) gn rfl <| wl_v 1 rfl (v_bin rfl rfl rfl) gn rfl ?_
          refine w_end 2 rfl ?_
          by_cases hp1261 : r1251.2.1 = 0
          ·have h := if_pos' hp1261 h
           refine g_false rfl _ rfl ((eqib hp1261)) <| g_skip rfl <| g_seq rfl <| g_region rfl rfl <| wl_v 0 rfl (v_move rfl) gn rfl <| wl_v 1 rfl (v_move rfl) gn rfl <| wl_v 2 rfl (v_b2s u8_58 un_9 rfl (Src.ownF (hl := (hlI .u8)) (h1 := (hone_int .u8)) 0 rfl (Ow.weak hL1249.env.size h1256)) (Ow.weak hL1249.env.size h1256).hq) gn rfl <| wl_v 3 rfl (v_move rfl) gn rfl <| wl_v 4 rfl (v_build #[.int .i64 3, .string (ofBs r1251.1), .int .i64 0, .int .i64 x443] bd_41 rfl (by kernel_rfl)) gn rfl ?_
           refine wl_s 5 rfl (s_litO (xs := ([(⟨3, ofBs r1251.1, 0, x443⟩ : api_Word)] : List api_Word)) [.int .i64 3, .string (ofBs r1251.1), .int .i64 0, .int .i64 x443] bs_33_1 rfl (by kernel_rfl) rfl rfl rfl rfl fun gb1263 h1264 => ?_) gn
           obtain ⟨x1268, hv1269, h⟩ := h
           obtain ⟨hb1270, h⟩ := h
           refine wl_s 6 rfl (s_app (zs := x1268) (cells' := x1268.flatMap enc_api_Word) 2 ap_33 rfl rfl rfl h442 (Nat.le_refl _) (Src.ownF (hl := hl_api_Word) (h1 := h1_api_Word) 0 rfl h1264) (by rw [hv1269, List.flatMap_append] <;> rfl) (app_len hv1269 h1264.hq) hb1270 rfl rfl fun A1265 c1266 h1267 => ?_) gn
           refine wl_v 7 rfl (v_assign rfl) gn rfl <| w_end 8 rfl <| g_goto [.code (.seq .skip q12c21), .inScope q12c3] rfl rfl <| g_seq rfl <| g_skip rfl ?_
           have ih := Out.inl hO1 h
           exact g_go [0, 1] (ih A1265 (n440 + 1) c1266 h1267) ⟨rfl, rfl, rfl, trivial⟩ (.cons _ (.cons _ (.cons_cons _ (.slnil)))) rfl
          ·have h := if_neg' hp1261 h
           refine g_true rfl _ rfl ((neib hp1261)) <| g_seq rfl <| g_region rfl rfl <| wl_v 0 rfl (v_move rfl) gn rfl <| wl_v 1 rfl (v_move rfl) gn rfl <| wl_v 2 rfl (v_assign rfl) gn rfl <| wl_v 3 rfl (v_assign rfl) gn rfl <| wl_v 4 rfl (v_assign rfl) gn rfl <| w_end 5 rfl <| g_nil 41 4 ?_
           have h := Out.inr hO1 h
           refine g_retR [.slice none 0 0, .int .i64 r1251.2.1, .int .i64 r1251.2.2] rfl Try.func12 rfl (.tmp rfl (.tmp rfl (.tmp rfl (.nil)))) fun wr hLr => ?_
           have hMr := hLr.pkI (.c 0 rfl .n) (.c 1 rfl (.c 2 rfl .n)) (by kernel_rfl) (.c 1 rfl .n)
           show words_Cut_R w F  r (.returned (packV [.slice none 0 0, .int .i64 r1251.2.1, .int .i64 r1251.2.2])) wr
           rw [h]
           exact ⟨none, 0, 0, rfl, hMr, (Ow.nil (z := w.heap.size))⟩
         ·have h := if_neg' hp1223 h
          refine g_false rfl _ rfl ((nei hp1223)) <| g_seq rfl <| g_region rfl rfl <| wl_v 0 rfl (v_move rfl) gn rfl ?_
          obtain ⟨r1274, hv1275, h⟩ := h
          refine wl_s 1 rfl (s_call [.string (⟨#[123, 125, 40, 41, 124, 42, 43, 63, 58, 59, 44, 61, 64]⟩ : ByteArray), .int .u8 (bt x1 x443)] rfl Try.func28 rfl rfl rfl fun w1271 hL1272 => ?_) gn
          have hp1273 := pmI hL1272 .n (.c 0 rfl .n) (by kernel_rfl)
          refine Calls.mono (strings_IndexByte_calls w1271 (Fl ([] : List Snap)) (⟨#[123, 125, 40, 41, 124, 42, 43, 63, 58, 59, 44, 61, 64]⟩ : ByteArray) (bt x1 x443) (hL1272.hFl hp1273 (sels [] rfl)) (hL1272.into hp1273 _) r1274 hv1275) ?_
          rintro _ w1276 ⟨rfl, hM1277⟩
          have hL1278 := hL1272.call hp1273 hM1277
          refine ⟨_, _, _, rfl, hL1278, ?_⟩
          refine wl_v 2 rfl (v_bin rfl rfl rfl) gn rfl <| wl_v 3 rfl (v_assign rfl) gn rfl <| w_end 4 rfl ?_
          by_cases hp1279 : r1274 ≥ 0
          ·have h := if_pos' hp1279 h
           refine g_true rfl _ rfl ((decide_eq_true hp1279)) <| g_seq rfl <| g_region rfl rfl <| wl_v 0 rfl (v_move rfl) gn rfl <| wl_v 1 rfl (v_bin rfl rfl rfl) gn rfl <| wl_v 2 rfl (v_assign rfl) gn rfl <| w_end 3 rfl <| g_seq rfl <| g_region rfl rfl <| wl_v 0 rfl (v_move rfl) gn rfl <| wl_v 1 rfl (v_move rfl) gn rfl <| wl_v 2 rfl (v_move rfl) gn rfl ?_
           refine wl_v 3 rfl (v_move rfl) gn rfl ?_
           obtain ⟨hb1280, h⟩ := h
           refine wl_v 4 rfl (v_cutS x443 (w64 (x443 + 1)) un_9 rfl (.inr ⟨_, _, rfl, rfl⟩) (.inr ⟨_, _, rfl, rfl⟩) ⟨hb1280.1, hb1280.2.1⟩ hb1280.2.2) gn rfl <| wl_v 5 rfl (v_move rfl) gn rfl <| wl_v 6 rfl (v_build #[.int .i64 5, .string (x1.extract (x443 : Int).toNat (w64 (x443 + 1) : Int).toNat), .int .i64 0, .int .i64 x443] bd_41 rfl (by kernel_rfl)) gn rfl ?_
           refine wl_s 7 rfl (s_litO (xs := ([(⟨5, x1.extract (x443 : Int).toNat (w64 (x443 + 1) : Int).toNat, 0, x443⟩ : api_Word)] : List api_Word)) [.int .i64 5, .string (x1.extract (x443 : Int).toNat (w64 (x443 + 1) : Int).toNat), .int .i64 0, .int .i64 x443] bs_33_1 rfl (by kernel_rfl) rfl rfl rfl rfl fun gb1282 h1283 => ?_) gn
           obtain ⟨x1287, hv1288, h⟩ := h
           obtain ⟨hb1289, h⟩ := h
           refine wl_s 8 rfl (s_app (zs := x1287) (cells' := x1287.flatMap enc_api_Word) 1 ap_33 rfl rfl rfl h442 (Nat.le_refl _) (Src.ownF (hl := hl_api_Word) (h1 := h1_api_Word) 0 rfl h1283) (by rw [hv1288, List.flatMap_append] <;> rfl) (app_len hv1288 h1283.hq) hb1289 rfl rfl fun A1284 c1285 h1286 => ?_) gn
           refine wl_v 9 rfl (v_assign rfl) gn rfl <| w_end 10 rfl <| g_goto [.code (.seq .skip q12c21), .inScope q12c3] rfl rfl <| g_seq rfl <| g_skip rfl ?_
           have ih := Out.inl hO1 h
           exact g_go [0, 1] (ih A1284 (n440 + 1) c1285 h1286) ⟨rfl, rfl, rfl, trivial⟩ (.cons _ (.cons_cons _ (.slnil))) rfl
          ·have h := if_neg' hp1279 h
           refine g_false rfl _ rfl ((decide_eq_false hp1279)) <| g_skip rfl <| g_inBlock <| g_seq rfl <| g_seq rfl <| g_region rfl rfl <| wl_v 0 rfl (v_move rfl) gn rfl <| wl_v 1 rfl (v_assign rfl) gn rfl <| wl_v 2 rfl (v_assign rfl) gn rfl <| wl_v 3 rfl (v_assign rfl) gn rfl <| w_end 4 rfl <| g_nil 41 4 ?_
           have h := Out.inr hO1 h
           refine g_retR [.slice none 0 0, .int .i64 81, .int .i64 x443] rfl Try.func12 rfl (.tmp rfl (.tmp rfl (.tmp rfl (.nil)))) fun wr hLr => ?_
           have hMr := hLr.pkI (.c 0 rfl .n) (.c 1 rfl .n) (by kernel_rfl) (.c 1 rfl .n)
           show words_Cut_R w F  r (.returned (packV [.slice none 0 0, .int .i64 81, .int .i64 x443])) wr
           rw [h]
           exact ⟨none, 0, 0, rfl, hMr, (Ow.nil (z := w.heap.size))⟩
  refine g_nil 41 4 ?_
  exact g_go [0, 1] (key1 _ h none 0 0 (Ow.nil (z := w.heap.size))) ⟨rfl, rfl, rfl, trivial⟩ (.cons_cons _ (.slnil)) rfl
abbrev query_parser_is_R (w : World) (F : Nat → Prop) (g2 : Nat) (Tb3 : Nat) (A8 : Option Addr) (n9 : Nat) (c10 : Nat) (z12 : Nat) (A14 : Option Addr) (n15 : Nat) (c16 : Nat) (z18 : Nat) (r : Bool × query_parser) : Ending → World → Prop := fun e w' => ∃ A1 : Option Addr, ∃ n1 : Nat, ∃ c1 : Nat, ∃ A2 : Option Addr, ∃ n2 : Nat, ∃ c2 : Nat, ∃ A0 : Option Addr, ∃ n0 : Nat, ∃ c0 : Nat, e = .returned (.bool r.1) ∧ B.Loc w w' [.box g2 Tb3 [.slice A0 n0 c0, .int .i64 r.2.at_, .int .i64 r.2.end_, .slice A1 n1 c1, .slice A2 n2 c2, .int .i64 r.2.code, .int .i64 r.2.place], .own (.slice A1 n1 c1) 46 5 n1 (r.2.q.nodes.flatMap enc_api_PatNode), .own (.slice A2 n2 c2) 48 4 n2 (r.2.q.conds.flatMap enc_api_Cond)] [St w [[g2], (Value.slice A8 n9 c10).ownBlock.toList, (Value.slice A14 n15 c16).ownBlock.toList]] ∧ Ow z12 A1 n1 c1 r.2.q.nodes ∧ Ow z18 A2 n2 c2 r.2.q.conds ∧ Rw k_api_Word w' (Nw w w' F [.box g2 Tb3 [.slice A0 n0 c0, .int .i64 r.2.at_, .int .i64 r.2.end_, .slice A1 n1 c1, .slice A2 n2 c2, .int .i64 r.2.code, .int .i64 r.2.place], .own (.slice A1 n1 c1) 46 5 n1 (r.2.q.nodes.flatMap enc_api_PatNode), .own (.slice A2 n2 c2) 48 4 n2 (r.2.q.conds.flatMap enc_api_Cond)]) A0 n0 c0 r.2.words
noncomputable abbrev query_parser_is_C (w : World) (F : Nat → Prop) (g2 : Nat) (Tb3 : Nat) (A8 : Option Addr) (n9 : Nat) (c10 : Nat) (z12 : Nat) (A14 : Option Addr) (n15 : Nat) (c16 : Nat) (z18 : Nat) (r : Bool × query_parser) : Cx := ⟨Try.prog, 35, Try.f35, 40, query_parser_is_R w F g2 Tb3 A8 n9 c10 z12 A14 n15 c16 z18 r, w⟩
theorem query_parser_is_calls (w : World) (F : Nat → Prop) (x1 : query_parser) (x20 : Int) (x21 : Int) (x22 : ByteArray) (g2 : Nat) (Tb3 : Nat) (A4 : Option Addr) (n5 : Nat) (c6 : Nat) (z12 : Nat) (A8 : Option Addr) (n9 : Nat) (c10 : Nat) (z18 : Nat) (A14 : Option Addr) (n15 : Nat) (c16 : Nat) (h7 : Rw k_api_Word w F A4 n5 c6 x1.words) (hz13 : z12 ≤ w.heap.size) (h11 : Ow z12 A8 n9 c10 x1.q.nodes) (hz19 : z18 ≤ w.heap.size) (h17 : Ow z18 A14 n15 c16 x1.q.conds) (hF : ∀ b, F b → b < w.heap.size ∧ ∀ o ∈ ([[g2], (Value.slice A8 n9 c10).ownBlock.toList, (Value.slice A14 n15 c16).ownBlock.toList] : List (List Nat)), b ∉ o) (hL0 : B.Loc w w [.box g2 Tb3 [.slice A4 n5 c6, .int .i64 x1.at_, .int .i64 x1.end_, .slice A8 n9 c10, .slice A14 n15 c16, .int .i64 x1.code, .int .i64 x1.place], .own (.slice A8 n9 c10) 46 5 n9 (x1.q.nodes.flatMap enc_api_PatNode), .own (.slice A14 n15 c16) 48 4 n15 (x1.q.conds.flatMap enc_api_Cond)] [Sm w.heap.size F w [[g2], (Value.slice A8 n9 c10).ownBlock.toList, (Value.slice A14 n15 c16).ownBlock.toList], St w [[g2], (Value.slice A8 n9 c10).ownBlock.toList, (Value.slice A14 n15 c16).ownBlock.toList]]) (r : Bool × query_parser) (h : query_parser_is x1 x20 x21 x22 r) : Calls Try.prog 35 #[.pointer (some ⟨g2, 0, none⟩), .int .i64 x20, .int .i64 x21, .string x22] w (query_parser_is_R w F g2 Tb3 A8 n9 c10 z12 A14 n15 c16 z18 r) := by
 unfold query_parser_is at h
 have h7 := Rw.into (bs := [[g2], (Value.slice A8 n9 c10).ownBlock.toList, (Value.slice A14 n15 c16).ownBlock.toList]) hF h7
 refine calls_of_Loc (vs := [.pointer (some ⟨g2, 0, none⟩), .int .i64 x20, .int .i64 x21, .string x22]) 40 Try.func35 rfl Try.ntmps35 rfl hL0 ?_
 show G (query_parser_is_C w F g2 Tb3 A8 n9 c10 z12 A14 n15 c16 z18 r) _ _ _ _
 refine g_seq rfl <| g_region rfl rfl <| wl_v 0 rfl (v_assign rfl) gn rfl <| w_end 1 rfl <| g_seq rfl <| g_region rfl rfl <| wl_v 0 rfl (v_move rfl) gn rfl <| wl_v 1 rfl (v_move rfl) gn rfl <| wl_v 2 rfl (v_nilCheck rfl) gn rfl <| wl_v 3 rfl (v_fldB fo_44_0 rfl) gn rfl <| wl_v 4 rfl (v_ldB1 0 ld_33 rfl rfl rfl) gn rfl <| wl_v 5 rfl (v_lenQ un_33 rfl h7.hq) gn rfl ?_
 refine wl_v 6 rfl (v_bin rfl rfl rfl) gn rfl <| wl_v 7 rfl (v_move rfl) gn rfl ?_
 by_cases hp23 : x20 < (x1.words.length : Int)
 ·have h := if_pos' hp23 h
  refine w_bool 16 rfl ((decide_eq_true hp23)) <| wl_v 8 rfl (v_move rfl) (gy 16 rfl rfl) rfl <| wl_v 9 rfl (v_nilCheck rfl) (gy 16 rfl rfl) rfl <| wl_v 10 rfl (v_fldB fo_44_0 rfl) (gy 16 rfl rfl) rfl <| wl_v 11 rfl (v_ldB1 0 ld_33 rfl rfl rfl) (gy 16 rfl rfl) rfl <| wl_v 12 rfl (v_move rfl) (gy 16 rfl rfl) rfl ?_
  obtain ⟨hb24, h⟩ := h
  have hr25 := Rw.readF (s := Sm w.heap.size F w [[g2], (Value.slice A8 n9 c10).ownBlock.toList, (Value.slice A14 n15 c16).ownBlock.toList]) (hl := hl_api_Word) (h1 := h1_api_Word) h7 hb24
  refine wl_v 13 rfl (v_idxR (s := Sm w.heap.size F w [[g2], (Value.slice A8 n9 c10).ownBlock.toList, (Value.slice A14 n15 c16).ownBlock.toList]) slE_33 rfl rfl h7 hb24) (gy 16 rfl rfl) rfl <| wl_v 14 rfl (v_fldA fo_41_0 rfl) (gy 16 rfl rfl) rfl <| wl_v 15 rfl (v_ldA1 (kk := (x20 : Int).toNat * 4) (j := 0) (Sm w.heap.size F w [[g2], (Value.slice A8 n9 c10).ownBlock.toList, (Value.slice A14 n15 c16).ownBlock.toList]) ld_39 rfl hr25 rfl (me 0 rfl)) (gy 16 rfl rfl) rfl <| wl_v 16 rfl (v_move rfl) (gy 16 rfl rfl) rfl <| wl_v 17 rfl (v_bin rfl rfl rfl) (gy 16 rfl rfl) rfl <| wl_v 18 rfl (v_pick (b := true) rfl rfl) gn rfl <| wl_v 19 rfl (v_move rfl) gn rfl ?_
  by_cases hp26 : (ix x1.words x20).kind = x21
  ·have h := if_pos' hp26 h
   refine w_bool 28 rfl ((eqi hp26)) <| wl_v 20 rfl (v_move rfl) (gy 28 rfl rfl) rfl <| wl_v 21 rfl (v_nilCheck rfl) (gy 28 rfl rfl) rfl <| wl_v 22 rfl (v_fldB fo_44_0 rfl) (gy 28 rfl rfl) rfl <| wl_v 23 rfl (v_ldB1 0 ld_33 rfl rfl rfl) (gy 28 rfl rfl) rfl <| wl_v 24 rfl (v_move rfl) (gy 28 rfl rfl) rfl ?_
   have hr27 := Rw.readF (s := Sm w.heap.size F w [[g2], (Value.slice A8 n9 c10).ownBlock.toList, (Value.slice A14 n15 c16).ownBlock.toList]) (hl := hl_api_Word) (h1 := h1_api_Word) h7 hb24
   refine wl_v 25 rfl (v_idxR (s := Sm w.heap.size F w [[g2], (Value.slice A8 n9 c10).ownBlock.toList, (Value.slice A14 n15 c16).ownBlock.toList]) slE_33 rfl rfl h7 hb24) (gy 28 rfl rfl) rfl <| wl_v 26 rfl (v_fldA fo_41_1 rfl) (gy 28 rfl rfl) rfl <| wl_v 27 rfl (v_ldA1 (kk := (x20 : Int).toNat * 4) (j := 1) (Sm w.heap.size F w [[g2], (Value.slice A8 n9 c10).ownBlock.toList, (Value.slice A14 n15 c16).ownBlock.toList]) ld_9 rfl hr27 rfl (me 0 rfl)) (gy 28 rfl rfl) rfl <| wl_v 28 rfl (v_move rfl) (gy 28 rfl rfl) rfl <| wl_v 29 rfl (v_eqS rfl rfl) (gy 28 rfl rfl) rfl <| wl_v 30 rfl (v_pick (b := true) rfl rfl) gn rfl <| wl_v 31 rfl (v_assign rfl) gn rfl <| w_end 32 rfl ?_
   refine g_retR [.bool (seq ((ix x1.words x20).text) x22)] rfl Try.func35 rfl (.tmp rfl (.nil)) fun wr hLr => ?_
   have hMr := hLr.pkI (.c 0 rfl (.c 1 rfl (.c 2 rfl .n))) .n (by kernel_rfl) (.c 1 rfl .n)
   have hMi := hLr.selI (.c 0 rfl (.c 1 rfl (.c 2 rfl .n)))
   show query_parser_is_R w F g2 Tb3 A8 n9 c10 z12 A14 n15 c16 z18 r (.returned (packV [.bool (seq ((ix x1.words x20).text) x22)])) wr
   rw [h]
   exact ⟨A8, n9, c10, A14, n15, c16, A4, n5, c6, rfl, hMr, h11, h17, (hLr.outR (s := Sm w.heap.size F w [[g2], (Value.slice A8 n9 c10).ownBlock.toList, (Value.slice A14 n15 c16).ownBlock.toList]) hMi (me 0 rfl) Sm.ok h7)⟩
  ·have h := if_neg' hp26 h
   refine w_bool 28 rfl ((nei hp26)) <| wl_pass 20 rfl (ps 28 rfl rfl rfl) <| wl_pass 21 rfl (ps 28 rfl rfl rfl) <| wl_pass 22 rfl (ps 28 rfl rfl rfl) <| wl_pass 23 rfl (ps 28 rfl rfl rfl) <| wl_pass 24 rfl (ps 28 rfl rfl rfl) <| wl_pass 25 rfl (ps 28 rfl rfl rfl) <| wl_pass 26 rfl (ps 28 rfl rfl rfl) <| wl_pass 27 rfl (ps 28 rfl rfl rfl) <| wl_pass 28 rfl (ps 28 rfl rfl rfl) <| wl_pass 29 rfl (ps 28 rfl rfl rfl) <| wl_v 30 rfl (v_pick (b := false) rfl rfl) gn rfl ?_
   refine wl_v 31 rfl (v_assign rfl) gn rfl <| w_end 32 rfl ?_
   refine g_retR [.bool false] rfl Try.func35 rfl (.tmp rfl (.nil)) fun wr hLr => ?_
   have hMr := hLr.pkI (.c 0 rfl (.c 1 rfl (.c 2 rfl .n))) .n (by kernel_rfl) (.c 1 rfl .n)
   have hMi := hLr.selI (.c 0 rfl (.c 1 rfl (.c 2 rfl .n)))
   show query_parser_is_R w F g2 Tb3 A8 n9 c10 z12 A14 n15 c16 z18 r (.returned (packV [.bool false])) wr
   rw [h]
   exact ⟨A8, n9, c10, A14, n15, c16, A4, n5, c6, rfl, hMr, h11, h17, (hLr.outR (s := Sm w.heap.size F w [[g2], (Value.slice A8 n9 c10).ownBlock.toList, (Value.slice A14 n15 c16).ownBlock.toList]) hMi (me 0 rfl) Sm.ok h7)⟩
 ·have h := if_neg' hp23 h
  refine w_bool 16 rfl ((decide_eq_false hp23)) <| wl_pass 8 rfl (ps 16 rfl rfl rfl) <| wl_pass 9 rfl (ps 16 rfl rfl rfl) <| wl_pass 10 rfl (ps 16 rfl rfl rfl) <| wl_pass 11 rfl (ps 16 rfl rfl rfl) <| wl_pass 12 rfl (ps 16 rfl rfl rfl) <| wl_pass 13 rfl (ps 16 rfl rfl rfl) <| wl_pass 14 rfl (ps 16 rfl rfl rfl) <| wl_pass 15 rfl (ps 16 rfl rfl rfl) <| wl_pass 16 rfl (ps 16 rfl rfl rfl) <| wl_pass 17 rfl (ps 16 rfl rfl rfl) <| wl_v 18 rfl (v_pick (b := false) rfl rfl) gn rfl ?_
  refine wl_v 19 rfl (v_move rfl) gn rfl <| wl_pass 20 rfl (ps 28 rfl rfl rfl) <| wl_pass 21 rfl (ps 28 rfl rfl rfl) <| wl_pass 22 rfl (ps 28 rfl rfl rfl) <| wl_pass 23 rfl (ps 28 rfl rfl rfl) <| wl_pass 24 rfl (ps 28 rfl rfl rfl) <| wl_pass 25 rfl (ps 28 rfl rfl rfl) <| wl_pass 26 rfl (ps 28 rfl rfl rfl) <| wl_pass 27 rfl (ps 28 rfl rfl rfl) <| wl_pass 28 rfl (ps 28 rfl rfl rfl) <| wl_pass 29 rfl (ps 28 rfl rfl rfl) <| wl_v 30 rfl (v_pick (b := false) rfl rfl) gn rfl ?_
  refine wl_v 31 rfl (v_assign rfl) gn rfl <| w_end 32 rfl ?_
  refine g_retR [.bool false] rfl Try.func35 rfl (.tmp rfl (.nil)) fun wr hLr => ?_
  have hMr := hLr.pkI (.c 0 rfl (.c 1 rfl (.c 2 rfl .n))) .n (by kernel_rfl) (.c 1 rfl .n)
  have hMi := hLr.selI (.c 0 rfl (.c 1 rfl (.c 2 rfl .n)))
  show query_parser_is_R w F g2 Tb3 A8 n9 c10 z12 A14 n15 c16 z18 r (.returned (packV [.bool false])) wr
  rw [h]
  exact ⟨A8, n9, c10, A14, n15, c16, A4, n5, c6, rfl, hMr, h11, h17, (hLr.outR (s := Sm w.heap.size F w [[g2], (Value.slice A8 n9 c10).ownBlock.toList, (Value.slice A14 n15 c16).ownBlock.toList]) hMi (me 0 rfl) Sm.ok h7)⟩
noncomputable abbrev q31c6 := Code.snd (Code.snd (Code.snd (bodyOf Try.f31)))
noncomputable abbrev q31c8 := Code.snd (Code.fst (Code.snd (Code.snd (bodyOf Try.f31))))
abbrev query_parser_begins_R (w : World) (F : Nat → Prop) (g2 : Nat) (Tb3 : Nat) (A8 : Option Addr) (n9 : Nat) (c10 : Nat) (z12 : Nat) (A14 : Option Addr) (n15 : Nat) (c16 : Nat) (z18 : Nat) (r : Bool × query_parser) : Ending → World → Prop := fun e w' => ∃ A1 : Option Addr, ∃ n1 : Nat, ∃ c1 : Nat, ∃ A2 : Option Addr, ∃ n2 : Nat, ∃ c2 : Nat, ∃ A0 : Option Addr, ∃ n0 : Nat, ∃ c0 : Nat, e = .returned (.bool r.1) ∧ B.Loc w w' [.box g2 Tb3 [.slice A0 n0 c0, .int .i64 r.2.at_, .int .i64 r.2.end_, .slice A1 n1 c1, .slice A2 n2 c2, .int .i64 r.2.code, .int .i64 r.2.place], .own (.slice A1 n1 c1) 46 5 n1 (r.2.q.nodes.flatMap enc_api_PatNode), .own (.slice A2 n2 c2) 48 4 n2 (r.2.q.conds.flatMap enc_api_Cond)] [St w [[g2], (Value.slice A8 n9 c10).ownBlock.toList, (Value.slice A14 n15 c16).ownBlock.toList]] ∧ Ow z12 A1 n1 c1 r.2.q.nodes ∧ Ow z18 A2 n2 c2 r.2.q.conds ∧ Rw k_api_Word w' (Nw w w' F [.box g2 Tb3 [.slice A0 n0 c0, .int .i64 r.2.at_, .int .i64 r.2.end_, .slice A1 n1 c1, .slice A2 n2 c2, .int .i64 r.2.code, .int .i64 r.2.place], .own (.slice A1 n1 c1) 46 5 n1 (r.2.q.nodes.flatMap enc_api_PatNode), .own (.slice A2 n2 c2) 48 4 n2 (r.2.q.conds.flatMap enc_api_Cond)]) A0 n0 c0 r.2.words
noncomputable abbrev query_parser_begins_C (w : World) (F : Nat → Prop) (g2 : Nat) (Tb3 : Nat) (A8 : Option Addr) (n9 : Nat) (c10 : Nat) (z12 : Nat) (A14 : Option Addr) (n15 : Nat) (c16 : Nat) (z18 : Nat) (r : Bool × query_parser) : Cx := ⟨Try.prog, 31, Try.f31, 77, query_parser_begins_R w F g2 Tb3 A8 n9 c10 z12 A14 n15 c16 z18 r, w⟩
theorem query_parser_begins_calls (w : World) (F : Nat → Prop) (x1 : query_parser) (g2 : Nat) (Tb3 : Nat) (A4 : Option Addr) (n5 : Nat) (c6 : Nat) (z12 : Nat) (A8 : Option Addr) (n9 : Nat) (c10 : Nat) (z18 : Nat) (A14 : Option Addr) (n15 : Nat) (c16 : Nat) (h7 : Rw k_api_Word w F A4 n5 c6 x1.words) (hz13 : z12 ≤ w.heap.size) (h11 : Ow z12 A8 n9 c10 x1.q.nodes) (hz19 : z18 ≤ w.heap.size) (h17 : Ow z18 A14 n15 c16 x1.q.conds) (hF : ∀ b, F b → b < w.heap.size ∧ ∀ o ∈ ([[g2], (Value.slice A8 n9 c10).ownBlock.toList, (Value.slice A14 n15 c16).ownBlock.toList] : List (List Nat)), b ∉ o) (hL0 : B.Loc w w [.box g2 Tb3 [.slice A4 n5 c6, .int .i64 x1.at_, .int .i64 x1.end_, .slice A8 n9 c10, .slice A14 n15 c16, .int .i64 x1.code, .int .i64 x1.place], .own (.slice A8 n9 c10) 46 5 n9 (x1.q.nodes.flatMap enc_api_PatNode), .own (.slice A14 n15 c16) 48 4 n15 (x1.q.conds.flatMap enc_api_Cond)] [Sm w.heap.size F w [[g2], (Value.slice A8 n9 c10).ownBlock.toList, (Value.slice A14 n15 c16).ownBlock.toList], St w [[g2], (Value.slice A8 n9 c10).ownBlock.toList, (Value.slice A14 n15 c16).ownBlock.toList]]) (r : Bool × query_parser) (h : query_parser_begins x1 r) : Calls Try.prog 31 #[.pointer (some ⟨g2, 0, none⟩)] w (query_parser_begins_R w F g2 Tb3 A8 n9 c10 z12 A14 n15 c16 z18 r) := by
 unfold query_parser_begins at h
 have h7 := Rw.into (bs := [[g2], (Value.slice A8 n9 c10).ownBlock.toList, (Value.slice A14 n15 c16).ownBlock.toList]) hF h7
 refine calls_of_Loc (vs := [.pointer (some ⟨g2, 0, none⟩)]) 77 Try.func31 rfl Try.ntmps31 rfl hL0 ?_
 show G (query_parser_begins_C w F g2 Tb3 A8 n9 c10 z12 A14 n15 c16 z18 r) _ _ _ _
 refine g_seq rfl <| g_region rfl rfl <| wl_v 0 rfl (v_assign rfl) gn rfl <| w_end 1 rfl <| g_seq rfl <| g_region rfl rfl <| wl_v 0 rfl (v_move rfl) gn rfl <| wl_v 1 rfl (v_nilCheck rfl) gn rfl <| wl_v 2 rfl (v_fldB fo_44_1 rfl) gn rfl <| wl_v 3 rfl (v_ldB1 0 ld_3 rfl rfl rfl) gn rfl <| wl_v 4 rfl (v_assign rfl) gn rfl <| w_end 5 rfl ?_
 refine g_seq rfl <| g_seq rfl ?_
 have j1 : ∀ (x51 : Bool) (x52 : List api_Word) (x59 : Int) (x60 : Int) (x61 : List api_PatNode) (x66 : List api_Cond) (x71 : Int) (x72 : Int) (h : query_parser_begins_j1 x1 x51 x52 x59 x60 x61 x66 x71 x72 r) (A53 : Option Addr) (n54 : Nat) (c55 : Nat) (sw56 : World) (sb57 : List (List Nat)) (h58 : At k_api_Word (Sm w.heap.size F sw56 sb57) A53 n54 c55 x52) (A62 : Option Addr) (n63 : Nat) (c64 : Nat) (h65 : Ow z12 A62 n63 c64 x61) (A67 : Option Addr) (n68 : Nat) (c69 : Nat) (h70 : Ow z18 A67 n68 c69 x66), G (query_parser_begins_C w F g2 Tb3 A8 n9 c10 z12 A14 n15 c16 z18 r) [.code q31c8, .code q31c6] [(0, .pointer (some ⟨g2, 0, none⟩)), (3, .int .i64 x1.at_), (42, .bool x51)] [.own (.slice A62 n63 c64) 46 5 n63 (x61.flatMap enc_api_PatNode), .own (.slice A67 n68 c69) 48 4 n68 (x66.flatMap enc_api_Cond), .box g2 Tb3 [.slice A53 n54 c55, .int .i64 x59, .int .i64 x60, .slice A62 n63 c64, .slice A67 n68 c69, .int .i64 x71, .int .i64 x72]] [Sm w.heap.size F sw56 sb57, Sm w.heap.size F w [[g2], (Value.slice A8 n9 c10).ownBlock.toList, (Value.slice A14 n15 c16).ownBlock.toList], St w [[g2], (Value.slice A8 n9 c10).ownBlock.toList, (Value.slice A14 n15 c16).ownBlock.toList]] := by
  intro x51 x52 x59 x60 x61 x66 x71 x72 h A53 n54 c55 sw56 sb57 h58 A62 n63 c64 h65 A67 n68 c69 h70
  unfold query_parser_begins_j1 at h
  by_cases hp73 : x51 = true
  ·have h := if_pos' hp73 h
   refine g_true rfl _ rfl (hp73) <| g_seq rfl <| g_region rfl rfl <| wl_v 0 rfl (v_assign rfl) gn rfl <| w_end 1 rfl ?_
   refine g_retR [.bool true] rfl Try.func31 rfl (.tmp rfl (.nil)) fun wr hLr => ?_
   have hMr := hLr.pkI (.c 2 rfl (.c 0 rfl (.c 1 rfl .n))) .n (by kernel_rfl) (.c 2 rfl .n)
   have hMi := hLr.selI (.c 2 rfl (.c 0 rfl (.c 1 rfl .n)))
   show query_parser_begins_R w F g2 Tb3 A8 n9 c10 z12 A14 n15 c16 z18 r (.returned (packV [.bool true])) wr
   rw [h]
   exact ⟨A62, n63, c64, A67, n68, c69, A53, n54, c55, rfl, hMr, h65, h70, (hLr.outR (s := Sm w.heap.size F sw56 sb57) hMi (me 0 rfl) Sm.ok h58)⟩
  ·have h := if_neg' hp73 h
   refine g_false rfl _ rfl ((bf hp73)) <| g_skip rfl <| g_seq rfl <| g_region rfl rfl <| wl_v 0 rfl (v_move rfl) gn rfl <| wl_v 1 rfl (v_move rfl) gn rfl ?_
   obtain ⟨r77, hv78, h⟩ := h
   refine wl_s 2 rfl (s_call [.pointer (some ⟨g2, 0, none⟩), .int .i64 x1.at_, .int .i64 5, .string (⟨#[40]⟩ : ByteArray)] rfl Try.func35 rfl rfl rfl fun w74 hL75 => ?_) gn
   have hp76 := pmI hL75 (.c 2 rfl (.c 0 rfl (.c 1 rfl .n))) .n (by kernel_rfl)
   refine Calls.mono (query_parser_is_calls w74 (Fl ([Sm w.heap.size F sw56 sb57] : List Snap)) (⟨x52, x59, x60, (⟨x61, x66⟩ : api_Query), x71, x72⟩ : query_parser) x1.at_ 5 (⟨#[40]⟩ : ByteArray) g2 Tb3 A53 n54 c55 z12 A62 n63 c64 z18 A67 n68 c69 (Rw.mono h58 (hL75.toFl (me 0 rfl) (me 0 rfl))) (Nat.le_trans hz13 hL75.env.size) h65 (Nat.le_trans hz19 hL75.env.size) h70 (hL75.hFl hp76 (sels [0] rfl)) (hL75.into hp76 _) r77 hv78) ?_
   rintro _ w93 ⟨A83, n84, c85, A88, n89, c90, A79, n80, c81, rfl, hM94, h86, h91, h82⟩
   obtain ⟨sb97, hL95, hv96⟩ := hL75.callB (Sl := ([Sm w.heap.size F sw56 sb57] : List Snap)) hp76 hM94 F (sels [0] rfl) ⟨Sm.ok, trivial⟩
   have h82 : At k_api_Word (Sm w.heap.size F w93 sb97) A79 n80 c81 r77.2.words := Rw.mono h82 hv96
   refine ⟨_, _, _, rfl, hL95, ?_⟩
   refine wl_v 3 rfl (v_move rfl) gn rfl ?_
   by_cases hp98 : r77.1 = true
   ·have h := if_pos' hp98 h
    refine w_bool 46 rfl (hp98) <| wl_pass 4 rfl (ps 46 rfl rfl rfl) <| wl_pass 5 rfl (ps 46 rfl rfl rfl) <| wl_pass 6 rfl (ps 46 rfl rfl rfl) <| wl_pass 7 rfl (ps 46 rfl rfl rfl) <| wl_pass 8 rfl (ps 46 rfl rfl rfl) <| wl_pass 9 rfl (ps 46 rfl rfl rfl) <| wl_pass 10 rfl (ps 46 rfl rfl rfl) <| wl_pass 11 rfl (ps 46 rfl rfl rfl) <| wl_pass 12 rfl (pu 54 rfl rfl) <| wl_pass 13 rfl (pu 54 rfl rfl) <| wl_pass 14 rfl (pu 54 rfl rfl) ?_
    refine wl_pass 15 rfl (pu 54 rfl rfl) <| wl_pass 16 rfl (pu 54 rfl rfl) <| wl_pass 17 rfl (pu 54 rfl rfl) <| wl_pass 18 rfl (pu 54 rfl rfl) <| wl_pass 19 rfl (pu 54 rfl rfl) <| wl_pass 20 rfl (pu 54 rfl rfl) <| wl_pass 21 rfl (ps 46 rfl rfl rfl) <| wl_pass 22 rfl (ps 46 rfl rfl rfl) <| wl_pass 23 rfl (pu 65 rfl rfl) <| wl_pass 24 rfl (pu 65 rfl rfl) <| wl_pass 25 rfl (pu 65 rfl rfl) <| wl_pass 26 rfl (pu 65 rfl rfl) ?_
    refine wl_pass 27 rfl (pu 65 rfl rfl) <| wl_pass 28 rfl (pu 65 rfl rfl) <| wl_pass 29 rfl (pu 65 rfl rfl) <| wl_pass 30 rfl (pu 65 rfl rfl) <| wl_pass 31 rfl (pu 65 rfl rfl) <| wl_pass 32 rfl (ps 46 rfl rfl rfl) <| wl_v 33 rfl (v_pick (b := true) rfl rfl) gn rfl <| wl_v 34 rfl (v_assign rfl) gn rfl <| w_end 35 rfl ?_
    refine g_retR [.bool true] rfl Try.func31 rfl (.tmp rfl (.nil)) fun wr hLr => ?_
    have hMr := hLr.pkI (.c 0 rfl (.c 1 rfl (.c 2 rfl .n))) .n (by kernel_rfl) (.c 3 rfl .n)
    have hMi := hLr.selI (.c 0 rfl (.c 1 rfl (.c 2 rfl .n)))
    show query_parser_begins_R w F g2 Tb3 A8 n9 c10 z12 A14 n15 c16 z18 r (.returned (packV [.bool true])) wr
    rw [h]
    exact ⟨A83, n84, c85, A88, n89, c90, A79, n80, c81, rfl, hMr, h86, h91, (hLr.outR (s := Sm w.heap.size F w93 sb97) hMi (me 0 rfl) Sm.ok h82)⟩
   ·have h := if_neg' hp98 h
    refine w_bool 46 rfl ((bf hp98)) <| wl_v 4 rfl (v_move rfl) (gy 46 rfl rfl) rfl <| wl_v 5 rfl (v_move rfl) (gy 46 rfl rfl) rfl <| wl_v 6 rfl (v_nilCheck rfl) (gy 46 rfl rfl) rfl <| wl_v 7 rfl (v_fldB fo_44_0 rfl) (gy 46 rfl rfl) rfl <| wl_v 8 rfl (v_ldB1 0 ld_33 rfl rfl rfl) (gy 46 rfl rfl) rfl <| wl_v 9 rfl (v_lenQ un_33 rfl h82.hq) (gy 46 rfl rfl) rfl <| wl_v 10 rfl (v_bin rfl rfl rfl) (gy 46 rfl rfl) rfl <| wl_v 11 rfl (v_move rfl) (gy 46 rfl rfl) rfl ?_
    by_cases hp99 : x1.at_ < (r77.2.words.length : Int)
    ·have h := if_pos' hp99 h
     refine w_bool 54 rfl ((decide_eq_true hp99)) <| wl_v 12 rfl (v_move rfl) (gy 54 rfl rfl) rfl <| wl_v 13 rfl (v_nilCheck rfl) (gy 54 rfl rfl) rfl <| wl_v 14 rfl (v_fldB fo_44_0 rfl) (gy 54 rfl rfl) rfl <| wl_v 15 rfl (v_ldB1 0 ld_33 rfl rfl rfl) (gy 54 rfl rfl) rfl <| wl_v 16 rfl (v_move rfl) (gy 54 rfl rfl) rfl ?_
     obtain ⟨hb100, h⟩ := h
     have hr101 := Rw.readF (s := Sm w.heap.size F w93 sb97) (hl := hl_api_Word) (h1 := h1_api_Word) h82 hb100
     refine wl_v 17 rfl (v_idxR (s := Sm w.heap.size F w93 sb97) slE_33 rfl rfl h82 hb100) (gy 54 rfl rfl) rfl <| wl_v 18 rfl (v_fldA fo_41_0 rfl) (gy 54 rfl rfl) rfl <| wl_v 19 rfl (v_ldA1 (kk := (x1.at_ : Int).toNat * 4) (j := 0) (Sm w.heap.size F w93 sb97) ld_39 rfl hr101 rfl (me 0 rfl)) (gy 54 rfl rfl) rfl <| wl_v 20 rfl (v_bin rfl rfl rfl) (gy 54 rfl rfl) rfl <| wl_v 21 rfl (v_pick (b := true) rfl rfl) (gy 46 rfl rfl) rfl <| wl_v 22 rfl (v_move rfl) (gy 46 rfl rfl) rfl ?_
     by_cases hp102 : (ix r77.2.words x1.at_).kind = 2
     ·have h := if_pos' hp102 h
      refine w_bool 65 rfl ((eqi hp102)) <| wl_v 23 rfl (v_move rfl) (gy 65 rfl rfl) rfl <| wl_v 24 rfl (v_nilCheck rfl) (gy 65 rfl rfl) rfl <| wl_v 25 rfl (v_fldB fo_44_0 rfl) (gy 65 rfl rfl) rfl <| wl_v 26 rfl (v_ldB1 0 ld_33 rfl rfl rfl) (gy 65 rfl rfl) rfl <| wl_v 27 rfl (v_move rfl) (gy 65 rfl rfl) rfl ?_
      have hr103 := Rw.readF (s := Sm w.heap.size F w93 sb97) (hl := hl_api_Word) (h1 := h1_api_Word) h82 hb100
      refine wl_v 28 rfl (v_idxR (s := Sm w.heap.size F w93 sb97) slE_33 rfl rfl h82 hb100) (gy 65 rfl rfl) rfl <| wl_v 29 rfl (v_fldA fo_41_1 rfl) (gy 65 rfl rfl) rfl <| wl_v 30 rfl (v_ldA1 (kk := (x1.at_ : Int).toNat * 4) (j := 1) (Sm w.heap.size F w93 sb97) ld_9 rfl hr103 rfl (me 0 rfl)) (gy 65 rfl rfl) rfl <| wl_v 31 rfl (v_neS rfl rfl) (gy 65 rfl rfl) rfl <| wl_v 32 rfl (v_pick (b := true) rfl rfl) (gy 46 rfl rfl) rfl <| wl_v 33 rfl (v_pick (b := false) rfl rfl) gn rfl <| wl_v 34 rfl (v_assign rfl) gn rfl <| w_end 35 rfl ?_
      refine g_retR [.bool (!(seq ((ix r77.2.words x1.at_).text) (⟨#[]⟩ : ByteArray)))] rfl Try.func31 rfl (.tmp rfl (.nil)) fun wr hLr => ?_
      have hMr := hLr.pkI (.c 0 rfl (.c 1 rfl (.c 2 rfl .n))) .n (by kernel_rfl) (.c 3 rfl .n)
      have hMi := hLr.selI (.c 0 rfl (.c 1 rfl (.c 2 rfl .n)))
      show query_parser_begins_R w F g2 Tb3 A8 n9 c10 z12 A14 n15 c16 z18 r (.returned (packV [.bool (!(seq ((ix r77.2.words x1.at_).text) (⟨#[]⟩ : ByteArray)))])) wr
      rw [h]
      exact ⟨A83, n84, c85, A88, n89, c90, A79, n80, c81, rfl, hMr, h86, h91, (hLr.outR (s := Sm w.heap.size F w93 sb97) hMi (me 0 rfl) Sm.ok h82)⟩
     ·have h := if_neg' hp102 h
      refine w_bool 65 rfl ((nei hp102)) <| wl_pass 23 rfl (ps 65 rfl rfl rfl) <| wl_pass 24 rfl (ps 65 rfl rfl rfl) <| wl_pass 25 rfl (ps 65 rfl rfl rfl) <| wl_pass 26 rfl (ps 65 rfl rfl rfl) <| wl_pass 27 rfl (ps 65 rfl rfl rfl) <| wl_pass 28 rfl (ps 65 rfl rfl rfl) <| wl_pass 29 rfl (ps 65 rfl rfl rfl) <| wl_pass 30 rfl (ps 65 rfl rfl rfl) <| wl_pass 31 rfl (ps 65 rfl rfl rfl) <| wl_v 32 rfl (v_pick (b := false) rfl rfl) (gy 46 rfl rfl) rfl <| wl_v 33 rfl (v_pick (b := false) rfl rfl) gn rfl ?_
      refine wl_v 34 rfl (v_assign rfl) gn rfl <| w_end 35 rfl ?_
      refine g_retR [.bool false] rfl Try.func31 rfl (.tmp rfl (.nil)) fun wr hLr => ?_
      have hMr := hLr.pkI (.c 0 rfl (.c 1 rfl (.c 2 rfl .n))) .n (by kernel_rfl) (.c 3 rfl .n)
      have hMi := hLr.selI (.c 0 rfl (.c 1 rfl (.c 2 rfl .n)))
      show query_parser_begins_R w F g2 Tb3 A8 n9 c10 z12 A14 n15 c16 z18 r (.returned (packV [.bool false])) wr
      rw [h]
      exact ⟨A83, n84, c85, A88, n89, c90, A79, n80, c81, rfl, hMr, h86, h91, (hLr.outR (s := Sm w.heap.size F w93 sb97) hMi (me 0 rfl) Sm.ok h82)⟩
    ·have h := if_neg' hp99 h
     refine w_bool 54 rfl ((decide_eq_false hp99)) <| wl_pass 12 rfl (ps 54 rfl rfl rfl) <| wl_pass 13 rfl (ps 54 rfl rfl rfl) <| wl_pass 14 rfl (ps 54 rfl rfl rfl) <| wl_pass 15 rfl (ps 54 rfl rfl rfl) <| wl_pass 16 rfl (ps 54 rfl rfl rfl) <| wl_pass 17 rfl (ps 54 rfl rfl rfl) <| wl_pass 18 rfl (ps 54 rfl rfl rfl) <| wl_pass 19 rfl (ps 54 rfl rfl rfl) <| wl_pass 20 rfl (ps 54 rfl rfl rfl) <| wl_v 21 rfl (v_pick (b := false) rfl rfl) (gy 46 rfl rfl) rfl <| wl_v 22 rfl (v_move rfl) (gy 46 rfl rfl) rfl ?_
     refine wl_pass 23 rfl (ps 65 rfl rfl rfl) <| wl_pass 24 rfl (ps 65 rfl rfl rfl) <| wl_pass 25 rfl (ps 65 rfl rfl rfl) <| wl_pass 26 rfl (ps 65 rfl rfl rfl) <| wl_pass 27 rfl (ps 65 rfl rfl rfl) <| wl_pass 28 rfl (ps 65 rfl rfl rfl) <| wl_pass 29 rfl (ps 65 rfl rfl rfl) <| wl_pass 30 rfl (ps 65 rfl rfl rfl) <| wl_pass 31 rfl (ps 65 rfl rfl rfl) <| wl_v 32 rfl (v_pick (b := false) rfl rfl) (gy 46 rfl rfl) rfl <| wl_v 33 rfl (v_pick (b := false) rfl rfl) gn rfl <| wl_v 34 rfl (v_assign rfl) gn rfl ?_
     refine w_end 35 rfl ?_
     refine g_retR [.bool false] rfl Try.func31 rfl (.tmp rfl (.nil)) fun wr hLr => ?_
     have hMr := hLr.pkI (.c 0 rfl (.c 1 rfl (.c 2 rfl .n))) .n (by kernel_rfl) (.c 3 rfl .n)
     have hMi := hLr.selI (.c 0 rfl (.c 1 rfl (.c 2 rfl .n)))
     show query_parser_begins_R w F g2 Tb3 A8 n9 c10 z12 A14 n15 c16 z18 r (.returned (packV [.bool false])) wr
     rw [h]
     exact ⟨A83, n84, c85, A88, n89, c90, A79, n80, c81, rfl, hMr, h86, h91, (hLr.outR (s := Sm w.heap.size F w93 sb97) hMi (me 0 rfl) Sm.ok h82)⟩
 refine g_region rfl rfl <| wl_v 0 rfl (v_move rfl) gn rfl <| wl_v 1 rfl (v_move rfl) gn rfl <| wl_v 2 rfl (v_nilCheck rfl) gn rfl <| wl_v 3 rfl (v_fldB fo_44_0 rfl) gn rfl <| wl_v 4 rfl (v_ldB1 0 ld_33 rfl rfl rfl) gn rfl <| wl_v 5 rfl (v_lenQ un_33 rfl h7.hq) gn rfl <| wl_v 6 rfl (v_bin rfl rfl rfl) gn rfl <| wl_v 7 rfl (v_move rfl) gn rfl ?_
 by_cases hp104 : x1.at_ < (x1.words.length : Int)
 ·have h := if_pos' hp104 h
  refine w_bool 15 rfl ((decide_eq_true hp104)) <| wl_v 8 rfl (v_move rfl) (gy 15 rfl rfl) rfl <| wl_v 9 rfl (v_nilCheck rfl) (gy 15 rfl rfl) rfl <| wl_v 10 rfl (v_fldB fo_44_0 rfl) (gy 15 rfl rfl) rfl <| wl_v 11 rfl (v_ldB1 0 ld_33 rfl rfl rfl) (gy 15 rfl rfl) rfl <| wl_v 12 rfl (v_move rfl) (gy 15 rfl rfl) rfl ?_
  obtain ⟨hb105, h⟩ := h
  have hr106 := Rw.readF (s := Sm w.heap.size F w [[g2], (Value.slice A8 n9 c10).ownBlock.toList, (Value.slice A14 n15 c16).ownBlock.toList]) (hl := hl_api_Word) (h1 := h1_api_Word) h7 hb105
  refine wl_v 13 rfl (v_idxR (s := Sm w.heap.size F w [[g2], (Value.slice A8 n9 c10).ownBlock.toList, (Value.slice A14 n15 c16).ownBlock.toList]) slE_33 rfl rfl h7 hb105) (gy 15 rfl rfl) rfl <| wl_v 14 rfl (v_fldA fo_41_0 rfl) (gy 15 rfl rfl) rfl <| wl_v 15 rfl (v_ldA1 (kk := (x1.at_ : Int).toNat * 4) (j := 0) (Sm w.heap.size F w [[g2], (Value.slice A8 n9 c10).ownBlock.toList, (Value.slice A14 n15 c16).ownBlock.toList]) ld_39 rfl hr106 rfl (me 0 rfl)) (gy 15 rfl rfl) rfl <| wl_v 16 rfl (v_bin rfl rfl rfl) (gy 15 rfl rfl) rfl <| wl_v 17 rfl (v_pick (b := true) rfl rfl) gn rfl <| wl_v 18 rfl (v_move rfl) gn rfl ?_
  by_cases hp107 : (ix x1.words x1.at_).kind = 1
  ·have h := if_pos' hp107 h
   refine w_bool 26 rfl ((eqi hp107)) <| wl_v 19 rfl (v_move rfl) (gy 26 rfl rfl) rfl <| wl_v 20 rfl (v_nilCheck rfl) (gy 26 rfl rfl) rfl <| wl_v 21 rfl (v_fldB fo_44_0 rfl) (gy 26 rfl rfl) rfl <| wl_v 22 rfl (v_ldB1 0 ld_33 rfl rfl rfl) (gy 26 rfl rfl) rfl <| wl_v 23 rfl (v_move rfl) (gy 26 rfl rfl) rfl ?_
   have hr108 := Rw.readF (s := Sm w.heap.size F w [[g2], (Value.slice A8 n9 c10).ownBlock.toList, (Value.slice A14 n15 c16).ownBlock.toList]) (hl := hl_api_Word) (h1 := h1_api_Word) h7 hb105
   refine wl_v 24 rfl (v_idxR (s := Sm w.heap.size F w [[g2], (Value.slice A8 n9 c10).ownBlock.toList, (Value.slice A14 n15 c16).ownBlock.toList]) slE_33 rfl rfl h7 hb105) (gy 26 rfl rfl) rfl <| wl_v 25 rfl (v_fldA fo_41_1 rfl) (gy 26 rfl rfl) rfl <| wl_v 26 rfl (v_ldA1 (kk := (x1.at_ : Int).toNat * 4) (j := 1) (Sm w.heap.size F w [[g2], (Value.slice A8 n9 c10).ownBlock.toList, (Value.slice A14 n15 c16).ownBlock.toList]) ld_9 rfl hr108 rfl (me 0 rfl)) (gy 26 rfl rfl) rfl <| wl_v 27 rfl (v_neS rfl rfl) (gy 26 rfl rfl) rfl <| wl_v 28 rfl (v_pick (b := true) rfl rfl) gn rfl <| wl_v 29 rfl (v_move rfl) gn rfl ?_
   by_cases hp109 : (ix x1.words x1.at_).text = (⟨#[95]⟩ : ByteArray)
   ·have h := if_pos' hp109 h
    refine w_bool 37 rfl ((nf (seq_t hp109))) <| wl_pass 30 rfl (ps 37 rfl rfl rfl) <| wl_pass 31 rfl (ps 37 rfl rfl rfl) <| wl_pass 32 rfl (ps 37 rfl rfl rfl) <| wl_pass 33 rfl (ps 37 rfl rfl rfl) <| wl_v 34 rfl (v_pick (b := false) rfl rfl) gn rfl <| w_end 35 rfl <| g_front 0 rfl <| g_front 2 rfl <| g_front 2 rfl ?_
    exact g_go [0, 0, 1] (j1 false x1.words x1.at_ x1.end_ x1.q.nodes x1.q.conds x1.code x1.place h A4 n5 c6 w [[g2], (Value.slice A8 n9 c10).ownBlock.toList, (Value.slice A14 n15 c16).ownBlock.toList] h7 A8 n9 c10 h11 A14 n15 c16 h17) ⟨rfl, rfl, rfl, trivial⟩ (.cons_cons _ (.cons_cons _ (.cons_cons _ (.slnil)))) rfl
   ·have h := if_neg' hp109 h
    refine w_bool 37 rfl ((nt (seq_f hp109))) <| wl_v 30 rfl (v_move rfl) (gy 37 rfl rfl) rfl <| wl_v 31 rfl (v_move rfl) (gy 37 rfl rfl) rfl <| wl_v 32 rfl (v_bin rfl rfl rfl) (gy 37 rfl rfl) rfl ?_
    obtain ⟨r113, hv114, h⟩ := h
    refine wl_s 33 rfl (s_call [.pointer (some ⟨g2, 0, none⟩), .int .i64 (w64 (x1.at_ + 1)), .int .i64 5, .string (⟨#[58]⟩ : ByteArray)] rfl Try.func35 rfl rfl rfl fun w110 hL111 => ?_) (gy 37 rfl rfl)
    have hp112 := pmI hL111 (.c 0 rfl (.c 1 rfl (.c 2 rfl .n))) .n (by kernel_rfl)
    refine Calls.mono (query_parser_is_calls w110 (Fl ([Sm w.heap.size F w [[g2], (Value.slice A8 n9 c10).ownBlock.toList, (Value.slice A14 n15 c16).ownBlock.toList]] : List Snap)) x1 (w64 (x1.at_ + 1)) 5 (⟨#[58]⟩ : ByteArray) g2 Tb3 A4 n5 c6 z12 A8 n9 c10 z18 A14 n15 c16 (Rw.mono h7 (hL111.toFl (me 0 rfl) (me 0 rfl))) (Nat.le_trans hz13 hL111.env.size) h11 (Nat.le_trans hz19 hL111.env.size) h17 (hL111.hFl hp112 (sels [0] rfl)) (hL111.into hp112 _) r113 hv114) ?_
    rintro _ w129 ⟨A119, n120, c121, A124, n125, c126, A115, n116, c117, rfl, hM130, h122, h127, h118⟩
    obtain ⟨sb133, hL131, hv132⟩ := hL111.callB (Sl := ([Sm w.heap.size F w [[g2], (Value.slice A8 n9 c10).ownBlock.toList, (Value.slice A14 n15 c16).ownBlock.toList]] : List Snap)) hp112 hM130 F (sels [0] rfl) ⟨Sm.ok, trivial⟩
    have h118 : At k_api_Word (Sm w.heap.size F w129 sb133) A115 n116 c117 r113.2.words := Rw.mono h118 hv132
    refine ⟨_, _, _, rfl, hL131, ?_⟩
    refine wl_v 34 rfl (v_pick (b := true) rfl rfl) gn rfl <| w_end 35 rfl <| g_front 0 rfl <| g_front 2 rfl <| g_front 2 rfl ?_
    exact g_go [0, 1, 2] (j1 r113.1 r113.2.words r113.2.at_ r113.2.end_ r113.2.q.nodes r113.2.q.conds r113.2.code r113.2.place h A115 n116 c117 w129 sb133 h118 A119 n120 c121 h122 A124 n125 c126 h127) ⟨rfl, rfl, rfl, trivial⟩ (.cons_cons _ (.cons_cons _ (.cons_cons _ (.slnil)))) rfl
  ·have h := if_neg' hp107 h
   refine w_bool 26 rfl ((nei hp107)) <| wl_pass 19 rfl (ps 26 rfl rfl rfl) <| wl_pass 20 rfl (ps 26 rfl rfl rfl) <| wl_pass 21 rfl (ps 26 rfl rfl rfl) <| wl_pass 22 rfl (ps 26 rfl rfl rfl) <| wl_pass 23 rfl (ps 26 rfl rfl rfl) <| wl_pass 24 rfl (ps 26 rfl rfl rfl) <| wl_pass 25 rfl (ps 26 rfl rfl rfl) <| wl_pass 26 rfl (ps 26 rfl rfl rfl) <| wl_pass 27 rfl (ps 26 rfl rfl rfl) <| wl_v 28 rfl (v_pick (b := false) rfl rfl) gn rfl <| wl_v 29 rfl (v_move rfl) gn rfl ?_
   refine wl_pass 30 rfl (ps 37 rfl rfl rfl) <| wl_pass 31 rfl (ps 37 rfl rfl rfl) <| wl_pass 32 rfl (ps 37 rfl rfl rfl) <| wl_pass 33 rfl (ps 37 rfl rfl rfl) <| wl_v 34 rfl (v_pick (b := false) rfl rfl) gn rfl <| w_end 35 rfl <| g_front 0 rfl <| g_front 2 rfl <| g_front 2 rfl ?_
   exact g_go [0, 0, 1] (j1 false x1.words x1.at_ x1.end_ x1.q.nodes x1.q.conds x1.code x1.place h A4 n5 c6 w [[g2], (Value.slice A8 n9 c10).ownBlock.toList, (Value.slice A14 n15 c16).ownBlock.toList] h7 A8 n9 c10 h11 A14 n15 c16 h17) ⟨rfl, rfl, rfl, trivial⟩ (.cons_cons _ (.cons_cons _ (.cons_cons _ (.slnil)))) rfl
 ·have h := if_neg' hp104 h
  refine w_bool 15 rfl ((decide_eq_false hp104)) <| wl_pass 8 rfl (ps 15 rfl rfl rfl) <| wl_pass 9 rfl (ps 15 rfl rfl rfl) <| wl_pass 10 rfl (ps 15 rfl rfl rfl) <| wl_pass 11 rfl (ps 15 rfl rfl rfl) <| wl_pass 12 rfl (ps 15 rfl rfl rfl) <| wl_pass 13 rfl (ps 15 rfl rfl rfl) <| wl_pass 14 rfl (ps 15 rfl rfl rfl) <| wl_pass 15 rfl (ps 15 rfl rfl rfl) <| wl_pass 16 rfl (ps 15 rfl rfl rfl) <| wl_v 17 rfl (v_pick (b := false) rfl rfl) gn rfl <| wl_v 18 rfl (v_move rfl) gn rfl ?_
  refine wl_pass 19 rfl (ps 26 rfl rfl rfl) <| wl_pass 20 rfl (ps 26 rfl rfl rfl) <| wl_pass 21 rfl (ps 26 rfl rfl rfl) <| wl_pass 22 rfl (ps 26 rfl rfl rfl) <| wl_pass 23 rfl (ps 26 rfl rfl rfl) <| wl_pass 24 rfl (ps 26 rfl rfl rfl) <| wl_pass 25 rfl (ps 26 rfl rfl rfl) <| wl_pass 26 rfl (ps 26 rfl rfl rfl) <| wl_pass 27 rfl (ps 26 rfl rfl rfl) <| wl_v 28 rfl (v_pick (b := false) rfl rfl) gn rfl <| wl_v 29 rfl (v_move rfl) gn rfl <| wl_pass 30 rfl (ps 37 rfl rfl rfl) ?_
  refine wl_pass 31 rfl (ps 37 rfl rfl rfl) <| wl_pass 32 rfl (ps 37 rfl rfl rfl) <| wl_pass 33 rfl (ps 37 rfl rfl rfl) <| wl_v 34 rfl (v_pick (b := false) rfl rfl) gn rfl <| w_end 35 rfl <| g_front 0 rfl <| g_front 2 rfl <| g_front 2 rfl ?_
  exact g_go [0, 0, 1] (j1 false x1.words x1.at_ x1.end_ x1.q.nodes x1.q.conds x1.code x1.place h A4 n5 c6 w [[g2], (Value.slice A8 n9 c10).ownBlock.toList, (Value.slice A14 n15 c16).ownBlock.toList] h7 A8 n9 c10 h11 A14 n15 c16 h17) ⟨rfl, rfl, rfl, trivial⟩ (.cons_cons _ (.cons_cons _ (.cons_cons _ (.slnil)))) rfl
abbrev query_parser_fail_R (w : World) (F : Nat → Prop) (g2 : Nat) (Tb3 : Nat) (A8 : Option Addr) (n9 : Nat) (c10 : Nat) (z12 : Nat) (A14 : Option Addr) (n15 : Nat) (c16 : Nat) (z18 : Nat) (r : query_parser) : Ending → World → Prop := fun e w' => ∃ A1 : Option Addr, ∃ n1 : Nat, ∃ c1 : Nat, ∃ A2 : Option Addr, ∃ n2 : Nat, ∃ c2 : Nat, ∃ A0 : Option Addr, ∃ n0 : Nat, ∃ c0 : Nat, e = .returned (.tuple #[]) ∧ B.Loc w w' [.box g2 Tb3 [.slice A0 n0 c0, .int .i64 r.at_, .int .i64 r.end_, .slice A1 n1 c1, .slice A2 n2 c2, .int .i64 r.code, .int .i64 r.place], .own (.slice A1 n1 c1) 46 5 n1 (r.q.nodes.flatMap enc_api_PatNode), .own (.slice A2 n2 c2) 48 4 n2 (r.q.conds.flatMap enc_api_Cond)] [St w [[g2], (Value.slice A8 n9 c10).ownBlock.toList, (Value.slice A14 n15 c16).ownBlock.toList]] ∧ Ow z12 A1 n1 c1 r.q.nodes ∧ Ow z18 A2 n2 c2 r.q.conds ∧ Rw k_api_Word w' (Nw w w' F [.box g2 Tb3 [.slice A0 n0 c0, .int .i64 r.at_, .int .i64 r.end_, .slice A1 n1 c1, .slice A2 n2 c2, .int .i64 r.code, .int .i64 r.place], .own (.slice A1 n1 c1) 46 5 n1 (r.q.nodes.flatMap enc_api_PatNode), .own (.slice A2 n2 c2) 48 4 n2 (r.q.conds.flatMap enc_api_Cond)]) A0 n0 c0 r.words
noncomputable abbrev query_parser_fail_C (w : World) (F : Nat → Prop) (g2 : Nat) (Tb3 : Nat) (A8 : Option Addr) (n9 : Nat) (c10 : Nat) (z12 : Nat) (A14 : Option Addr) (n15 : Nat) (c16 : Nat) (z18 : Nat) (r : query_parser) : Cx := ⟨Try.prog, 32, Try.f32, 40, query_parser_fail_R w F g2 Tb3 A8 n9 c10 z12 A14 n15 c16 z18 r, w⟩
theorem query_parser_fail_calls (w : World) (F : Nat → Prop) (x1 : query_parser) (x20 : Int) (x21 : Int) (g2 : Nat) (Tb3 : Nat) (A4 : Option Addr) (n5 : Nat) (c6 : Nat) (z12 : Nat) (A8 : Option Addr) (n9 : Nat) (c10 : Nat) (z18 : Nat) (A14 : Option Addr) (n15 : Nat) (c16 : Nat) (h7 : Rw k_api_Word w F A4 n5 c6 x1.words) (hz13 : z12 ≤ w.heap.size) (h11 : Ow z12 A8 n9 c10 x1.q.nodes) (hz19 : z18 ≤ w.heap.size) (h17 : Ow z18 A14 n15 c16 x1.q.conds) (hF : ∀ b, F b → b < w.heap.size ∧ ∀ o ∈ ([[g2], (Value.slice A8 n9 c10).ownBlock.toList, (Value.slice A14 n15 c16).ownBlock.toList] : List (List Nat)), b ∉ o) (hL0 : B.Loc w w [.box g2 Tb3 [.slice A4 n5 c6, .int .i64 x1.at_, .int .i64 x1.end_, .slice A8 n9 c10, .slice A14 n15 c16, .int .i64 x1.code, .int .i64 x1.place], .own (.slice A8 n9 c10) 46 5 n9 (x1.q.nodes.flatMap enc_api_PatNode), .own (.slice A14 n15 c16) 48 4 n15 (x1.q.conds.flatMap enc_api_Cond)] [Sm w.heap.size F w [[g2], (Value.slice A8 n9 c10).ownBlock.toList, (Value.slice A14 n15 c16).ownBlock.toList], St w [[g2], (Value.slice A8 n9 c10).ownBlock.toList, (Value.slice A14 n15 c16).ownBlock.toList]]) (r : query_parser) (h : query_parser_fail x1 x20 x21 r) : Calls Try.prog 32 #[.pointer (some ⟨g2, 0, none⟩), .int .i64 x20, .int .i64 x21] w (query_parser_fail_R w F g2 Tb3 A8 n9 c10 z12 A14 n15 c16 z18 r) := by
 unfold query_parser_fail at h
 have h7 := Rw.into (bs := [[g2], (Value.slice A8 n9 c10).ownBlock.toList, (Value.slice A14 n15 c16).ownBlock.toList]) hF h7
 refine calls_of_Loc (vs := [.pointer (some ⟨g2, 0, none⟩), .int .i64 x20, .int .i64 x21]) 40 Try.func32 rfl Try.ntmps32 rfl hL0 ?_
 show G (query_parser_fail_C w F g2 Tb3 A8 n9 c10 z12 A14 n15 c16 z18 r) _ _ _ _
 refine g_seq rfl <| g_seq rfl <| g_region rfl rfl <| wl_v 0 rfl (v_move rfl) gn rfl <| wl_v 1 rfl (v_nilCheck rfl) gn rfl <| wl_v 2 rfl (v_fldB fo_44_4 rfl) gn rfl <| wl_v 3 rfl (v_ldB1 0 ld_26 rfl rfl rfl) gn rfl <| wl_v 4 rfl (v_bin rfl rfl rfl) gn rfl <| w_end 5 rfl ?_
 by_cases hp22 : x1.code = 0
 ·have h := if_pos' hp22 h
  refine g_false rfl _ rfl ((eqib hp22)) <| g_skip rfl <| g_seq rfl <| g_region rfl rfl <| wl_v 0 rfl (v_move rfl) gn rfl <| wl_v 1 rfl (v_move rfl) gn rfl <| wl_v 2 rfl (v_move rfl) gn rfl <| wl_v 3 rfl (v_move rfl) gn rfl <| wl_v 4 rfl (v_nilCheck rfl) gn rfl <| wl_v 5 rfl (v_fldB fo_44_2 rfl) gn rfl <| wl_v 6 rfl (v_ldB1 0 ld_3 rfl rfl rfl) gn rfl <| wl_v 7 rfl (v_nilCheck rfl) gn rfl ?_
  refine wl_v 8 rfl (v_fldB fo_44_4 rfl) gn rfl ?_
  refine wl_s 9 rfl (s_stB (vs := [.int .i64 x20]) (cs' := [.slice A4 n5 c6, .int .i64 x1.at_, .int .i64 x1.end_, .slice A8 n9 c10, .slice A14 n15 c16, .int .i64 x20, .int .i64 x1.place]) (M' := [.box g2 Tb3 [.slice A4 n5 c6, .int .i64 x1.at_, .int .i64 x1.end_, .slice A8 n9 c10, .slice A14 n15 c16, .int .i64 x20, .int .i64 x1.place], .own (.slice A8 n9 c10) 46 5 n9 (x1.q.nodes.flatMap enc_api_PatNode), .own (.slice A14 n15 c16) 48 4 n15 (x1.q.conds.flatMap enc_api_Cond)]) 0 sz_26 rfl rfl rfl rfl rfl rfl rfl rfl rfl ?_) gn
  refine wl_v 10 rfl (v_nilCheck rfl) gn rfl <| wl_v 11 rfl (v_fldB fo_44_5 rfl) gn rfl ?_
  refine wl_s 12 rfl (s_stB (vs := [.int .i64 x1.end_]) (cs' := [.slice A4 n5 c6, .int .i64 x1.at_, .int .i64 x1.end_, .slice A8 n9 c10, .slice A14 n15 c16, .int .i64 x20, .int .i64 x1.end_]) (M' := [.box g2 Tb3 [.slice A4 n5 c6, .int .i64 x1.at_, .int .i64 x1.end_, .slice A8 n9 c10, .slice A14 n15 c16, .int .i64 x20, .int .i64 x1.end_], .own (.slice A8 n9 c10) 46 5 n9 (x1.q.nodes.flatMap enc_api_PatNode), .own (.slice A14 n15 c16) 48 4 n15 (x1.q.conds.flatMap enc_api_Cond)]) 0 sz_3 rfl rfl rfl rfl rfl rfl rfl rfl rfl ?_) gn
  refine w_end 13 rfl <| g_seq rfl <| g_region rfl rfl <| wl_v 0 rfl (v_move rfl) gn rfl <| wl_v 1 rfl (v_move rfl) gn rfl <| wl_v 2 rfl (v_nilCheck rfl) gn rfl <| wl_v 3 rfl (v_fldB fo_44_0 rfl) gn rfl <| wl_v 4 rfl (v_ldB1 0 ld_33 rfl rfl rfl) gn rfl <| wl_v 5 rfl (v_lenQ un_33 rfl h7.hq) gn rfl <| wl_v 6 rfl (v_bin rfl rfl rfl) gn rfl <| w_end 7 rfl ?_
  by_cases hp23 : x21 < (x1.words.length : Int)
  ·have h := if_pos' hp23 h
   refine g_true rfl _ rfl ((decide_eq_true hp23)) <| g_region rfl rfl <| wl_v 0 rfl (v_move rfl) gn rfl <| wl_v 1 rfl (v_move rfl) gn rfl <| wl_v 2 rfl (v_nilCheck rfl) gn rfl <| wl_v 3 rfl (v_fldB fo_44_0 rfl) gn rfl <| wl_v 4 rfl (v_ldB1 0 ld_33 rfl rfl rfl) gn rfl <| wl_v 5 rfl (v_move rfl) gn rfl ?_
   obtain ⟨hb24, h⟩ := h
   have hr25 := Rw.readF (s := Sm w.heap.size F w [[g2], (Value.slice A8 n9 c10).ownBlock.toList, (Value.slice A14 n15 c16).ownBlock.toList]) (hl := hl_api_Word) (h1 := h1_api_Word) h7 hb24
   refine wl_v 6 rfl (v_idxR (s := Sm w.heap.size F w [[g2], (Value.slice A8 n9 c10).ownBlock.toList, (Value.slice A14 n15 c16).ownBlock.toList]) slE_33 rfl rfl h7 hb24) gn rfl <| wl_v 7 rfl (v_fldA fo_41_3 rfl) gn rfl <| wl_v 8 rfl (v_ldA1 (kk := (x21 : Int).toNat * 4) (j := 3) (Sm w.heap.size F w [[g2], (Value.slice A8 n9 c10).ownBlock.toList, (Value.slice A14 n15 c16).ownBlock.toList]) ld_3 rfl hr25 rfl (me 0 rfl)) gn rfl <| wl_v 9 rfl (v_nilCheck rfl) gn rfl <| wl_v 10 rfl (v_fldB fo_44_5 rfl) gn rfl ?_
   refine wl_s 11 rfl (s_stB (vs := [.int .i64 ((ix x1.words x21).at_)]) (cs' := [.slice A4 n5 c6, .int .i64 x1.at_, .int .i64 x1.end_, .slice A8 n9 c10, .slice A14 n15 c16, .int .i64 x20, .int .i64 ((ix x1.words x21).at_)]) (M' := [.box g2 Tb3 [.slice A4 n5 c6, .int .i64 x1.at_, .int .i64 x1.end_, .slice A8 n9 c10, .slice A14 n15 c16, .int .i64 x20, .int .i64 ((ix x1.words x21).at_)], .own (.slice A8 n9 c10) 46 5 n9 (x1.q.nodes.flatMap enc_api_PatNode), .own (.slice A14 n15 c16) 48 4 n15 (x1.q.conds.flatMap enc_api_Cond)]) 0 sz_3 rfl rfl rfl rfl rfl rfl rfl rfl rfl ?_) gn
   refine w_end 12 rfl ?_
   refine g_endR [] Try.func32 rfl (.nil) fun wr hLr => ?_
   have hMr := hLr.pkI (.c 0 rfl (.c 1 rfl (.c 2 rfl .n))) .n (by kernel_rfl) (.c 1 rfl .n)
   have hMi := hLr.selI (.c 0 rfl (.c 1 rfl (.c 2 rfl .n)))
   show query_parser_fail_R w F g2 Tb3 A8 n9 c10 z12 A14 n15 c16 z18 r (.returned (packV [])) wr
   rw [h]
   exact ⟨A8, n9, c10, A14, n15, c16, A4, n5, c6, rfl, hMr, h11, h17, (hLr.outR (s := Sm w.heap.size F w [[g2], (Value.slice A8 n9 c10).ownBlock.toList, (Value.slice A14 n15 c16).ownBlock.toList]) hMi (me 0 rfl) Sm.ok h7)⟩
  ·have h := if_neg' hp23 h
   refine g_false rfl _ rfl ((decide_eq_false hp23)) <| g_skip rfl ?_
   refine g_endR [] Try.func32 rfl (.nil) fun wr hLr => ?_
   have hMr := hLr.pkI (.c 0 rfl (.c 1 rfl (.c 2 rfl .n))) .n (by kernel_rfl) (.c 1 rfl .n)
   have hMi := hLr.selI (.c 0 rfl (.c 1 rfl (.c 2 rfl .n)))
   show query_parser_fail_R w F g2 Tb3 A8 n9 c10 z12 A14 n15 c16 z18 r (.returned (packV [])) wr
   rw [h]
   exact ⟨A8, n9, c10, A14, n15, c16, A4, n5, c6, rfl, hMr, h11, h17, (hLr.outR (s := Sm w.heap.size F w [[g2], (Value.slice A8 n9 c10).ownBlock.toList, (Value.slice A14 n15 c16).ownBlock.toList]) hMi (me 0 rfl) Sm.ok h7)⟩
 ·have h := if_neg' hp22 h
  refine g_true rfl _ rfl ((neib hp22)) ?_
  refine g_retR [] rfl Try.func32 rfl (.nil) fun wr hLr => ?_
  have hMr := hLr.pkI (.c 0 rfl (.c 1 rfl (.c 2 rfl .n))) .n (by kernel_rfl) (.c 1 rfl .n)
  have hMi := hLr.selI (.c 0 rfl (.c 1 rfl (.c 2 rfl .n)))
  show query_parser_fail_R w F g2 Tb3 A8 n9 c10 z12 A14 n15 c16 z18 r (.returned (packV [])) wr
  rw [h]
  exact ⟨A8, n9, c10, A14, n15, c16, A4, n5, c6, rfl, hMr, h11, h17, (hLr.outR (s := Sm w.heap.size F w [[g2], (Value.slice A8 n9 c10).ownBlock.toList, (Value.slice A14 n15 c16).ownBlock.toList]) hMi (me 0 rfl) Sm.ok h7)⟩
noncomputable abbrev q33c4 := Code.snd (Code.snd (bodyOf Try.f33))
noncomputable abbrev q33c5 := Code.fst (Code.fst (Code.snd (bodyOf Try.f33)))
noncomputable abbrev q33c6 := Code.snd (Code.fst (Code.snd (bodyOf Try.f33)))
noncomputable abbrev q33c15 := Code.fst (Code.snd q33c4)
abbrev query_parser_name_R (w : World) (F : Nat → Prop) (g2 : Nat) (Tb3 : Nat) (A8 : Option Addr) (n9 : Nat) (c10 : Nat) (z12 : Nat) (A14 : Option Addr) (n15 : Nat) (c16 : Nat) (z18 : Nat) (r : ByteArray × query_parser) : Ending → World → Prop := fun e w' => ∃ A1 : Option Addr, ∃ n1 : Nat, ∃ c1 : Nat, ∃ A2 : Option Addr, ∃ n2 : Nat, ∃ c2 : Nat, ∃ A0 : Option Addr, ∃ n0 : Nat, ∃ c0 : Nat, e = .returned (.string r.1) ∧ B.Loc w w' [.box g2 Tb3 [.slice A0 n0 c0, .int .i64 r.2.at_, .int .i64 r.2.end_, .slice A1 n1 c1, .slice A2 n2 c2, .int .i64 r.2.code, .int .i64 r.2.place], .own (.slice A1 n1 c1) 46 5 n1 (r.2.q.nodes.flatMap enc_api_PatNode), .own (.slice A2 n2 c2) 48 4 n2 (r.2.q.conds.flatMap enc_api_Cond)] [St w [[g2], (Value.slice A8 n9 c10).ownBlock.toList, (Value.slice A14 n15 c16).ownBlock.toList]] ∧ Ow z12 A1 n1 c1 r.2.q.nodes ∧ Ow z18 A2 n2 c2 r.2.q.conds ∧ Rw k_api_Word w' (Nw w w' F [.box g2 Tb3 [.slice A0 n0 c0, .int .i64 r.2.at_, .int .i64 r.2.end_, .slice A1 n1 c1, .slice A2 n2 c2, .int .i64 r.2.code, .int .i64 r.2.place], .own (.slice A1 n1 c1) 46 5 n1 (r.2.q.nodes.flatMap enc_api_PatNode), .own (.slice A2 n2 c2) 48 4 n2 (r.2.q.conds.flatMap enc_api_Cond)]) A0 n0 c0 r.2.words
noncomputable abbrev query_parser_name_C (w : World) (F : Nat → Prop) (g2 : Nat) (Tb3 : Nat) (A8 : Option Addr) (n9 : Nat) (c10 : Nat) (z12 : Nat) (A14 : Option Addr) (n15 : Nat) (c16 : Nat) (z18 : Nat) (r : ByteArray × query_parser) : Cx := ⟨Try.prog, 33, Try.f33, 66, query_parser_name_R w F g2 Tb3 A8 n9 c10 z12 A14 n15 c16 z18 r, w⟩
theorem query_parser_name_calls (w : World) (F : Nat → Prop) (x1 : query_parser) (g2 : Nat) (Tb3 : Nat) (A4 : Option Addr) (n5 : Nat) (c6 : Nat) (z12 : Nat) (A8 : Option Addr) (n9 : Nat) (c10 : Nat) (z18 : Nat) (A14 : Option Addr) (n15 : Nat) (c16 : Nat) (h7 : Rw k_api_Word w F A4 n5 c6 x1.words) (hz13 : z12 ≤ w.heap.size) (h11 : Ow z12 A8 n9 c10 x1.q.nodes) (hz19 : z18 ≤ w.heap.size) (h17 : Ow z18 A14 n15 c16 x1.q.conds) (hF : ∀ b, F b → b < w.heap.size ∧ ∀ o ∈ ([[g2], (Value.slice A8 n9 c10).ownBlock.toList, (Value.slice A14 n15 c16).ownBlock.toList] : List (List Nat)), b ∉ o) (hL0 : B.Loc w w [.box g2 Tb3 [.slice A4 n5 c6, .int .i64 x1.at_, .int .i64 x1.end_, .slice A8 n9 c10, .slice A14 n15 c16, .int .i64 x1.code, .int .i64 x1.place], .own (.slice A8 n9 c10) 46 5 n9 (x1.q.nodes.flatMap enc_api_PatNode), .own (.slice A14 n15 c16) 48 4 n15 (x1.q.conds.flatMap enc_api_Cond)] [Sm w.heap.size F w [[g2], (Value.slice A8 n9 c10).ownBlock.toList, (Value.slice A14 n15 c16).ownBlock.toList], St w [[g2], (Value.slice A8 n9 c10).ownBlock.toList, (Value.slice A14 n15 c16).ownBlock.toList]]) (r : ByteArray × query_parser) (h : query_parser_name x1 r) : Calls Try.prog 33 #[.pointer (some ⟨g2, 0, none⟩)] w (query_parser_name_R w F g2 Tb3 A8 n9 c10 z12 A14 n15 c16 z18 r) := by
 unfold query_parser_name at h
 have h7 := Rw.into (bs := [[g2], (Value.slice A8 n9 c10).ownBlock.toList, (Value.slice A14 n15 c16).ownBlock.toList]) hF h7
 refine calls_of_Loc (vs := [.pointer (some ⟨g2, 0, none⟩)]) 66 Try.func33 rfl Try.ntmps33 rfl hL0 ?_
 show G (query_parser_name_C w F g2 Tb3 A8 n9 c10 z12 A14 n15 c16 z18 r) _ _ _ _
 refine g_seq rfl <| g_region rfl rfl <| wl_v 0 rfl (v_assign rfl) gn rfl <| w_end 1 rfl <| g_seq rfl <| g_seq rfl ?_
 have j1 : ∀ (x32 : Bool) (h : query_parser_name_j1 x1 x32 r) , G (query_parser_name_C w F g2 Tb3 A8 n9 c10 z12 A14 n15 c16 z18 r) [.code q33c6, .code q33c4] [(0, .pointer (some ⟨g2, 0, none⟩)), (40, .bool x32)] [.box g2 Tb3 [.slice A4 n5 c6, .int .i64 x1.at_, .int .i64 x1.end_, .slice A8 n9 c10, .slice A14 n15 c16, .int .i64 x1.code, .int .i64 x1.place], .own (.slice A8 n9 c10) 46 5 n9 (x1.q.nodes.flatMap enc_api_PatNode), .own (.slice A14 n15 c16) 48 4 n15 (x1.q.conds.flatMap enc_api_Cond)] [Sm w.heap.size F w [[g2], (Value.slice A8 n9 c10).ownBlock.toList, (Value.slice A14 n15 c16).ownBlock.toList], St w [[g2], (Value.slice A8 n9 c10).ownBlock.toList, (Value.slice A14 n15 c16).ownBlock.toList]] := by
  intro x32 h
  unfold query_parser_name_j1 at h
  by_cases hp33 : x32 = true
  ·have h := if_pos' hp33 h
   refine g_true rfl _ rfl (hp33) <| g_seq rfl <| g_region rfl rfl <| wl_v 0 rfl (v_move rfl) gn rfl <| wl_v 1 rfl (v_move rfl) gn rfl <| wl_v 2 rfl (v_nilCheck rfl) gn rfl <| wl_v 3 rfl (v_fldB fo_44_1 rfl) gn rfl <| wl_v 4 rfl (v_ldB1 0 ld_3 rfl rfl rfl) gn rfl ?_
   obtain ⟨r37, hv38, h⟩ := h
   refine wl_s 5 rfl (s_call [.pointer (some ⟨g2, 0, none⟩), .int .i64 200, .int .i64 x1.at_] rfl Try.func32 rfl rfl rfl fun w34 hL35 => ?_) gn
   have hp36 := pmI hL35 (.c 0 rfl (.c 1 rfl (.c 2 rfl .n))) .n (by kernel_rfl)
   refine Calls.mono (query_parser_fail_calls w34 (Fl ([Sm w.heap.size F w [[g2], (Value.slice A8 n9 c10).ownBlock.toList, (Value.slice A14 n15 c16).ownBlock.toList]] : List Snap)) x1 200 x1.at_ g2 Tb3 A4 n5 c6 z12 A8 n9 c10 z18 A14 n15 c16 (Rw.mono h7 (hL35.toFl (me 0 rfl) (me 0 rfl))) (Nat.le_trans hz13 hL35.env.size) h11 (Nat.le_trans hz19 hL35.env.size) h17 (hL35.hFl hp36 (sels [0] rfl)) (hL35.into hp36 _) r37 hv38) ?_
   rintro _ w53 ⟨A43, n44, c45, A48, n49, c50, A39, n40, c41, rfl, hM54, h46, h51, h42⟩
   obtain ⟨sb57, hL55, hv56⟩ := hL35.callB (Sl := ([Sm w.heap.size F w [[g2], (Value.slice A8 n9 c10).ownBlock.toList, (Value.slice A14 n15 c16).ownBlock.toList]] : List Snap)) hp36 hM54 F (sels [0] rfl) ⟨Sm.ok, trivial⟩
   have h42 : At k_api_Word (Sm w.heap.size F w53 sb57) A39 n40 c41 r37.words := Rw.mono h42 hv56
   refine ⟨_, _, _, rfl, hL55, ?_⟩
   refine w_end 6 rfl <| g_seq rfl <| g_region rfl rfl <| wl_v 0 rfl (v_assign rfl) gn rfl <| w_end 1 rfl ?_
   refine g_retR [.string (⟨#[]⟩ : ByteArray)] rfl Try.func33 rfl (.tmp rfl (.nil)) fun wr hLr => ?_
   have hMr := hLr.pkI (.c 0 rfl (.c 1 rfl (.c 2 rfl .n))) .n (by kernel_rfl) (.c 2 rfl .n)
   have hMi := hLr.selI (.c 0 rfl (.c 1 rfl (.c 2 rfl .n)))
   show query_parser_name_R w F g2 Tb3 A8 n9 c10 z12 A14 n15 c16 z18 r (.returned (packV [.string (⟨#[]⟩ : ByteArray)])) wr
   rw [h]
   exact ⟨A43, n44, c45, A48, n49, c50, A39, n40, c41, rfl, hMr, h46, h51, (hLr.outR (s := Sm w.heap.size F w53 sb57) hMi (me 0 rfl) Sm.ok h42)⟩
  ·have h := if_neg' hp33 h
   refine g_false rfl _ rfl ((bf hp33)) <| g_skip rfl <| g_seq rfl <| g_region rfl rfl <| wl_v 0 rfl (v_move rfl) gn rfl <| wl_v 1 rfl (v_nilCheck rfl) gn rfl <| wl_v 2 rfl (v_fldB fo_44_1 rfl) gn rfl <| wl_v 3 rfl (v_ldB1 0 ld_3 rfl rfl rfl) gn rfl <| wl_v 4 rfl (v_bin rfl rfl rfl) gn rfl <| wl_v 5 rfl (v_nilCheck rfl) gn rfl <| wl_v 6 rfl (v_fldB fo_44_1 rfl) gn rfl ?_
   refine wl_s 7 rfl (s_stB (vs := [.int .i64 (w64 (x1.at_ + 1))]) (cs' := [.slice A4 n5 c6, .int .i64 (w64 (x1.at_ + 1)), .int .i64 x1.end_, .slice A8 n9 c10, .slice A14 n15 c16, .int .i64 x1.code, .int .i64 x1.place]) (M' := [.box g2 Tb3 [.slice A4 n5 c6, .int .i64 (w64 (x1.at_ + 1)), .int .i64 x1.end_, .slice A8 n9 c10, .slice A14 n15 c16, .int .i64 x1.code, .int .i64 x1.place], .own (.slice A8 n9 c10) 46 5 n9 (x1.q.nodes.flatMap enc_api_PatNode), .own (.slice A14 n15 c16) 48 4 n15 (x1.q.conds.flatMap enc_api_Cond)]) 0 sz_3 rfl rfl rfl rfl rfl rfl rfl rfl rfl ?_) gn
   refine w_end 8 rfl <| g_seq rfl ?_
   obtain ⟨hb58, h⟩ := h
   have hns : Region.noSelect (Code.ops q33c15) = true := by kernel_rfl
   refine g_drawG [] 13 rfl rfl mix rfl (.c 0 rfl (.c 1 rfl .n)) <| wfv 0 rfl (v_move rfl) gn hns rfl <| wfv 1 rfl (v_nilCheck rfl) gn hns rfl <| wfv 2 rfl (v_fldB fo_44_0 rfl) gn hns rfl <| wfv 3 rfl (v_ldB1 0 ld_33 rfl rfl rfl) gn hns rfl <| wfv 4 rfl (v_move rfl) gn hns rfl <| wfv 5 rfl (v_nilCheck rfl) gn hns rfl <| wfv 6 rfl (v_fldB fo_44_1 rfl) gn hns rfl <| wfv 7 rfl (v_ldB1 0 ld_3 rfl rfl rfl) gn hns rfl <| wfv 8 rfl (v_bin rfl rfl rfl) gn hns rfl ?_
   have hr61 := Rw.readF (s := Sm w.heap.size F w [[g2], (Value.slice A8 n9 c10).ownBlock.toList, (Value.slice A14 n15 c16).ownBlock.toList]) (hl := hl_api_Word) (h1 := h1_api_Word) h7 hb58
   refine wfv 9 rfl (v_idxR (s := Sm w.heap.size F w [[g2], (Value.slice A8 n9 c10).ownBlock.toList, (Value.slice A14 n15 c16).ownBlock.toList]) slE_33 rfl rfl h7 hb58) gn hns rfl <| wfv 10 rfl (v_fldA fo_41_1 rfl) gn hns rfl <| wfv 11 rfl (v_ldA1 (kk := (w64 ((w64 (x1.at_ + 1)) - 1) : Int).toNat * 4) (j := 1) (Sm w.heap.size F w [[g2], (Value.slice A8 n9 c10).ownBlock.toList, (Value.slice A14 n15 c16).ownBlock.toList]) ld_9 rfl hr61 rfl (me 0 rfl)) gn hns rfl <| wfv 12 rfl (v_assign rfl) gn hns rfl <| wf_end (by kernel_rfl) ?_
   refine g_retR [.string ((ix x1.words (w64 ((w64 (x1.at_ + 1)) - 1))).text)] rfl Try.func33 rfl (.tmp rfl (.nil)) fun wr hLr => ?_
   have hMr := hLr.pkI (.c 0 rfl (.c 1 rfl (.c 2 rfl .n))) .n (by kernel_rfl) (.c 1 rfl .n)
   have hMi := hLr.selI (.c 0 rfl (.c 1 rfl (.c 2 rfl .n)))
   show query_parser_name_R w F g2 Tb3 A8 n9 c10 z12 A14 n15 c16 z18 r (.returned (packV [.string ((ix x1.words (w64 ((w64 (x1.at_ + 1)) - 1))).text)])) wr
   rw [h]
   exact ⟨A8, n9, c10, A14, n15, c16, A4, n5, c6, rfl, hMr, h11, h17, (hLr.outR (s := Sm w.heap.size F w [[g2], (Value.slice A8 n9 c10).ownBlock.toList, (Value.slice A14 n15 c16).ownBlock.toList]) hMi (me 0 rfl) Sm.ok h7)⟩
 by_cases hp62 : x1.at_ = (x1.words.length : Int)
 ·have h := if_pos' hp62 h
  have hns : Region.noSelect (Code.ops q33c5) = true := by kernel_rfl
  refine g_drawG [] 38 rfl rfl mix rfl (.c 0 rfl (.c 1 rfl .n)) <| wfv 0 rfl (v_move rfl) gn hns rfl <| wfv 1 rfl (v_nilCheck rfl) gn hns rfl <| wfv 2 rfl (v_fldB fo_44_1 rfl) gn hns rfl <| wfv 3 rfl (v_ldB1 0 ld_3 rfl rfl rfl) gn hns rfl <| wfv 4 rfl (v_move rfl) gn hns rfl <| wfv 5 rfl (v_nilCheck rfl) gn hns rfl <| wfv 6 rfl (v_fldB fo_44_0 rfl) gn hns rfl <| wfv 7 rfl (v_ldB1 0 ld_33 rfl rfl rfl) gn hns rfl <| wfv 8 rfl (v_lenQ un_33 rfl h7.hq) gn hns rfl <| wfv 9 rfl (v_bin rfl rfl rfl) gn hns rfl <| wfv 10 rfl (v_move rfl) gn hns rfl ?_
  refine wf_bool 13 rfl ((eqi hp62)) <| wfp 11 rfl (ps 13 rfl rfl rfl) hns rfl <| wfp 12 rfl (ps 13 rfl rfl rfl) hns rfl <| wfp 13 rfl (ps 13 rfl rfl rfl) hns rfl <| wfp 14 rfl (ps 13 rfl rfl rfl) hns rfl <| wfp 15 rfl (ps 13 rfl rfl rfl) hns rfl <| wfp 16 rfl (ps 13 rfl rfl rfl) hns rfl <| wfp 17 rfl (ps 13 rfl rfl rfl) hns rfl <| wfp 18 rfl (ps 13 rfl rfl rfl) hns rfl <| wfp 19 rfl (ps 13 rfl rfl rfl) hns rfl <| wfp 20 rfl (ps 13 rfl rfl rfl) hns rfl <| wfp 21 rfl (ps 13 rfl rfl rfl) hns rfl ?_
  refine wfp 22 rfl (ps 13 rfl rfl rfl) hns rfl <| wfv 23 rfl (v_pick (b := true) rfl rfl) gn hns rfl <| wfv 24 rfl (v_move rfl) gn hns rfl <| wfp 25 rfl (ps 27 rfl rfl rfl) hns rfl <| wfp 26 rfl (ps 27 rfl rfl rfl) hns rfl <| wfp 27 rfl (ps 27 rfl rfl rfl) hns rfl <| wfp 28 rfl (ps 27 rfl rfl rfl) hns rfl <| wfp 29 rfl (ps 27 rfl rfl rfl) hns rfl <| wfp 30 rfl (ps 27 rfl rfl rfl) hns rfl <| wfp 31 rfl (ps 27 rfl rfl rfl) hns rfl <| wfp 32 rfl (ps 27 rfl rfl rfl) hns rfl <| wfp 33 rfl (ps 27 rfl rfl rfl) hns rfl ?_
  refine wfp 34 rfl (ps 27 rfl rfl rfl) hns rfl <| wfp 35 rfl (ps 27 rfl rfl rfl) hns rfl <| wfp 36 rfl (ps 27 rfl rfl rfl) hns rfl <| wfv 37 rfl (v_pick (b := true) rfl rfl) gn hns rfl <| wf_end (by kernel_rfl) ?_
  exact g_go [0, 1] (j1 true h) ⟨rfl, rfl, trivial⟩ (.cons_cons _ (.cons_cons _ (.cons_cons _ (.slnil)))) rfl
 ·have h := if_neg' hp62 h
  obtain ⟨hb63, h⟩ := h
  by_cases hp65 : (ix x1.words x1.at_).kind = 1
  ·have h := if_pos' hp65 h
   have hns : Region.noSelect (Code.ops q33c5) = true := by kernel_rfl
   refine g_drawG [] 38 rfl rfl mix rfl (.c 0 rfl (.c 1 rfl .n)) <| wfv 0 rfl (v_move rfl) gn hns rfl <| wfv 1 rfl (v_nilCheck rfl) gn hns rfl <| wfv 2 rfl (v_fldB fo_44_1 rfl) gn hns rfl <| wfv 3 rfl (v_ldB1 0 ld_3 rfl rfl rfl) gn hns rfl <| wfv 4 rfl (v_move rfl) gn hns rfl <| wfv 5 rfl (v_nilCheck rfl) gn hns rfl <| wfv 6 rfl (v_fldB fo_44_0 rfl) gn hns rfl <| wfv 7 rfl (v_ldB1 0 ld_33 rfl rfl rfl) gn hns rfl <| wfv 8 rfl (v_lenQ un_33 rfl h7.hq) gn hns rfl <| wfv 9 rfl (v_bin rfl rfl rfl) gn hns rfl <| wfv 10 rfl (v_move rfl) gn hns rfl ?_
   refine wf_bool 13 rfl ((nei hp62)) <| wfv 11 rfl (v_move rfl) (gy 13 rfl rfl) hns rfl <| wfv 12 rfl (v_nilCheck rfl) (gy 13 rfl rfl) hns rfl <| wfv 13 rfl (v_fldB fo_44_0 rfl) (gy 13 rfl rfl) hns rfl <| wfv 14 rfl (v_ldB1 0 ld_33 rfl rfl rfl) (gy 13 rfl rfl) hns rfl <| wfv 15 rfl (v_move rfl) (gy 13 rfl rfl) hns rfl <| wfv 16 rfl (v_nilCheck rfl) (gy 13 rfl rfl) hns rfl <| wfv 17 rfl (v_fldB fo_44_1 rfl) (gy 13 rfl rfl) hns rfl <| wfv 18 rfl (v_ldB1 0 ld_3 rfl rfl rfl) (gy 13 rfl rfl) hns rfl ?_
   have hr69 := Rw.readF (s := Sm w.heap.size F w [[g2], (Value.slice A8 n9 c10).ownBlock.toList, (Value.slice A14 n15 c16).ownBlock.toList]) (hl := hl_api_Word) (h1 := h1_api_Word) h7 hb63
   refine wfv 19 rfl (v_idxR (s := Sm w.heap.size F w [[g2], (Value.slice A8 n9 c10).ownBlock.toList, (Value.slice A14 n15 c16).ownBlock.toList]) slE_33 rfl rfl h7 hb63) (gy 13 rfl rfl) hns rfl <| wfv 20 rfl (v_fldA fo_41_0 rfl) (gy 13 rfl rfl) hns rfl <| wfv 21 rfl (v_ldA1 (kk := (x1.at_ : Int).toNat * 4) (j := 0) (Sm w.heap.size F w [[g2], (Value.slice A8 n9 c10).ownBlock.toList, (Value.slice A14 n15 c16).ownBlock.toList]) ld_39 rfl hr69 rfl (me 0 rfl)) (gy 13 rfl rfl) hns rfl <| wfv 22 rfl (v_bin rfl rfl rfl) (gy 13 rfl rfl) hns rfl <| wfv 23 rfl (v_pick (b := false) rfl rfl) gn hns rfl <| wfv 24 rfl (v_move rfl) gn hns rfl <| wf_bool 27 rfl ((eqib hp65)) <| wfv 25 rfl (v_move rfl) (gy 27 rfl rfl) hns rfl <| wfv 26 rfl (v_nilCheck rfl) (gy 27 rfl rfl) hns rfl <| wfv 27 rfl (v_fldB fo_44_0 rfl) (gy 27 rfl rfl) hns rfl <| wfv 28 rfl (v_ldB1 0 ld_33 rfl rfl rfl) (gy 27 rfl rfl) hns rfl <| wfv 29 rfl (v_move rfl) (gy 27 rfl rfl) hns rfl ?_
   refine wfv 30 rfl (v_nilCheck rfl) (gy 27 rfl rfl) hns rfl <| wfv 31 rfl (v_fldB fo_44_1 rfl) (gy 27 rfl rfl) hns rfl <| wfv 32 rfl (v_ldB1 0 ld_3 rfl rfl rfl) (gy 27 rfl rfl) hns rfl ?_
   have hr70 := Rw.readF (s := Sm w.heap.size F w [[g2], (Value.slice A8 n9 c10).ownBlock.toList, (Value.slice A14 n15 c16).ownBlock.toList]) (hl := hl_api_Word) (h1 := h1_api_Word) h7 hb63
   refine wfv 33 rfl (v_idxR (s := Sm w.heap.size F w [[g2], (Value.slice A8 n9 c10).ownBlock.toList, (Value.slice A14 n15 c16).ownBlock.toList]) slE_33 rfl rfl h7 hb63) (gy 27 rfl rfl) hns rfl <| wfv 34 rfl (v_fldA fo_41_1 rfl) (gy 27 rfl rfl) hns rfl <| wfv 35 rfl (v_ldA1 (kk := (x1.at_ : Int).toNat * 4) (j := 1) (Sm w.heap.size F w [[g2], (Value.slice A8 n9 c10).ownBlock.toList, (Value.slice A14 n15 c16).ownBlock.toList]) ld_9 rfl hr70 rfl (me 0 rfl)) (gy 27 rfl rfl) hns rfl <| wfv 36 rfl (v_eqS rfl rfl) (gy 27 rfl rfl) hns rfl <| wfv 37 rfl (v_pick (b := false) rfl rfl) gn hns rfl <| wf_end (by kernel_rfl) ?_
   exact g_go [0, 1] (j1 (seq ((ix x1.words x1.at_).text) (⟨#[95]⟩ : ByteArray)) h) ⟨rfl, rfl, trivial⟩ (.cons_cons _ (.cons_cons _ (.cons_cons _ (.slnil)))) rfl
  ·have h := if_neg' hp65 h
   have hns : Region.noSelect (Code.ops q33c5) = true := by kernel_rfl
   refine g_drawG [] 38 rfl rfl mix rfl (.c 0 rfl (.c 1 rfl .n)) <| wfv 0 rfl (v_move rfl) gn hns rfl <| wfv 1 rfl (v_nilCheck rfl) gn hns rfl <| wfv 2 rfl (v_fldB fo_44_1 rfl) gn hns rfl <| wfv 3 rfl (v_ldB1 0 ld_3 rfl rfl rfl) gn hns rfl <| wfv 4 rfl (v_move rfl) gn hns rfl <| wfv 5 rfl (v_nilCheck rfl) gn hns rfl <| wfv 6 rfl (v_fldB fo_44_0 rfl) gn hns rfl <| wfv 7 rfl (v_ldB1 0 ld_33 rfl rfl rfl) gn hns rfl <| wfv 8 rfl (v_lenQ un_33 rfl h7.hq) gn hns rfl <| wfv 9 rfl (v_bin rfl rfl rfl) gn hns rfl <| wfv 10 rfl (v_move rfl) gn hns rfl ?_
   refine wf_bool 13 rfl ((nei hp62)) <| wfv 11 rfl (v_move rfl) (gy 13 rfl rfl) hns rfl <| wfv 12 rfl (v_nilCheck rfl) (gy 13 rfl rfl) hns rfl <| wfv 13 rfl (v_fldB fo_44_0 rfl) (gy 13 rfl rfl) hns rfl <| wfv 14 rfl (v_ldB1 0 ld_33 rfl rfl rfl) (gy 13 rfl rfl) hns rfl <| wfv 15 rfl (v_move rfl) (gy 13 rfl rfl) hns rfl <| wfv 16 rfl (v_nilCheck rfl) (gy 13 rfl rfl) hns rfl <| wfv 17 rfl (v_fldB fo_44_1 rfl) (gy 13 rfl rfl) hns rfl <| wfv 18 rfl (v_ldB1 0 ld_3 rfl rfl rfl) (gy 13 rfl rfl) hns rfl ?_
   have hr72 := Rw.readF (s := Sm w.heap.size F w [[g2], (Value.slice A8 n9 c10).ownBlock.toList, (Value.slice A14 n15 c16).ownBlock.toList]) (hl := hl_api_Word) (h1 := h1_api_Word) h7 hb63
   refine wfv 19 rfl (v_idxR (s := Sm w.heap.size F w [[g2], (Value.slice A8 n9 c10).ownBlock.toList, (Value.slice A14 n15 c16).ownBlock.toList]) slE_33 rfl rfl h7 hb63) (gy 13 rfl rfl) hns rfl <| wfv 20 rfl (v_fldA fo_41_0 rfl) (gy 13 rfl rfl) hns rfl <| wfv 21 rfl (v_ldA1 (kk := (x1.at_ : Int).toNat * 4) (j := 0) (Sm w.heap.size F w [[g2], (Value.slice A8 n9 c10).ownBlock.toList, (Value.slice A14 n15 c16).ownBlock.toList]) ld_39 rfl hr72 rfl (me 0 rfl)) (gy 13 rfl rfl) hns rfl <| wfv 22 rfl (v_bin rfl rfl rfl) (gy 13 rfl rfl) hns rfl <| wfv 23 rfl (v_pick (b := false) rfl rfl) gn hns rfl <| wfv 24 rfl (v_move rfl) gn hns rfl <| wf_bool 27 rfl ((neib hp65)) <| wfp 25 rfl (ps 27 rfl rfl rfl) hns rfl <| wfp 26 rfl (ps 27 rfl rfl rfl) hns rfl <| wfp 27 rfl (ps 27 rfl rfl rfl) hns rfl <| wfp 28 rfl (ps 27 rfl rfl rfl) hns rfl <| wfp 29 rfl (ps 27 rfl rfl rfl) hns rfl ?_
   refine wfp 30 rfl (ps 27 rfl rfl rfl) hns rfl <| wfp 31 rfl (ps 27 rfl rfl rfl) hns rfl <| wfp 32 rfl (ps 27 rfl rfl rfl) hns rfl <| wfp 33 rfl (ps 27 rfl rfl rfl) hns rfl <| wfp 34 rfl (ps 27 rfl rfl rfl) hns rfl <| wfp 35 rfl (ps 27 rfl rfl rfl) hns rfl <| wfp 36 rfl (ps 27 rfl rfl rfl) hns rfl <| wfv 37 rfl (v_pick (b := true) rfl rfl) gn hns rfl <| wf_end (by kernel_rfl) ?_
   exact g_go [0, 1] (j1 true h) ⟨rfl, rfl, trivial⟩ (.cons_cons _ (.cons_cons _ (.cons_cons _ (.slnil)))) rfl
abbrev query_parser_sign_R (w : World) (F : Nat → Prop) (g2 : Nat) (Tb3 : Nat) (A8 : Option Addr) (n9 : Nat) (c10 : Nat) (z12 : Nat) (A14 : Option Addr) (n15 : Nat) (c16 : Nat) (z18 : Nat) (r : query_parser) : Ending → World → Prop := fun e w' => ∃ A1 : Option Addr, ∃ n1 : Nat, ∃ c1 : Nat, ∃ A2 : Option Addr, ∃ n2 : Nat, ∃ c2 : Nat, ∃ A0 : Option Addr, ∃ n0 : Nat, ∃ c0 : Nat, e = .returned (.tuple #[]) ∧ B.Loc w w' [.box g2 Tb3 [.slice A0 n0 c0, .int .i64 r.at_, .int .i64 r.end_, .slice A1 n1 c1, .slice A2 n2 c2, .int .i64 r.code, .int .i64 r.place], .own (.slice A1 n1 c1) 46 5 n1 (r.q.nodes.flatMap enc_api_PatNode), .own (.slice A2 n2 c2) 48 4 n2 (r.q.conds.flatMap enc_api_Cond)] [St w [[g2], (Value.slice A8 n9 c10).ownBlock.toList, (Value.slice A14 n15 c16).ownBlock.toList]] ∧ Ow z12 A1 n1 c1 r.q.nodes ∧ Ow z18 A2 n2 c2 r.q.conds ∧ Rw k_api_Word w' (Nw w w' F [.box g2 Tb3 [.slice A0 n0 c0, .int .i64 r.at_, .int .i64 r.end_, .slice A1 n1 c1, .slice A2 n2 c2, .int .i64 r.code, .int .i64 r.place], .own (.slice A1 n1 c1) 46 5 n1 (r.q.nodes.flatMap enc_api_PatNode), .own (.slice A2 n2 c2) 48 4 n2 (r.q.conds.flatMap enc_api_Cond)]) A0 n0 c0 r.words
noncomputable abbrev query_parser_sign_C (w : World) (F : Nat → Prop) (g2 : Nat) (Tb3 : Nat) (A8 : Option Addr) (n9 : Nat) (c10 : Nat) (z12 : Nat) (A14 : Option Addr) (n15 : Nat) (c16 : Nat) (z18 : Nat) (r : query_parser) : Cx := ⟨Try.prog, 34, Try.f34, 25, query_parser_sign_R w F g2 Tb3 A8 n9 c10 z12 A14 n15 c16 z18 r, w⟩
theorem query_parser_sign_calls (w : World) (F : Nat → Prop) (x1 : query_parser) (x20 : ByteArray) (g2 : Nat) (Tb3 : Nat) (A4 : Option Addr) (n5 : Nat) (c6 : Nat) (z12 : Nat) (A8 : Option Addr) (n9 : Nat) (c10 : Nat) (z18 : Nat) (A14 : Option Addr) (n15 : Nat) (c16 : Nat) (h7 : Rw k_api_Word w F A4 n5 c6 x1.words) (hz13 : z12 ≤ w.heap.size) (h11 : Ow z12 A8 n9 c10 x1.q.nodes) (hz19 : z18 ≤ w.heap.size) (h17 : Ow z18 A14 n15 c16 x1.q.conds) (hF : ∀ b, F b → b < w.heap.size ∧ ∀ o ∈ ([[g2], (Value.slice A8 n9 c10).ownBlock.toList, (Value.slice A14 n15 c16).ownBlock.toList] : List (List Nat)), b ∉ o) (hL0 : B.Loc w w [.box g2 Tb3 [.slice A4 n5 c6, .int .i64 x1.at_, .int .i64 x1.end_, .slice A8 n9 c10, .slice A14 n15 c16, .int .i64 x1.code, .int .i64 x1.place], .own (.slice A8 n9 c10) 46 5 n9 (x1.q.nodes.flatMap enc_api_PatNode), .own (.slice A14 n15 c16) 48 4 n15 (x1.q.conds.flatMap enc_api_Cond)] [Sm w.heap.size F w [[g2], (Value.slice A8 n9 c10).ownBlock.toList, (Value.slice A14 n15 c16).ownBlock.toList], St w [[g2], (Value.slice A8 n9 c10).ownBlock.toList, (Value.slice A14 n15 c16).ownBlock.toList]]) (r : query_parser) (h : query_parser_sign x1 x20 r) : Calls Try.prog 34 #[.pointer (some ⟨g2, 0, none⟩), .string x20] w (query_parser_sign_R w F g2 Tb3 A8 n9 c10 z12 A14 n15 c16 z18 r) := by
 unfold query_parser_sign at h
 have h7 := Rw.into (bs := [[g2], (Value.slice A8 n9 c10).ownBlock.toList, (Value.slice A14 n15 c16).ownBlock.toList]) hF h7
 refine calls_of_Loc (vs := [.pointer (some ⟨g2, 0, none⟩), .string x20]) 25 Try.func34 rfl Try.ntmps34 rfl hL0 ?_
 show G (query_parser_sign_C w F g2 Tb3 A8 n9 c10 z12 A14 n15 c16 z18 r) _ _ _ _
 refine g_seq rfl <| g_seq rfl <| g_region rfl rfl <| wl_v 0 rfl (v_move rfl) gn rfl <| wl_v 1 rfl (v_move rfl) gn rfl <| wl_v 2 rfl (v_nilCheck rfl) gn rfl <| wl_v 3 rfl (v_fldB fo_44_1 rfl) gn rfl <| wl_v 4 rfl (v_ldB1 0 ld_3 rfl rfl rfl) gn rfl <| wl_v 5 rfl (v_move rfl) gn rfl ?_
 obtain ⟨r24, hv25, h⟩ := h
 refine wl_s 6 rfl (s_call [.pointer (some ⟨g2, 0, none⟩), .int .i64 x1.at_, .int .i64 5, .string x20] rfl Try.func35 rfl rfl rfl fun w21 hL22 => ?_) gn
 have hp23 := pmI hL22 (.c 0 rfl (.c 1 rfl (.c 2 rfl .n))) .n (by kernel_rfl)
 refine Calls.mono (query_parser_is_calls w21 (Fl ([Sm w.heap.size F w [[g2], (Value.slice A8 n9 c10).ownBlock.toList, (Value.slice A14 n15 c16).ownBlock.toList]] : List Snap)) x1 x1.at_ 5 x20 g2 Tb3 A4 n5 c6 z12 A8 n9 c10 z18 A14 n15 c16 (Rw.mono h7 (hL22.toFl (me 0 rfl) (me 0 rfl))) (Nat.le_trans hz13 hL22.env.size) h11 (Nat.le_trans hz19 hL22.env.size) h17 (hL22.hFl hp23 (sels [0] rfl)) (hL22.into hp23 _) r24 hv25) ?_
 rintro _ w40 ⟨A30, n31, c32, A35, n36, c37, A26, n27, c28, rfl, hM41, h33, h38, h29⟩
 obtain ⟨sb44, hL42, hv43⟩ := hL22.callB (Sl := ([Sm w.heap.size F w [[g2], (Value.slice A8 n9 c10).ownBlock.toList, (Value.slice A14 n15 c16).ownBlock.toList]] : List Snap)) hp23 hM41 F (sels [0] rfl) ⟨Sm.ok, trivial⟩
 have h29 : At k_api_Word (Sm w.heap.size F w40 sb44) A26 n27 c28 r24.2.words := Rw.mono h29 hv43
 refine ⟨_, _, _, rfl, hL42, ?_⟩
 refine wl_v 7 rfl (v_not rfl) gn rfl <| w_end 8 rfl ?_
 by_cases hp45 : r24.1 = true
 ·have h := if_pos' hp45 h
  refine g_false rfl _ rfl ((nf hp45)) <| g_skip rfl <| g_region rfl rfl <| wl_v 0 rfl (v_move rfl) gn rfl <| wl_v 1 rfl (v_nilCheck rfl) gn rfl <| wl_v 2 rfl (v_fldB fo_44_1 rfl) gn rfl <| wl_v 3 rfl (v_ldB1 0 ld_3 rfl rfl rfl) gn rfl <| wl_v 4 rfl (v_bin rfl rfl rfl) gn rfl <| wl_v 5 rfl (v_nilCheck rfl) gn rfl <| wl_v 6 rfl (v_fldB fo_44_1 rfl) gn rfl ?_
  refine wl_s 7 rfl (s_stB (vs := [.int .i64 (w64 (r24.2.at_ + 1))]) (cs' := [.slice A26 n27 c28, .int .i64 (w64 (r24.2.at_ + 1)), .int .i64 r24.2.end_, .slice A30 n31 c32, .slice A35 n36 c37, .int .i64 r24.2.code, .int .i64 r24.2.place]) (M' := [.box g2 Tb3 [.slice A26 n27 c28, .int .i64 (w64 (r24.2.at_ + 1)), .int .i64 r24.2.end_, .slice A30 n31 c32, .slice A35 n36 c37, .int .i64 r24.2.code, .int .i64 r24.2.place], .own (.slice A30 n31 c32) 46 5 n31 (r24.2.q.nodes.flatMap enc_api_PatNode), .own (.slice A35 n36 c37) 48 4 n36 (r24.2.q.conds.flatMap enc_api_Cond)]) 0 sz_3 rfl rfl rfl rfl rfl rfl rfl rfl rfl ?_) gn
  refine w_end 8 rfl ?_
  refine g_endR [] Try.func34 rfl (.nil) fun wr hLr => ?_
  have hMr := hLr.pkI (.c 0 rfl (.c 1 rfl (.c 2 rfl .n))) .n (by kernel_rfl) (.c 2 rfl .n)
  have hMi := hLr.selI (.c 0 rfl (.c 1 rfl (.c 2 rfl .n)))
  show query_parser_sign_R w F g2 Tb3 A8 n9 c10 z12 A14 n15 c16 z18 r (.returned (packV [])) wr
  rw [h]
  exact ⟨A30, n31, c32, A35, n36, c37, A26, n27, c28, rfl, hMr, h33, h38, (hLr.outR (s := Sm w.heap.size F w40 sb44) hMi (me 0 rfl) Sm.ok h29)⟩
 ·have h := if_neg' hp45 h
  refine g_true rfl _ rfl ((nt (bf hp45))) <| g_seq rfl <| g_region rfl rfl <| wl_v 0 rfl (v_move rfl) gn rfl <| wl_v 1 rfl (v_move rfl) gn rfl <| wl_v 2 rfl (v_nilCheck rfl) gn rfl <| wl_v 3 rfl (v_fldB fo_44_1 rfl) gn rfl <| wl_v 4 rfl (v_ldB1 0 ld_3 rfl rfl rfl) gn rfl ?_
  obtain ⟨r49, hv50, h⟩ := h
  refine wl_s 5 rfl (s_call [.pointer (some ⟨g2, 0, none⟩), .int .i64 200, .int .i64 r24.2.at_] rfl Try.func32 rfl rfl rfl fun w46 hL47 => ?_) gn
  have hp48 := pmI hL47 (.c 0 rfl (.c 1 rfl (.c 2 rfl .n))) .n (by kernel_rfl)
  refine Calls.mono (query_parser_fail_calls w46 (Fl ([Sm w.heap.size F w40 sb44] : List Snap)) r24.2 200 r24.2.at_ g2 Tb3 A26 n27 c28 z12 A30 n31 c32 z18 A35 n36 c37 (Rw.mono h29 (hL47.toFl (me 0 rfl) (me 0 rfl))) (Nat.le_trans hz13 hL47.env.size) h33 (Nat.le_trans hz19 hL47.env.size) h38 (hL47.hFl hp48 (sels [0] rfl)) (hL47.into hp48 _) r49 hv50) ?_
  rintro _ w65 ⟨A55, n56, c57, A60, n61, c62, A51, n52, c53, rfl, hM66, h58, h63, h54⟩
  obtain ⟨sb69, hL67, hv68⟩ := hL47.callB (Sl := ([Sm w.heap.size F w40 sb44] : List Snap)) hp48 hM66 F (sels [0] rfl) ⟨Sm.ok, trivial⟩
  have h54 : At k_api_Word (Sm w.heap.size F w65 sb69) A51 n52 c53 r49.words := Rw.mono h54 hv68
  refine ⟨_, _, _, rfl, hL67, ?_⟩
  refine w_end 6 rfl ?_
  refine g_retR [] rfl Try.func34 rfl (.nil) fun wr hLr => ?_
  have hMr := hLr.pkI (.c 0 rfl (.c 1 rfl (.c 2 rfl .n))) .n (by kernel_rfl) (.c 3 rfl .n)
  have hMi := hLr.selI (.c 0 rfl (.c 1 rfl (.c 2 rfl .n)))
  show query_parser_sign_R w F g2 Tb3 A8 n9 c10 z12 A14 n15 c16 z18 r (.returned (packV [])) wr
  rw [h]
  exact ⟨A55, n56, c57, A60, n61, c62, A51, n52, c53, rfl, hMr, h58, h63, (hLr.outR (s := Sm w.heap.size F w65 sb69) hMi (me 0 rfl) Sm.ok h54)⟩
abbrev query_captured_1_R (w : World) (F : Nat → Prop) (g3 : Nat) (Tb4 : Nat) (r : Bool × ByteArray) : Ending → World → Prop := fun e w' => e = .returned (.bool r.1) ∧ B.Loc w w' [.box g3 Tb4 [.string r.2]] [St w [[g3]]]
noncomputable abbrev query_captured_1_C (w : World) (F : Nat → Prop) (g3 : Nat) (Tb4 : Nat) (r : Bool × ByteArray) : Cx := ⟨Try.prog, 45, Try.f45, 8, query_captured_1_R w F g3 Tb4 r, w⟩
theorem query_captured_1_calls (w : World) (F : Nat → Prop) (x1 : api_PatNode) (x2 : ByteArray) (g3 : Nat) (Tb4 : Nat) (hF : ∀ b, F b → b < w.heap.size ∧ ∀ o ∈ ([[g3]] : List (List Nat)), b ∉ o) (hL0 : B.Loc w w [.box g3 Tb4 [.string x2]] [Sm w.heap.size F w [[g3]], St w [[g3]]]) (r : Bool × ByteArray) (h : query_captured_1 x1 x2 r) : Calls Try.prog 45 #[.agg #[.string x1.name, .bool x1.lit, .string x1.field, .string x1.capture, .int .i64 x1.kids], .pointer (some ⟨g3, 0, none⟩)] w (query_captured_1_R w F g3 Tb4 r) := by
 unfold query_captured_1 at h
 refine calls_of_Loc (vs := [.agg #[.string x1.name, .bool x1.lit, .string x1.field, .string x1.capture, .int .i64 x1.kids], .pointer (some ⟨g3, 0, none⟩)]) 8 Try.func45 rfl Try.ntmps45 rfl hL0 ?_
 show G (query_captured_1_C w F g3 Tb4 r) _ _ _ _
 refine g_seq rfl <| g_region rfl rfl ?_
 refine wl_s 0 rfl (s_box [.string x1.name, .bool x1.lit, .string x1.field, .string x1.capture, .int .i64 x1.kids] rfl rfl rfl fun gb5 => ?_) gn
 refine wl_v 1 rfl (v_assign rfl) gn rfl <| w_end 2 rfl <| g_seq rfl <| g_region rfl rfl <| wl_v 0 rfl (v_fldB fo_46_3 rfl) gn rfl <| wl_v 1 rfl (v_ldB1 0 ld_9 rfl rfl rfl) gn rfl <| wl_v 2 rfl (v_ldB1 1 ld_9 rfl rfl rfl) gn rfl <| wl_v 3 rfl (v_eqS rfl rfl) gn rfl <| wl_v 4 rfl (v_assign rfl) gn rfl <| w_end 5 rfl ?_
 refine g_retR [.bool (seq x1.capture x2)] rfl Try.func45 rfl (.tmp rfl (.nil)) fun wr hLr => ?_
 have hMr := hLr.pkI (.c 1 rfl .n) (.c 0 rfl .n) (by kernel_rfl) (.c 1 rfl .n)
 show query_captured_1_R w F g3 Tb4 r (.returned (packV [.bool (seq x1.capture x2)])) wr
 rw [h]
 exact ⟨rfl, hMr⟩
end Go.Proofs.Ytjookebbmfiidaa.K
