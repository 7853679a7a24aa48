/- What the machine's calls do, function by function, printed by my own tool. Condition of each: its relation holds of the answer, and what is handed in lies in memory as told. -/
import Derived.Test.YtbejkaeidnajkaaK0
set_option linter.unusedVariables false
set_option maxRecDepth 100000
set_option maxHeartbeats 4000000
namespace Go.Proofs.Ytbejkaeidnajkaa.K
open Go.Proofs.Ytbejkaeidnajkaa.B Go.Proofs.Ytbejkaeidnajkaa.R Go.RowKit
noncomputable abbrev q4c0 : Code := bodyOf Try.f4
noncomputable abbrev q4c1 : Code := Code.fst q4c0
noncomputable abbrev q4c2 : Code := Code.snd q4c0
noncomputable abbrev q4c3 : Code := Code.fst q4c2
noncomputable abbrev q4c4 : Code := Code.snd q4c2
abbrev rpc_New_R (w : World) (F : Nat → Prop) (r : rpc_Buffer) : Ending → World → Prop := fun e w' => ∃ gn0 : Nat, ∃ A0 : Option Addr, ∃ n0 : Nat, ∃ c0 : Nat, e = .returned (.pointer (some ⟨gn0, 0, none⟩)) ∧ B.Loc w w' [.box gn0 41 [.slice A0 n0 c0, .int .i64 r.code], .own (.slice A0 n0 c0) 5 1 n0 (r.wait.flatMap (eI .u8))] [St w []] ∧ Ow w.heap.size A0 n0 c0 r.wait
noncomputable abbrev rpc_New_C (w : World) (F : Nat → Prop) (r : rpc_Buffer) : Cx := ⟨Try.prog, 4, Try.f4, 3, rpc_New_R w F  r, w⟩
theorem rpc_New_calls (w : World) (F : Nat → Prop)  (hF : ∀ b, F b → b < w.heap.size ∧ ∀ o ∈ ([] : List (List Nat)), b ∉ o) (hL0 : B.Loc w w [] [Sm w.heap.size F w [], St w []]) (r : rpc_Buffer) (h : rpc_New  r) : Calls Try.prog 4 #[] w (rpc_New_R w F  r) := by
 unfold rpc_New at h
 refine calls_of_Loc (vs := []) 3 Try.func4 rfl Try.ntmps4 rfl hL0 ?_
 show G (rpc_New_C w F r) _ _ _ _
 refine g_seq (c := q4c0) rfl ?_
 refine g_region (c := q4c1) rfl rfl ?_
 refine wl_v 0 rfl (v_assign rfl) gn rfl ?_
 refine w_end 1 rfl ?_
 refine g_seq (c := q4c2) rfl ?_
 refine g_region (c := q4c3) rfl rfl ?_
 refine wl_v 0 rfl (v_build #[.slice none 0 0, .int .i64 0] bd_41 rfl (by kernel_rfl)) gn rfl ?_
 refine wl_s 1 rfl (s_box [.slice none 0 0, .int .i64 0] rfl rfl rfl fun gb1 => ?_) gn
 refine wl_v 2 rfl (v_assign rfl) gn rfl ?_
 refine w_end 3 rfl ?_
 refine g_nil 5 1 ?_
 refine g_retR (c := q4c4) [.pointer (some ⟨gb1, 0, none⟩)] rfl Try.func4 rfl (.tmp rfl (.nil)) fun wr hLr => ?_
 have hMr : B.Loc w wr [.box gb1 41 [.slice none 0 0, .int .i64 0], .own (.slice none 0 0) 5 1 0 (([] : List Int).flatMap (eI .u8))] [St w []] := hLr.pick (rest := []) (perm_of_idx [1, 0] [] rfl rfl (by kernel_rfl)) (sels [1] rfl)
 show rpc_New_R w F  r (.returned (packV [.pointer (some ⟨gb1, 0, none⟩)])) wr
 rw [h]
 exact ⟨gb1, none, 0, 0, rfl, hMr, (Ow.nil (z := w.heap.size))⟩
noncomputable abbrev q5c0 : Code := bodyOf Try.f5
noncomputable abbrev q5c1 : Code := Code.fst q5c0
noncomputable abbrev q5c2 : Code := Code.snd q5c0
noncomputable abbrev q5c3 : Code := Code.fst q5c2
noncomputable abbrev q5c4 : Code := Code.snd q5c2
abbrev rpc_Buffer_Waiting_R (w : World) (F : Nat → Prop) (g2 : Nat) (Tb3 : Nat) (r : Int × rpc_Buffer) : Ending → World → Prop := fun e w' => ∃ A0 : Option Addr, ∃ n0 : Nat, ∃ c0 : Nat, e = .returned (.int .i64 r.1) ∧ B.Loc w w' [.box g2 Tb3 [.slice A0 n0 c0, .int .i64 r.2.code]] [St w [[g2]]] ∧ Rw (kInt .u8) w' (Nw w w' F [.box g2 Tb3 [.slice A0 n0 c0, .int .i64 r.2.code]]) A0 n0 c0 r.2.wait
noncomputable abbrev rpc_Buffer_Waiting_C (w : World) (F : Nat → Prop) (g2 : Nat) (Tb3 : Nat) (r : Int × rpc_Buffer) : Cx := ⟨Try.prog, 5, Try.f5, 8, rpc_Buffer_Waiting_R w F g2 Tb3 r, w⟩
theorem rpc_Buffer_Waiting_calls (w : World) (F : Nat → Prop) (x1 : rpc_Buffer) (g2 : Nat) (Tb3 : Nat) (A4 : Option Addr) (n5 : Nat) (c6 : Nat) (h7 : Rw (kInt .u8) w F A4 n5 c6 x1.wait) (hF : ∀ b, F b → b < w.heap.size ∧ ∀ o ∈ ([[g2]] : List (List Nat)), b ∉ o) (hL0 : B.Loc w w [.box g2 Tb3 [.slice A4 n5 c6, .int .i64 x1.code]] [Sm w.heap.size F w [[g2]], St w [[g2]]]) (r : Int × rpc_Buffer) (h : rpc_Buffer_Waiting x1 r) : Calls Try.prog 5 #[.pointer (some ⟨g2, 0, none⟩)] w (rpc_Buffer_Waiting_R w F g2 Tb3 r) := by
 unfold rpc_Buffer_Waiting at h
 have h7 := Rw.into (bs := [[g2]]) hF h7
 refine calls_of_Loc (vs := [.pointer (some ⟨g2, 0, none⟩)]) 8 Try.func5 rfl Try.ntmps5 rfl hL0 ?_
 show G (rpc_Buffer_Waiting_C w F g2 Tb3 r) _ _ _ _
 refine g_seq (c := q5c0) rfl ?_
 refine g_region (c := q5c1) rfl rfl ?_
 refine wl_v 0 rfl (v_assign rfl) gn rfl ?_
 refine w_end 1 rfl ?_
 refine g_seq (c := q5c2) rfl ?_
 refine g_region (c := q5c3) rfl rfl ?_
 refine wl_v 0 rfl (v_move rfl) gn rfl ?_
 refine wl_v 1 rfl (v_nilCheck rfl) gn rfl ?_
 refine wl_v 2 rfl (v_fldB fo_41_0 rfl) gn rfl ?_
 refine wl_v 3 rfl (v_ldB1 0 ld_27 rfl rfl rfl) gn rfl ?_
 refine wl_v 4 rfl (v_lenQ un_27 rfl h7.hq) gn rfl ?_
 refine wl_v 5 rfl (v_assign rfl) gn rfl ?_
 refine w_end 6 rfl ?_
 refine g_retR (c := q5c4) [.int .i64 (x1.wait.length : Int)] rfl Try.func5 rfl (.tmp rfl (.nil)) fun wr hLr => ?_
 have hMr : B.Loc w wr [.box g2 Tb3 [.slice A4 n5 c6, .int .i64 x1.code]] [St w [[g2]]] := hLr.pick (rest := []) (perm_of_idx [0] [] rfl rfl (by kernel_rfl)) (sels [1] rfl)
 have hMi : ∀ e ∈ ([.box g2 Tb3 [.slice A4 n5 c6, .int .i64 x1.code]] : List Ent), e ∈ ([.box g2 Tb3 [.slice A4 n5 c6, .int .i64 x1.code]] : List Ent) := sels [0] rfl
 show rpc_Buffer_Waiting_R w F g2 Tb3 r (.returned (packV [.int .i64 (x1.wait.length : Int)])) wr
 rw [h]
 exact ⟨A4, n5, c6, rfl, hMr, (hLr.outR (s := Sm w.heap.size F w [[g2]]) hMi (me 0 rfl) Sm.ok h7)⟩
noncomputable abbrev q19c0 : Code := bodyOf Try.f19
noncomputable abbrev q19c1 : Code := Code.fst q19c0
noncomputable abbrev q19c2 : Code := Code.snd q19c0
noncomputable abbrev q19c3 : Code := Code.fst q19c2
noncomputable abbrev q19c4 : Code := Code.snd q19c2
noncomputable abbrev q19c5 : Code := Code.fst q19c4
noncomputable abbrev q19c6 : Code := Code.snd q19c4
noncomputable abbrev q19c7 : Code := Code.fst q19c5
noncomputable abbrev q19c8 : Code := Code.fst q19c7
noncomputable abbrev q19c9 : Code := Code.fst q19c8
noncomputable abbrev q19c10 : Code := Code.snd q19c8
noncomputable abbrev q19c11 : Code := Code.fst q19c9
noncomputable abbrev q19c12 : Code := Code.snd q19c9
noncomputable abbrev q19c13 : Code := Code.fst q19c12
noncomputable abbrev q19c14 : Code := Code.snd q19c12
noncomputable abbrev q19c15 : Code := Code.fst q19c10
noncomputable abbrev q19c16 : Code := Code.fst q19c15
noncomputable abbrev q19c17 : Code := Code.snd q19c15
noncomputable abbrev q19c18 : Code := Code.fst q19c6
noncomputable abbrev q19c19 : Code := Code.snd q19c6
abbrev trellisref26_Digits_R (w : World) (F : Nat → Prop) (r : ByteArray) : Ending → World → Prop := fun e w' => e = .returned (.string r) ∧ B.Loc w w' [] [St w []]
noncomputable abbrev trellisref26_Digits_C (w : World) (F : Nat → Prop) (r : ByteArray) : Cx := ⟨Try.prog, 19, Try.f19, 22, trellisref26_Digits_R w F  r, w⟩
theorem trellisref26_Digits_calls (w : World) (F : Nat → Prop) (x1 : Int) (hF : ∀ b, F b → b < w.heap.size ∧ ∀ o ∈ ([] : List (List Nat)), b ∉ o) (hL0 : B.Loc w w [] [Sm w.heap.size F w [], St w []]) (r : ByteArray) (h : trellisref26_Digits x1 r) : Calls Try.prog 19 #[.int .i64 x1] w (trellisref26_Digits_R w F  r) := by
 unfold trellisref26_Digits at h
 refine calls_of_Loc (vs := [.int .i64 x1]) 22 Try.func19 rfl Try.ntmps19 rfl hL0 ?_
 show G (trellisref26_Digits_C w F r) _ _ _ _
 refine g_seq (c := q19c0) rfl ?_
 refine g_region (c := q19c1) rfl rfl ?_
 refine wl_v 0 rfl (v_assign rfl) gn rfl ?_
 refine w_end 1 rfl ?_
 refine g_seq (c := q19c2) rfl ?_
 refine g_region (c := q19c3) rfl rfl ?_
 refine wl_v 0 rfl (v_assign rfl) gn rfl ?_
 refine w_end 1 rfl ?_
 refine g_seq (c := q19c4) rfl ?_
 refine g_block (c := q19c5) rfl ?_
 refine g_loop (c := q19c7) rfl ?_
 have key1 : ∀ s, Rounds (fun (s : Int × ByteArray) o => trellisref26_Digits_b1 s.1 s.2 o) s r → (fun (s : Int × ByteArray) => ∀ (_ : Unit), G (trellisref26_Digits_C w F r) [.code q19c8, .inLoop q19c8, .inBlock 0, .code q19c6] [(0, .int .i64 s.1), (3, .string s.2)] [] [Sm w.heap.size F w [], St w []]) s := by
  intro s hs
  refine Rounds.ind (mot := (fun (s : Int × ByteArray) => ∀ (_ : Unit), G (trellisref26_Digits_C w F r) [.code q19c8, .inLoop q19c8, .inBlock 0, .code q19c6] [(0, .int .i64 s.1), (3, .string s.2)] [] [Sm w.heap.size F w [], St w []])) ?_ hs
  clear hs s
  intro s o1 h hO1
  obtain ⟨x8, x9⟩ := s
  show ∀ (_ : Unit), G (trellisref26_Digits_C w F r) [.code q19c8, .inLoop q19c8, .inBlock 0, .code q19c6] [(0, .int .i64 x8), (3, .string x9)] [] [Sm w.heap.size F w [], St w []]
  intro _
  have h : trellisref26_Digits_b1 x8 x9 o1 := h
  unfold trellisref26_Digits_b1 at h
  refine g_seq (c := q19c8) rfl ?_
  refine g_seq (c := q19c9) rfl ?_
  refine g_region (c := q19c11) rfl rfl ?_
  refine wl_v 0 rfl (v_move rfl) gn rfl ?_
  refine wl_v 1 rfl (v_bin rfl rfl rfl) gn rfl ?_
  refine w_end 2 rfl ?_
  by_cases hp15 : x8 ≥ 10
  ·have h := if_pos' hp15 h
   refine g_true (c := q19c12) rfl _ rfl ((decide_eq_true hp15)) ?_
   refine g_skip (c := q19c13) rfl ?_
   refine g_block (c := q19c10) rfl ?_
   refine g_seq (c := q19c15) rfl ?_
   refine g_region (c := q19c16) rfl rfl ?_
   refine wl_v 0 rfl (v_move rfl) gn rfl ?_
   refine wl_v 1 rfl (v_rem rfl rfl (by decide)) gn rfl ?_
   refine wl_v 2 rfl (v_move rfl) gn rfl ?_
   refine wl_v 3 rfl (v_rem rfl rfl (by decide)) gn rfl ?_
   refine wl_v 4 rfl (v_bin rfl rfl rfl) gn rfl ?_
   obtain ⟨hb16, h⟩ := h
   refine wl_v 5 rfl (v_cutS (Int.tmod x8 10) (w64 ((Int.tmod x8 10) + 1)) un_9 rfl (.inr ⟨_, _, rfl, rfl⟩) (.inr ⟨_, _, rfl, rfl⟩) ⟨hb16.1, hb16.2.1⟩ hb16.2.2) gn rfl ?_
   refine wl_v 6 rfl (v_move rfl) gn rfl ?_
   obtain ⟨hb17, h⟩ := h
   refine wl_v 7 rfl (v_catS rfl rfl hb17) gn rfl ?_
   refine wl_v 8 rfl (v_assign rfl) gn rfl ?_
   refine w_end 9 rfl ?_
   refine g_region (c := q19c17) rfl rfl ?_
   refine wl_v 0 rfl (v_move rfl) gn rfl ?_
   refine wl_v 1 rfl (v_quo rfl rfl (by decide)) gn rfl ?_
   refine wl_v 2 rfl (v_assign rfl) gn rfl ?_
   refine w_end 3 rfl ?_
   refine g_inBlock ?_
   refine g_inLoop ?_
   have ih := Out.inl hO1 h
   exact g_go [0, 1] (ih ()) ⟨rfl, rfl, trivial⟩ (.slnil) rfl
  ·have h := if_neg' hp15 h
   refine g_false (c := q19c12) rfl _ rfl ((decide_eq_false hp15)) ?_
   refine g_exit (c := q19c14) [.code q19c6] rfl rfl ?_
   refine g_seq (c := q19c6) rfl ?_
   refine g_region (c := q19c18) rfl rfl ?_
   refine wl_v 0 rfl (v_move rfl) gn rfl ?_
   refine wl_v 1 rfl (v_move rfl) gn rfl ?_
   refine wl_v 2 rfl (v_bin rfl rfl rfl) gn rfl ?_
   obtain ⟨hb18, h⟩ := h
   refine wl_v 3 rfl (v_cutS x8 (w64 (x8 + 1)) un_9 rfl (.inr ⟨_, _, rfl, rfl⟩) (.inr ⟨_, _, rfl, rfl⟩) ⟨hb18.1, hb18.2.1⟩ hb18.2.2) gn rfl ?_
   refine wl_v 4 rfl (v_move rfl) gn rfl ?_
   obtain ⟨hb19, h⟩ := h
   refine wl_v 5 rfl (v_catS rfl rfl hb19) gn rfl ?_
   refine wl_v 6 rfl (v_assign rfl) gn rfl ?_
   refine w_end 7 rfl ?_
   have h := Out.inr hO1 h
   refine g_retR (c := q19c19) [.string (((⟨#[48, 49, 50, 51, 52, 53, 54, 55, 56, 57]⟩ : ByteArray).extract (x8 : Int).toNat (w64 (x8 + 1) : Int).toNat) ++ x9)] rfl Try.func19 rfl (.tmp rfl (.nil)) fun wr hLr => ?_
   have hMr : B.Loc w wr [] [St w []] := hLr.pick0 (sels [1] rfl)
   show trellisref26_Digits_R w F  r (.returned (packV [.string (((⟨#[48, 49, 50, 51, 52, 53, 54, 55, 56, 57]⟩ : ByteArray).extract (x8 : Int).toNat (w64 (x8 + 1) : Int).toNat) ++ x9)])) wr
   rw [h]
   exact ⟨rfl, hMr⟩
 exact g_go [0, 1] (key1 _ h ()) ⟨rfl, rfl, trivial⟩ (.slnil) rfl
noncomputable abbrev q15c0 : Code := bodyOf Try.f15
noncomputable abbrev q15c1 : Code := Code.fst q15c0
noncomputable abbrev q15c2 : Code := Code.snd q15c0
noncomputable abbrev q15c3 : Code := Code.fst q15c2
noncomputable abbrev q15c4 : Code := Code.snd q15c2
noncomputable abbrev q15c5 : Code := Code.fst q15c3
noncomputable abbrev q15c6 : Code := Code.snd q15c3
noncomputable abbrev q15c7 : Code := Code.fst q15c6
noncomputable abbrev q15c8 : Code := Code.snd q15c6
noncomputable abbrev q15c9 : Code := Code.fst q15c7
noncomputable abbrev q15c10 : Code := Code.snd q15c7
noncomputable abbrev q15c11 : Code := Code.fst q15c4
noncomputable abbrev q15c12 : Code := Code.snd q15c4
abbrev trellisref26_Put_R (w : World) (F : Nat → Prop) (r : (List Int) × Int) : Ending → World → Prop := fun e w' => ∃ A0 : Option Addr, ∃ n0 : Nat, ∃ c0 : Nat, e = .returned (.tuple #[.slice A0 n0 c0, .int .i64 r.2]) ∧ B.Loc w w' [.own (.slice A0 n0 c0) 5 1 n0 (r.1.flatMap (eI .u8))] [St w []] ∧ Ow w.heap.size A0 n0 c0 r.1
noncomputable abbrev trellisref26_Put_C (w : World) (F : Nat → Prop) (r : (List Int) × Int) : Cx := ⟨Try.prog, 15, Try.f15, 15, trellisref26_Put_R w F  r, w⟩
theorem trellisref26_Put_calls (w : World) (F : Nat → Prop) (x1 : ByteArray) (hF : ∀ b, F b → b < w.heap.size ∧ ∀ o ∈ ([] : List (List Nat)), b ∉ o) (hL0 : B.Loc w w [] [Sm w.heap.size F w [], St w []]) (r : (List Int) × Int) (h : trellisref26_Put x1 r) : Calls Try.prog 15 #[.string x1] w (trellisref26_Put_R w F  r) := by
 unfold trellisref26_Put at h
 refine calls_of_Loc (vs := [.string x1]) 15 Try.func15 rfl Try.ntmps15 rfl hL0 ?_
 show G (trellisref26_Put_C w F r) _ _ _ _
 refine g_seq (c := q15c0) rfl ?_
 refine g_region (c := q15c1) rfl rfl ?_
 refine wl_v 0 rfl (v_assign rfl) gn rfl ?_
 refine wl_v 1 rfl (v_assign rfl) gn rfl ?_
 refine w_end 2 rfl ?_
 refine g_seq (c := q15c2) rfl ?_
 refine g_seq (c := q15c3) rfl ?_
 refine g_region (c := q15c5) rfl rfl ?_
 refine wl_v 0 rfl (v_move rfl) gn rfl ?_
 refine wl_v 1 rfl (v_lenS un_9 rfl) gn rfl ?_
 refine wl_v 2 rfl (v_bin rfl rfl rfl) gn rfl ?_
 refine w_end 3 rfl ?_
 by_cases hp2 : (x1.size : Int) > 2097152
 ·have h := if_pos' hp2 h
  refine g_true (c := q15c6) rfl _ rfl ((decide_eq_true hp2)) ?_
  refine g_seq (c := q15c7) rfl ?_
  refine g_region (c := q15c9) rfl rfl ?_
  refine wl_v 0 rfl (v_assign rfl) gn rfl ?_
  refine wl_v 1 rfl (v_assign rfl) gn rfl ?_
  refine w_end 2 rfl ?_
  refine g_nil 5 1 ?_
  refine g_retR (c := q15c10) [.slice none 0 0, .int .i64 262] rfl Try.func15 rfl (.tmp rfl (.tmp rfl (.nil))) fun wr hLr => ?_
  have hMr : B.Loc w wr [.own (.slice none 0 0) 5 1 0 (([] : List Int).flatMap (eI .u8))] [St w []] := hLr.pick (rest := []) (perm_of_idx [0] [] rfl rfl (by kernel_rfl)) (sels [1] rfl)
  show trellisref26_Put_R w F  r (.returned (packV [.slice none 0 0, .int .i64 262])) wr
  rw [h]
  exact ⟨none, 0, 0, rfl, hMr, (Ow.nil (z := w.heap.size))⟩
 ·have h := if_neg' hp2 h
  refine g_false (c := q15c6) rfl _ rfl ((decide_eq_false hp2)) ?_
  refine g_skip (c := q15c8) rfl ?_
  refine g_seq (c := q15c4) rfl ?_
  refine g_region (c := q15c11) rfl rfl ?_
  refine wl_v 0 rfl (v_move rfl) gn rfl ?_
  refine wl_v 1 rfl (v_lenS un_9 rfl) gn rfl ?_
  obtain ⟨r6, hv7, h⟩ := h
  refine wl_s 2 rfl (s_call [.int .i64 (x1.size : Int)] rfl Try.func19 rfl rfl rfl fun w3 hL4 => ?_) gn
  have hp5 : List.Perm ([] : List Ent) (([] : List Ent) ++ ([] : List Ent)) := perm_of_idx [] [] rfl rfl (by kernel_rfl)
  refine Calls.mono (trellisref26_Digits_calls w3 (Fl ([] : List Snap)) (x1.size : Int) (hL4.hFl (Sl := ([] : List Snap)) hp5 (sels [] rfl)) (hL4.into hp5 (Fl ([] : List Snap))) r6 hv7) ?_
  rintro _ w8 ⟨rfl, hM9⟩
  have hL10 := hL4.call hp5 hM9
  refine ⟨_, _, _, rfl, hL10, ?_⟩
  obtain ⟨hb11, h⟩ := h
  refine wl_v 3 rfl (v_catS rfl rfl hb11) gn rfl ?_
  obtain ⟨hb12, h⟩ := h
  refine wl_v 4 rfl (v_catS rfl rfl hb12) gn rfl ?_
  refine wl_v 5 rfl (v_move rfl) gn rfl ?_
  obtain ⟨hb13, h⟩ := h
  refine wl_v 6 rfl (v_catS rfl rfl hb13) gn rfl ?_
  obtain ⟨hb14, h⟩ := h
  refine wl_s 7 rfl (s_s2b un_9 slE_27 un_5 rfl hb14 rfl fun A15 c16 h17 => ?_) gn
  refine wl_v 8 rfl (v_assign rfl) gn rfl ?_
  refine wl_v 9 rfl (v_assign rfl) gn rfl ?_
  refine w_end 10 rfl ?_
  refine g_retR (c := q15c12) [.slice A15 (((((⟨#[67, 111, 110, 116, 101, 110, 116, 45, 76, 101, 110, 103, 116, 104, 58, 32]⟩ : ByteArray) ++ r6) ++ (⟨#[13, 10, 13, 10]⟩ : ByteArray)) ++ x1).size) c16, .int .i64 0] rfl Try.func15 rfl (.tmp rfl (.tmp rfl (.nil))) fun wr hLr => ?_
  have hMr : B.Loc w wr [.own (.slice A15 (((((⟨#[67, 111, 110, 116, 101, 110, 116, 45, 76, 101, 110, 103, 116, 104, 58, 32]⟩ : ByteArray) ++ r6) ++ (⟨#[13, 10, 13, 10]⟩ : ByteArray)) ++ x1).size) c16) 5 1 (((((⟨#[67, 111, 110, 116, 101, 110, 116, 45, 76, 101, 110, 103, 116, 104, 58, 32]⟩ : ByteArray) ++ r6) ++ (⟨#[13, 10, 13, 10]⟩ : ByteArray)) ++ x1).size) ((bsOf ((((⟨#[67, 111, 110, 116, 101, 110, 116, 45, 76, 101, 110, 103, 116, 104, 58, 32]⟩ : ByteArray) ++ r6) ++ (⟨#[13, 10, 13, 10]⟩ : ByteArray)) ++ x1)).flatMap (eI .u8))] [St w []] := hLr.pick (rest := []) (perm_of_idx [0] [] rfl rfl (by kernel_rfl)) (sels [1] rfl)
  show trellisref26_Put_R w F  r (.returned (packV [.slice A15 (((((⟨#[67, 111, 110, 116, 101, 110, 116, 45, 76, 101, 110, 103, 116, 104, 58, 32]⟩ : ByteArray) ++ r6) ++ (⟨#[13, 10, 13, 10]⟩ : ByteArray)) ++ x1).size) c16, .int .i64 0])) wr
  rw [h]
  exact ⟨A15, ((((⟨#[67, 111, 110, 116, 101, 110, 116, 45, 76, 101, 110, 103, 116, 104, 58, 32]⟩ : ByteArray) ++ r6) ++ (⟨#[13, 10, 13, 10]⟩ : ByteArray)) ++ x1).size, c16, rfl, hMr, h17⟩
noncomputable abbrev q20c0 : Code := bodyOf Try.f20
noncomputable abbrev q20c1 : Code := Code.fst q20c0
noncomputable abbrev q20c2 : Code := Code.snd q20c0
noncomputable abbrev q20c3 : Code := Code.fst q20c2
noncomputable abbrev q20c4 : Code := Code.snd q20c2
noncomputable abbrev q20c5 : Code := Code.fst q20c3
noncomputable abbrev q20c6 : Code := Code.snd q20c3
noncomputable abbrev q20c7 : Code := Code.fst q20c6
noncomputable abbrev q20c8 : Code := Code.fst q20c7
noncomputable abbrev q20c9 : Code := Code.fst q20c8
noncomputable abbrev q20c10 : Code := Code.snd q20c8
noncomputable abbrev q20c11 : Code := Code.fst q20c10
noncomputable abbrev q20c12 : Code := Code.snd q20c10
noncomputable abbrev q20c13 : Code := Code.fst q20c11
noncomputable abbrev q20c14 : Code := Code.snd q20c11
noncomputable abbrev q20c15 : Code := Code.fst q20c12
noncomputable abbrev q20c16 : Code := Code.snd q20c12
noncomputable abbrev q20c17 : Code := Code.fst q20c15
noncomputable abbrev q20c18 : Code := Code.fst q20c17
noncomputable abbrev q20c19 : Code := Code.snd q20c17
noncomputable abbrev q20c20 : Code := Code.fst q20c19
noncomputable abbrev q20c21 : Code := Code.snd q20c19
noncomputable abbrev q20c22 : Code := Code.fst q20c20
noncomputable abbrev q20c23 : Code := Code.snd q20c20
noncomputable abbrev q20c24 : Code := Code.fst q20c23
noncomputable abbrev q20c25 : Code := Code.snd q20c23
noncomputable abbrev q20c26 : Code := Code.fst q20c24
noncomputable abbrev q20c27 : Code := Code.snd q20c24
noncomputable abbrev q20c28 : Code := Code.fst q20c21
noncomputable abbrev q20c29 : Code := Code.snd q20c21
noncomputable abbrev q20c30 : Code := Code.fst q20c29
noncomputable abbrev q20c31 : Code := Code.snd q20c29
noncomputable abbrev q20c32 : Code := Code.fst q20c30
noncomputable abbrev q20c33 : Code := Code.snd q20c30
noncomputable abbrev q20c34 : Code := Code.fst q20c4
noncomputable abbrev q20c35 : Code := Code.snd q20c4
abbrev rpc_stands_R (w : World) (F : Nat → Prop) (r : Int) : Ending → World → Prop := fun e w' => e = .returned (.int .i64 r) ∧ B.Loc w w' [] [St w []]
noncomputable abbrev rpc_stands_C (w : World) (F : Nat → Prop) (r : Int) : Cx := ⟨Try.prog, 20, Try.f20, 24, rpc_stands_R w F  r, w⟩
theorem rpc_stands_calls (w : World) (F : Nat → Prop) (x1 : List Int) (x6 : ByteArray) (A2 : Option Addr) (n3 : Nat) (c4 : Nat) (h5 : Rw (kInt .u8) w (St w []).av A2 n3 c4 x1) (hF : ∀ b, F b → b < w.heap.size ∧ ∀ o ∈ ([] : List (List Nat)), b ∉ o) (hL0 : B.Loc w w [] [Sm w.heap.size F w [], St w []]) (r : Int) (h : rpc_stands x1 x6 r) : Calls Try.prog 20 #[.slice A2 n3 c4, .string x6] w (rpc_stands_R w F  r) := by
 unfold rpc_stands at h
 refine calls_of_Loc (vs := [.slice A2 n3 c4, .string x6]) 24 Try.func20 rfl Try.ntmps20 rfl hL0 ?_
 show G (rpc_stands_C w F r) _ _ _ _
 refine g_seq (c := q20c0) rfl ?_
 refine g_region (c := q20c1) rfl rfl ?_
 refine wl_v 0 rfl (v_assign rfl) gn rfl ?_
 refine w_end 1 rfl ?_
 refine g_seq (c := q20c2) rfl ?_
 refine g_seq (c := q20c3) rfl ?_
 refine g_region (c := q20c5) rfl rfl ?_
 refine wl_v 0 rfl (v_move rfl) gn rfl ?_
 refine wl_v 1 rfl (v_lenS un_9 rfl) gn rfl ?_
 refine wl_v 2 rfl (v_move rfl) gn rfl ?_
 refine w_end 3 rfl ?_
 refine g_block (c := q20c6) rfl ?_
 refine g_loop (c := q20c7) rfl ?_
 have key1 : ∀ s, Rounds (fun (s : Int) o => rpc_stands_b1 x6 x1 s o) s r → (fun (s : Int) => ∀ (_ : Unit), G (rpc_stands_C w F r) [.code q20c8, .inLoop q20c8, .inBlock 0, .code q20c4] [(0, .slice A2 n3 c4), (1, .string x6), (7, .int .i64 (x6.size : Int)), (8, .int .i64 s)] [] [Sm w.heap.size F w [], St w []]) s := by
  intro s hs
  refine Rounds.ind (mot := (fun (s : Int) => ∀ (_ : Unit), G (rpc_stands_C w F r) [.code q20c8, .inLoop q20c8, .inBlock 0, .code q20c4] [(0, .slice A2 n3 c4), (1, .string x6), (7, .int .i64 (x6.size : Int)), (8, .int .i64 s)] [] [Sm w.heap.size F w [], St w []])) ?_ hs
  clear hs s
  intro x16 o1 h hO1
  show ∀ (_ : Unit), G (rpc_stands_C w F r) [.code q20c8, .inLoop q20c8, .inBlock 0, .code q20c4] [(0, .slice A2 n3 c4), (1, .string x6), (7, .int .i64 (x6.size : Int)), (8, .int .i64 x16)] [] [Sm w.heap.size F w [], St w []]
  intro _
  have h : rpc_stands_b1 x6 x1 x16 o1 := h
  unfold rpc_stands_b1 at h
  refine g_seq (c := q20c8) rfl ?_
  refine g_region (c := q20c9) rfl rfl ?_
  refine wl_v 0 rfl (v_bin rfl rfl rfl) gn rfl ?_
  refine w_end 1 rfl ?_
  refine g_seq (c := q20c10) rfl ?_
  by_cases hp25 : x16 < (x6.size : Int)
  ·have h := if_pos' hp25 h
   refine g_true (c := q20c11) rfl _ rfl ((decide_eq_true hp25)) ?_
   refine g_skip (c := q20c13) rfl ?_
   refine g_seq (c := q20c12) rfl ?_
   refine g_block (c := q20c15) rfl ?_
   refine g_seq (c := q20c17) rfl ?_
   refine g_region (c := q20c18) rfl rfl ?_
   refine wl_v 0 rfl (v_move rfl) gn rfl ?_
   refine wl_v 1 rfl (v_assign rfl) gn rfl ?_
   refine w_end 2 rfl ?_
   refine g_seq (c := q20c19) rfl ?_
   refine g_seq (c := q20c20) rfl ?_
   refine g_region (c := q20c22) rfl rfl ?_
   refine wl_v 0 rfl (v_move rfl) gn rfl ?_
   refine wl_v 1 rfl (v_move rfl) gn rfl ?_
   refine wl_v 2 rfl (v_lenQ un_27 rfl h5.hq) gn rfl ?_
   refine wl_v 3 rfl (v_bin rfl rfl rfl) gn rfl ?_
   refine w_end 4 rfl ?_
   by_cases hp26 : x16 = (x1.length : Int)
   ·have h := if_pos' hp26 h
    refine g_true (c := q20c23) rfl _ rfl ((eqi hp26)) ?_
    refine g_seq (c := q20c24) rfl ?_
    refine g_region (c := q20c26) rfl rfl ?_
    refine wl_v 0 rfl (v_assign rfl) gn rfl ?_
    refine w_end 1 rfl ?_
    have h := Out.inr hO1 h
    refine g_retR (c := q20c27) [.int .i64 260] rfl Try.func20 rfl (.tmp rfl (.nil)) fun wr hLr => ?_
    have hMr : B.Loc w wr [] [St w []] := hLr.pick0 (sels [1] rfl)
    show rpc_stands_R w F  r (.returned (packV [.int .i64 260])) wr
    rw [h]
    exact ⟨rfl, hMr⟩
   ·have h := if_neg' hp26 h
    refine g_false (c := q20c23) rfl _ rfl ((nei hp26)) ?_
    refine g_skip (c := q20c25) rfl ?_
    refine g_seq (c := q20c21) rfl ?_
    obtain ⟨hb27, h⟩ := h
    obtain ⟨hb29, h⟩ := h
    have hns : Region.noSelect (Code.ops q20c28) = true := by kernel_rfl
    refine g_drawF (c := q20c28) [] [Sm w.heap.size F w [], St w []] [] 8 rfl rfl mix rfl (.slnil) (sels [0, 1] rfl) ?_
    refine wfv 0 rfl (v_move rfl) gn hns rfl ?_
    refine wfv 1 rfl (v_move rfl) gn hns rfl ?_
    have hr31 := Rw.readF (s := St w []) (hl := (hlI .u8)) (h1 := (hone_int .u8)) h5 hb27
    refine wfv 2 rfl (v_idxR (s := St w []) slE_27 rfl rfl h5 hb27) gn hns rfl ?_
    refine wfv 3 rfl (v_ldA1 (kk := (x16 : Int).toNat * 1) (j := 0) (St w []) ld_5 rfl hr31 rfl (me 1 rfl)) gn hns rfl ?_
    refine wfv 4 rfl (v_move rfl) gn hns rfl ?_
    refine wfv 5 rfl (v_move rfl) gn hns rfl ?_
    refine wfv 6 rfl (v_indexS un_9 rfl rfl hb29) gn hns rfl ?_
    refine wfv 7 rfl (v_bin rfl rfl rfl) gn hns rfl ?_
    refine wf_end (by kernel_rfl) ?_
    by_cases hp32 : ix x1 x16 = bt x6 x16
    ·have h := if_pos' hp32 h
     refine g_false (c := q20c29) rfl _ rfl ((eqib hp32)) ?_
     refine g_skip (c := q20c31) rfl ?_
     refine g_inBlock ?_
     refine g_region (c := q20c16) rfl rfl ?_
     refine wl_v 0 rfl (v_bin rfl rfl rfl) gn rfl ?_
     refine wl_v 1 rfl (v_move rfl) gn rfl ?_
     refine w_end 2 rfl ?_
     refine g_inLoop ?_
     have ih := Out.inl hO1 h
     exact g_go [0, 1] (ih ()) ⟨rfl, rfl, rfl, rfl, trivial⟩ (.slnil) rfl
    ·have h := if_neg' hp32 h
     refine g_true (c := q20c29) rfl _ rfl ((neib hp32)) ?_
     refine g_seq (c := q20c30) rfl ?_
     refine g_region (c := q20c32) rfl rfl ?_
     refine wl_v 0 rfl (v_assign rfl) gn rfl ?_
     refine w_end 1 rfl ?_
     have h := Out.inr hO1 h
     refine g_retR (c := q20c33) [.int .i64 261] rfl Try.func20 rfl (.tmp rfl (.nil)) fun wr hLr => ?_
     have hMr : B.Loc w wr [] [St w []] := hLr.pick0 (sels [1] rfl)
     show rpc_stands_R w F  r (.returned (packV [.int .i64 261])) wr
     rw [h]
     exact ⟨rfl, hMr⟩
  ·have h := if_neg' hp25 h
   refine g_false (c := q20c11) rfl _ rfl ((decide_eq_false hp25)) ?_
   refine g_exit (c := q20c14) [.code q20c4] rfl rfl ?_
   refine g_seq (c := q20c4) rfl ?_
   refine g_region (c := q20c34) rfl rfl ?_
   refine wl_v 0 rfl (v_assign rfl) gn rfl ?_
   refine w_end 1 rfl ?_
   have h := Out.inr hO1 h
   refine g_retR (c := q20c35) [.int .i64 0] rfl Try.func20 rfl (.tmp rfl (.nil)) fun wr hLr => ?_
   have hMr : B.Loc w wr [] [St w []] := hLr.pick0 (sels [1] rfl)
   show rpc_stands_R w F  r (.returned (packV [.int .i64 0])) wr
   rw [h]
   exact ⟨rfl, hMr⟩
 exact g_go [0, 1] (key1 _ h ()) ⟨rfl, rfl, rfl, rfl, trivial⟩ (.slnil) rfl
noncomputable abbrev q21c0 : Code := bodyOf Try.f21
noncomputable abbrev q21c1 : Code := Code.fst q21c0
noncomputable abbrev q21c2 : Code := Code.snd q21c0
noncomputable abbrev q21c3 : Code := Code.fst q21c2
noncomputable abbrev q21c4 : Code := Code.snd q21c2
noncomputable abbrev q21c5 : Code := Code.fst q21c4
noncomputable abbrev q21c6 : Code := Code.snd q21c4
noncomputable abbrev q21c7 : Code := Code.fst q21c5
noncomputable abbrev q21c8 : Code := Code.fst q21c7
noncomputable abbrev q21c9 : Code := Code.fst q21c8
noncomputable abbrev q21c10 : Code := Code.snd q21c8
noncomputable abbrev q21c11 : Code := Code.fst q21c9
noncomputable abbrev q21c12 : Code := Code.fst q21c11
noncomputable abbrev q21c13 : Code := Code.snd q21c11
noncomputable abbrev q21c14 : Code := Code.fst q21c12
noncomputable abbrev q21c15 : Code := Code.snd q21c12
noncomputable abbrev q21c16 : Code := Code.fst q21c15
noncomputable abbrev q21c17 : Code := Code.snd q21c15
noncomputable abbrev q21c18 : Code := Code.fst q21c16
noncomputable abbrev q21c19 : Code := Code.snd q21c16
noncomputable abbrev q21c20 : Code := Code.fst q21c13
noncomputable abbrev q21c21 : Code := Code.snd q21c13
noncomputable abbrev q21c22 : Code := Code.fst q21c20
noncomputable abbrev q21c23 : Code := Code.snd q21c20
noncomputable abbrev q21c24 : Code := Code.fst q21c23
noncomputable abbrev q21c25 : Code := Code.snd q21c23
noncomputable abbrev q21c26 : Code := Code.fst q21c6
noncomputable abbrev q21c27 : Code := Code.snd q21c6
noncomputable abbrev q21c28 : Code := Code.fst q21c26
noncomputable abbrev q21c29 : Code := Code.snd q21c26
noncomputable abbrev q21c30 : Code := Code.fst q21c29
noncomputable abbrev q21c31 : Code := Code.snd q21c29
noncomputable abbrev q21c32 : Code := Code.fst q21c30
noncomputable abbrev q21c33 : Code := Code.snd q21c30
noncomputable abbrev q21c34 : Code := Code.fst q21c21
noncomputable abbrev q21c35 : Code := Code.snd q21c21
noncomputable abbrev q21c36 : Code := Code.fst q21c34
noncomputable abbrev q21c37 : Code := Code.snd q21c34
noncomputable abbrev q21c38 : Code := Code.fst q21c37
noncomputable abbrev q21c39 : Code := Code.snd q21c37
noncomputable abbrev q21c40 : Code := Code.fst q21c35
noncomputable abbrev q21c41 : Code := Code.snd q21c35
noncomputable abbrev q21c42 : Code := Code.fst q21c41
noncomputable abbrev q21c43 : Code := Code.snd q21c41
noncomputable abbrev q21c44 : Code := Code.fst q21c43
noncomputable abbrev q21c45 : Code := Code.snd q21c43
noncomputable abbrev q21c46 : Code := Code.fst q21c44
noncomputable abbrev q21c47 : Code := Code.snd q21c44
noncomputable abbrev q21c48 : Code := Code.fst q21c27
noncomputable abbrev q21c49 : Code := Code.snd q21c27
noncomputable abbrev q21c50 : Code := Code.fst q21c38
noncomputable abbrev q21c51 : Code := Code.snd q21c38
abbrev rpc_number_R (w : World) (F : Nat → Prop) (r : Int × Int × Int) : Ending → World → Prop := fun e w' => e = .returned (.tuple #[.int .i64 r.1, .int .i64 r.2.1, .int .i64 r.2.2]) ∧ B.Loc w w' [] [St w []]
noncomputable abbrev rpc_number_C (w : World) (F : Nat → Prop) (r : Int × Int × Int) : Cx := ⟨Try.prog, 21, Try.f21, 46, rpc_number_R w F  r, w⟩
theorem rpc_number_calls (w : World) (F : Nat → Prop) (x1 : List Int) (A2 : Option Addr) (n3 : Nat) (c4 : Nat) (h5 : Rw (kInt .u8) w (St w []).av A2 n3 c4 x1) (hF : ∀ b, F b → b < w.heap.size ∧ ∀ o ∈ ([] : List (List Nat)), b ∉ o) (hL0 : B.Loc w w [] [Sm w.heap.size F w [], St w []]) (r : Int × Int × Int) (h : rpc_number x1 r) : Calls Try.prog 21 #[.slice A2 n3 c4] w (rpc_number_R w F  r) := by
 unfold rpc_number at h
 refine calls_of_Loc (vs := [.slice A2 n3 c4]) 46 Try.func21 rfl Try.ntmps21 rfl hL0 ?_
 show G (rpc_number_C w F r) _ _ _ _
 refine g_seq (c := q21c0) rfl ?_
 refine g_region (c := q21c1) rfl rfl ?_
 refine wl_v 0 rfl (v_assign rfl) gn rfl ?_
 refine wl_v 1 rfl (v_assign rfl) gn rfl ?_
 refine wl_v 2 rfl (v_assign rfl) gn rfl ?_
 refine w_end 3 rfl ?_
 refine g_seq (c := q21c2) rfl ?_
 refine g_region (c := q21c3) rfl rfl ?_
 refine wl_v 0 rfl (v_assign rfl) gn rfl ?_
 refine wl_v 1 rfl (v_assign rfl) gn rfl ?_
 refine w_end 2 rfl ?_
 refine g_seq (c := q21c4) rfl ?_
 refine g_block (c := q21c5) rfl ?_
 refine g_loop (c := q21c7) rfl ?_
 have key1 : ∀ s, Rounds (fun (s : Int × Int) o => rpc_number_b1 x1 s.1 s.2 o) s r → (fun (s : Int × Int) => ∀ (_ : Unit), G (rpc_number_C w F r) [.code q21c8, .inLoop q21c8, .inBlock 0, .code q21c6] [(0, .slice A2 n3 c4), (5, .int .i64 s.1), (6, .int .i64 s.2)] [] [Sm w.heap.size F w [], St w []]) s := by
  intro s hs
  refine Rounds.ind (mot := (fun (s : Int × Int) => ∀ (_ : Unit), G (rpc_number_C w F r) [.code q21c8, .inLoop q21c8, .inBlock 0, .code q21c6] [(0, .slice A2 n3 c4), (5, .int .i64 s.1), (6, .int .i64 s.2)] [] [Sm w.heap.size F w [], St w []])) ?_ hs
  clear hs s
  intro s o1 h hO1
  obtain ⟨x22, x23⟩ := s
  show ∀ (_ : Unit), G (rpc_number_C w F r) [.code q21c8, .inLoop q21c8, .inBlock 0, .code q21c6] [(0, .slice A2 n3 c4), (5, .int .i64 x22), (6, .int .i64 x23)] [] [Sm w.heap.size F w [], St w []]
  intro _
  have h : rpc_number_b1 x1 x22 x23 o1 := h
  unfold rpc_number_b1 at h
  refine g_seq (c := q21c8) rfl ?_
  refine g_block (c := q21c9) rfl ?_
  refine g_seq (c := q21c11) rfl ?_
  refine g_seq (c := q21c12) rfl ?_
  refine g_region (c := q21c14) rfl rfl ?_
  refine wl_v 0 rfl (v_move rfl) gn rfl ?_
  refine wl_v 1 rfl (v_move rfl) gn rfl ?_
  refine wl_v 2 rfl (v_lenQ un_27 rfl h5.hq) gn rfl ?_
  refine wl_v 3 rfl (v_bin rfl rfl rfl) gn rfl ?_
  refine w_end 4 rfl ?_
  by_cases hp45 : x23 = (x1.length : Int)
  ·have h := if_pos' hp45 h
   refine g_true (c := q21c15) rfl _ rfl ((eqi hp45)) ?_
   refine g_seq (c := q21c16) rfl ?_
   refine g_region (c := q21c18) rfl rfl ?_
   refine wl_v 0 rfl (v_assign rfl) gn rfl ?_
   refine wl_v 1 rfl (v_assign rfl) gn rfl ?_
   refine wl_v 2 rfl (v_assign rfl) gn rfl ?_
   refine w_end 3 rfl ?_
   have h := Out.inr hO1 h
   refine g_retR (c := q21c19) [.int .i64 0, .int .i64 0, .int .i64 260] rfl Try.func21 rfl (.tmp rfl (.tmp rfl (.tmp rfl (.nil)))) fun wr hLr => ?_
   have hMr : B.Loc w wr [] [St w []] := hLr.pick0 (sels [1] rfl)
   show rpc_number_R w F  r (.returned (packV [.int .i64 0, .int .i64 0, .int .i64 260])) wr
   rw [h]
   exact ⟨rfl, hMr⟩
  ·have h := if_neg' hp45 h
   refine g_false (c := q21c15) rfl _ rfl ((nei hp45)) ?_
   refine g_skip (c := q21c17) rfl ?_
   refine g_seq (c := q21c13) rfl ?_
   refine g_seq (c := q21c20) rfl ?_
   have j2 : ∀ (x51 : Bool) (h : rpc_number_j2 x23 x22 x1 x51 o1) , G (rpc_number_C w F r) [.code q21c23, .code q21c21, .inBlock 1, .code q21c10, .inLoop q21c8, .inBlock 0, .code q21c6] [(0, .slice A2 n3 c4), (5, .int .i64 x22), (6, .int .i64 x23), (24, .bool x51)] [] [Sm w.heap.size F w [], St w []] := by
    intro x51 h
    unfold rpc_number_j2 at h
    by_cases hp52 : x51 = true
    ·have h := if_pos' hp52 h
     refine g_true (c := q21c23) rfl _ rfl (hp52) ?_
     refine g_exit (c := q21c24) [.code q21c6] rfl rfl ?_
     refine g_seq (c := q21c6) rfl ?_
     refine g_seq (c := q21c26) rfl ?_
     refine g_region (c := q21c28) rfl rfl ?_
     refine wl_v 0 rfl (v_move rfl) gn rfl ?_
     refine wl_v 1 rfl (v_bin rfl rfl rfl) gn rfl ?_
     refine w_end 2 rfl ?_
     by_cases hp53 : x23 = 0
     ·have h := if_pos' hp53 h
      refine g_true (c := q21c29) rfl _ rfl ((eqi hp53)) ?_
      refine g_seq (c := q21c30) rfl ?_
      refine g_region (c := q21c32) rfl rfl ?_
      refine wl_v 0 rfl (v_assign rfl) gn rfl ?_
      refine wl_v 1 rfl (v_assign rfl) gn rfl ?_
      refine wl_v 2 rfl (v_assign rfl) gn rfl ?_
      refine w_end 3 rfl ?_
      have h := Out.inr hO1 h
      refine g_retR (c := q21c33) [.int .i64 0, .int .i64 0, .int .i64 261] rfl Try.func21 rfl (.tmp rfl (.tmp rfl (.tmp rfl (.nil)))) fun wr hLr => ?_
      have hMr : B.Loc w wr [] [St w []] := hLr.pick0 (sels [1] rfl)
      show rpc_number_R w F  r (.returned (packV [.int .i64 0, .int .i64 0, .int .i64 261])) wr
      rw [h]
      exact ⟨rfl, hMr⟩
     ·have h := if_neg' hp53 h
      refine g_false (c := q21c29) rfl _ rfl ((nei hp53)) ?_
      refine g_skip (c := q21c31) rfl ?_
      refine g_seq (c := q21c27) rfl ?_
      refine g_region (c := q21c48) rfl rfl ?_
      refine wl_v 0 rfl (v_move rfl) gn rfl ?_
      refine wl_v 1 rfl (v_move rfl) gn rfl ?_
      refine wl_v 2 rfl (v_assign rfl) gn rfl ?_
      refine wl_v 3 rfl (v_assign rfl) gn rfl ?_
      refine wl_v 4 rfl (v_assign rfl) gn rfl ?_
      refine w_end 5 rfl ?_
      have h := Out.inr hO1 h
      refine g_retR (c := q21c49) [.int .i64 x22, .int .i64 x23, .int .i64 0] rfl Try.func21 rfl (.tmp rfl (.tmp rfl (.tmp rfl (.nil)))) fun wr hLr => ?_
      have hMr : B.Loc w wr [] [St w []] := hLr.pick0 (sels [1] rfl)
      show rpc_number_R w F  r (.returned (packV [.int .i64 x22, .int .i64 x23, .int .i64 0])) wr
      rw [h]
      exact ⟨rfl, hMr⟩
    ·have h := if_neg' hp52 h
     refine g_false (c := q21c23) rfl _ rfl ((bf hp52)) ?_
     refine g_skip (c := q21c25) rfl ?_
     refine g_seq (c := q21c21) rfl ?_
     refine g_seq (c := q21c34) rfl ?_
     have j3 : ∀ (x56 : Bool) (h : rpc_number_j3 x23 x1 x22 x56 o1) , G (rpc_number_C w F r) [.code q21c37, .code q21c35, .inBlock 1, .code q21c10, .inLoop q21c8, .inBlock 0, .code q21c6] [(0, .slice A2 n3 c4), (5, .int .i64 x22), (6, .int .i64 x23), (30, .bool x56)] [] [Sm w.heap.size F w [], St w []] := by
      intro x56 h
      unfold rpc_number_j3 at h
      by_cases hp57 : x56 = true
      ·have h := if_pos' hp57 h
       refine g_true (c := q21c37) rfl _ rfl (hp57) ?_
       refine g_seq (c := q21c38) rfl ?_
       refine g_region (c := q21c50) rfl rfl ?_
       refine wl_v 0 rfl (v_assign rfl) gn rfl ?_
       refine wl_v 1 rfl (v_assign rfl) gn rfl ?_
       refine wl_v 2 rfl (v_assign rfl) gn rfl ?_
       refine w_end 3 rfl ?_
       have h := Out.inr hO1 h
       refine g_retR (c := q21c51) [.int .i64 0, .int .i64 0, .int .i64 261] rfl Try.func21 rfl (.tmp rfl (.tmp rfl (.tmp rfl (.nil)))) fun wr hLr => ?_
       have hMr : B.Loc w wr [] [St w []] := hLr.pick0 (sels [1] rfl)
       show rpc_number_R w F  r (.returned (packV [.int .i64 0, .int .i64 0, .int .i64 261])) wr
       rw [h]
       exact ⟨rfl, hMr⟩
      ·have h := if_neg' hp57 h
       refine g_false (c := q21c37) rfl _ rfl ((bf hp57)) ?_
       refine g_skip (c := q21c39) rfl ?_
       refine g_seq (c := q21c35) rfl ?_
       refine g_region (c := q21c40) rfl rfl ?_
       refine wl_v 0 rfl (v_move rfl) gn rfl ?_
       refine wl_v 1 rfl (v_bin rfl rfl rfl) gn rfl ?_
       refine wl_v 2 rfl (v_move rfl) gn rfl ?_
       refine wl_v 3 rfl (v_move rfl) gn rfl ?_
       obtain ⟨hb58, h⟩ := h
       have hr59 := Rw.readF (s := St w []) (hl := (hlI .u8)) (h1 := (hone_int .u8)) h5 hb58
       refine wl_v 4 rfl (v_idxR (s := St w []) slE_27 rfl rfl h5 hb58) gn rfl ?_
       refine wl_v 5 rfl (v_ldA1 (kk := (x23 : Int).toNat * 1) (j := 0) (St w []) ld_5 rfl hr59 rfl (me 1 rfl)) gn rfl ?_
       refine wl_v 6 rfl (v_bin rfl rfl rfl) gn rfl ?_
       refine wl_v 7 rfl (v_conv ⟨_, un_5⟩ un_3 rfl) gn rfl ?_
       refine wl_v 8 rfl (v_bin rfl rfl rfl) gn rfl ?_
       refine wl_v 9 rfl (v_assign rfl) gn rfl ?_
       refine w_end 10 rfl ?_
       refine g_seq (c := q21c41) rfl ?_
       refine g_region (c := q21c42) rfl rfl ?_
       refine wl_v 0 rfl (v_move rfl) gn rfl ?_
       refine wl_v 1 rfl (v_bin rfl rfl rfl) gn rfl ?_
       refine w_end 2 rfl ?_
       by_cases hp60 : w64 ((w64 (10 * x22)) + (w64 (IntKind.u8.wrap ((ix x1 x23) - 48)))) > 2097152
       ·have h := if_pos' hp60 h
        refine g_true (c := q21c43) rfl _ rfl ((decide_eq_true hp60)) ?_
        refine g_seq (c := q21c44) rfl ?_
        refine g_region (c := q21c46) rfl rfl ?_
        refine wl_v 0 rfl (v_assign rfl) gn rfl ?_
        refine wl_v 1 rfl (v_assign rfl) gn rfl ?_
        refine wl_v 2 rfl (v_assign rfl) gn rfl ?_
        refine w_end 3 rfl ?_
        have h := Out.inr hO1 h
        refine g_retR (c := q21c47) [.int .i64 0, .int .i64 0, .int .i64 262] rfl Try.func21 rfl (.tmp rfl (.tmp rfl (.tmp rfl (.nil)))) fun wr hLr => ?_
        have hMr : B.Loc w wr [] [St w []] := hLr.pick0 (sels [1] rfl)
        show rpc_number_R w F  r (.returned (packV [.int .i64 0, .int .i64 0, .int .i64 262])) wr
        rw [h]
        exact ⟨rfl, hMr⟩
       ·have h := if_neg' hp60 h
        refine g_false (c := q21c43) rfl _ rfl ((decide_eq_false hp60)) ?_
        refine g_skip (c := q21c45) rfl ?_
        refine g_inBlock ?_
        refine g_region (c := q21c10) rfl rfl ?_
        refine wl_v 0 rfl (v_move rfl) gn rfl ?_
        refine wl_v 1 rfl (v_bin rfl rfl rfl) gn rfl ?_
        refine wl_v 2 rfl (v_assign rfl) gn rfl ?_
        refine w_end 3 rfl ?_
        refine g_inLoop ?_
        have ih := Out.inl hO1 h
        exact g_go [0, 1] (ih ()) ⟨rfl, rfl, rfl, trivial⟩ (.slnil) rfl
     refine g_region (c := q21c36) rfl rfl ?_
     refine wl_v 0 rfl (v_move rfl) gn rfl ?_
     refine wl_v 1 rfl (v_bin rfl rfl rfl) gn rfl ?_
     refine wl_v 2 rfl (v_move rfl) gn rfl ?_
     by_cases hp61 : x23 > 0
     ·have h := if_pos' hp61 h
      refine w_bool 27 rfl ((decide_eq_true hp61)) ?_
      refine wl_v 3 rfl (v_move rfl) (gy 27 rfl rfl) rfl ?_
      refine wl_v 4 rfl (v_bin rfl rfl rfl) (gy 27 rfl rfl) rfl ?_
      refine wl_v 5 rfl (v_pick (b := true) rfl rfl) gn rfl ?_
      refine w_end 6 rfl ?_
      exact g_go [0, 1] (j3 (x22 == 0) h) ⟨rfl, rfl, rfl, rfl, trivial⟩ (.slnil) rfl
     ·have h := if_neg' hp61 h
      refine w_bool 27 rfl ((decide_eq_false hp61)) ?_
      refine wl_pass 3 rfl (ps 27 rfl rfl rfl) ?_
      refine wl_pass 4 rfl (ps 27 rfl rfl rfl) ?_
      refine wl_v 5 rfl (v_pick (b := false) rfl rfl) gn rfl ?_
      refine w_end 6 rfl ?_
      exact g_go [0, 1] (j3 false h) ⟨rfl, rfl, rfl, rfl, trivial⟩ (.slnil) rfl
   refine g_region (c := q21c22) rfl rfl ?_
   refine wl_v 0 rfl (v_move rfl) gn rfl ?_
   refine wl_v 1 rfl (v_move rfl) gn rfl ?_
   obtain ⟨hb62, h⟩ := h
   have hr63 := Rw.readF (s := St w []) (hl := (hlI .u8)) (h1 := (hone_int .u8)) h5 hb62
   refine wl_v 2 rfl (v_idxR (s := St w []) slE_27 rfl rfl h5 hb62) gn rfl ?_
   refine wl_v 3 rfl (v_ldA1 (kk := (x23 : Int).toNat * 1) (j := 0) (St w []) ld_5 rfl hr63 rfl (me 1 rfl)) gn rfl ?_
   refine wl_v 4 rfl (v_bin rfl rfl rfl) gn rfl ?_
   refine wl_v 5 rfl (v_move rfl) gn rfl ?_
   by_cases hp64 : ix x1 x23 < 48
   ·have h := if_pos' hp64 h
    refine w_bool 18 rfl ((decide_eq_true hp64)) ?_
    refine wl_pass 6 rfl (ps 18 rfl rfl rfl) ?_
    refine wl_pass 7 rfl (ps 18 rfl rfl rfl) ?_
    refine wl_pass 8 rfl (ps 18 rfl rfl rfl) ?_
    refine wl_pass 9 rfl (ps 18 rfl rfl rfl) ?_
    refine wl_pass 10 rfl (ps 18 rfl rfl rfl) ?_
    refine wl_v 11 rfl (v_pick (b := true) rfl rfl) gn rfl ?_
    refine w_end 12 rfl ?_
    exact g_go [0, 1] (j2 true h) ⟨rfl, rfl, rfl, rfl, trivial⟩ (.slnil) rfl
   ·have h := if_neg' hp64 h
    refine w_bool 18 rfl ((decide_eq_false hp64)) ?_
    refine wl_v 6 rfl (v_move rfl) (gy 18 rfl rfl) rfl ?_
    refine wl_v 7 rfl (v_move rfl) (gy 18 rfl rfl) rfl ?_
    have hr65 := Rw.readF (s := St w []) (hl := (hlI .u8)) (h1 := (hone_int .u8)) h5 hb62
    refine wl_v 8 rfl (v_idxR (s := St w []) slE_27 rfl rfl h5 hb62) (gy 18 rfl rfl) rfl ?_
    refine wl_v 9 rfl (v_ldA1 (kk := (x23 : Int).toNat * 1) (j := 0) (St w []) ld_5 rfl hr65 rfl (me 1 rfl)) (gy 18 rfl rfl) rfl ?_
    refine wl_v 10 rfl (v_bin rfl rfl rfl) (gy 18 rfl rfl) rfl ?_
    refine wl_v 11 rfl (v_pick (b := false) rfl rfl) gn rfl ?_
    refine w_end 12 rfl ?_
    exact g_go [0, 1] (j2 (decide (ix x1 x23 > 57)) h) ⟨rfl, rfl, rfl, rfl, trivial⟩ (.slnil) rfl
 exact g_go [0, 1] (key1 _ h ()) ⟨rfl, rfl, rfl, trivial⟩ (.slnil) rfl
noncomputable abbrev q17c0 : Code := bodyOf Try.f17
noncomputable abbrev q17c1 : Code := Code.fst q17c0
noncomputable abbrev q17c2 : Code := Code.snd q17c0
noncomputable abbrev q17c3 : Code := Code.fst q17c2
noncomputable abbrev q17c4 : Code := Code.snd q17c2
noncomputable abbrev q17c5 : Code := Code.fst q17c3
noncomputable abbrev q17c6 : Code := Code.snd q17c3
noncomputable abbrev q17c7 : Code := Code.fst q17c6
noncomputable abbrev q17c8 : Code := Code.snd q17c6
noncomputable abbrev q17c9 : Code := Code.fst q17c8
noncomputable abbrev q17c10 : Code := Code.snd q17c8
noncomputable abbrev q17c11 : Code := Code.fst q17c4
noncomputable abbrev q17c12 : Code := Code.snd q17c4
noncomputable abbrev q17c13 : Code := Code.fst q17c12
noncomputable abbrev q17c14 : Code := Code.snd q17c12
noncomputable abbrev q17c15 : Code := Code.fst q17c14
noncomputable abbrev q17c16 : Code := Code.snd q17c14
noncomputable abbrev q17c17 : Code := Code.fst q17c15
noncomputable abbrev q17c18 : Code := Code.snd q17c15
noncomputable abbrev q17c19 : Code := Code.fst q17c18
noncomputable abbrev q17c20 : Code := Code.snd q17c18
noncomputable abbrev q17c21 : Code := Code.fst q17c16
noncomputable abbrev q17c22 : Code := Code.snd q17c16
noncomputable abbrev q17c23 : Code := Code.fst q17c22
noncomputable abbrev q17c24 : Code := Code.snd q17c22
noncomputable abbrev q17c25 : Code := Code.fst q17c23
noncomputable abbrev q17c26 : Code := Code.snd q17c23
noncomputable abbrev q17c27 : Code := Code.fst q17c26
noncomputable abbrev q17c28 : Code := Code.snd q17c26
noncomputable abbrev q17c29 : Code := Code.fst q17c28
noncomputable abbrev q17c30 : Code := Code.snd q17c28
noncomputable abbrev q17c31 : Code := Code.fst q17c24
noncomputable abbrev q17c32 : Code := Code.snd q17c24
noncomputable abbrev q17c33 : Code := Code.fst q17c32
noncomputable abbrev q17c34 : Code := Code.snd q17c32
noncomputable abbrev q17c35 : Code := Code.fst q17c33
noncomputable abbrev q17c36 : Code := Code.snd q17c33
noncomputable abbrev q17c37 : Code := Code.fst q17c36
noncomputable abbrev q17c38 : Code := Code.snd q17c36
noncomputable abbrev q17c39 : Code := Code.fst q17c37
noncomputable abbrev q17c40 : Code := Code.snd q17c37
noncomputable abbrev q17c41 : Code := Code.fst q17c34
noncomputable abbrev q17c42 : Code := Code.snd q17c34
noncomputable abbrev q17c43 : Code := Code.fst q17c29
noncomputable abbrev q17c44 : Code := Code.snd q17c29
noncomputable abbrev q17c45 : Code := Code.fst q17c19
noncomputable abbrev q17c46 : Code := Code.snd q17c19
noncomputable abbrev q17c47 : Code := Code.fst q17c9
noncomputable abbrev q17c48 : Code := Code.snd q17c9
abbrev rpc_Take_R (w : World) (F : Nat → Prop) (r : ByteArray × Int × Int) : Ending → World → Prop := fun e w' => e = .returned (.tuple #[.string r.1, .int .i64 r.2.1, .int .i64 r.2.2]) ∧ B.Loc w w' [] [St w []]
noncomputable abbrev rpc_Take_C (w : World) (F : Nat → Prop) (r : ByteArray × Int × Int) : Cx := ⟨Try.prog, 17, Try.f17, 55, rpc_Take_R w F  r, w⟩
theorem rpc_Take_calls (w : World) (F : Nat → Prop) (x1 : List Int) (A2 : Option Addr) (n3 : Nat) (c4 : Nat) (h5 : Rw (kInt .u8) w (St w []).av A2 n3 c4 x1) (hF : ∀ b, F b → b < w.heap.size ∧ ∀ o ∈ ([] : List (List Nat)), b ∉ o) (hL0 : B.Loc w w [] [Sm w.heap.size F w [], St w []]) (r : ByteArray × Int × Int) (h : rpc_Take x1 r) : Calls Try.prog 17 #[.slice A2 n3 c4] w (rpc_Take_R w F  r) := by
 unfold rpc_Take at h
 refine calls_of_Loc (vs := [.slice A2 n3 c4]) 55 Try.func17 rfl Try.ntmps17 rfl hL0 ?_
 show G (rpc_Take_C w F r) _ _ _ _
 refine g_seq (c := q17c0) rfl ?_
 refine g_region (c := q17c1) rfl rfl ?_
 refine wl_v 0 rfl (v_assign rfl) gn rfl ?_
 refine wl_v 1 rfl (v_assign rfl) gn rfl ?_
 refine wl_v 2 rfl (v_assign rfl) gn rfl ?_
 refine w_end 3 rfl ?_
 refine g_seq (c := q17c2) rfl ?_
 refine g_seq (c := q17c3) rfl ?_
 refine g_region (c := q17c5) rfl rfl ?_
 refine wl_v 0 rfl (v_move rfl) gn rfl ?_
 obtain ⟨r9, hv10, h⟩ := h
 refine wl_s 1 rfl (s_call [.slice A2 n3 c4, .string (⟨#[67, 111, 110, 116, 101, 110, 116, 45, 76, 101, 110, 103, 116, 104, 58, 32]⟩ : ByteArray)] rfl Try.func20 rfl rfl rfl fun w6 hL7 => ?_) gn
 have hp8 : List.Perm ([] : List Ent) (([] : List Ent) ++ ([] : List Ent)) := perm_of_idx [] [] rfl rfl (by kernel_rfl)
 refine Calls.mono (rpc_stands_calls w6 (Fl ([] : List Snap)) x1 (⟨#[67, 111, 110, 116, 101, 110, 116, 45, 76, 101, 110, 103, 116, 104, 58, 32]⟩ : ByteArray) A2 n3 c4 (Rw.mono h5 (hL7.toSt hp8 (me 1 rfl))) (hL7.hFl (Sl := ([] : List Snap)) hp8 (sels [] rfl)) (hL7.into hp8 (Fl ([] : List Snap))) r9 hv10) ?_
 rintro _ w11 ⟨rfl, hM12⟩
 have hL13 := hL7.call hp8 hM12
 refine ⟨_, _, _, rfl, hL13, ?_⟩
 refine wl_v 2 rfl (v_assign rfl) gn rfl ?_
 refine w_end 3 rfl ?_
 refine g_seq (c := q17c6) rfl ?_
 refine g_region (c := q17c7) rfl rfl ?_
 refine wl_v 0 rfl (v_move rfl) gn rfl ?_
 refine wl_v 1 rfl (v_bin rfl rfl rfl) gn rfl ?_
 refine w_end 2 rfl ?_
 by_cases hp14 : r9 = 0
 ·have h := if_pos' hp14 h
  refine g_false (c := q17c8) rfl _ rfl ((eqib hp14)) ?_
  refine g_skip (c := q17c10) rfl ?_
  refine g_seq (c := q17c4) rfl ?_
  refine g_region (c := q17c11) rfl rfl ?_
  refine wl_v 0 rfl (v_assign rfl) gn rfl ?_
  refine w_end 1 rfl ?_
  refine g_seq (c := q17c12) rfl ?_
  refine g_region (c := q17c13) rfl rfl ?_
  refine wl_v 0 rfl (v_move rfl) gn rfl ?_
  refine wl_v 1 rfl (v_move rfl) gn rfl ?_
  obtain ⟨hb15, h⟩ := h
  have h16 := Rw.cut (sz := 1) (lv := 16) (hv := ((n3 : Nat) : Int)) (mv := ((c4 : Nat) : Int)) h5 rfl (by have q := hb15; have q1 := h5.hq; have q2 := h5.hn; omega) (by have q := hb15; have q1 := h5.hq; have q2 := h5.hn; omega) (by have q := hb15; have q1 := h5.hq; have q2 := h5.hn; omega)
  rw [cut_all h5.hq] at h16
  refine wl_v 2 rfl (v_cut (sz := 1) (n := n3) (c := c4) 16 ((n3 : Nat) : Int) ((c4 : Nat) : Int) slE_27 rfl (by_ rfl) bn bn (by have q := hb15; have q1 := h5.hq; have q2 := h5.hn; omega) (by have q := hb15; have q1 := h5.hq; have q2 := h5.hn; omega) (by have q := hb15; have q1 := h5.hq; have q2 := h5.hn; omega) h5.hn rfl) gn rfl ?_
  obtain ⟨r20, hv21, h⟩ := h
  refine wl_s 3 rfl (s_call [.slice (if (((c4 : Nat) : Int) : Int).toNat = (16 : Int).toNat then A2 else A2.map (·.add ((16 : Int).toNat * 1))) ((((n3 : Nat) : Int) : Int).toNat - (16 : Int).toNat) ((((c4 : Nat) : Int) : Int).toNat - (16 : Int).toNat)] rfl Try.func21 rfl rfl rfl fun w17 hL18 => ?_) gn
  have hp19 : List.Perm ([] : List Ent) (([] : List Ent) ++ ([] : List Ent)) := perm_of_idx [] [] rfl rfl (by kernel_rfl)
  refine Calls.mono (rpc_number_calls w17 (Fl ([] : List Snap)) (x1.drop (16 : Int).toNat) (if (((c4 : Nat) : Int) : Int).toNat = (16 : Int).toNat then A2 else A2.map (·.add ((16 : Int).toNat * 1))) ((((n3 : Nat) : Int) : Int).toNat - (16 : Int).toNat) ((((c4 : Nat) : Int) : Int).toNat - (16 : Int).toNat) (Rw.mono h16 (hL18.toSt hp19 (me 1 rfl))) (hL18.hFl (Sl := ([] : List Snap)) hp19 (sels [] rfl)) (hL18.into hp19 (Fl ([] : List Snap))) r20 hv21) ?_
  rintro _ w22 ⟨rfl, hM23⟩
  have hL24 := hL18.call hp19 hM23
  refine ⟨_, _, _, rfl, hL24, ?_⟩
  refine wl_v 4 rfl (v_move rfl) gn rfl ?_
  refine wl_v 5 rfl (v_extract rfl rfl) gn rfl ?_
  refine wl_v 6 rfl (v_extract rfl rfl) gn rfl ?_
  refine wl_v 7 rfl (v_extract rfl rfl) gn rfl ?_
  refine wl_v 8 rfl (v_assign rfl) gn rfl ?_
  refine wl_v 9 rfl (v_assign rfl) gn rfl ?_
  refine wl_v 10 rfl (v_assign rfl) gn rfl ?_
  refine w_end 11 rfl ?_
  refine g_seq (c := q17c14) rfl ?_
  refine g_seq (c := q17c15) rfl ?_
  refine g_region (c := q17c17) rfl rfl ?_
  refine wl_v 0 rfl (v_move rfl) gn rfl ?_
  refine wl_v 1 rfl (v_bin rfl rfl rfl) gn rfl ?_
  refine w_end 2 rfl ?_
  by_cases hp25 : r20.2.2 = 0
  ·have h := if_pos' hp25 h
   refine g_false (c := q17c18) rfl _ rfl ((eqib hp25)) ?_
   refine g_skip (c := q17c20) rfl ?_
   refine g_seq (c := q17c16) rfl ?_
   refine g_region (c := q17c21) rfl rfl ?_
   refine wl_v 0 rfl (v_move rfl) gn rfl ?_
   refine wl_v 1 rfl (v_move rfl) gn rfl ?_
   refine wl_v 2 rfl (v_bin rfl rfl rfl) gn rfl ?_
   refine wl_v 3 rfl (v_assign rfl) gn rfl ?_
   refine w_end 4 rfl ?_
   refine g_seq (c := q17c22) rfl ?_
   refine g_seq (c := q17c23) rfl ?_
   refine g_region (c := q17c25) rfl rfl ?_
   refine wl_v 0 rfl (v_move rfl) gn rfl ?_
   refine wl_v 1 rfl (v_move rfl) gn rfl ?_
   obtain ⟨hb26, h⟩ := h
   have h27 := Rw.cut (sz := 1) (lv := w64 (16 + r20.2.1)) (hv := ((n3 : Nat) : Int)) (mv := ((c4 : Nat) : Int)) h5 rfl (by have q := hb26; have q1 := h5.hq; have q2 := h5.hn; omega) (by have q := hb26; have q1 := h5.hq; have q2 := h5.hn; omega) (by have q := hb26; have q1 := h5.hq; have q2 := h5.hn; omega)
   rw [cut_all h5.hq] at h27
   refine wl_v 2 rfl (v_cut (sz := 1) (n := n3) (c := c4) (w64 (16 + r20.2.1)) ((n3 : Nat) : Int) ((c4 : Nat) : Int) slE_27 rfl (by_ rfl) bn bn (by have q := hb26; have q1 := h5.hq; have q2 := h5.hn; omega) (by have q := hb26; have q1 := h5.hq; have q2 := h5.hn; omega) (by have q := hb26; have q1 := h5.hq; have q2 := h5.hn; omega) h5.hn rfl) gn rfl ?_
   obtain ⟨r31, hv32, h⟩ := h
   refine wl_s 3 rfl (s_call [.slice (if (((c4 : Nat) : Int) : Int).toNat = (w64 (16 + r20.2.1) : Int).toNat then A2 else A2.map (·.add ((w64 (16 + r20.2.1) : Int).toNat * 1))) ((((n3 : Nat) : Int) : Int).toNat - (w64 (16 + r20.2.1) : Int).toNat) ((((c4 : Nat) : Int) : Int).toNat - (w64 (16 + r20.2.1) : Int).toNat), .string (⟨#[13, 10, 13, 10]⟩ : ByteArray)] rfl Try.func20 rfl rfl rfl fun w28 hL29 => ?_) gn
   have hp30 : List.Perm ([] : List Ent) (([] : List Ent) ++ ([] : List Ent)) := perm_of_idx [] [] rfl rfl (by kernel_rfl)
   refine Calls.mono (rpc_stands_calls w28 (Fl ([] : List Snap)) (x1.drop (w64 (16 + r20.2.1) : Int).toNat) (⟨#[13, 10, 13, 10]⟩ : ByteArray) (if (((c4 : Nat) : Int) : Int).toNat = (w64 (16 + r20.2.1) : Int).toNat then A2 else A2.map (·.add ((w64 (16 + r20.2.1) : Int).toNat * 1))) ((((n3 : Nat) : Int) : Int).toNat - (w64 (16 + r20.2.1) : Int).toNat) ((((c4 : Nat) : Int) : Int).toNat - (w64 (16 + r20.2.1) : Int).toNat) (Rw.mono h27 (hL29.toSt hp30 (me 1 rfl))) (hL29.hFl (Sl := ([] : List Snap)) hp30 (sels [] rfl)) (hL29.into hp30 (Fl ([] : List Snap))) r31 hv32) ?_
   rintro _ w33 ⟨rfl, hM34⟩
   have hL35 := hL29.call hp30 hM34
   refine ⟨_, _, _, rfl, hL35, ?_⟩
   refine wl_v 4 rfl (v_assign rfl) gn rfl ?_
   refine w_end 5 rfl ?_
   refine g_seq (c := q17c26) rfl ?_
   refine g_region (c := q17c27) rfl rfl ?_
   refine wl_v 0 rfl (v_move rfl) gn rfl ?_
   refine wl_v 1 rfl (v_bin rfl rfl rfl) gn rfl ?_
   refine w_end 2 rfl ?_
   by_cases hp36 : r31 = 0
   ·have h := if_pos' hp36 h
    refine g_false (c := q17c28) rfl _ rfl ((eqib hp36)) ?_
    refine g_skip (c := q17c30) rfl ?_
    refine g_seq (c := q17c24) rfl ?_
    refine g_region (c := q17c31) rfl rfl ?_
    refine wl_v 0 rfl (v_move rfl) gn rfl ?_
    refine wl_v 1 rfl (v_bin rfl rfl rfl) gn rfl ?_
    refine wl_v 2 rfl (v_assign rfl) gn rfl ?_
    refine w_end 3 rfl ?_
    refine g_seq (c := q17c32) rfl ?_
    refine g_seq (c := q17c33) rfl ?_
    refine g_region (c := q17c35) rfl rfl ?_
    refine wl_v 0 rfl (v_move rfl) gn rfl ?_
    refine wl_v 1 rfl (v_move rfl) gn rfl ?_
    refine wl_v 2 rfl (v_lenQ un_27 rfl h5.hq) gn rfl ?_
    refine wl_v 3 rfl (v_move rfl) gn rfl ?_
    refine wl_v 4 rfl (v_bin rfl rfl rfl) gn rfl ?_
    refine wl_v 5 rfl (v_bin rfl rfl rfl) gn rfl ?_
    refine w_end 6 rfl ?_
    by_cases hp37 : r20.1 > w64 ((x1.length : Int) - (w64 ((w64 (16 + r20.2.1)) + 4)))
    ·have h := if_pos' hp37 h
     refine g_true (c := q17c36) rfl _ rfl ((decide_eq_true hp37)) ?_
     refine g_seq (c := q17c37) rfl ?_
     refine g_region (c := q17c39) rfl rfl ?_
     refine wl_v 0 rfl (v_assign rfl) gn rfl ?_
     refine wl_v 1 rfl (v_assign rfl) gn rfl ?_
     refine wl_v 2 rfl (v_assign rfl) gn rfl ?_
     refine w_end 3 rfl ?_
     refine g_retR (c := q17c40) [.string (⟨#[]⟩ : ByteArray), .int .i64 0, .int .i64 260] rfl Try.func17 rfl (.tmp rfl (.tmp rfl (.tmp rfl (.nil)))) fun wr hLr => ?_
     have hMr : B.Loc w wr [] [St w []] := hLr.pick0 (sels [1] rfl)
     show rpc_Take_R w F  r (.returned (packV [.string (⟨#[]⟩ : ByteArray), .int .i64 0, .int .i64 260])) wr
     rw [h]
     exact ⟨rfl, hMr⟩
    ·have h := if_neg' hp37 h
     refine g_false (c := q17c36) rfl _ rfl ((decide_eq_false hp37)) ?_
     refine g_skip (c := q17c38) rfl ?_
     refine g_seq (c := q17c34) rfl ?_
     refine g_region (c := q17c41) rfl rfl ?_
     refine wl_v 0 rfl (v_move rfl) gn rfl ?_
     refine wl_v 1 rfl (v_move rfl) gn rfl ?_
     refine wl_v 2 rfl (v_move rfl) gn rfl ?_
     refine wl_v 3 rfl (v_move rfl) gn rfl ?_
     refine wl_v 4 rfl (v_bin rfl rfl rfl) gn rfl ?_
     obtain ⟨hb38, h⟩ := h
     have h39 := Rw.cut (sz := 1) (lv := w64 ((w64 (16 + r20.2.1)) + 4)) (hv := w64 ((w64 ((w64 (16 + r20.2.1)) + 4)) + r20.1)) (mv := ((c4 : Nat) : Int)) h5 rfl (by have q := hb38; have q1 := h5.hq; have q2 := h5.hn; omega) (by have q := hb38; have q1 := h5.hq; have q2 := h5.hn; omega) (by have q := hb38; have q1 := h5.hq; have q2 := h5.hn; omega)
     refine wl_v 5 rfl (v_cut (sz := 1) (n := n3) (c := c4) (w64 ((w64 (16 + r20.2.1)) + 4)) (w64 ((w64 ((w64 (16 + r20.2.1)) + 4)) + r20.1)) ((c4 : Nat) : Int) slE_27 rfl (by_ rfl) (by_ rfl) bn (by have q := hb38; have q1 := h5.hq; have q2 := h5.hn; omega) (by have q := hb38; have q1 := h5.hq; have q2 := h5.hn; omega) (by have q := hb38; have q1 := h5.hq; have q2 := h5.hn; omega) h5.hn rfl) gn rfl ?_
     refine wl_v 6 rfl (v_b2s u8_27 un_9 rfl (Src.readF (s := St w []) (hl := (hlI .u8)) (h1 := (hone_int .u8)) h39 (me 1 rfl)) h39.hq) gn rfl ?_
     refine wl_v 7 rfl (v_move rfl) gn rfl ?_
     refine wl_v 8 rfl (v_move rfl) gn rfl ?_
     refine wl_v 9 rfl (v_bin rfl rfl rfl) gn rfl ?_
     refine wl_v 10 rfl (v_assign rfl) gn rfl ?_
     refine wl_v 11 rfl (v_assign rfl) gn rfl ?_
     refine wl_v 12 rfl (v_assign rfl) gn rfl ?_
     refine w_end 13 rfl ?_
     refine g_retR (c := q17c42) [.string (ofBs ((x1.take (w64 ((w64 ((w64 (16 + r20.2.1)) + 4)) + r20.1) : Int).toNat).drop (w64 ((w64 (16 + r20.2.1)) + 4) : Int).toNat)), .int .i64 (w64 ((w64 ((w64 (16 + r20.2.1)) + 4)) + r20.1)), .int .i64 0] rfl Try.func17 rfl (.tmp rfl (.tmp rfl (.tmp rfl (.nil)))) fun wr hLr => ?_
     have hMr : B.Loc w wr [] [St w []] := hLr.pick0 (sels [1] rfl)
     show rpc_Take_R w F  r (.returned (packV [.string (ofBs ((x1.take (w64 ((w64 ((w64 (16 + r20.2.1)) + 4)) + r20.1) : Int).toNat).drop (w64 ((w64 (16 + r20.2.1)) + 4) : Int).toNat)), .int .i64 (w64 ((w64 ((w64 (16 + r20.2.1)) + 4)) + r20.1)), .int .i64 0])) wr
     rw [h]
     exact ⟨rfl, hMr⟩
   ·have h := if_neg' hp36 h
    refine g_true (c := q17c28) rfl _ rfl ((neib hp36)) ?_
    refine g_seq (c := q17c29) rfl ?_
    refine g_region (c := q17c43) rfl rfl ?_
    refine wl_v 0 rfl (v_move rfl) gn rfl ?_
    refine wl_v 1 rfl (v_assign rfl) gn rfl ?_
    refine wl_v 2 rfl (v_assign rfl) gn rfl ?_
    refine wl_v 3 rfl (v_assign rfl) gn rfl ?_
    refine w_end 4 rfl ?_
    refine g_retR (c := q17c44) [.string (⟨#[]⟩ : ByteArray), .int .i64 0, .int .i64 r31] rfl Try.func17 rfl (.tmp rfl (.tmp rfl (.tmp rfl (.nil)))) fun wr hLr => ?_
    have hMr : B.Loc w wr [] [St w []] := hLr.pick0 (sels [1] rfl)
    show rpc_Take_R w F  r (.returned (packV [.string (⟨#[]⟩ : ByteArray), .int .i64 0, .int .i64 r31])) wr
    rw [h]
    exact ⟨rfl, hMr⟩
  ·have h := if_neg' hp25 h
   refine g_true (c := q17c18) rfl _ rfl ((neib hp25)) ?_
   refine g_seq (c := q17c19) rfl ?_
   refine g_region (c := q17c45) rfl rfl ?_
   refine wl_v 0 rfl (v_move rfl) gn rfl ?_
   refine wl_v 1 rfl (v_assign rfl) gn rfl ?_
   refine wl_v 2 rfl (v_assign rfl) gn rfl ?_
   refine wl_v 3 rfl (v_assign rfl) gn rfl ?_
   refine w_end 4 rfl ?_
   refine g_retR (c := q17c46) [.string (⟨#[]⟩ : ByteArray), .int .i64 0, .int .i64 r20.2.2] rfl Try.func17 rfl (.tmp rfl (.tmp rfl (.tmp rfl (.nil)))) fun wr hLr => ?_
   have hMr : B.Loc w wr [] [St w []] := hLr.pick0 (sels [1] rfl)
   show rpc_Take_R w F  r (.returned (packV [.string (⟨#[]⟩ : ByteArray), .int .i64 0, .int .i64 r20.2.2])) wr
   rw [h]
   exact ⟨rfl, hMr⟩
 ·have h := if_neg' hp14 h
  refine g_true (c := q17c8) rfl _ rfl ((neib hp14)) ?_
  refine g_seq (c := q17c9) rfl ?_
  refine g_region (c := q17c47) rfl rfl ?_
  refine wl_v 0 rfl (v_move rfl) gn rfl ?_
  refine wl_v 1 rfl (v_assign rfl) gn rfl ?_
  refine wl_v 2 rfl (v_assign rfl) gn rfl ?_
  refine wl_v 3 rfl (v_assign rfl) gn rfl ?_
  refine w_end 4 rfl ?_
  refine g_retR (c := q17c48) [.string (⟨#[]⟩ : ByteArray), .int .i64 0, .int .i64 r9] rfl Try.func17 rfl (.tmp rfl (.tmp rfl (.tmp rfl (.nil)))) fun wr hLr => ?_
  have hMr : B.Loc w wr [] [St w []] := hLr.pick0 (sels [1] rfl)
  show rpc_Take_R w F  r (.returned (packV [.string (⟨#[]⟩ : ByteArray), .int .i64 0, .int .i64 r9])) wr
  rw [h]
  exact ⟨rfl, hMr⟩
noncomputable abbrev q11c0 : Code := bodyOf Try.f11
noncomputable abbrev q11c1 : Code := Code.fst q11c0
noncomputable abbrev q11c2 : Code := Code.snd q11c0
noncomputable abbrev q11c3 : Code := Code.fst q11c2
noncomputable abbrev q11c4 : Code := Code.snd q11c2
noncomputable abbrev q11c5 : Code := Code.fst q11c3
noncomputable abbrev q11c6 : Code := Code.snd q11c3
noncomputable abbrev q11c7 : Code := Code.fst q11c6
noncomputable abbrev q11c8 : Code := Code.snd q11c6
noncomputable abbrev q11c9 : Code := Code.fst q11c4
noncomputable abbrev q11c10 : Code := Code.snd q11c4
noncomputable abbrev q11c11 : Code := Code.fst q11c10
noncomputable abbrev q11c12 : Code := Code.snd q11c10
noncomputable abbrev q11c13 : Code := Code.fst q11c12
noncomputable abbrev q11c14 : Code := Code.snd q11c12
noncomputable abbrev q11c15 : Code := Code.fst q11c14
noncomputable abbrev q11c16 : Code := Code.snd q11c14
noncomputable abbrev q11c17 : Code := Code.fst q11c16
noncomputable abbrev q11c18 : Code := Code.snd q11c16
noncomputable abbrev q11c19 : Code := Code.fst q11c18
noncomputable abbrev q11c20 : Code := Code.fst q11c19
noncomputable abbrev q11c21 : Code := Code.fst q11c20
noncomputable abbrev q11c22 : Code := Code.fst q11c21
noncomputable abbrev q11c23 : Code := Code.snd q11c21
noncomputable abbrev q11c24 : Code := Code.fst q11c23
noncomputable abbrev q11c25 : Code := Code.snd q11c23
noncomputable abbrev q11c26 : Code := Code.fst q11c25
noncomputable abbrev q11c27 : Code := Code.fst q11c26
noncomputable abbrev q11c28 : Code := Code.snd q11c26
noncomputable abbrev q11c29 : Code := Code.fst q11c28
noncomputable abbrev q11c30 : Code := Code.snd q11c28
noncomputable abbrev q11c31 : Code := Code.fst q11c29
noncomputable abbrev q11c32 : Code := Code.snd q11c29
noncomputable abbrev q11c33 : Code := Code.fst q11c30
noncomputable abbrev q11c34 : Code := Code.snd q11c30
noncomputable abbrev q11c35 : Code := Code.fst q11c34
noncomputable abbrev q11c36 : Code := Code.snd q11c34
noncomputable abbrev q11c37 : Code := Code.fst q11c35
noncomputable abbrev q11c38 : Code := Code.snd q11c35
noncomputable abbrev q11c39 : Code := Code.fst q11c36
noncomputable abbrev q11c40 : Code := Code.snd q11c36
noncomputable abbrev q11c41 : Code := Code.fst q11c40
noncomputable abbrev q11c42 : Code := Code.snd q11c40
noncomputable abbrev q11c43 : Code := Code.fst q11c7
noncomputable abbrev q11c44 : Code := Code.snd q11c7
abbrev rpc_Buffer_Feed_R (w : World) (F : Nat → Prop) (g2 : Nat) (Tb3 : Nat) (r : (List ByteArray) × Int × rpc_Buffer) : Ending → World → Prop := fun e w' => ∃ A0 : Option Addr, ∃ n0 : Nat, ∃ c0 : Nat, ∃ A1 : Option Addr, ∃ n1 : Nat, ∃ c1 : Nat, e = .returned (.tuple #[.slice A0 n0 c0, .int .i64 r.2.1]) ∧ B.Loc w w' [.box g2 Tb3 [.slice A1 n1 c1, .int .i64 r.2.2.code], .own (.slice A0 n0 c0) 9 1 n0 (r.1.flatMap eS)] [St w [[g2]]] ∧ Ow w.heap.size A0 n0 c0 r.1 ∧ Rw (kInt .u8) w' (Nw w w' F [.box g2 Tb3 [.slice A1 n1 c1, .int .i64 r.2.2.code], .own (.slice A0 n0 c0) 9 1 n0 (r.1.flatMap eS)]) A1 n1 c1 r.2.2.wait
noncomputable abbrev rpc_Buffer_Feed_C (w : World) (F : Nat → Prop) (g2 : Nat) (Tb3 : Nat) (r : (List ByteArray) × Int × rpc_Buffer) : Cx := ⟨Try.prog, 11, Try.f11, 95, rpc_Buffer_Feed_R w F g2 Tb3 r, w⟩
theorem rpc_Buffer_Feed_calls (w : World) (F : Nat → Prop) (x1 : rpc_Buffer) (x8 : List Int) (g2 : Nat) (Tb3 : Nat) (A4 : Option Addr) (n5 : Nat) (c6 : Nat) (A9 : Option Addr) (n10 : Nat) (c11 : Nat) (h7 : Rw (kInt .u8) w F A4 n5 c6 x1.wait) (h12 : Rw (kInt .u8) w (St w [[g2]]).av A9 n10 c11 x8) (hF : ∀ b, F b → b < w.heap.size ∧ ∀ o ∈ ([[g2]] : List (List Nat)), b ∉ o) (hL0 : B.Loc w w [.box g2 Tb3 [.slice A4 n5 c6, .int .i64 x1.code]] [Sm w.heap.size F w [[g2]], St w [[g2]]]) (r : (List ByteArray) × Int × rpc_Buffer) (h : rpc_Buffer_Feed x1 x8 r) : Calls Try.prog 11 #[.pointer (some ⟨g2, 0, none⟩), .slice A9 n10 c11] w (rpc_Buffer_Feed_R w F g2 Tb3 r) := by
 unfold rpc_Buffer_Feed at h
 have h7 := Rw.into (bs := [[g2]]) hF h7
 refine calls_of_Loc (vs := [.pointer (some ⟨g2, 0, none⟩), .slice A9 n10 c11]) 95 Try.func11 rfl Try.ntmps11 rfl hL0 ?_
 show G (rpc_Buffer_Feed_C w F g2 Tb3 r) _ _ _ _
 refine g_seq (c := q11c0) rfl ?_
 refine g_region (c := q11c1) rfl rfl ?_
 refine wl_v 0 rfl (v_assign rfl) gn rfl ?_
 refine wl_v 1 rfl (v_assign rfl) gn rfl ?_
 refine w_end 2 rfl ?_
 refine g_seq (c := q11c2) rfl ?_
 refine g_seq (c := q11c3) rfl ?_
 refine g_region (c := q11c5) rfl rfl ?_
 refine wl_v 0 rfl (v_move rfl) gn rfl ?_
 refine wl_v 1 rfl (v_nilCheck rfl) gn rfl ?_
 refine wl_v 2 rfl (v_fldB fo_41_1 rfl) gn rfl ?_
 refine wl_v 3 rfl (v_ldB1 0 ld_34 rfl rfl rfl) gn rfl ?_
 refine wl_v 4 rfl (v_bin rfl rfl rfl) gn rfl ?_
 refine w_end 5 rfl ?_
 by_cases hp13 : x1.code = 0
 ·have h := if_pos' hp13 h
  refine g_false (c := q11c6) rfl _ rfl ((eqib hp13)) ?_
  refine g_skip (c := q11c8) rfl ?_
  refine g_seq (c := q11c4) rfl ?_
  refine g_region (c := q11c9) rfl rfl ?_
  refine wl_v 0 rfl (v_move rfl) gn rfl ?_
  refine wl_v 1 rfl (v_nilCheck rfl) gn rfl ?_
  refine wl_v 2 rfl (v_fldB fo_41_0 rfl) gn rfl ?_
  refine wl_v 3 rfl (v_ldB1 0 ld_27 rfl rfl rfl) gn rfl ?_
  refine wl_v 4 rfl (v_lenQ un_27 rfl h7.hq) gn rfl ?_
  refine wl_v 5 rfl (v_move rfl) gn rfl ?_
  refine wl_v 6 rfl (v_lenQ un_27 rfl h12.hq) gn rfl ?_
  refine wl_v 7 rfl (v_bin rfl rfl rfl) gn rfl ?_
  obtain ⟨hb14, h⟩ := h
  obtain ⟨x18, hv19, h⟩ := h
  refine wl_s 8 rfl (s_makeX (enc := (eI .u8)) (z := 0) mk_27 rfl (by decide) rfl rfl hb14.1 hb14.2 (by decide) hv19 rfl fun A15 h16 => ?_) gn
  refine wl_v 9 rfl (v_assign rfl) gn rfl ?_
  refine w_end 10 rfl ?_
  refine g_seq (c := q11c10) rfl ?_
  refine g_region (c := q11c11) rfl rfl ?_
  refine wl_v 0 rfl (v_move rfl) gn rfl ?_
  refine wl_v 1 rfl (v_move rfl) gn rfl ?_
  refine wl_v 2 rfl (v_nilCheck rfl) gn rfl ?_
  refine wl_v 3 rfl (v_fldB fo_41_0 rfl) gn rfl ?_
  refine wl_v 4 rfl (v_ldB1 1 ld_27 rfl rfl rfl) gn rfl ?_
  obtain ⟨x20, hv21, h⟩ := h
  have h22 : Ow w.heap.size A15 ((w64 ((x1.wait.length : Int) + (x8.length : Int)) : Int).toNat) ((w64 ((x1.wait.length : Int) + (x8.length : Int)) : Int).toNat) x20 := Ow.w h16 (by rw [hv21]; exact copied_len (by have q := h16.hq; have q2 := (Vw.whole : Vw 1 A15 ((w64 ((x1.wait.length : Int) + (x8.length : Int)) : Int).toNat) 0 ((w64 ((x1.wait.length : Int) + (x8.length : Int)) : Int).toNat) A15).le; have q3 : (w64 ((x1.wait.length : Int) + (x8.length : Int)) : Int).toNat = x18.length := h16.hq; omega))
  refine wl_s 5 rfl (s_copy (lo := 0) (cells' := x20.flatMap (eI .u8)) 0 slE_27 rfl rfl rfl rfl h16 Vw.whole (Src.readF (s := Sm w.heap.size F w [[g2]]) (hl := (hlI .u8)) (h1 := (hone_int .u8)) h7 (me 0 rfl)) (by rw [hv21]; exact fm_copied (hlI .u8) (by have q := h16.hq; have q2 := (Vw.whole : Vw 1 A15 ((w64 ((x1.wait.length : Int) + (x8.length : Int)) : Int).toNat) 0 ((w64 ((x1.wait.length : Int) + (x8.length : Int)) : Int).toNat) A15).le; have q3 : (w64 ((x1.wait.length : Int) + (x8.length : Int)) : Int).toNat = x18.length := h16.hq; omega) h7.hq h16.hq) rfl ?_) gn
  refine w_end 6 rfl ?_
  refine g_seq (c := q11c12) rfl ?_
  refine g_region (c := q11c13) rfl rfl ?_
  refine wl_v 0 rfl (v_move rfl) gn rfl ?_
  refine wl_v 1 rfl (v_move rfl) gn rfl ?_
  refine wl_v 2 rfl (v_nilCheck rfl) gn rfl ?_
  refine wl_v 3 rfl (v_fldB fo_41_0 rfl) gn rfl ?_
  refine wl_v 4 rfl (v_ldB1 1 ld_27 rfl rfl rfl) gn rfl ?_
  refine wl_v 5 rfl (v_lenQ un_27 rfl h7.hq) gn rfl ?_
  obtain ⟨hb23, h⟩ := h
  have hv24 : Vw 1 A15 ((w64 ((x1.wait.length : Int) + (x8.length : Int)) : Int).toNat) ((x1.wait.length : Int) : Int).toNat (((((w64 ((x1.wait.length : Int) + (x8.length : Int)) : Int).toNat : Nat) : Int) : Int).toNat - ((x1.wait.length : Int) : Int).toNat) (if ((((w64 ((x1.wait.length : Int) + (x8.length : Int)) : Int).toNat : Nat) : Int) : Int).toNat = ((x1.wait.length : Int) : Int).toNat then A15 else A15.map (·.add (((x1.wait.length : Int) : Int).toNat * 1))) := Vw.cut (by have q := hb23; have q1 := h22.hq; have q2 := h22.hn; omega) (by have q := hb23; have q1 := h22.hq; have q2 := h22.hn; omega) (by have q := hb23; have q1 := h22.hq; have q2 := h22.hn; omega)
  refine wl_v 6 rfl (v_cut (sz := 1) (n := (w64 ((x1.wait.length : Int) + (x8.length : Int)) : Int).toNat) (c := (w64 ((x1.wait.length : Int) + (x8.length : Int)) : Int).toNat) (x1.wait.length : Int) (((w64 ((x1.wait.length : Int) + (x8.length : Int)) : Int).toNat : Nat) : Int) (((w64 ((x1.wait.length : Int) + (x8.length : Int)) : Int).toNat : Nat) : Int) slE_27 rfl (by_ rfl) bn bn (by have q := hb23; have q1 := h22.hq; have q2 := h22.hn; omega) (by have q := hb23; have q1 := h22.hq; have q2 := h22.hn; omega) (by have q := hb23; have q1 := h22.hq; have q2 := h22.hn; omega) h22.hn rfl) gn rfl ?_
  refine wl_v 7 rfl (v_move rfl) gn rfl ?_
  obtain ⟨x25, hv26, h⟩ := h
  have h27 : Ow w.heap.size A15 ((w64 ((x1.wait.length : Int) + (x8.length : Int)) : Int).toNat) ((w64 ((x1.wait.length : Int) + (x8.length : Int)) : Int).toNat) x25 := Ow.w h22 (by rw [hv26]; exact copied_len (by have q := h22.hq; have q2 := (hv24 : Vw 1 A15 ((w64 ((x1.wait.length : Int) + (x8.length : Int)) : Int).toNat) (((x1.wait.length : Int) : Int).toNat) (((((w64 ((x1.wait.length : Int) + (x8.length : Int)) : Int).toNat : Nat) : Int) : Int).toNat - ((x1.wait.length : Int) : Int).toNat) (if ((((w64 ((x1.wait.length : Int) + (x8.length : Int)) : Int).toNat : Nat) : Int) : Int).toNat = ((x1.wait.length : Int) : Int).toNat then A15 else A15.map (·.add (((x1.wait.length : Int) : Int).toNat * 1)))).le; have q3 : ((((w64 ((x1.wait.length : Int) + (x8.length : Int)) : Int).toNat : Nat) : Int) : Int).toNat - ((x1.wait.length : Int) : Int).toNat = ((x20.drop ((x1.wait.length : Int) : Int).toNat).take ((x20.length : Int).toNat - ((x1.wait.length : Int) : Int).toNat)).length := (by rw [← h22.hq]; exact Vw.len hv24 h22); omega))
  refine wl_s 8 rfl (s_copy (lo := (((x1.wait.length : Int) : Int).toNat)) (cells' := x25.flatMap (eI .u8)) 0 slE_27 rfl rfl rfl rfl h22 hv24 (Src.readF (s := St w [[g2]]) (hl := (hlI .u8)) (h1 := (hone_int .u8)) h12 (me 1 rfl)) (by rw [hv26]; exact fm_copied (hlI .u8) (by have q := h22.hq; have q2 := (hv24 : Vw 1 A15 ((w64 ((x1.wait.length : Int) + (x8.length : Int)) : Int).toNat) (((x1.wait.length : Int) : Int).toNat) (((((w64 ((x1.wait.length : Int) + (x8.length : Int)) : Int).toNat : Nat) : Int) : Int).toNat - ((x1.wait.length : Int) : Int).toNat) (if ((((w64 ((x1.wait.length : Int) + (x8.length : Int)) : Int).toNat : Nat) : Int) : Int).toNat = ((x1.wait.length : Int) : Int).toNat then A15 else A15.map (·.add (((x1.wait.length : Int) : Int).toNat * 1)))).le; have q3 : ((((w64 ((x1.wait.length : Int) + (x8.length : Int)) : Int).toNat : Nat) : Int) : Int).toNat - ((x1.wait.length : Int) : Int).toNat = ((x20.drop ((x1.wait.length : Int) : Int).toNat).take ((x20.length : Int).toNat - ((x1.wait.length : Int) : Int).toNat)).length := (by rw [← h22.hq]; exact Vw.len hv24 h22); omega) h12.hq (by rw [← h22.hq]; exact Vw.len hv24 h22)) rfl ?_) gn
  refine w_end 9 rfl ?_
  refine g_seq (c := q11c14) rfl ?_
  refine g_region (c := q11c15) rfl rfl ?_
  refine wl_v 0 rfl (v_move rfl) gn rfl ?_
  refine wl_v 1 rfl (v_move rfl) gn rfl ?_
  refine wl_v 2 rfl (v_nilCheck rfl) gn rfl ?_
  refine wl_v 3 rfl (v_fldB fo_41_0 rfl) gn rfl ?_
  refine wl_s 4 rfl (s_stB (vs := [.slice A15 ((w64 ((x1.wait.length : Int) + (x8.length : Int)) : Int).toNat) ((w64 ((x1.wait.length : Int) + (x8.length : Int)) : Int).toNat)]) (cs' := [.slice A15 ((w64 ((x1.wait.length : Int) + (x8.length : Int)) : Int).toNat) ((w64 ((x1.wait.length : Int) + (x8.length : Int)) : Int).toNat), .int .i64 x1.code]) (M' := [.own (.slice A15 ((w64 ((x1.wait.length : Int) + (x8.length : Int)) : Int).toNat) ((w64 ((x1.wait.length : Int) + (x8.length : Int)) : Int).toNat)) 5 1 ((w64 ((x1.wait.length : Int) + (x8.length : Int)) : Int).toNat) (x25.flatMap (eI .u8)), .box g2 Tb3 [.slice A15 ((w64 ((x1.wait.length : Int) + (x8.length : Int)) : Int).toNat) ((w64 ((x1.wait.length : Int) + (x8.length : Int)) : Int).toNat), .int .i64 x1.code]]) 1 sz_27 rfl rfl rfl rfl rfl rfl rfl rfl rfl ?_) gn
  refine w_end 5 rfl ?_
  refine g_seq (c := q11c16) rfl ?_
  refine g_region (c := q11c17) rfl rfl ?_
  refine wl_v 0 rfl (v_assign rfl) gn rfl ?_
  refine w_end 1 rfl ?_
  refine g_block (c := q11c18) rfl ?_
  refine g_loop (c := q11c19) rfl ?_
  have key1 : ∀ s, Rounds (fun (s : (List ByteArray) × (List Int)) o => rpc_Buffer_Feed_b1 x1 s.1 s.2 o) s r → (fun (s : (List ByteArray) × (List Int)) => ∀ (A57 : Option Addr) (n58 : Nat) (c59 : Nat) (h60 : Ow w.heap.size A57 n58 c59 s.1) (A62 : Option Addr) (n63 : Nat) (c64 : Nat) (sw65 : World) (sb66 : List (List Nat)) (h67 : At (kInt .u8) (Sm w.heap.size F sw65 sb66) A62 n63 c64 s.2), G (rpc_Buffer_Feed_C w F g2 Tb3 r) [.code q11c20, .inLoop q11c20, .inBlock 0] [(0, .pointer (some ⟨g2, 0, none⟩)), (7, .slice A57 n58 c59)] [.own (.slice A57 n58 c59) 9 1 n58 (s.1.flatMap eS), .box g2 Tb3 [.slice A62 n63 c64, .int .i64 x1.code]] [Sm w.heap.size F sw65 sb66, Sm w.heap.size F w [[g2]], St w [[g2]]]) s := by
   intro s hs
   refine Rounds.ind (mot := (fun (s : (List ByteArray) × (List Int)) => ∀ (A57 : Option Addr) (n58 : Nat) (c59 : Nat) (h60 : Ow w.heap.size A57 n58 c59 s.1) (A62 : Option Addr) (n63 : Nat) (c64 : Nat) (sw65 : World) (sb66 : List (List Nat)) (h67 : At (kInt .u8) (Sm w.heap.size F sw65 sb66) A62 n63 c64 s.2), G (rpc_Buffer_Feed_C w F g2 Tb3 r) [.code q11c20, .inLoop q11c20, .inBlock 0] [(0, .pointer (some ⟨g2, 0, none⟩)), (7, .slice A57 n58 c59)] [.own (.slice A57 n58 c59) 9 1 n58 (s.1.flatMap eS), .box g2 Tb3 [.slice A62 n63 c64, .int .i64 x1.code]] [Sm w.heap.size F sw65 sb66, Sm w.heap.size F w [[g2]], St w [[g2]]])) ?_ hs
   clear hs s
   intro s o1 h hO1
   obtain ⟨x56, x61⟩ := s
   show ∀ (A57 : Option Addr) (n58 : Nat) (c59 : Nat) (h60 : Ow w.heap.size A57 n58 c59 x56) (A62 : Option Addr) (n63 : Nat) (c64 : Nat) (sw65 : World) (sb66 : List (List Nat)) (h67 : At (kInt .u8) (Sm w.heap.size F sw65 sb66) A62 n63 c64 x61), G (rpc_Buffer_Feed_C w F g2 Tb3 r) [.code q11c20, .inLoop q11c20, .inBlock 0] [(0, .pointer (some ⟨g2, 0, none⟩)), (7, .slice A57 n58 c59)] [.own (.slice A57 n58 c59) 9 1 n58 (x56.flatMap eS), .box g2 Tb3 [.slice A62 n63 c64, .int .i64 x1.code]] [Sm w.heap.size F sw65 sb66, Sm w.heap.size F w [[g2]], St w [[g2]]]
   intro A57 n58 c59 h60 A62 n63 c64 sw65 sb66 h67
   have h : rpc_Buffer_Feed_b1 x1 x56 x61 o1 := h
   unfold rpc_Buffer_Feed_b1 at h
   refine g_block (c := q11c20) rfl ?_
   refine g_seq (c := q11c21) rfl ?_
   refine g_region (c := q11c22) rfl rfl ?_
   refine wl_v 0 rfl (v_move rfl) gn rfl ?_
   refine wl_v 1 rfl (v_nilCheck rfl) gn rfl ?_
   refine wl_v 2 rfl (v_fldB fo_41_0 rfl) gn rfl ?_
   refine wl_v 3 rfl (v_ldB1 1 ld_27 rfl rfl rfl) gn rfl ?_
   obtain ⟨r94, hv95, h⟩ := h
   refine wl_s 4 rfl (s_call [.slice A62 n63 c64] rfl Try.func17 rfl rfl rfl fun w91 hL92 => ?_) gn
   have hp93 : List.Perm ([.own (.slice A57 n58 c59) 9 1 n58 (x56.flatMap eS), .box g2 Tb3 [.slice A62 n63 c64, .int .i64 x1.code]] : List Ent) (([] : List Ent) ++ ([.own (.slice A57 n58 c59) 9 1 n58 (x56.flatMap eS), .box g2 Tb3 [.slice A62 n63 c64, .int .i64 x1.code]] : List Ent)) := perm_of_idx [] [0, 1] rfl rfl (by kernel_rfl)
   refine Calls.mono (rpc_Take_calls w91 (Fl ([] : List Snap)) x61 A62 n63 c64 (Rw.mono h67 (hL92.toSt hp93 (me 0 rfl))) (hL92.hFl (Sl := ([] : List Snap)) hp93 (sels [] rfl)) (hL92.into hp93 (Fl ([] : List Snap))) r94 hv95) ?_
   rintro _ w96 ⟨rfl, hM97⟩
   have hL98 := hL92.call hp93 hM97
   refine ⟨_, _, _, rfl, hL98, ?_⟩
   refine wl_v 5 rfl (v_move rfl) gn rfl ?_
   refine wl_v 6 rfl (v_extract rfl rfl) gn rfl ?_
   refine wl_v 7 rfl (v_extract rfl rfl) gn rfl ?_
   refine wl_v 8 rfl (v_extract rfl rfl) gn rfl ?_
   refine wl_v 9 rfl (v_assign rfl) gn rfl ?_
   refine wl_v 10 rfl (v_assign rfl) gn rfl ?_
   refine wl_v 11 rfl (v_assign rfl) gn rfl ?_
   refine w_end 12 rfl ?_
   refine g_seq (c := q11c23) rfl ?_
   refine g_region (c := q11c24) rfl rfl ?_
   refine wl_v 0 rfl (v_move rfl) gn rfl ?_
   refine w_end 1 rfl ?_
   refine g_block (c := q11c25) rfl ?_
   refine g_seq (c := q11c26) rfl ?_
   refine g_region (c := q11c27) rfl rfl ?_
   refine wl_v 0 rfl (v_bin rfl rfl rfl) gn rfl ?_
   refine wl_v 1 rfl (v_assign rfl) gn rfl ?_
   refine w_end 2 rfl ?_
   by_cases hp99 : r94.2.2 = 0
   ·have h := if_pos' hp99 h
    refine g_true (c := q11c28) rfl _ rfl ((eqi hp99)) ?_
    refine g_seq (c := q11c29) rfl ?_
    refine g_region (c := q11c31) rfl rfl ?_
    refine wl_v 0 rfl (v_move rfl) gn rfl ?_
    refine wl_v 1 rfl (v_move rfl) gn rfl ?_
    refine wl_s 2 rfl (s_litO (xs := ([r94.1] : List ByteArray)) [.string r94.1] bs_33_1 rfl (by kernel_rfl) rfl rfl rfl rfl fun gb101 h102 => ?_) gn
    obtain ⟨x106, hv107, h⟩ := h
    obtain ⟨hb108, h⟩ := h
    refine wl_s 3 rfl (s_app (zs := x106) (cells' := x106.flatMap eS) 1 ap_33 rfl rfl rfl h60 (Nat.le_refl _) (Src.ownF (hl := hlS) (h1 := hone_str) 0 rfl h102) (by rw [hv107, List.flatMap_append] <;> rfl) (app_len hv107 h102.hq) hb108 rfl rfl fun A103 c104 h105 => ?_) gn
    refine wl_v 4 rfl (v_assign rfl) gn rfl ?_
    refine w_end 5 rfl ?_
    obtain ⟨hb109, h⟩ := h
    have hns : Region.noSelect (Code.ops q11c32) = true := by kernel_rfl
    refine g_drawF (c := q11c32) [.own (.slice (some ⟨gb101, 0, none⟩) 1 1) 9 1 1 (([r94.1] : List ByteArray).flatMap eS), .own (.slice A103 (n58 + 1) c104) 9 1 (n58 + 1) (x106.flatMap eS), .box g2 Tb3 [.slice A62 n63 c64, .int .i64 x1.code]] [Sm w.heap.size F sw65 sb66, Sm w.heap.size F w [[g2]], St w [[g2]]] [19] 20 rfl rfl mix rfl (.cons_cons _ (.cons_cons _ (.cons_cons _ (.slnil)))) (sels [0, 1, 2] rfl) ?_
    refine wfv 0 rfl (v_move rfl) gn hns (by kernel_rfl) ?_
    refine wfv 1 rfl (v_move rfl) gn hns (by kernel_rfl) ?_
    refine wfv 2 rfl (v_nilCheck rfl) gn hns (by kernel_rfl) ?_
    refine wfv 3 rfl (v_fldB fo_41_0 rfl) gn hns (by kernel_rfl) ?_
    refine wfv 4 rfl (v_ldB1 2 ld_27 rfl rfl rfl) gn hns (by kernel_rfl) ?_
    refine wfv 5 rfl (v_move rfl) gn hns (by kernel_rfl) ?_
    refine wfv 6 rfl (v_move rfl) gn hns (by kernel_rfl) ?_
    refine wfv 7 rfl (v_nilCheck rfl) gn hns (by kernel_rfl) ?_
    refine wfv 8 rfl (v_fldB fo_41_0 rfl) gn hns (by kernel_rfl) ?_
    refine wfv 9 rfl (v_ldB1 2 ld_27 rfl rfl rfl) gn hns (by kernel_rfl) ?_
    refine wfv 10 rfl (v_lenQ un_27 rfl h67.hq) gn hns (by kernel_rfl) ?_
    refine wfv 11 rfl (v_move rfl) gn hns (by kernel_rfl) ?_
    refine wfv 12 rfl (v_nilCheck rfl) gn hns (by kernel_rfl) ?_
    refine wfv 13 rfl (v_fldB fo_41_0 rfl) gn hns (by kernel_rfl) ?_
    refine wfv 14 rfl (v_ldB1 2 ld_27 rfl rfl rfl) gn hns (by kernel_rfl) ?_
    refine wfv 15 rfl (v_lenQ un_27 rfl h67.hq) gn hns (by kernel_rfl) ?_
    have h112 := Rw.cut (sz := 1) (lv := r94.2.1) (hv := (x61.length : Int)) (mv := (x61.length : Int)) h67 rfl (by have q := hb109; have q1 := h67.hq; have q2 := h67.hn; omega) (by have q := hb109; have q1 := h67.hq; have q2 := h67.hn; omega) (by have q := hb109; have q1 := h67.hq; have q2 := h67.hn; omega)
    refine wfv 16 rfl (v_cut (sz := 1) (n := n63) (c := c64) r94.2.1 (x61.length : Int) (x61.length : Int) slE_27 rfl (by_ rfl) (by_ rfl) (by_ rfl) (by have q := hb109; have q1 := h67.hq; have q2 := h67.hn; omega) (by have q := hb109; have q1 := h67.hq; have q2 := h67.hn; omega) (by have q := hb109; have q1 := h67.hq; have q2 := h67.hn; omega) h67.hn rfl) gn hns (by kernel_rfl) ?_
    refine wfv 17 rfl (v_nilCheck rfl) gn hns (by kernel_rfl) ?_
    refine wfv 18 rfl (v_fldB fo_41_0 rfl) gn hns (by kernel_rfl) ?_
    refine wf_all [19] (by kernel_rfl) rfl ⟨on_l 19 rfl gn rfl (s_stB (vs := [.slice (if ((x61.length : Int) : Int).toNat = (r94.2.1 : Int).toNat then A62 else A62.map (·.add ((r94.2.1 : Int).toNat * 1))) (((x61.length : Int) : Int).toNat - (r94.2.1 : Int).toNat) (((x61.length : Int) : Int).toNat - (r94.2.1 : Int).toNat)]) (cs' := [.slice (if ((x61.length : Int) : Int).toNat = (r94.2.1 : Int).toNat then A62 else A62.map (·.add ((r94.2.1 : Int).toNat * 1))) (((x61.length : Int) : Int).toNat - (r94.2.1 : Int).toNat) (((x61.length : Int) : Int).toNat - (r94.2.1 : Int).toNat), .int .i64 x1.code]) (M' := [.own (.slice (some ⟨gb101, 0, none⟩) 1 1) 9 1 1 (([r94.1] : List ByteArray).flatMap eS), .own (.slice A103 (n58 + 1) c104) 9 1 (n58 + 1) (x106.flatMap eS), .box g2 Tb3 [.slice (if ((x61.length : Int) : Int).toNat = (r94.2.1 : Int).toNat then A62 else A62.map (·.add ((r94.2.1 : Int).toNat * 1))) (((x61.length : Int) : Int).toNat - (r94.2.1 : Int).toNat) (((x61.length : Int) : Int).toNat - (r94.2.1 : Int).toNat), .int .i64 x1.code]]) 2 sz_27 rfl rfl rfl rfl rfl rfl rfl rfl rfl ?_), trivial⟩
    unfold NxL
    refine wf_end (by kernel_rfl) ?_
    refine g_inBlock ?_
    refine g_inBlock ?_
    refine g_inLoop ?_
    have ih := Out.inl hO1 h
    exact g_go [0, 1, 2] (ih A103 (n58 + 1) c104 h105 (if ((x61.length : Int) : Int).toNat = (r94.2.1 : Int).toNat then A62 else A62.map (·.add ((r94.2.1 : Int).toNat * 1))) (((x61.length : Int) : Int).toNat - (r94.2.1 : Int).toNat) (((x61.length : Int) : Int).toNat - (r94.2.1 : Int).toNat) sw65 sb66 h112) ⟨rfl, rfl, trivial⟩ (.cons _ (.cons_cons _ (.cons_cons _ (.slnil)))) rfl
   ·have h := if_neg' hp99 h
    refine g_false (c := q11c28) rfl _ rfl ((nei hp99)) ?_
    refine g_seq (c := q11c30) rfl ?_
    refine g_region (c := q11c33) rfl rfl ?_
    refine wl_v 0 rfl (v_bin rfl rfl rfl) gn rfl ?_
    refine wl_v 1 rfl (v_assign rfl) gn rfl ?_
    refine w_end 2 rfl ?_
    by_cases hp113 : r94.2.2 = 260
    ·have h := if_pos' hp113 h
     refine g_true (c := q11c34) rfl _ rfl ((eqi hp113)) ?_
     refine g_seq (c := q11c35) rfl ?_
     refine g_region (c := q11c37) rfl rfl ?_
     refine wl_v 0 rfl (v_move rfl) gn rfl ?_
     refine wl_v 1 rfl (v_assign rfl) gn rfl ?_
     refine wl_v 2 rfl (v_assign rfl) gn rfl ?_
     refine w_end 3 rfl ?_
     have h := Out.inr hO1 h
     refine g_retR (c := q11c38) [.slice A57 n58 c59, .int .i64 0] rfl Try.func11 rfl (.tmp rfl (.tmp rfl (.nil))) fun wr hLr => ?_
     have hMr : B.Loc w wr [.box g2 Tb3 [.slice A62 n63 c64, .int .i64 x1.code], .own (.slice A57 n58 c59) 9 1 n58 (x56.flatMap eS)] [St w [[g2]]] := hLr.pick (rest := []) (perm_of_idx [1, 0] [] rfl rfl (by kernel_rfl)) (sels [2] rfl)
     have hMi : ∀ e ∈ ([.box g2 Tb3 [.slice A62 n63 c64, .int .i64 x1.code], .own (.slice A57 n58 c59) 9 1 n58 (x56.flatMap eS)] : List Ent), e ∈ ([.own (.slice A57 n58 c59) 9 1 n58 (x56.flatMap eS), .box g2 Tb3 [.slice A62 n63 c64, .int .i64 x1.code]] : List Ent) := sels [1, 0] rfl
     show rpc_Buffer_Feed_R w F g2 Tb3 r (.returned (packV [.slice A57 n58 c59, .int .i64 0])) wr
     rw [h]
     exact ⟨A57, n58, c59, A62, n63, c64, rfl, hMr, h60, (hLr.outR (s := Sm w.heap.size F sw65 sb66) hMi (me 0 rfl) Sm.ok h67)⟩
    ·have h := if_neg' hp113 h
     refine g_false (c := q11c34) rfl _ rfl ((nei hp113)) ?_
     refine g_seq (c := q11c36) rfl ?_
     refine g_region (c := q11c39) rfl rfl ?_
     refine wl_v 0 rfl (v_move rfl) gn rfl ?_
     refine wl_v 1 rfl (v_move rfl) gn rfl ?_
     refine wl_v 2 rfl (v_move rfl) gn rfl ?_
     refine wl_v 3 rfl (v_nilCheck rfl) gn rfl ?_
     refine wl_v 4 rfl (v_fldB fo_41_0 rfl) gn rfl ?_
     refine wl_s 5 rfl (s_stB (vs := [.slice none 0 0]) (cs' := [.slice none 0 0, .int .i64 x1.code]) (M' := [.own (.slice A57 n58 c59) 9 1 n58 (x56.flatMap eS), .box g2 Tb3 [.slice none 0 0, .int .i64 x1.code]]) 1 sz_27 rfl rfl rfl rfl rfl rfl rfl rfl rfl ?_) gn
     refine wl_v 6 rfl (v_nilCheck rfl) gn rfl ?_
     refine wl_v 7 rfl (v_fldB fo_41_1 rfl) gn rfl ?_
     refine wl_s 8 rfl (s_stB (vs := [.int .i64 r94.2.2]) (cs' := [.slice none 0 0, .int .i64 r94.2.2]) (M' := [.own (.slice A57 n58 c59) 9 1 n58 (x56.flatMap eS), .box g2 Tb3 [.slice none 0 0, .int .i64 r94.2.2]]) 1 sz_34 rfl rfl rfl rfl rfl rfl rfl rfl rfl ?_) gn
     refine w_end 9 rfl ?_
     refine g_seq (c := q11c40) rfl ?_
     refine g_region (c := q11c41) rfl rfl ?_
     refine wl_v 0 rfl (v_move rfl) gn rfl ?_
     refine wl_v 1 rfl (v_move rfl) gn rfl ?_
     refine wl_v 2 rfl (v_assign rfl) gn rfl ?_
     refine wl_v 3 rfl (v_assign rfl) gn rfl ?_
     refine w_end 4 rfl ?_
     have h := Out.inr hO1 h
     refine g_retR (c := q11c42) [.slice A57 n58 c59, .int .i64 r94.2.2] rfl Try.func11 rfl (.tmp rfl (.tmp rfl (.nil))) fun wr hLr => ?_
     have hMr : B.Loc w wr [.box g2 Tb3 [.slice none 0 0, .int .i64 r94.2.2], .own (.slice A57 n58 c59) 9 1 n58 (x56.flatMap eS)] [St w [[g2]]] := hLr.pick (rest := []) (perm_of_idx [1, 0] [] rfl rfl (by kernel_rfl)) (sels [2] rfl)
     show rpc_Buffer_Feed_R w F g2 Tb3 r (.returned (packV [.slice A57 n58 c59, .int .i64 r94.2.2])) wr
     rw [h]
     exact ⟨A57, n58, c59, none, 0, 0, rfl, hMr, h60, Rw.nil⟩
  refine g_freeze (F := F) (dk := (kInt .u8)) (Sm w.heap.size F w [[g2]]) 0 rfl h27 (me 0 rfl) Sm.ok (Cells.flat _) fun sw115 sb116 h114 => ?_
  refine g_nil 9 1 ?_
  exact g_go [0, 1, 2] (key1 _ h none 0 0 (Ow.nil (z := w.heap.size)) A15 ((w64 ((x1.wait.length : Int) + (x8.length : Int)) : Int).toNat) ((w64 ((x1.wait.length : Int) + (x8.length : Int)) : Int).toNat) sw115 sb116 h114) ⟨rfl, rfl, trivial⟩ (.cons_cons _ (.cons_cons _ (.slnil))) rfl
 ·have h := if_neg' hp13 h
  refine g_true (c := q11c6) rfl _ rfl ((neib hp13)) ?_
  refine g_seq (c := q11c7) rfl ?_
  have hns : Region.noSelect (Code.ops q11c43) = true := by kernel_rfl
  refine g_drawF (c := q11c43) [.box g2 Tb3 [.slice A4 n5 c6, .int .i64 x1.code]] [Sm w.heap.size F w [[g2]], St w [[g2]]] [] 6 rfl rfl mix rfl (.cons_cons _ (.slnil)) (sels [0, 1] rfl) ?_
  refine wfv 0 rfl (v_move rfl) gn hns rfl ?_
  refine wfv 1 rfl (v_nilCheck rfl) gn hns rfl ?_
  refine wfv 2 rfl (v_fldB fo_41_1 rfl) gn hns rfl ?_
  refine wfv 3 rfl (v_ldB1 0 ld_34 rfl rfl rfl) gn hns rfl ?_
  refine wfv 4 rfl (v_assign rfl) gn hns rfl ?_
  refine wfv 5 rfl (v_assign rfl) gn hns rfl ?_
  refine wf_end (by kernel_rfl) ?_
  refine g_nil 9 1 ?_
  refine g_retR (c := q11c44) [.slice none 0 0, .int .i64 x1.code] rfl Try.func11 rfl (.tmp rfl (.tmp rfl (.nil))) fun wr hLr => ?_
  have hMr : B.Loc w wr [.box g2 Tb3 [.slice A4 n5 c6, .int .i64 x1.code], .own (.slice none 0 0) 9 1 0 (([] : List ByteArray).flatMap eS)] [St w [[g2]]] := hLr.pick (rest := []) (perm_of_idx [1, 0] [] rfl rfl (by kernel_rfl)) (sels [1] rfl)
  have hMi : ∀ e ∈ ([.box g2 Tb3 [.slice A4 n5 c6, .int .i64 x1.code], .own (.slice none 0 0) 9 1 0 (([] : List ByteArray).flatMap eS)] : List Ent), e ∈ ([.own (.slice none 0 0) 9 1 0 (([] : List ByteArray).flatMap eS), .box g2 Tb3 [.slice A4 n5 c6, .int .i64 x1.code]] : List Ent) := sels [1, 0] rfl
  show rpc_Buffer_Feed_R w F g2 Tb3 r (.returned (packV [.slice none 0 0, .int .i64 x1.code])) wr
  rw [h]
  exact ⟨none, 0, 0, A4, n5, c6, rfl, hMr, (Ow.nil (z := w.heap.size)), (hLr.outR (s := Sm w.heap.size F w [[g2]]) hMi (me 0 rfl) Sm.ok h7)⟩
noncomputable abbrev q12c0 : Code := bodyOf Try.f12
noncomputable abbrev q12c1 : Code := Code.fst q12c0
noncomputable abbrev q12c2 : Code := Code.snd q12c0
noncomputable abbrev q12c3 : Code := Code.fst q12c2
noncomputable abbrev q12c4 : Code := Code.snd q12c2
noncomputable abbrev q12c5 : Code := Code.fst q12c3
noncomputable abbrev q12c6 : Code := Code.snd q12c3
noncomputable abbrev q12c7 : Code := Code.fst q12c6
noncomputable abbrev q12c8 : Code := Code.snd q12c6
noncomputable abbrev q12c9 : Code := Code.fst q12c4
noncomputable abbrev q12c10 : Code := Code.snd q12c4
noncomputable abbrev q12c11 : Code := Code.fst q12c9
noncomputable abbrev q12c12 : Code := Code.snd q12c9
noncomputable abbrev q12c13 : Code := Code.fst q12c12
noncomputable abbrev q12c14 : Code := Code.fst q12c13
noncomputable abbrev q12c15 : Code := Code.fst q12c14
noncomputable abbrev q12c16 : Code := Code.snd q12c14
noncomputable abbrev q12c17 : Code := Code.fst q12c15
noncomputable abbrev q12c18 : Code := Code.snd q12c15
noncomputable abbrev q12c19 : Code := Code.fst q12c18
noncomputable abbrev q12c20 : Code := Code.snd q12c18
noncomputable abbrev q12c21 : Code := Code.fst q12c16
noncomputable abbrev q12c22 : Code := Code.snd q12c16
noncomputable abbrev q12c23 : Code := Code.fst q12c21
noncomputable abbrev q12c24 : Code := Code.fst q12c23
noncomputable abbrev q12c25 : Code := Code.snd q12c23
noncomputable abbrev q12c26 : Code := Code.fst q12c25
noncomputable abbrev q12c27 : Code := Code.snd q12c25
noncomputable abbrev q12c28 : Code := Code.fst q12c26
noncomputable abbrev q12c29 : Code := Code.snd q12c26
noncomputable abbrev q12c30 : Code := Code.fst q12c10
noncomputable abbrev q12c31 : Code := Code.snd q12c10
noncomputable abbrev q12c32 : Code := Code.fst q12c7
noncomputable abbrev q12c33 : Code := Code.snd q12c7
abbrev trellislaw26_sameTexts_R (w : World) (F : Nat → Prop) (r : Bool) : Ending → World → Prop := fun e w' => e = .returned (.bool r) ∧ B.Loc w w' [] [St w []]
noncomputable abbrev trellislaw26_sameTexts_C (w : World) (F : Nat → Prop) (r : Bool) : Cx := ⟨Try.prog, 12, Try.f12, 26, trellislaw26_sameTexts_R w F  r, w⟩
theorem trellislaw26_sameTexts_calls (w : World) (F : Nat → Prop) (x1 : List ByteArray) (x6 : List ByteArray) (A2 : Option Addr) (n3 : Nat) (c4 : Nat) (A7 : Option Addr) (n8 : Nat) (c9 : Nat) (h5 : Rw kStr w (St w []).av A2 n3 c4 x1) (h10 : Rw kStr w (St w []).av A7 n8 c9 x6) (hF : ∀ b, F b → b < w.heap.size ∧ ∀ o ∈ ([] : List (List Nat)), b ∉ o) (hL0 : B.Loc w w [] [Sm w.heap.size F w [], St w []]) (r : Bool) (h : trellislaw26_sameTexts x1 x6 r) : Calls Try.prog 12 #[.slice A2 n3 c4, .slice A7 n8 c9] w (trellislaw26_sameTexts_R w F  r) := by
 unfold trellislaw26_sameTexts at h
 refine calls_of_Loc (vs := [.slice A2 n3 c4, .slice A7 n8 c9]) 26 Try.func12 rfl Try.ntmps12 rfl hL0 ?_
 show G (trellislaw26_sameTexts_C w F r) _ _ _ _
 refine g_seq (c := q12c0) rfl ?_
 refine g_region (c := q12c1) rfl rfl ?_
 refine wl_v 0 rfl (v_assign rfl) gn rfl ?_
 refine w_end 1 rfl ?_
 refine g_seq (c := q12c2) rfl ?_
 refine g_seq (c := q12c3) rfl ?_
 refine g_region (c := q12c5) rfl rfl ?_
 refine wl_v 0 rfl (v_move rfl) gn rfl ?_
 refine wl_v 1 rfl (v_lenQ un_33 rfl h5.hq) gn rfl ?_
 refine wl_v 2 rfl (v_move rfl) gn rfl ?_
 refine wl_v 3 rfl (v_lenQ un_33 rfl h10.hq) gn rfl ?_
 refine wl_v 4 rfl (v_bin rfl rfl rfl) gn rfl ?_
 refine w_end 5 rfl ?_
 by_cases hp11 : (x1.length : Int) = (x6.length : Int)
 ·have h := if_pos' hp11 h
  refine g_false (c := q12c6) rfl _ rfl ((eqib hp11)) ?_
  refine g_skip (c := q12c8) rfl ?_
  refine g_seq (c := q12c4) rfl ?_
  refine g_seq (c := q12c9) rfl ?_
  refine g_region (c := q12c11) rfl rfl ?_
  refine wl_v 0 rfl (v_assign rfl) gn rfl ?_
  refine w_end 1 rfl ?_
  refine g_block (c := q12c12) rfl ?_
  refine g_loop (c := q12c13) rfl ?_
  have key1 : ∀ s, Rounds (fun (s : Int) o => trellislaw26_sameTexts_b1 x1 x6 s o) s r → (fun (s : Int) => ∀ (_ : Unit), G (trellislaw26_sameTexts_C w F r) [.code q12c14, .inLoop q12c14, .inBlock 0, .code q12c10] [(0, .slice A2 n3 c4), (1, .slice A7 n8 c9), (5, .int .i64 s)] [] [Sm w.heap.size F w [], St w []]) s := by
   intro s hs
   refine Rounds.ind (mot := (fun (s : Int) => ∀ (_ : Unit), G (trellislaw26_sameTexts_C w F r) [.code q12c14, .inLoop q12c14, .inBlock 0, .code q12c10] [(0, .slice A2 n3 c4), (1, .slice A7 n8 c9), (5, .int .i64 s)] [] [Sm w.heap.size F w [], St w []])) ?_ hs
   clear hs s
   intro x23 o1 h hO1
   show ∀ (_ : Unit), G (trellislaw26_sameTexts_C w F r) [.code q12c14, .inLoop q12c14, .inBlock 0, .code q12c10] [(0, .slice A2 n3 c4), (1, .slice A7 n8 c9), (5, .int .i64 x23)] [] [Sm w.heap.size F w [], St w []]
   intro _
   have h : trellislaw26_sameTexts_b1 x1 x6 x23 o1 := h
   unfold trellislaw26_sameTexts_b1 at h
   refine g_seq (c := q12c14) rfl ?_
   refine g_seq (c := q12c15) rfl ?_
   refine g_region (c := q12c17) rfl rfl ?_
   refine wl_v 0 rfl (v_move rfl) gn rfl ?_
   refine wl_v 1 rfl (v_move rfl) gn rfl ?_
   refine wl_v 2 rfl (v_lenQ un_33 rfl h5.hq) gn rfl ?_
   refine wl_v 3 rfl (v_bin rfl rfl rfl) gn rfl ?_
   refine w_end 4 rfl ?_
   by_cases hp34 : x23 < (x1.length : Int)
   ·have h := if_pos' hp34 h
    refine g_true (c := q12c18) rfl _ rfl ((decide_eq_true hp34)) ?_
    refine g_skip (c := q12c19) rfl ?_
    refine g_seq (c := q12c16) rfl ?_
    refine g_block (c := q12c21) rfl ?_
    refine g_seq (c := q12c23) rfl ?_
    obtain ⟨hb35, h⟩ := h
    obtain ⟨hb37, h⟩ := h
    have hns : Region.noSelect (Code.ops q12c24) = true := by kernel_rfl
    refine g_drawF (c := q12c24) [] [Sm w.heap.size F w [], St w []] [] 9 rfl rfl mix rfl (.slnil) (sels [0, 1] rfl) ?_
    refine wfv 0 rfl (v_move rfl) gn hns rfl ?_
    refine wfv 1 rfl (v_move rfl) gn hns rfl ?_
    have hr41 := Rw.readF (s := St w []) (hl := hlS) (h1 := hone_str) h5 hb35
    refine wfv 2 rfl (v_idxR (s := St w []) slE_33 rfl rfl h5 hb35) gn hns rfl ?_
    refine wfv 3 rfl (v_ldA1 (kk := (x23 : Int).toNat * 1) (j := 0) (St w []) ld_9 rfl hr41 rfl (me 1 rfl)) gn hns rfl ?_
    refine wfv 4 rfl (v_move rfl) gn hns rfl ?_
    refine wfv 5 rfl (v_move rfl) gn hns rfl ?_
    have hr42 := Rw.readF (s := St w []) (hl := hlS) (h1 := hone_str) h10 hb37
    refine wfv 6 rfl (v_idxR (s := St w []) slE_33 rfl rfl h10 hb37) gn hns rfl ?_
    refine wfv 7 rfl (v_ldA1 (kk := (x23 : Int).toNat * 1) (j := 0) (St w []) ld_9 rfl hr42 rfl (me 1 rfl)) gn hns rfl ?_
    refine wfv 8 rfl (v_neS rfl rfl) gn hns rfl ?_
    refine wf_end (by kernel_rfl) ?_
    by_cases hp43 : ix x1 x23 = ix x6 x23
    ·have h := if_pos' hp43 h
     refine g_false (c := q12c25) rfl _ rfl ((nf (seq_t hp43))) ?_
     refine g_skip (c := q12c27) rfl ?_
     refine g_inBlock ?_
     refine g_region (c := q12c22) rfl rfl ?_
     refine wl_v 0 rfl (v_move rfl) gn rfl ?_
     refine wl_v 1 rfl (v_bin rfl rfl rfl) gn rfl ?_
     refine wl_v 2 rfl (v_assign rfl) gn rfl ?_
     refine w_end 3 rfl ?_
     refine g_inLoop ?_
     have ih := Out.inl hO1 h
     exact g_go [0, 1] (ih ()) ⟨rfl, rfl, rfl, trivial⟩ (.slnil) rfl
    ·have h := if_neg' hp43 h
     refine g_true (c := q12c25) rfl _ rfl ((nt (seq_f hp43))) ?_
     refine g_seq (c := q12c26) rfl ?_
     refine g_region (c := q12c28) rfl rfl ?_
     refine wl_v 0 rfl (v_assign rfl) gn rfl ?_
     refine w_end 1 rfl ?_
     have h := Out.inr hO1 h
     refine g_retR (c := q12c29) [.bool false] rfl Try.func12 rfl (.tmp rfl (.nil)) fun wr hLr => ?_
     have hMr : B.Loc w wr [] [St w []] := hLr.pick0 (sels [1] rfl)
     show trellislaw26_sameTexts_R w F  r (.returned (packV [.bool false])) wr
     rw [h]
     exact ⟨rfl, hMr⟩
   ·have h := if_neg' hp34 h
    refine g_false (c := q12c18) rfl _ rfl ((decide_eq_false hp34)) ?_
    refine g_exit (c := q12c20) [.code q12c10] rfl rfl ?_
    refine g_seq (c := q12c10) rfl ?_
    refine g_region (c := q12c30) rfl rfl ?_
    refine wl_v 0 rfl (v_assign rfl) gn rfl ?_
    refine w_end 1 rfl ?_
    have h := Out.inr hO1 h
    refine g_retR (c := q12c31) [.bool true] rfl Try.func12 rfl (.tmp rfl (.nil)) fun wr hLr => ?_
    have hMr : B.Loc w wr [] [St w []] := hLr.pick0 (sels [1] rfl)
    show trellislaw26_sameTexts_R w F  r (.returned (packV [.bool true])) wr
    rw [h]
    exact ⟨rfl, hMr⟩
  exact g_go [0, 1] (key1 _ h ()) ⟨rfl, rfl, rfl, trivial⟩ (.slnil) rfl
 ·have h := if_neg' hp11 h
  refine g_true (c := q12c6) rfl _ rfl ((neib hp11)) ?_
  refine g_seq (c := q12c7) rfl ?_
  refine g_region (c := q12c32) rfl rfl ?_
  refine wl_v 0 rfl (v_assign rfl) gn rfl ?_
  refine w_end 1 rfl ?_
  refine g_retR (c := q12c33) [.bool false] rfl Try.func12 rfl (.tmp rfl (.nil)) fun wr hLr => ?_
  have hMr : B.Loc w wr [] [St w []] := hLr.pick0 (sels [1] rfl)
  show trellislaw26_sameTexts_R w F  r (.returned (packV [.bool false])) wr
  rw [h]
  exact ⟨rfl, hMr⟩
noncomputable abbrev q6c0 : Code := bodyOf Try.f6
noncomputable abbrev q6c1 : Code := Code.fst q6c0
noncomputable abbrev q6c2 : Code := Code.snd q6c0
noncomputable abbrev q6c3 : Code := Code.fst q6c2
noncomputable abbrev q6c4 : Code := Code.snd q6c2
noncomputable abbrev q6c5 : Code := Code.fst q6c4
noncomputable abbrev q6c6 : Code := Code.snd q6c4
noncomputable abbrev q6c7 : Code := Code.fst q6c6
noncomputable abbrev q6c8 : Code := Code.snd q6c6
noncomputable abbrev q6c9 : Code := Code.fst q6c8
noncomputable abbrev q6c10 : Code := Code.snd q6c8
noncomputable abbrev q6c11 : Code := Code.fst q6c9
noncomputable abbrev q6c12 : Code := Code.snd q6c9
noncomputable abbrev q6c13 : Code := Code.fst q6c12
noncomputable abbrev q6c14 : Code := Code.snd q6c12
noncomputable abbrev q6c15 : Code := Code.fst q6c10
noncomputable abbrev q6c16 : Code := Code.snd q6c10
noncomputable abbrev q6c17 : Code := Code.fst q6c16
noncomputable abbrev q6c18 : Code := Code.snd q6c16
noncomputable abbrev q6c19 : Code := Code.fst q6c18
noncomputable abbrev q6c20 : Code := Code.snd q6c18
noncomputable abbrev q6c21 : Code := Code.fst q6c19
noncomputable abbrev q6c22 : Code := Code.snd q6c19
noncomputable abbrev q6c23 : Code := Code.fst q6c22
noncomputable abbrev q6c24 : Code := Code.snd q6c22
noncomputable abbrev q6c25 : Code := Code.fst q6c23
noncomputable abbrev q6c26 : Code := Code.snd q6c23
noncomputable abbrev q6c27 : Code := Code.fst q6c20
noncomputable abbrev q6c28 : Code := Code.snd q6c20
noncomputable abbrev q6c29 : Code := Code.fst q6c28
noncomputable abbrev q6c30 : Code := Code.snd q6c28
noncomputable abbrev q6c31 : Code := Code.fst q6c30
noncomputable abbrev q6c32 : Code := Code.snd q6c30
noncomputable abbrev q6c33 : Code := Code.fst q6c31
noncomputable abbrev q6c34 : Code := Code.snd q6c31
noncomputable abbrev q6c35 : Code := Code.fst q6c34
noncomputable abbrev q6c36 : Code := Code.fst q6c35
noncomputable abbrev q6c37 : Code := Code.fst q6c36
noncomputable abbrev q6c38 : Code := Code.snd q6c36
noncomputable abbrev q6c39 : Code := Code.fst q6c37
noncomputable abbrev q6c40 : Code := Code.snd q6c37
noncomputable abbrev q6c41 : Code := Code.fst q6c40
noncomputable abbrev q6c42 : Code := Code.snd q6c40
noncomputable abbrev q6c43 : Code := Code.fst q6c38
noncomputable abbrev q6c44 : Code := Code.snd q6c38
noncomputable abbrev q6c45 : Code := Code.fst q6c43
noncomputable abbrev q6c46 : Code := Code.fst q6c32
noncomputable abbrev q6c47 : Code := Code.snd q6c32
noncomputable abbrev q6c48 : Code := Code.fst q6c47
noncomputable abbrev q6c49 : Code := Code.snd q6c47
abbrev trellislaw26_apart_R (w : World) (F : Nat → Prop) (r : Bool) : Ending → World → Prop := fun e w' => e = .returned (.bool r) ∧ B.Loc w w' [] [St w []]
noncomputable abbrev trellislaw26_apart_C (w : World) (F : Nat → Prop) (r : Bool) : Cx := ⟨Try.prog, 6, Try.f6, 93, trellislaw26_apart_R w F  r, w⟩
theorem trellislaw26_apart_calls (w : World) (F : Nat → Prop)  (hF : ∀ b, F b → b < w.heap.size ∧ ∀ o ∈ ([] : List (List Nat)), b ∉ o) (hL0 : B.Loc w w [] [Sm w.heap.size F w [], St w []]) (r : Bool) (h : trellislaw26_apart  r) : Calls Try.prog 6 #[] w (trellislaw26_apart_R w F  r) := by
 unfold trellislaw26_apart at h
 refine calls_of_Loc (vs := []) 93 Try.func6 rfl Try.ntmps6 rfl hL0 ?_
 show G (trellislaw26_apart_C w F r) _ _ _ _
 refine g_seq (c := q6c0) rfl ?_
 refine g_region (c := q6c1) rfl rfl ?_
 refine wl_v 0 rfl (v_assign rfl) gn rfl ?_
 refine w_end 1 rfl ?_
 refine g_seq (c := q6c2) rfl ?_
 refine g_region (c := q6c3) rfl rfl ?_
 obtain ⟨r4, hv5, h⟩ := h
 refine wl_s 0 rfl (s_call [] rfl Try.func4 rfl rfl rfl fun w1 hL2 => ?_) gn
 have hp3 : List.Perm ([] : List Ent) (([] : List Ent) ++ ([] : List Ent)) := perm_of_idx [] [] rfl rfl (by kernel_rfl)
 refine Calls.mono (rpc_New_calls w1 (Fl ([] : List Snap)) (hL2.hFl (Sl := ([] : List Snap)) hp3 (sels [] rfl)) (hL2.into hp3 (Fl ([] : List Snap))) r4 hv5) ?_
 rintro _ w11 ⟨gb14, A6, n7, c8, rfl, hM12, h9⟩
 have hL13 := hL2.call hp3 hM12
 refine ⟨_, _, _, rfl, hL13, ?_⟩
 refine wl_v 1 rfl (v_assign rfl) gn rfl ?_
 refine w_end 2 rfl ?_
 refine g_seq (c := q6c4) rfl ?_
 refine g_region (c := q6c5) rfl rfl ?_
 obtain ⟨r19, hv20, h⟩ := h
 refine wl_s 0 rfl (s_call [.string (⟨#[97]⟩ : ByteArray)] rfl Try.func15 rfl rfl rfl fun w16 hL17 => ?_) gn
 have hp18 : List.Perm ([.box gb14 41 [.slice A6 n7 c8, .int .i64 r4.code], .own (.slice A6 n7 c8) 5 1 n7 (r4.wait.flatMap (eI .u8))] : List Ent) (([] : List Ent) ++ ([.box gb14 41 [.slice A6 n7 c8, .int .i64 r4.code], .own (.slice A6 n7 c8) 5 1 n7 (r4.wait.flatMap (eI .u8))] : List Ent)) := perm_of_idx [] [0, 1] rfl rfl (by kernel_rfl)
 refine Calls.mono (trellisref26_Put_calls w16 (Fl ([] : List Snap)) (⟨#[97]⟩ : ByteArray) (hL17.hFl (Sl := ([] : List Snap)) hp18 (sels [] rfl)) (hL17.into hp18 (Fl ([] : List Snap))) r19 hv20) ?_
 rintro _ w26 ⟨A21, n22, c23, rfl, hM27, h24⟩
 have hL28 := hL17.call hp18 hM27
 refine ⟨_, _, _, rfl, hL28, ?_⟩
 refine wl_v 1 rfl (v_move rfl) gn rfl ?_
 refine wl_v 2 rfl (v_extract rfl rfl) gn rfl ?_
 refine wl_v 3 rfl (v_extract rfl rfl) gn rfl ?_
 refine wl_v 4 rfl (v_assign rfl) gn rfl ?_
 refine wl_v 5 rfl (v_assign rfl) gn rfl ?_
 refine w_end 6 rfl ?_
 refine g_seq (c := q6c6) rfl ?_
 refine g_region (c := q6c7) rfl rfl ?_
 obtain ⟨r32, hv33, h⟩ := h
 refine wl_s 0 rfl (s_call [.string (⟨#[98, 99]⟩ : ByteArray)] rfl Try.func15 rfl rfl rfl fun w29 hL30 => ?_) gn
 have hp31 : List.Perm ([.own (.slice A21 n22 c23) 5 1 n22 (r19.1.flatMap (eI .u8)), .box gb14 41 [.slice A6 n7 c8, .int .i64 r4.code], .own (.slice A6 n7 c8) 5 1 n7 (r4.wait.flatMap (eI .u8))] : List Ent) (([] : List Ent) ++ ([.own (.slice A21 n22 c23) 5 1 n22 (r19.1.flatMap (eI .u8)), .box gb14 41 [.slice A6 n7 c8, .int .i64 r4.code], .own (.slice A6 n7 c8) 5 1 n7 (r4.wait.flatMap (eI .u8))] : List Ent)) := perm_of_idx [] [0, 1, 2] rfl rfl (by kernel_rfl)
 refine Calls.mono (trellisref26_Put_calls w29 (Fl ([] : List Snap)) (⟨#[98, 99]⟩ : ByteArray) (hL30.hFl (Sl := ([] : List Snap)) hp31 (sels [] rfl)) (hL30.into hp31 (Fl ([] : List Snap))) r32 hv33) ?_
 rintro _ w39 ⟨A34, n35, c36, rfl, hM40, h37⟩
 have hL41 := hL30.call hp31 hM40
 refine ⟨_, _, _, rfl, hL41, ?_⟩
 refine wl_v 1 rfl (v_move rfl) gn rfl ?_
 refine wl_v 2 rfl (v_extract rfl rfl) gn rfl ?_
 refine wl_v 3 rfl (v_extract rfl rfl) gn rfl ?_
 refine wl_v 4 rfl (v_assign rfl) gn rfl ?_
 refine wl_v 5 rfl (v_assign rfl) gn rfl ?_
 refine w_end 6 rfl ?_
 refine g_seq (c := q6c8) rfl ?_
 refine g_seq (c := q6c9) rfl ?_
 refine g_region (c := q6c11) rfl rfl ?_
 refine wl_v 0 rfl (v_move rfl) gn rfl ?_
 refine wl_v 1 rfl (v_eqNP un_23 rfl rfl) gn rfl ?_
 refine w_end 2 rfl ?_
 refine g_false (c := q6c12) rfl _ rfl (rfl) ?_
 refine g_skip (c := q6c14) rfl ?_
 refine g_seq (c := q6c10) rfl ?_
 refine g_region (c := q6c15) rfl rfl ?_
 refine wl_v 0 rfl (v_move rfl) gn rfl ?_
 refine wl_v 1 rfl (v_move rfl) gn rfl ?_
 obtain ⟨r48, hv49, h⟩ := h
 refine w_freeze (F := F) (dk := (kInt .u8)) (Sm w.heap.size F w []) 3 rfl (Ow.weak hL2.env.size h9) (me 0 rfl) Sm.ok (Cells.flat _) fun sw46 sb47 h45 => ?_
 refine wl_s 2 rfl (s_call [.pointer (some ⟨gb14, 0, none⟩), .slice A21 n22 c23] rfl Try.func11 rfl rfl rfl fun w42 hL43 => ?_) gn
 have hp44 : List.Perm ([.own (.slice A34 n35 c36) 5 1 n35 (r32.1.flatMap (eI .u8)), .own (.slice A21 n22 c23) 5 1 n22 (r19.1.flatMap (eI .u8)), .box gb14 41 [.slice A6 n7 c8, .int .i64 r4.code]] : List Ent) (([.box gb14 41 [.slice A6 n7 c8, .int .i64 r4.code]] : List Ent) ++ ([.own (.slice A34 n35 c36) 5 1 n35 (r32.1.flatMap (eI .u8)), .own (.slice A21 n22 c23) 5 1 n22 (r19.1.flatMap (eI .u8))] : List Ent)) := perm_of_idx [2] [0, 1] rfl rfl (by kernel_rfl)
 refine Calls.mono (rpc_Buffer_Feed_calls w42 (Fl ([Sm w.heap.size F sw46 sb47] : List Snap)) r4 r19.1 gb14 41 A6 n7 c8 A21 n22 c23 (Rw.mono h45 (hL43.toFl (me 0 rfl) (me 0 rfl))) (hL43.argO (dk := (kInt .u8)) hp44 [2] rfl 1 rfl rfl (Ow.weak hL17.env.size h24) (me 1 rfl) (Cells.flat _)) (hL43.hFl (Sl := ([Sm w.heap.size F sw46 sb47] : List Snap)) hp44 (sels [0] rfl)) (hL43.into hp44 (Fl ([Sm w.heap.size F sw46 sb47] : List Snap))) r48 hv49) ?_
 rintro _ w59 ⟨A50, n51, c52, A55, n56, c57, rfl, hM60, h53, h58⟩
 obtain ⟨sb63, hL61, hv62⟩ := hL43.callB (Sl := ([Sm w.heap.size F sw46 sb47] : List Snap)) hp44 hM60 F (sels [0] rfl) ⟨Sm.ok, trivial⟩
 have h58 : At (kInt .u8) (Sm w.heap.size F w59 sb63) A55 n56 c57 r48.2.2.wait := Rw.mono h58 hv62
 refine ⟨_, _, _, rfl, hL61, ?_⟩
 refine wl_v 3 rfl (v_move rfl) gn rfl ?_
 refine wl_v 4 rfl (v_extract rfl rfl) gn rfl ?_
 refine wl_v 5 rfl (v_extract rfl rfl) gn rfl ?_
 refine wl_v 6 rfl (v_assign rfl) gn rfl ?_
 refine wl_v 7 rfl (v_assign rfl) gn rfl ?_
 refine w_end 8 rfl ?_
 refine g_seq (c := q6c16) rfl ?_
 refine g_region (c := q6c17) rfl rfl ?_
 refine wl_v 0 rfl (v_move rfl) gn rfl ?_
 refine wl_s 1 rfl (s_litO (xs := ([] : List Int)) [] bs_27_0 rfl (by kernel_rfl) rfl rfl rfl rfl fun gb65 h66 => ?_) gn
 refine wl_v 2 rfl (v_move rfl) gn rfl ?_
 obtain ⟨x70, hv71, h⟩ := h
 obtain ⟨hb72, h⟩ := h
 refine wl_s 3 rfl (s_app (zs := x70) (cells' := x70.flatMap (eI .u8)) 0 ap_27 rfl rfl rfl h66 (Nat.le_refl _) (Src.ownF (hl := (hlI .u8)) (h1 := (hone_int .u8)) 3 rfl (Ow.weak hL30.env.size h37)) (by rw [hv71, List.flatMap_append] <;> rfl) (app_len hv71 (Ow.weak hL30.env.size h37).hq) hb72 rfl rfl fun A67 c68 h69 => ?_) gn
 refine wl_v 4 rfl (v_move rfl) gn rfl ?_
 obtain ⟨x76, hv77, h⟩ := h
 obtain ⟨hb78, h⟩ := h
 refine wl_s 5 rfl (s_app (zs := x76) (cells' := x76.flatMap (eI .u8)) 0 ap_27 rfl rfl rfl h69 (Nat.le_refl _) (Src.ownF (hl := (hlI .u8)) (h1 := (hone_int .u8)) 4 rfl (Ow.weak hL17.env.size h24)) (by rw [hv77, List.flatMap_append] <;> rfl) (app_len hv77 (Ow.weak hL17.env.size h24).hq) hb78 rfl rfl fun A73 c74 h75 => ?_) gn
 obtain ⟨r82, hv83, h⟩ := h
 refine wl_s 6 rfl (s_call [.pointer (some ⟨gb14, 0, none⟩), .slice A73 ((0 + n35) + n22) c74] rfl Try.func11 rfl rfl rfl fun w79 hL80 => ?_) gn
 have hp81 : List.Perm ([.own (.slice A73 ((0 + n35) + n22) c74) 5 1 ((0 + n35) + n22) (x76.flatMap (eI .u8)), .box gb14 41 [.slice A55 n56 c57, .int .i64 r48.2.2.code], .own (.slice A50 n51 c52) 9 1 n51 (r48.1.flatMap eS), .own (.slice A34 n35 c36) 5 1 n35 (r32.1.flatMap (eI .u8)), .own (.slice A21 n22 c23) 5 1 n22 (r19.1.flatMap (eI .u8))] : List Ent) (([.box gb14 41 [.slice A55 n56 c57, .int .i64 r48.2.2.code]] : List Ent) ++ ([.own (.slice A73 ((0 + n35) + n22) c74) 5 1 ((0 + n35) + n22) (x76.flatMap (eI .u8)), .own (.slice A50 n51 c52) 9 1 n51 (r48.1.flatMap eS), .own (.slice A34 n35 c36) 5 1 n35 (r32.1.flatMap (eI .u8)), .own (.slice A21 n22 c23) 5 1 n22 (r19.1.flatMap (eI .u8))] : List Ent)) := perm_of_idx [1] [0, 2, 3, 4] rfl rfl (by kernel_rfl)
 refine Calls.mono (rpc_Buffer_Feed_calls w79 (Fl ([Sm w.heap.size F w59 sb63] : List Snap)) r48.2.2 x76 gb14 41 A55 n56 c57 A73 ((0 + n35) + n22) c74 (Rw.mono h58 (hL80.toFl (me 0 rfl) (me 0 rfl))) (hL80.argO (dk := (kInt .u8)) hp81 [1] rfl 0 rfl rfl h75 (me 2 rfl) (Cells.flat _)) (hL80.hFl (Sl := ([Sm w.heap.size F w59 sb63] : List Snap)) hp81 (sels [0] rfl)) (hL80.into hp81 (Fl ([Sm w.heap.size F w59 sb63] : List Snap))) r82 hv83) ?_
 rintro _ w93 ⟨A84, n85, c86, A89, n90, c91, rfl, hM94, h87, h92⟩
 obtain ⟨sb97, hL95, hv96⟩ := hL80.callB (Sl := ([Sm w.heap.size F w59 sb63] : List Snap)) hp81 hM94 F (sels [0] rfl) ⟨Sm.ok, trivial⟩
 have h92 : At (kInt .u8) (Sm w.heap.size F w93 sb97) A89 n90 c91 r82.2.2.wait := Rw.mono h92 hv96
 refine ⟨_, _, _, rfl, hL95, ?_⟩
 refine wl_v 7 rfl (v_move rfl) gn rfl ?_
 refine wl_v 8 rfl (v_extract rfl rfl) gn rfl ?_
 refine wl_v 9 rfl (v_extract rfl rfl) gn rfl ?_
 refine wl_v 10 rfl (v_assign rfl) gn rfl ?_
 refine wl_v 11 rfl (v_assign rfl) gn rfl ?_
 refine w_end 12 rfl ?_
 refine g_seq (c := q6c18) rfl ?_
 refine g_seq (c := q6c19) rfl ?_
 have j1 : ∀ (x124 : Bool) (h : trellislaw26_apart_j1 r48 r82 r32 x124 r) , G (trellislaw26_apart_C w F r) [.code q6c22, .code q6c20] [(1, .pointer (some ⟨gb14, 0, none⟩)), (4, .slice A34 n35 c36), (6, .slice A50 n51 c52), (8, .slice A84 n85 c86), (58, .bool x124)] [.box gb14 41 [.slice A89 n90 c91, .int .i64 r82.2.2.code], .own (.slice A84 n85 c86) 9 1 n85 (r82.1.flatMap eS), .own (.slice A50 n51 c52) 9 1 n51 (r48.1.flatMap eS), .own (.slice A34 n35 c36) 5 1 n35 (r32.1.flatMap (eI .u8))] [Sm w.heap.size F w93 sb97, Sm w.heap.size F w59 sb63, Sm w.heap.size F sw46 sb47, Sm w.heap.size F w [], St w []] := by
  intro x124 h
  unfold trellislaw26_apart_j1 at h
  by_cases hp125 : x124 = true
  ·have h := if_pos' hp125 h
   refine g_true (c := q6c22) rfl _ rfl (hp125) ?_
   refine g_seq (c := q6c23) rfl ?_
   refine g_region (c := q6c25) rfl rfl ?_
   refine wl_v 0 rfl (v_assign rfl) gn rfl ?_
   refine w_end 1 rfl ?_
   refine g_retR (c := q6c26) [.bool false] rfl Try.func6 rfl (.tmp rfl (.nil)) fun wr hLr => ?_
   have hMr : B.Loc w wr [] [St w []] := hLr.pick0 (sels [4] rfl)
   show trellislaw26_apart_R w F  r (.returned (packV [.bool false])) wr
   rw [h]
   exact ⟨rfl, hMr⟩
  ·have h := if_neg' hp125 h
   refine g_false (c := q6c22) rfl _ rfl ((bf hp125)) ?_
   refine g_skip (c := q6c24) rfl ?_
   refine g_seq (c := q6c20) rfl ?_
   refine g_region (c := q6c27) rfl rfl ?_
   refine wl_v 0 rfl (v_move rfl) gn rfl ?_
   obtain ⟨hb126, h⟩ := h
   refine wl_v 1 rfl (v_idxO slE_33 rfl rfl (Ow.weak hL43.env.size h53) hb126) gn rfl ?_
   obtain ⟨x127, hv128, h⟩ := h
   refine wl_s 2 rfl (s_stF (enc := eS) (o := 0) (z := (⟨#[115, 112, 111, 105, 108, 116]⟩ : ByteArray)) (vs := [.string (⟨#[115, 112, 111, 105, 108, 116]⟩ : ByteArray)]) (i := 0) 2 hlS sz_9 rfl rfl rfl rfl rfl (Ow.weak hL43.env.size h53) hb126 rfl rfl rfl hv128 fun h129 => ?_) gn
   refine w_end 3 rfl ?_
   refine g_seq (c := q6c28) rfl ?_
   refine g_region (c := q6c29) rfl rfl ?_
   refine wl_v 0 rfl (v_move rfl) gn rfl ?_
   refine wl_v 1 rfl (v_assign rfl) gn rfl ?_
   refine w_end 2 rfl ?_
   refine g_seq (c := q6c30) rfl ?_
   refine g_seq (c := q6c31) rfl ?_
   refine g_region (c := q6c33) rfl rfl ?_
   refine wl_v 0 rfl (v_assign rfl) gn rfl ?_
   refine w_end 1 rfl ?_
   refine g_block (c := q6c34) rfl ?_
   refine g_loop (c := q6c35) rfl ?_
   have key2 : ∀ s, Rounds (fun (s : (List ByteArray) × Int) o => trellislaw26_apart_b2 r82 r32 x127 s.1 s.2 o) s r → (fun (s : (List ByteArray) × Int) => ∀ (A145 : Option Addr) (n146 : Nat) (c147 : Nat) (h148 : Ow w.heap.size A145 n146 c147 s.1) (h149 : Ow 0 A50 n51 c52 x127) (bs150 : List Nat) (p151 : World → Prop) (hE152 : Eld 9 1 A145 n146 c147 (s.1.flatMap eS) bs150 p151 A50 n51 (x127.flatMap eS)), G (trellislaw26_apart_C w F r) [.code q6c36, .inLoop q6c36, .inBlock 0, .code q6c32] [(1, .pointer (some ⟨gb14, 0, none⟩)), (4, .slice A34 n35 c36), (6, .slice A50 n51 c52), (8, .slice A84 n85 c86), (10, .slice A145 n146 c147), (11, .int .i64 s.2)] [.deep .nilIface bs150 p151, .box gb14 41 [.slice A89 n90 c91, .int .i64 r82.2.2.code], .own (.slice A84 n85 c86) 9 1 n85 (r82.1.flatMap eS), .own (.slice A145 n146 c147) 9 1 n146 (s.1.flatMap eS), .own (.slice A34 n35 c36) 5 1 n35 (r32.1.flatMap (eI .u8))] [Sm w.heap.size F w93 sb97, Sm w.heap.size F w59 sb63, Sm w.heap.size F sw46 sb47, Sm w.heap.size F w [], St w []]) s := by
    intro s hs
    refine Rounds.ind (mot := (fun (s : (List ByteArray) × Int) => ∀ (A145 : Option Addr) (n146 : Nat) (c147 : Nat) (h148 : Ow w.heap.size A145 n146 c147 s.1) (h149 : Ow 0 A50 n51 c52 x127) (bs150 : List Nat) (p151 : World → Prop) (hE152 : Eld 9 1 A145 n146 c147 (s.1.flatMap eS) bs150 p151 A50 n51 (x127.flatMap eS)), G (trellislaw26_apart_C w F r) [.code q6c36, .inLoop q6c36, .inBlock 0, .code q6c32] [(1, .pointer (some ⟨gb14, 0, none⟩)), (4, .slice A34 n35 c36), (6, .slice A50 n51 c52), (8, .slice A84 n85 c86), (10, .slice A145 n146 c147), (11, .int .i64 s.2)] [.deep .nilIface bs150 p151, .box gb14 41 [.slice A89 n90 c91, .int .i64 r82.2.2.code], .own (.slice A84 n85 c86) 9 1 n85 (r82.1.flatMap eS), .own (.slice A145 n146 c147) 9 1 n146 (s.1.flatMap eS), .own (.slice A34 n35 c36) 5 1 n35 (r32.1.flatMap (eI .u8))] [Sm w.heap.size F w93 sb97, Sm w.heap.size F w59 sb63, Sm w.heap.size F sw46 sb47, Sm w.heap.size F w [], St w []])) ?_ hs
    clear hs s
    intro s o1 h hO1
    obtain ⟨x144, x153⟩ := s
    show ∀ (A145 : Option Addr) (n146 : Nat) (c147 : Nat) (h148 : Ow w.heap.size A145 n146 c147 x144) (h149 : Ow 0 A50 n51 c52 x127) (bs150 : List Nat) (p151 : World → Prop) (hE152 : Eld 9 1 A145 n146 c147 (x144.flatMap eS) bs150 p151 A50 n51 (x127.flatMap eS)), G (trellislaw26_apart_C w F r) [.code q6c36, .inLoop q6c36, .inBlock 0, .code q6c32] [(1, .pointer (some ⟨gb14, 0, none⟩)), (4, .slice A34 n35 c36), (6, .slice A50 n51 c52), (8, .slice A84 n85 c86), (10, .slice A145 n146 c147), (11, .int .i64 x153)] [.deep .nilIface bs150 p151, .box gb14 41 [.slice A89 n90 c91, .int .i64 r82.2.2.code], .own (.slice A84 n85 c86) 9 1 n85 (r82.1.flatMap eS), .own (.slice A145 n146 c147) 9 1 n146 (x144.flatMap eS), .own (.slice A34 n35 c36) 5 1 n35 (r32.1.flatMap (eI .u8))] [Sm w.heap.size F w93 sb97, Sm w.heap.size F w59 sb63, Sm w.heap.size F sw46 sb47, Sm w.heap.size F w [], St w []]
    intro A145 n146 c147 h148 h149 bs150 p151 hE152
    have h : trellislaw26_apart_b2 r82 r32 x127 x144 x153 o1 := h
    unfold trellislaw26_apart_b2 at h
    refine g_seq (c := q6c36) rfl ?_
    refine g_seq (c := q6c37) rfl ?_
    refine g_region (c := q6c39) rfl rfl ?_
    refine wl_v 0 rfl (v_move rfl) gn rfl ?_
    refine wl_v 1 rfl (v_bin rfl rfl rfl) gn rfl ?_
    refine w_end 2 rfl ?_
    by_cases hp222 : x153 < 70
    ·have h := if_pos' hp222 h
     refine g_true (c := q6c40) rfl _ rfl ((decide_eq_true hp222)) ?_
     refine g_skip (c := q6c41) rfl ?_
     refine g_seq (c := q6c38) rfl ?_
     refine g_block (c := q6c43) rfl ?_
     refine g_region (c := q6c45) rfl rfl ?_
     refine wl_v 0 rfl (v_move rfl) gn rfl ?_
     refine wl_s 1 rfl (s_litO (xs := ([(⟨#[109, 111, 114, 101]⟩ : ByteArray)] : List ByteArray)) [.string (⟨#[109, 111, 114, 101]⟩ : ByteArray)] bs_33_1 rfl (by kernel_rfl) rfl rfl rfl rfl fun gb224 h225 => ?_) gn
     obtain ⟨x232, hv233, h⟩ := h
     obtain ⟨hb234, h⟩ := h
     refine wl_s 2 rfl (s_appE (zs := x232) (cells' := x232.flatMap eS) 4 1 rfl ap_33 rfl rfl rfl rfl hE152 h148 (Nat.le_refl _) (Src.ownF (hl := hlS) (h1 := hone_str) 0 rfl h225) (by rw [hv233, List.flatMap_append] <;> rfl) (app_len hv233 h225.hq) hb234 rfl rfl fun A226 c227 bs229 p230 h228 hE231 => ?_) gn
     refine wl_v 3 rfl (v_assign rfl) gn rfl ?_
     refine w_end 4 rfl ?_
     refine g_inBlock ?_
     refine g_region (c := q6c44) rfl rfl ?_
     refine wl_v 0 rfl (v_move rfl) gn rfl ?_
     refine wl_v 1 rfl (v_bin rfl rfl rfl) gn rfl ?_
     refine wl_v 2 rfl (v_assign rfl) gn rfl ?_
     refine w_end 3 rfl ?_
     refine g_inLoop ?_
     have ih := Out.inl hO1 h
     exact g_go [0, 1, 2, 3, 4] (ih A226 (n146 + 1) c227 h228 h149 bs229 p230 hE231) ⟨rfl, rfl, rfl, rfl, rfl, rfl, trivial⟩ (.cons _ (.cons_cons _ (.cons_cons _ (.cons_cons _ (.cons_cons _ (.cons_cons _ (.slnil))))))) rfl
    ·have h := if_neg' hp222 h
     refine g_false (c := q6c40) rfl _ rfl ((decide_eq_false hp222)) ?_
     refine g_exit (c := q6c42) [.code q6c32] rfl rfl ?_
     refine g_seq (c := q6c32) rfl ?_
     refine g_region (c := q6c46) rfl rfl ?_
     refine wl_v 0 rfl (v_move rfl) gn rfl ?_
     refine wl_v 1 rfl (v_move rfl) gn rfl ?_
     obtain ⟨r238, hv239, h⟩ := h
     refine wl_s 2 rfl (s_call [.pointer (some ⟨gb14, 0, none⟩), .slice A34 n35 c36] rfl Try.func11 rfl rfl rfl fun w235 hL236 => ?_) gn
     have hp237 : List.Perm ([.deep .nilIface bs150 p151, .box gb14 41 [.slice A89 n90 c91, .int .i64 r82.2.2.code], .own (.slice A84 n85 c86) 9 1 n85 (r82.1.flatMap eS), .own (.slice A145 n146 c147) 9 1 n146 (x144.flatMap eS), .own (.slice A34 n35 c36) 5 1 n35 (r32.1.flatMap (eI .u8))] : List Ent) (([.box gb14 41 [.slice A89 n90 c91, .int .i64 r82.2.2.code]] : List Ent) ++ ([.deep .nilIface bs150 p151, .own (.slice A84 n85 c86) 9 1 n85 (r82.1.flatMap eS), .own (.slice A145 n146 c147) 9 1 n146 (x144.flatMap eS), .own (.slice A34 n35 c36) 5 1 n35 (r32.1.flatMap (eI .u8))] : List Ent)) := perm_of_idx [1] [0, 2, 3, 4] rfl rfl (by kernel_rfl)
     refine Calls.mono (rpc_Buffer_Feed_calls w235 (Fl ([Sm w.heap.size F w93 sb97] : List Snap)) r82.2.2 r32.1 gb14 41 A89 n90 c91 A34 n35 c36 (Rw.mono h92 (hL236.toFl (me 0 rfl) (me 0 rfl))) (hL236.argO (dk := (kInt .u8)) hp237 [1] rfl 4 rfl rfl (Ow.weak hL30.env.size h37) (me 3 rfl) (Cells.flat _)) (hL236.hFl (Sl := ([Sm w.heap.size F w93 sb97] : List Snap)) hp237 (sels [0] rfl)) (hL236.into hp237 (Fl ([Sm w.heap.size F w93 sb97] : List Snap))) r238 hv239) ?_
     rintro _ w249 ⟨A240, n241, c242, A245, n246, c247, rfl, hM250, h243, h248⟩
     obtain ⟨sb253, hL251, hv252⟩ := hL236.callB (Sl := ([Sm w.heap.size F w93 sb97] : List Snap)) hp237 hM250 F (sels [0] rfl) ⟨Sm.ok, trivial⟩
     have h248 : At (kInt .u8) (Sm w.heap.size F w249 sb253) A245 n246 c247 r238.2.2.wait := Rw.mono h248 hv252
     refine ⟨_, _, _, rfl, hL251, ?_⟩
     refine wl_v 3 rfl (v_move rfl) gn rfl ?_
     refine wl_v 4 rfl (v_extract rfl rfl) gn rfl ?_
     refine wl_v 5 rfl (v_extract rfl rfl) gn rfl ?_
     refine wl_v 6 rfl (v_assign rfl) gn rfl ?_
     refine wl_v 7 rfl (v_assign rfl) gn rfl ?_
     refine w_end 8 rfl ?_
     refine g_seq (c := q6c47) rfl ?_
     refine g_region (c := q6c48) rfl rfl ?_
     refine wl_v 0 rfl (v_move rfl) gn rfl ?_
     refine wl_s 1 rfl (s_litO (xs := ([(⟨#[98, 99]⟩ : ByteArray), (⟨#[97]⟩ : ByteArray)] : List ByteArray)) [.string (⟨#[98, 99]⟩ : ByteArray), .string (⟨#[97]⟩ : ByteArray)] bs_33_2 rfl (by kernel_rfl) rfl rfl rfl rfl fun gb255 h256 => ?_) gn
     obtain ⟨r260, hv261, h⟩ := h
     refine wl_s 2 rfl (s_call [.slice A84 n85 c86, .slice (some ⟨gb255, 0, none⟩) 2 2] rfl Try.func12 rfl rfl rfl fun w257 hL258 => ?_) gn
     have hp259 : List.Perm ([.own (.slice (some ⟨gb255, 0, none⟩) 2 2) 9 1 2 (([(⟨#[98, 99]⟩ : ByteArray), (⟨#[97]⟩ : ByteArray)] : List ByteArray).flatMap eS), .box gb14 41 [.slice A245 n246 c247, .int .i64 r238.2.2.code], .own (.slice A240 n241 c242) 9 1 n241 (r238.1.flatMap eS), .deep .nilIface bs150 p151, .own (.slice A84 n85 c86) 9 1 n85 (r82.1.flatMap eS), .own (.slice A145 n146 c147) 9 1 n146 (x144.flatMap eS), .own (.slice A34 n35 c36) 5 1 n35 (r32.1.flatMap (eI .u8))] : List Ent) (([] : List Ent) ++ ([.own (.slice (some ⟨gb255, 0, none⟩) 2 2) 9 1 2 (([(⟨#[98, 99]⟩ : ByteArray), (⟨#[97]⟩ : ByteArray)] : List ByteArray).flatMap eS), .box gb14 41 [.slice A245 n246 c247, .int .i64 r238.2.2.code], .own (.slice A240 n241 c242) 9 1 n241 (r238.1.flatMap eS), .deep .nilIface bs150 p151, .own (.slice A84 n85 c86) 9 1 n85 (r82.1.flatMap eS), .own (.slice A145 n146 c147) 9 1 n146 (x144.flatMap eS), .own (.slice A34 n35 c36) 5 1 n35 (r32.1.flatMap (eI .u8))] : List Ent)) := perm_of_idx [] [0, 1, 2, 3, 4, 5, 6] rfl rfl (by kernel_rfl)
     refine Calls.mono (trellislaw26_sameTexts_calls w257 (Fl ([] : List Snap)) r82.1 ([(⟨#[98, 99]⟩ : ByteArray), (⟨#[97]⟩ : ByteArray)] : List ByteArray) A84 n85 c86 (some ⟨gb255, 0, none⟩) 2 2 (hL258.argO (dk := kStr) hp259 [] rfl 4 rfl rfl (Ow.weak hL80.env.size h87) (me 4 rfl) (Cells.flat _)) (hL258.argO (dk := kStr) hp259 [] rfl 0 rfl rfl h256 (me 4 rfl) (Cells.flat _)) (hL258.hFl (Sl := ([] : List Snap)) hp259 (sels [] rfl)) (hL258.into hp259 (Fl ([] : List Snap))) r260 hv261) ?_
     rintro _ w262 ⟨rfl, hM263⟩
     have hL264 := hL258.call hp259 hM263
     refine ⟨_, _, _, rfl, hL264, ?_⟩
     refine wl_v 3 rfl (v_move rfl) gn rfl ?_
     by_cases hp265 : r260 = true
     ·have h := if_pos' hp265 h
      refine w_bool 78 rfl (hp265) ?_
      refine wl_v 4 rfl (v_move rfl) (gy 78 rfl rfl) rfl ?_
      refine wl_s 5 rfl (s_litO (xs := ([(⟨#[98, 99]⟩ : ByteArray)] : List ByteArray)) [.string (⟨#[98, 99]⟩ : ByteArray)] bs_33_1 rfl (by kernel_rfl) rfl rfl rfl rfl fun gb267 h268 => ?_) (gy 78 rfl rfl)
      obtain ⟨r272, hv273, h⟩ := h
      refine wl_s 6 rfl (s_call [.slice A240 n241 c242, .slice (some ⟨gb267, 0, none⟩) 1 1] rfl Try.func12 rfl rfl rfl fun w269 hL270 => ?_) (gy 78 rfl rfl)
      have hp271 : List.Perm ([.own (.slice (some ⟨gb267, 0, none⟩) 1 1) 9 1 1 (([(⟨#[98, 99]⟩ : ByteArray)] : List ByteArray).flatMap eS), .own (.slice (some ⟨gb255, 0, none⟩) 2 2) 9 1 2 (([(⟨#[98, 99]⟩ : ByteArray), (⟨#[97]⟩ : ByteArray)] : List ByteArray).flatMap eS), .box gb14 41 [.slice A245 n246 c247, .int .i64 r238.2.2.code], .own (.slice A240 n241 c242) 9 1 n241 (r238.1.flatMap eS), .deep .nilIface bs150 p151, .own (.slice A84 n85 c86) 9 1 n85 (r82.1.flatMap eS), .own (.slice A145 n146 c147) 9 1 n146 (x144.flatMap eS), .own (.slice A34 n35 c36) 5 1 n35 (r32.1.flatMap (eI .u8))] : List Ent) (([] : List Ent) ++ ([.own (.slice (some ⟨gb267, 0, none⟩) 1 1) 9 1 1 (([(⟨#[98, 99]⟩ : ByteArray)] : List ByteArray).flatMap eS), .own (.slice (some ⟨gb255, 0, none⟩) 2 2) 9 1 2 (([(⟨#[98, 99]⟩ : ByteArray), (⟨#[97]⟩ : ByteArray)] : List ByteArray).flatMap eS), .box gb14 41 [.slice A245 n246 c247, .int .i64 r238.2.2.code], .own (.slice A240 n241 c242) 9 1 n241 (r238.1.flatMap eS), .deep .nilIface bs150 p151, .own (.slice A84 n85 c86) 9 1 n85 (r82.1.flatMap eS), .own (.slice A145 n146 c147) 9 1 n146 (x144.flatMap eS), .own (.slice A34 n35 c36) 5 1 n35 (r32.1.flatMap (eI .u8))] : List Ent)) := perm_of_idx [] [0, 1, 2, 3, 4, 5, 6, 7] rfl rfl (by kernel_rfl)
      refine Calls.mono (trellislaw26_sameTexts_calls w269 (Fl ([] : List Snap)) r238.1 ([(⟨#[98, 99]⟩ : ByteArray)] : List ByteArray) A240 n241 c242 (some ⟨gb267, 0, none⟩) 1 1 (hL270.argO (dk := kStr) hp271 [] rfl 3 rfl rfl (Ow.weak hL236.env.size h243) (me 4 rfl) (Cells.flat _)) (hL270.argO (dk := kStr) hp271 [] rfl 0 rfl rfl h268 (me 4 rfl) (Cells.flat _)) (hL270.hFl (Sl := ([] : List Snap)) hp271 (sels [] rfl)) (hL270.into hp271 (Fl ([] : List Snap))) r272 hv273) ?_
      rintro _ w274 ⟨rfl, hM275⟩
      have hL276 := hL270.call hp271 hM275
      refine ⟨_, _, _, rfl, hL276, ?_⟩
      refine wl_v 7 rfl (v_pick (b := true) rfl rfl) gn rfl ?_
      refine wl_v 8 rfl (v_move rfl) gn rfl ?_
      by_cases hp277 : r272 = true
      ·have h := if_pos' hp277 h
       refine w_bool 83 rfl (hp277) ?_
       refine wl_v 9 rfl (v_move rfl) (gy 83 rfl rfl) rfl ?_
       refine wl_s 10 rfl (s_litO (xs := ([(⟨#[115, 112, 111, 105, 108, 116]⟩ : ByteArray)] : List ByteArray)) [.string (⟨#[115, 112, 111, 105, 108, 116]⟩ : ByteArray)] bs_33_1 rfl (by kernel_rfl) rfl rfl rfl rfl fun gb279 h280 => ?_) (gy 83 rfl rfl)
       obtain ⟨r284, hv285, h⟩ := h
       refine wl_s 11 rfl (s_call [.slice A50 n51 c52, .slice (some ⟨gb279, 0, none⟩) 1 1] rfl Try.func12 rfl rfl rfl fun w281 hL282 => ?_) (gy 83 rfl rfl)
       have hp283 : List.Perm ([.own (.slice (some ⟨gb279, 0, none⟩) 1 1) 9 1 1 (([(⟨#[115, 112, 111, 105, 108, 116]⟩ : ByteArray)] : List ByteArray).flatMap eS), .own (.slice (some ⟨gb267, 0, none⟩) 1 1) 9 1 1 (([(⟨#[98, 99]⟩ : ByteArray)] : List ByteArray).flatMap eS), .own (.slice (some ⟨gb255, 0, none⟩) 2 2) 9 1 2 (([(⟨#[98, 99]⟩ : ByteArray), (⟨#[97]⟩ : ByteArray)] : List ByteArray).flatMap eS), .box gb14 41 [.slice A245 n246 c247, .int .i64 r238.2.2.code], .own (.slice A240 n241 c242) 9 1 n241 (r238.1.flatMap eS), .deep .nilIface bs150 p151, .own (.slice A84 n85 c86) 9 1 n85 (r82.1.flatMap eS), .own (.slice A145 n146 c147) 9 1 n146 (x144.flatMap eS), .own (.slice A34 n35 c36) 5 1 n35 (r32.1.flatMap (eI .u8))] : List Ent) (([] : List Ent) ++ ([.own (.slice (some ⟨gb279, 0, none⟩) 1 1) 9 1 1 (([(⟨#[115, 112, 111, 105, 108, 116]⟩ : ByteArray)] : List ByteArray).flatMap eS), .own (.slice (some ⟨gb267, 0, none⟩) 1 1) 9 1 1 (([(⟨#[98, 99]⟩ : ByteArray)] : List ByteArray).flatMap eS), .own (.slice (some ⟨gb255, 0, none⟩) 2 2) 9 1 2 (([(⟨#[98, 99]⟩ : ByteArray), (⟨#[97]⟩ : ByteArray)] : List ByteArray).flatMap eS), .box gb14 41 [.slice A245 n246 c247, .int .i64 r238.2.2.code], .own (.slice A240 n241 c242) 9 1 n241 (r238.1.flatMap eS), .deep .nilIface bs150 p151, .own (.slice A84 n85 c86) 9 1 n85 (r82.1.flatMap eS), .own (.slice A145 n146 c147) 9 1 n146 (x144.flatMap eS), .own (.slice A34 n35 c36) 5 1 n35 (r32.1.flatMap (eI .u8))] : List Ent)) := perm_of_idx [] [0, 1, 2, 3, 4, 5, 6, 7, 8] rfl rfl (by kernel_rfl)
       refine Calls.mono (trellislaw26_sameTexts_calls w281 (Fl ([] : List Snap)) x127 ([(⟨#[115, 112, 111, 105, 108, 116]⟩ : ByteArray)] : List ByteArray) A50 n51 c52 (some ⟨gb279, 0, none⟩) 1 1 (hL282.argE (hl := hlS) (h1 := hone_str) hp283 [] rfl 7 5 rfl rfl rfl rfl hE152 h149) (hL282.argO (dk := kStr) hp283 [] rfl 0 rfl rfl h280 (me 4 rfl) (Cells.flat _)) (hL282.hFl (Sl := ([] : List Snap)) hp283 (sels [] rfl)) (hL282.into hp283 (Fl ([] : List Snap))) r284 hv285) ?_
       rintro _ w286 ⟨rfl, hM287⟩
       have hL288 := hL282.call hp283 hM287
       refine ⟨_, _, _, rfl, hL288, ?_⟩
       refine wl_v 12 rfl (v_pick (b := true) rfl rfl) gn rfl ?_
       refine wl_v 13 rfl (v_move rfl) gn rfl ?_
       by_cases hp289 : r284 = true
       ·have h := if_pos' hp289 h
        refine w_bool 88 rfl (hp289) ?_
        refine wl_v 14 rfl (v_move rfl) (gy 88 rfl rfl) rfl ?_
        refine wl_v 15 rfl (v_lenQ un_33 rfl h148.hq) (gy 88 rfl rfl) rfl ?_
        refine wl_v 16 rfl (v_bin rfl rfl rfl) (gy 88 rfl rfl) rfl ?_
        refine wl_v 17 rfl (v_pick (b := true) rfl rfl) gn rfl ?_
        refine wl_v 18 rfl (v_assign rfl) gn rfl ?_
        refine w_end 19 rfl ?_
        have h := Out.inr hO1 h
        refine g_retR (c := q6c49) [.bool ((x144.length : Int) == 71)] rfl Try.func6 rfl (.tmp rfl (.nil)) fun wr hLr => ?_
        have hMr : B.Loc w wr [] [St w []] := hLr.pick0 (sels [5] rfl)
        show trellislaw26_apart_R w F  r (.returned (packV [.bool ((x144.length : Int) == 71)])) wr
        rw [h]
        exact ⟨rfl, hMr⟩
       ·have h := if_neg' hp289 h
        refine w_bool 88 rfl ((bf hp289)) ?_
        refine wl_pass 14 rfl (ps 88 rfl rfl rfl) ?_
        refine wl_pass 15 rfl (ps 88 rfl rfl rfl) ?_
        refine wl_pass 16 rfl (ps 88 rfl rfl rfl) ?_
        refine wl_v 17 rfl (v_pick (b := false) rfl rfl) gn rfl ?_
        refine wl_v 18 rfl (v_assign rfl) gn rfl ?_
        refine w_end 19 rfl ?_
        have h := Out.inr hO1 h
        refine g_retR (c := q6c49) [.bool false] rfl Try.func6 rfl (.tmp rfl (.nil)) fun wr hLr => ?_
        have hMr : B.Loc w wr [] [St w []] := hLr.pick0 (sels [5] rfl)
        show trellislaw26_apart_R w F  r (.returned (packV [.bool false])) wr
        rw [h]
        exact ⟨rfl, hMr⟩
      ·have h := if_neg' hp277 h
       refine w_bool 83 rfl ((bf hp277)) ?_
       refine wl_pass 9 rfl (ps 83 rfl rfl rfl) ?_
       refine wl_pass 10 rfl (ps 83 rfl rfl rfl) ?_
       refine wl_pass 11 rfl (ps 83 rfl rfl rfl) ?_
       refine wl_v 12 rfl (v_pick (b := false) rfl rfl) gn rfl ?_
       refine wl_v 13 rfl (v_move rfl) gn rfl ?_
       refine wl_pass 14 rfl (ps 88 rfl rfl rfl) ?_
       refine wl_pass 15 rfl (ps 88 rfl rfl rfl) ?_
       refine wl_pass 16 rfl (ps 88 rfl rfl rfl) ?_
       refine wl_v 17 rfl (v_pick (b := false) rfl rfl) gn rfl ?_
       refine wl_v 18 rfl (v_assign rfl) gn rfl ?_
       refine w_end 19 rfl ?_
       have h := Out.inr hO1 h
       refine g_retR (c := q6c49) [.bool false] rfl Try.func6 rfl (.tmp rfl (.nil)) fun wr hLr => ?_
       have hMr : B.Loc w wr [] [St w []] := hLr.pick0 (sels [5] rfl)
       show trellislaw26_apart_R w F  r (.returned (packV [.bool false])) wr
       rw [h]
       exact ⟨rfl, hMr⟩
     ·have h := if_neg' hp265 h
      refine w_bool 78 rfl ((bf hp265)) ?_
      refine wl_pass 4 rfl (ps 78 rfl rfl rfl) ?_
      refine wl_pass 5 rfl (ps 78 rfl rfl rfl) ?_
      refine wl_pass 6 rfl (ps 78 rfl rfl rfl) ?_
      refine wl_v 7 rfl (v_pick (b := false) rfl rfl) gn rfl ?_
      refine wl_v 8 rfl (v_move rfl) gn rfl ?_
      refine wl_pass 9 rfl (ps 83 rfl rfl rfl) ?_
      refine wl_pass 10 rfl (ps 83 rfl rfl rfl) ?_
      refine wl_pass 11 rfl (ps 83 rfl rfl rfl) ?_
      refine wl_v 12 rfl (v_pick (b := false) rfl rfl) gn rfl ?_
      refine wl_v 13 rfl (v_move rfl) gn rfl ?_
      refine wl_pass 14 rfl (ps 88 rfl rfl rfl) ?_
      refine wl_pass 15 rfl (ps 88 rfl rfl rfl) ?_
      refine wl_pass 16 rfl (ps 88 rfl rfl rfl) ?_
      refine wl_v 17 rfl (v_pick (b := false) rfl rfl) gn rfl ?_
      refine wl_v 18 rfl (v_assign rfl) gn rfl ?_
      refine w_end 19 rfl ?_
      have h := Out.inr hO1 h
      refine g_retR (c := q6c49) [.bool false] rfl Try.func6 rfl (.tmp rfl (.nil)) fun wr hLr => ?_
      have hMr : B.Loc w wr [] [St w []] := hLr.pick0 (sels [5] rfl)
      show trellislaw26_apart_R w F  r (.returned (packV [.bool false])) wr
      rw [h]
      exact ⟨rfl, hMr⟩
   refine g_deep0 ?_
   exact g_go [0, 1, 2, 3, 4] (key2 _ h A50 n51 c52 h129 (Ow.any h129) [] (fun _ => True) Eld.self) ⟨rfl, rfl, rfl, rfl, rfl, rfl, trivial⟩ (.cons_cons _ (.cons_cons _ (.cons_cons _ (.cons_cons _ (.cons_cons _ (.slnil)))))) rfl
 refine g_region (c := q6c21) rfl rfl ?_
 refine wl_v 0 rfl (v_move rfl) gn rfl ?_
 refine wl_v 1 rfl (v_bin rfl rfl rfl) gn rfl ?_
 refine wl_v 2 rfl (v_move rfl) gn rfl ?_
 by_cases hp290 : r48.2.1 = 0
 ·have h := if_pos' hp290 h
  refine w_bool 43 rfl ((eqib hp290)) ?_
  refine wl_v 3 rfl (v_move rfl) (gy 43 rfl rfl) rfl ?_
  refine wl_v 4 rfl (v_bin rfl rfl rfl) (gy 43 rfl rfl) rfl ?_
  refine wl_v 5 rfl (v_pick (b := false) rfl rfl) gn rfl ?_
  refine wl_v 6 rfl (v_move rfl) gn rfl ?_
  by_cases hp291 : r82.2.1 = 0
  ·have h := if_pos' hp291 h
   refine w_bool 47 rfl ((eqib hp291)) ?_
   refine wl_v 7 rfl (v_move rfl) (gy 47 rfl rfl) rfl ?_
   refine wl_s 8 rfl (s_litO (xs := ([(⟨#[97]⟩ : ByteArray)] : List ByteArray)) [.string (⟨#[97]⟩ : ByteArray)] bs_33_1 rfl (by kernel_rfl) rfl rfl rfl rfl fun gb293 h294 => ?_) (gy 47 rfl rfl)
   obtain ⟨r298, hv299, h⟩ := h
   refine wl_s 9 rfl (s_call [.slice A50 n51 c52, .slice (some ⟨gb293, 0, none⟩) 1 1] rfl Try.func12 rfl rfl rfl fun w295 hL296 => ?_) (gy 47 rfl rfl)
   have hp297 : List.Perm ([.own (.slice (some ⟨gb293, 0, none⟩) 1 1) 9 1 1 (([(⟨#[97]⟩ : ByteArray)] : List ByteArray).flatMap eS), .box gb14 41 [.slice A89 n90 c91, .int .i64 r82.2.2.code], .own (.slice A84 n85 c86) 9 1 n85 (r82.1.flatMap eS), .own (.slice A73 ((0 + n35) + n22) c74) 5 1 ((0 + n35) + n22) (x76.flatMap (eI .u8)), .own (.slice A50 n51 c52) 9 1 n51 (r48.1.flatMap eS), .own (.slice A34 n35 c36) 5 1 n35 (r32.1.flatMap (eI .u8)), .own (.slice A21 n22 c23) 5 1 n22 (r19.1.flatMap (eI .u8))] : List Ent) (([] : List Ent) ++ ([.own (.slice (some ⟨gb293, 0, none⟩) 1 1) 9 1 1 (([(⟨#[97]⟩ : ByteArray)] : List ByteArray).flatMap eS), .box gb14 41 [.slice A89 n90 c91, .int .i64 r82.2.2.code], .own (.slice A84 n85 c86) 9 1 n85 (r82.1.flatMap eS), .own (.slice A73 ((0 + n35) + n22) c74) 5 1 ((0 + n35) + n22) (x76.flatMap (eI .u8)), .own (.slice A50 n51 c52) 9 1 n51 (r48.1.flatMap eS), .own (.slice A34 n35 c36) 5 1 n35 (r32.1.flatMap (eI .u8)), .own (.slice A21 n22 c23) 5 1 n22 (r19.1.flatMap (eI .u8))] : List Ent)) := perm_of_idx [] [0, 1, 2, 3, 4, 5, 6] rfl rfl (by kernel_rfl)
   refine Calls.mono (trellislaw26_sameTexts_calls w295 (Fl ([] : List Snap)) r48.1 ([(⟨#[97]⟩ : ByteArray)] : List ByteArray) A50 n51 c52 (some ⟨gb293, 0, none⟩) 1 1 (hL296.argO (dk := kStr) hp297 [] rfl 4 rfl rfl (Ow.weak hL43.env.size h53) (me 3 rfl) (Cells.flat _)) (hL296.argO (dk := kStr) hp297 [] rfl 0 rfl rfl h294 (me 3 rfl) (Cells.flat _)) (hL296.hFl (Sl := ([] : List Snap)) hp297 (sels [] rfl)) (hL296.into hp297 (Fl ([] : List Snap))) r298 hv299) ?_
   rintro _ w300 ⟨rfl, hM301⟩
   have hL302 := hL296.call hp297 hM301
   refine ⟨_, _, _, rfl, hL302, ?_⟩
   refine wl_v 10 rfl (v_not rfl) (gy 47 rfl rfl) rfl ?_
   refine wl_v 11 rfl (v_pick (b := false) rfl rfl) gn rfl ?_
   refine wl_v 12 rfl (v_move rfl) gn rfl ?_
   by_cases hp303 : r298 = true
   ·have h := if_pos' hp303 h
    refine w_bool 53 rfl ((nf hp303)) ?_
    refine wl_v 13 rfl (v_move rfl) (gy 53 rfl rfl) rfl ?_
    refine wl_s 14 rfl (s_litO (xs := ([(⟨#[98, 99]⟩ : ByteArray), (⟨#[97]⟩ : ByteArray)] : List ByteArray)) [.string (⟨#[98, 99]⟩ : ByteArray), .string (⟨#[97]⟩ : ByteArray)] bs_33_2 rfl (by kernel_rfl) rfl rfl rfl rfl fun gb305 h306 => ?_) (gy 53 rfl rfl)
    obtain ⟨r310, hv311, h⟩ := h
    refine wl_s 15 rfl (s_call [.slice A84 n85 c86, .slice (some ⟨gb305, 0, none⟩) 2 2] rfl Try.func12 rfl rfl rfl fun w307 hL308 => ?_) (gy 53 rfl rfl)
    have hp309 : List.Perm ([.own (.slice (some ⟨gb305, 0, none⟩) 2 2) 9 1 2 (([(⟨#[98, 99]⟩ : ByteArray), (⟨#[97]⟩ : ByteArray)] : List ByteArray).flatMap eS), .own (.slice (some ⟨gb293, 0, none⟩) 1 1) 9 1 1 (([(⟨#[97]⟩ : ByteArray)] : List ByteArray).flatMap eS), .box gb14 41 [.slice A89 n90 c91, .int .i64 r82.2.2.code], .own (.slice A84 n85 c86) 9 1 n85 (r82.1.flatMap eS), .own (.slice A73 ((0 + n35) + n22) c74) 5 1 ((0 + n35) + n22) (x76.flatMap (eI .u8)), .own (.slice A50 n51 c52) 9 1 n51 (r48.1.flatMap eS), .own (.slice A34 n35 c36) 5 1 n35 (r32.1.flatMap (eI .u8)), .own (.slice A21 n22 c23) 5 1 n22 (r19.1.flatMap (eI .u8))] : List Ent) (([] : List Ent) ++ ([.own (.slice (some ⟨gb305, 0, none⟩) 2 2) 9 1 2 (([(⟨#[98, 99]⟩ : ByteArray), (⟨#[97]⟩ : ByteArray)] : List ByteArray).flatMap eS), .own (.slice (some ⟨gb293, 0, none⟩) 1 1) 9 1 1 (([(⟨#[97]⟩ : ByteArray)] : List ByteArray).flatMap eS), .box gb14 41 [.slice A89 n90 c91, .int .i64 r82.2.2.code], .own (.slice A84 n85 c86) 9 1 n85 (r82.1.flatMap eS), .own (.slice A73 ((0 + n35) + n22) c74) 5 1 ((0 + n35) + n22) (x76.flatMap (eI .u8)), .own (.slice A50 n51 c52) 9 1 n51 (r48.1.flatMap eS), .own (.slice A34 n35 c36) 5 1 n35 (r32.1.flatMap (eI .u8)), .own (.slice A21 n22 c23) 5 1 n22 (r19.1.flatMap (eI .u8))] : List Ent)) := perm_of_idx [] [0, 1, 2, 3, 4, 5, 6, 7] rfl rfl (by kernel_rfl)
    refine Calls.mono (trellislaw26_sameTexts_calls w307 (Fl ([] : List Snap)) r82.1 ([(⟨#[98, 99]⟩ : ByteArray), (⟨#[97]⟩ : ByteArray)] : List ByteArray) A84 n85 c86 (some ⟨gb305, 0, none⟩) 2 2 (hL308.argO (dk := kStr) hp309 [] rfl 3 rfl rfl (Ow.weak hL80.env.size h87) (me 3 rfl) (Cells.flat _)) (hL308.argO (dk := kStr) hp309 [] rfl 0 rfl rfl h306 (me 3 rfl) (Cells.flat _)) (hL308.hFl (Sl := ([] : List Snap)) hp309 (sels [] rfl)) (hL308.into hp309 (Fl ([] : List Snap))) r310 hv311) ?_
    rintro _ w312 ⟨rfl, hM313⟩
    have hL314 := hL308.call hp309 hM313
    refine ⟨_, _, _, rfl, hL314, ?_⟩
    refine wl_v 16 rfl (v_not rfl) (gy 53 rfl rfl) rfl ?_
    refine wl_v 17 rfl (v_pick (b := false) rfl rfl) gn rfl ?_
    refine w_end 18 rfl ?_
    exact g_go [0, 1, 2, 3, 4] (j1 (!r310) h) ⟨rfl, rfl, rfl, rfl, rfl, trivial⟩ (.cons _ (.cons _ (.cons_cons _ (.cons_cons _ (.cons _ (.cons_cons _ (.cons_cons _ (.cons _ (.slnil))))))))) rfl
   ·have h := if_neg' hp303 h
    refine w_bool 53 rfl ((nt (bf hp303))) ?_
    refine wl_pass 13 rfl (ps 53 rfl rfl rfl) ?_
    refine wl_pass 14 rfl (ps 53 rfl rfl rfl) ?_
    refine wl_pass 15 rfl (ps 53 rfl rfl rfl) ?_
    refine wl_pass 16 rfl (ps 53 rfl rfl rfl) ?_
    refine wl_v 17 rfl (v_pick (b := true) rfl rfl) gn rfl ?_
    refine w_end 18 rfl ?_
    exact g_go [0, 1, 2, 3, 4] (j1 true h) ⟨rfl, rfl, rfl, rfl, rfl, trivial⟩ (.cons _ (.cons_cons _ (.cons_cons _ (.cons _ (.cons_cons _ (.cons_cons _ (.cons _ (.slnil)))))))) rfl
  ·have h := if_neg' hp291 h
   refine w_bool 47 rfl ((neib hp291)) ?_
   refine wl_pass 7 rfl (ps 47 rfl rfl rfl) ?_
   refine wl_pass 8 rfl (ps 47 rfl rfl rfl) ?_
   refine wl_pass 9 rfl (ps 47 rfl rfl rfl) ?_
   refine wl_pass 10 rfl (ps 47 rfl rfl rfl) ?_
   refine wl_v 11 rfl (v_pick (b := true) rfl rfl) gn rfl ?_
   refine wl_v 12 rfl (v_move rfl) gn rfl ?_
   refine wl_pass 13 rfl (ps 53 rfl rfl rfl) ?_
   refine wl_pass 14 rfl (ps 53 rfl rfl rfl) ?_
   refine wl_pass 15 rfl (ps 53 rfl rfl rfl) ?_
   refine wl_pass 16 rfl (ps 53 rfl rfl rfl) ?_
   refine wl_v 17 rfl (v_pick (b := true) rfl rfl) gn rfl ?_
   refine w_end 18 rfl ?_
   exact g_go [0, 1, 2, 3, 4] (j1 true h) ⟨rfl, rfl, rfl, rfl, rfl, trivial⟩ (.cons_cons _ (.cons_cons _ (.cons _ (.cons_cons _ (.cons_cons _ (.cons _ (.slnil))))))) rfl
 ·have h := if_neg' hp290 h
  refine w_bool 43 rfl ((neib hp290)) ?_
  refine wl_pass 3 rfl (ps 43 rfl rfl rfl) ?_
  refine wl_pass 4 rfl (ps 43 rfl rfl rfl) ?_
  refine wl_v 5 rfl (v_pick (b := true) rfl rfl) gn rfl ?_
  refine wl_v 6 rfl (v_move rfl) gn rfl ?_
  refine wl_pass 7 rfl (ps 47 rfl rfl rfl) ?_
  refine wl_pass 8 rfl (ps 47 rfl rfl rfl) ?_
  refine wl_pass 9 rfl (ps 47 rfl rfl rfl) ?_
  refine wl_pass 10 rfl (ps 47 rfl rfl rfl) ?_
  refine wl_v 11 rfl (v_pick (b := true) rfl rfl) gn rfl ?_
  refine wl_v 12 rfl (v_move rfl) gn rfl ?_
  refine wl_pass 13 rfl (ps 53 rfl rfl rfl) ?_
  refine wl_pass 14 rfl (ps 53 rfl rfl rfl) ?_
  refine wl_pass 15 rfl (ps 53 rfl rfl rfl) ?_
  refine wl_pass 16 rfl (ps 53 rfl rfl rfl) ?_
  refine wl_v 17 rfl (v_pick (b := true) rfl rfl) gn rfl ?_
  refine w_end 18 rfl ?_
  exact g_go [0, 1, 2, 3, 4] (j1 true h) ⟨rfl, rfl, rfl, rfl, rfl, trivial⟩ (.cons_cons _ (.cons_cons _ (.cons _ (.cons_cons _ (.cons_cons _ (.cons _ (.slnil))))))) rfl
noncomputable abbrev q7c0 : Code := bodyOf Try.f7
noncomputable abbrev q7c1 : Code := Code.fst q7c0
noncomputable abbrev q7c2 : Code := Code.snd q7c0
noncomputable abbrev q7c3 : Code := Code.fst q7c2
noncomputable abbrev q7c4 : Code := Code.snd q7c2
noncomputable abbrev q7c5 : Code := Code.fst q7c4
noncomputable abbrev q7c6 : Code := Code.snd q7c4
noncomputable abbrev q7c7 : Code := Code.fst q7c5
noncomputable abbrev q7c8 : Code := Code.snd q7c5
noncomputable abbrev q7c9 : Code := Code.fst q7c8
noncomputable abbrev q7c10 : Code := Code.fst q7c9
noncomputable abbrev q7c11 : Code := Code.fst q7c10
noncomputable abbrev q7c12 : Code := Code.snd q7c10
noncomputable abbrev q7c13 : Code := Code.fst q7c11
noncomputable abbrev q7c14 : Code := Code.snd q7c11
noncomputable abbrev q7c15 : Code := Code.fst q7c14
noncomputable abbrev q7c16 : Code := Code.snd q7c14
noncomputable abbrev q7c17 : Code := Code.fst q7c12
noncomputable abbrev q7c18 : Code := Code.snd q7c12
noncomputable abbrev q7c19 : Code := Code.fst q7c17
noncomputable abbrev q7c20 : Code := Code.fst q7c19
noncomputable abbrev q7c21 : Code := Code.snd q7c19
noncomputable abbrev q7c22 : Code := Code.fst q7c21
noncomputable abbrev q7c23 : Code := Code.snd q7c21
noncomputable abbrev q7c24 : Code := Code.fst q7c6
noncomputable abbrev q7c25 : Code := Code.snd q7c6
abbrev trellislaw26_room_R (w : World) (F : Nat → Prop) (r : List Int) : Ending → World → Prop := fun e w' => ∃ A0 : Option Addr, ∃ n0 : Nat, ∃ c0 : Nat, e = .returned (.slice A0 n0 c0) ∧ B.Loc w w' [.own (.slice A0 n0 c0) 5 1 n0 (r.flatMap (eI .u8))] [St w []] ∧ Ow w.heap.size A0 n0 c0 r
noncomputable abbrev trellislaw26_room_C (w : World) (F : Nat → Prop) (r : List Int) : Cx := ⟨Try.prog, 7, Try.f7, 26, trellislaw26_room_R w F  r, w⟩
theorem trellislaw26_room_calls (w : World) (F : Nat → Prop) (x1 : List (List Int)) (A2 : Option Addr) (n3 : Nat) (c4 : Nat) (h5 : Rw (Kd.slice (kInt .u8)) w (St w []).av A2 n3 c4 x1) (hF : ∀ b, F b → b < w.heap.size ∧ ∀ o ∈ ([] : List (List Nat)), b ∉ o) (hL0 : B.Loc w w [] [Sm w.heap.size F w [], St w []]) (r : List Int) (h : trellislaw26_room x1 r) : Calls Try.prog 7 #[.slice A2 n3 c4] w (trellislaw26_room_R w F  r) := by
 unfold trellislaw26_room at h
 refine calls_of_Loc (vs := [.slice A2 n3 c4]) 26 Try.func7 rfl Try.ntmps7 rfl hL0 ?_
 show G (trellislaw26_room_C w F r) _ _ _ _
 refine g_seq (c := q7c0) rfl ?_
 refine g_region (c := q7c1) rfl rfl ?_
 refine wl_v 0 rfl (v_assign rfl) gn rfl ?_
 refine w_end 1 rfl ?_
 refine g_seq (c := q7c2) rfl ?_
 refine g_region (c := q7c3) rfl rfl ?_
 refine wl_v 0 rfl (v_assign rfl) gn rfl ?_
 refine w_end 1 rfl ?_
 refine g_seq (c := q7c4) rfl ?_
 refine g_seq (c := q7c5) rfl ?_
 refine g_region (c := q7c7) rfl rfl ?_
 refine wl_v 0 rfl (v_assign rfl) gn rfl ?_
 refine w_end 1 rfl ?_
 refine g_block (c := q7c8) rfl ?_
 refine g_loop (c := q7c9) rfl ?_
 have key1 : ∀ s, Rounds (fun (s : Int × Int) o => trellislaw26_room_b1 x1 s.1 s.2 o) s r → (fun (s : Int × Int) => ∀ (_ : Unit), G (trellislaw26_room_C w F r) [.code q7c10, .inLoop q7c10, .inBlock 0, .code q7c6] [(0, .slice A2 n3 c4), (3, .int .i64 s.1), (4, .int .i64 s.2)] [] [Sm w.heap.size F w [], St w []]) s := by
  intro s hs
  refine Rounds.ind (mot := (fun (s : Int × Int) => ∀ (_ : Unit), G (trellislaw26_room_C w F r) [.code q7c10, .inLoop q7c10, .inBlock 0, .code q7c6] [(0, .slice A2 n3 c4), (3, .int .i64 s.1), (4, .int .i64 s.2)] [] [Sm w.heap.size F w [], St w []])) ?_ hs
  clear hs s
  intro s o1 h hO1
  obtain ⟨x30, x31⟩ := s
  show ∀ (_ : Unit), G (trellislaw26_room_C w F r) [.code q7c10, .inLoop q7c10, .inBlock 0, .code q7c6] [(0, .slice A2 n3 c4), (3, .int .i64 x30), (4, .int .i64 x31)] [] [Sm w.heap.size F w [], St w []]
  intro _
  have h : trellislaw26_room_b1 x1 x30 x31 o1 := h
  unfold trellislaw26_room_b1 at h
  refine g_seq (c := q7c10) rfl ?_
  refine g_seq (c := q7c11) rfl ?_
  refine g_region (c := q7c13) rfl rfl ?_
  refine wl_v 0 rfl (v_move rfl) gn rfl ?_
  refine wl_v 1 rfl (v_move rfl) gn rfl ?_
  refine wl_v 2 rfl (v_lenQ un_22 rfl h5.hq) gn rfl ?_
  refine wl_v 3 rfl (v_bin rfl rfl rfl) gn rfl ?_
  refine w_end 4 rfl ?_
  by_cases hp55 : x31 < (x1.length : Int)
  ·have h := if_pos' hp55 h
   refine g_true (c := q7c14) rfl _ rfl ((decide_eq_true hp55)) ?_
   refine g_skip (c := q7c15) rfl ?_
   refine g_seq (c := q7c12) rfl ?_
   refine g_block (c := q7c17) rfl ?_
   refine g_seq (c := q7c19) rfl ?_
   refine g_region (c := q7c20) rfl rfl ?_
   refine wl_v 0 rfl (v_move rfl) gn rfl ?_
   refine wl_v 1 rfl (v_move rfl) gn rfl ?_
   obtain ⟨hb56, h⟩ := h
   obtain ⟨ce58, hK59, hr57⟩ := Rw.read (s := St w []) h5 hb56
   obtain ⟨A60, n61, c62, rfl, h63⟩ := hK59
   refine wl_v 2 rfl (v_idxR (s := St w []) slE_22 rfl rfl h5 hb56) gn rfl ?_
   refine wl_v 3 rfl (v_ldA1 (kk := (x31 : Int).toNat * 1) (j := 0) (St w []) ld_27 rfl hr57 rfl (me 1 rfl)) gn rfl ?_
   refine wl_v 4 rfl (v_lenQ un_27 rfl h63.hq) gn rfl ?_
   refine wl_v 5 rfl (v_move rfl) gn rfl ?_
   refine wl_v 6 rfl (v_bin rfl rfl rfl) gn rfl ?_
   refine w_end 7 rfl ?_
   by_cases hp64 : ((ix x1 x31).length : Int) > x30
   ·have h := if_pos' hp64 h
    refine g_true (c := q7c21) rfl _ rfl ((decide_eq_true hp64)) ?_
    refine g_region (c := q7c22) rfl rfl ?_
    refine wl_v 0 rfl (v_move rfl) gn rfl ?_
    refine wl_v 1 rfl (v_move rfl) gn rfl ?_
    obtain ⟨ce66, hK67, hr65⟩ := Rw.read (s := St w []) h5 hb56
    obtain ⟨A68, n69, c70, rfl, h71⟩ := hK67
    refine wl_v 2 rfl (v_idxR (s := St w []) slE_22 rfl rfl h5 hb56) gn rfl ?_
    refine wl_v 3 rfl (v_ldA1 (kk := (x31 : Int).toNat * 1) (j := 0) (St w []) ld_27 rfl hr65 rfl (me 1 rfl)) gn rfl ?_
    refine wl_v 4 rfl (v_lenQ un_27 rfl h71.hq) gn rfl ?_
    refine wl_v 5 rfl (v_assign rfl) gn rfl ?_
    refine w_end 6 rfl ?_
    refine g_inBlock ?_
    refine g_region (c := q7c18) rfl rfl ?_
    refine wl_v 0 rfl (v_move rfl) gn rfl ?_
    refine wl_v 1 rfl (v_bin rfl rfl rfl) gn rfl ?_
    refine wl_v 2 rfl (v_assign rfl) gn rfl ?_
    refine w_end 3 rfl ?_
    refine g_inLoop ?_
    have ih := Out.inl hO1 h
    exact g_go [0, 1] (ih ()) ⟨rfl, rfl, rfl, trivial⟩ (.slnil) rfl
   ·have h := if_neg' hp64 h
    refine g_false (c := q7c21) rfl _ rfl ((decide_eq_false hp64)) ?_
    refine g_skip (c := q7c23) rfl ?_
    refine g_inBlock ?_
    refine g_region (c := q7c18) rfl rfl ?_
    refine wl_v 0 rfl (v_move rfl) gn rfl ?_
    refine wl_v 1 rfl (v_bin rfl rfl rfl) gn rfl ?_
    refine wl_v 2 rfl (v_assign rfl) gn rfl ?_
    refine w_end 3 rfl ?_
    refine g_inLoop ?_
    have ih := Out.inl hO1 h
    exact g_go [0, 1] (ih ()) ⟨rfl, rfl, rfl, trivial⟩ (.slnil) rfl
  ·have h := if_neg' hp55 h
   refine g_false (c := q7c14) rfl _ rfl ((decide_eq_false hp55)) ?_
   refine g_exit (c := q7c16) [.code q7c6] rfl rfl ?_
   refine g_seq (c := q7c6) rfl ?_
   refine g_region (c := q7c24) rfl rfl ?_
   refine wl_v 0 rfl (v_move rfl) gn rfl ?_
   refine wl_v 1 rfl (v_bin rfl rfl rfl) gn rfl ?_
   obtain ⟨hb72, h⟩ := h
   obtain ⟨x76, hv77, h⟩ := h
   refine wl_s 2 rfl (s_makeX (enc := (eI .u8)) (z := 0) mk_27 rfl (by decide) rfl rfl hb72.1 hb72.2 (by decide) hv77 rfl fun A73 h74 => ?_) gn
   refine wl_v 3 rfl (v_assign rfl) gn rfl ?_
   refine w_end 4 rfl ?_
   have h := Out.inr hO1 h
   refine g_retR (c := q7c25) [.slice A73 ((w64 (x30 + 64) : Int).toNat) ((w64 (x30 + 64) : Int).toNat)] rfl Try.func7 rfl (.tmp rfl (.nil)) fun wr hLr => ?_
   have hMr : B.Loc w wr [.own (.slice A73 ((w64 (x30 + 64) : Int).toNat) ((w64 (x30 + 64) : Int).toNat)) 5 1 ((w64 (x30 + 64) : Int).toNat) (x76.flatMap (eI .u8))] [St w []] := hLr.pick (rest := []) (perm_of_idx [0] [] rfl rfl (by kernel_rfl)) (sels [1] rfl)
   show trellislaw26_room_R w F  r (.returned (packV [.slice A73 ((w64 (x30 + 64) : Int).toNat) ((w64 (x30 + 64) : Int).toNat)])) wr
   rw [h]
   exact ⟨A73, (w64 (x30 + 64) : Int).toNat, (w64 (x30 + 64) : Int).toNat, rfl, hMr, h74⟩
 exact g_go [0, 1] (key1 _ h ()) ⟨rfl, rfl, rfl, trivial⟩ (.slnil) rfl
noncomputable abbrev q8c0 : Code := bodyOf Try.f8
noncomputable abbrev q8c1 : Code := Code.fst q8c0
noncomputable abbrev q8c2 : Code := Code.snd q8c0
noncomputable abbrev q8c3 : Code := Code.fst q8c2
noncomputable abbrev q8c4 : Code := Code.snd q8c2
abbrev trellisref26_New_R (w : World) (F : Nat → Prop) (r : trellisref26_Model) : Ending → World → Prop := fun e w' => ∃ gn0 : Nat, ∃ A0 : Option Addr, ∃ n0 : Nat, ∃ c0 : Nat, e = .returned (.pointer (some ⟨gn0, 0, none⟩)) ∧ B.Loc w w' [.box gn0 45 [.slice A0 n0 c0, .int .i64 r.code], .own (.slice A0 n0 c0) 5 1 n0 (r.b.flatMap (eI .u8))] [St w []] ∧ Ow w.heap.size A0 n0 c0 r.b
noncomputable abbrev trellisref26_New_C (w : World) (F : Nat → Prop) (r : trellisref26_Model) : Cx := ⟨Try.prog, 8, Try.f8, 3, trellisref26_New_R w F  r, w⟩
theorem trellisref26_New_calls (w : World) (F : Nat → Prop)  (hF : ∀ b, F b → b < w.heap.size ∧ ∀ o ∈ ([] : List (List Nat)), b ∉ o) (hL0 : B.Loc w w [] [Sm w.heap.size F w [], St w []]) (r : trellisref26_Model) (h : trellisref26_New  r) : Calls Try.prog 8 #[] w (trellisref26_New_R w F  r) := by
 unfold trellisref26_New at h
 refine calls_of_Loc (vs := []) 3 Try.func8 rfl Try.ntmps8 rfl hL0 ?_
 show G (trellisref26_New_C w F r) _ _ _ _
 refine g_seq (c := q8c0) rfl ?_
 refine g_region (c := q8c1) rfl rfl ?_
 refine wl_v 0 rfl (v_assign rfl) gn rfl ?_
 refine w_end 1 rfl ?_
 refine g_seq (c := q8c2) rfl ?_
 refine g_region (c := q8c3) rfl rfl ?_
 refine wl_v 0 rfl (v_build #[.slice none 0 0, .int .i64 0] bd_45 rfl (by kernel_rfl)) gn rfl ?_
 refine wl_s 1 rfl (s_box [.slice none 0 0, .int .i64 0] rfl rfl rfl fun gb1 => ?_) gn
 refine wl_v 2 rfl (v_assign rfl) gn rfl ?_
 refine w_end 3 rfl ?_
 refine g_nil 5 1 ?_
 refine g_retR (c := q8c4) [.pointer (some ⟨gb1, 0, none⟩)] rfl Try.func8 rfl (.tmp rfl (.nil)) fun wr hLr => ?_
 have hMr : B.Loc w wr [.box gb1 45 [.slice none 0 0, .int .i64 0], .own (.slice none 0 0) 5 1 0 (([] : List Int).flatMap (eI .u8))] [St w []] := hLr.pick (rest := []) (perm_of_idx [1, 0] [] rfl rfl (by kernel_rfl)) (sels [1] rfl)
 show trellisref26_New_R w F  r (.returned (packV [.pointer (some ⟨gb1, 0, none⟩)])) wr
 rw [h]
 exact ⟨gb1, none, 0, 0, rfl, hMr, (Ow.nil (z := w.heap.size))⟩
noncomputable abbrev q9c0 : Code := bodyOf Try.f9
noncomputable abbrev q9c1 : Code := Code.fst q9c0
noncomputable abbrev q9c2 : Code := Code.snd q9c0
noncomputable abbrev q9c3 : Code := Code.fst q9c2
noncomputable abbrev q9c4 : Code := Code.snd q9c2
noncomputable abbrev q9c5 : Code := Code.fst q9c4
noncomputable abbrev q9c6 : Code := Code.snd q9c4
noncomputable abbrev q9c7 : Code := Code.fst q9c5
noncomputable abbrev q9c8 : Code := Code.snd q9c5
noncomputable abbrev q9c9 : Code := Code.fst q9c8
noncomputable abbrev q9c10 : Code := Code.fst q9c9
noncomputable abbrev q9c11 : Code := Code.fst q9c10
noncomputable abbrev q9c12 : Code := Code.snd q9c10
noncomputable abbrev q9c13 : Code := Code.fst q9c11
noncomputable abbrev q9c14 : Code := Code.snd q9c11
noncomputable abbrev q9c15 : Code := Code.fst q9c14
noncomputable abbrev q9c16 : Code := Code.snd q9c14
noncomputable abbrev q9c17 : Code := Code.fst q9c12
noncomputable abbrev q9c18 : Code := Code.snd q9c12
noncomputable abbrev q9c19 : Code := Code.fst q9c17
noncomputable abbrev q9c20 : Code := Code.fst q9c6
noncomputable abbrev q9c21 : Code := Code.snd q9c6
noncomputable abbrev q9c22 : Code := Code.fst q9c20
noncomputable abbrev q9c23 : Code := Code.snd q9c20
noncomputable abbrev q9c24 : Code := Code.fst q9c23
noncomputable abbrev q9c25 : Code := Code.fst q9c24
noncomputable abbrev q9c26 : Code := Code.fst q9c25
noncomputable abbrev q9c27 : Code := Code.snd q9c25
noncomputable abbrev q9c28 : Code := Code.fst q9c26
noncomputable abbrev q9c29 : Code := Code.snd q9c26
noncomputable abbrev q9c30 : Code := Code.fst q9c29
noncomputable abbrev q9c31 : Code := Code.snd q9c29
noncomputable abbrev q9c32 : Code := Code.fst q9c27
noncomputable abbrev q9c33 : Code := Code.snd q9c27
noncomputable abbrev q9c34 : Code := Code.fst q9c32
noncomputable abbrev q9c35 : Code := Code.fst q9c21
noncomputable abbrev q9c36 : Code := Code.snd q9c21
abbrev trellislaw26_marked_R (w : World) (F : Nat → Prop) (r : List Int) : Ending → World → Prop := fun e w' => ∃ A0 : Option Addr, ∃ n0 : Nat, ∃ c0 : Nat, e = .returned (.slice A0 n0 c0) ∧ B.Loc w w' [.own (.slice A0 n0 c0) 5 1 n0 (r.flatMap (eI .u8))] [St w []] ∧ Ow w.heap.size A0 n0 c0 r
noncomputable abbrev trellislaw26_marked_C (w : World) (F : Nat → Prop) (r : List Int) : Cx := ⟨Try.prog, 9, Try.f9, 30, trellislaw26_marked_R w F  r, w⟩
theorem trellislaw26_marked_calls (w : World) (F : Nat → Prop) (x1 : List Int) (A2 : Option Addr) (n3 : Nat) (c4 : Nat) (h5 : Rw (kInt .u8) w (St w []).av A2 n3 c4 x1) (hF : ∀ b, F b → b < w.heap.size ∧ ∀ o ∈ ([] : List (List Nat)), b ∉ o) (hL0 : B.Loc w w [] [Sm w.heap.size F w [], St w []]) (r : List Int) (h : trellislaw26_marked x1 r) : Calls Try.prog 9 #[.slice A2 n3 c4] w (trellislaw26_marked_R w F  r) := by
 unfold trellislaw26_marked at h
 refine calls_of_Loc (vs := [.slice A2 n3 c4]) 30 Try.func9 rfl Try.ntmps9 rfl hL0 ?_
 show G (trellislaw26_marked_C w F r) _ _ _ _
 refine g_seq (c := q9c0) rfl ?_
 refine g_region (c := q9c1) rfl rfl ?_
 refine wl_v 0 rfl (v_assign rfl) gn rfl ?_
 refine w_end 1 rfl ?_
 refine g_seq (c := q9c2) rfl ?_
 refine g_region (c := q9c3) rfl rfl ?_
 refine wl_v 0 rfl (v_assign rfl) gn rfl ?_
 refine w_end 1 rfl ?_
 refine g_seq (c := q9c4) rfl ?_
 refine g_seq (c := q9c5) rfl ?_
 refine g_region (c := q9c7) rfl rfl ?_
 refine wl_v 0 rfl (v_assign rfl) gn rfl ?_
 refine w_end 1 rfl ?_
 refine g_block (c := q9c8) rfl ?_
 refine g_loop (c := q9c9) rfl ?_
 have key1 : ∀ s, Rounds (fun (s : (List Int) × Int) o => trellislaw26_marked_b1 x1 s.1 s.2 o) s r → (fun (s : (List Int) × Int) => ∀ (A58 : Option Addr) (n59 : Nat) (c60 : Nat) (h61 : Ow w.heap.size A58 n59 c60 s.1), G (trellislaw26_marked_C w F r) [.code q9c10, .inLoop q9c10, .inBlock 0, .code q9c6] [(0, .slice A2 n3 c4), (3, .slice A58 n59 c60), (4, .int .i64 s.2)] [.own (.slice A58 n59 c60) 5 1 n59 (s.1.flatMap (eI .u8))] [Sm w.heap.size F w [], St w []]) s := by
  intro s hs
  refine Rounds.ind (mot := (fun (s : (List Int) × Int) => ∀ (A58 : Option Addr) (n59 : Nat) (c60 : Nat) (h61 : Ow w.heap.size A58 n59 c60 s.1), G (trellislaw26_marked_C w F r) [.code q9c10, .inLoop q9c10, .inBlock 0, .code q9c6] [(0, .slice A2 n3 c4), (3, .slice A58 n59 c60), (4, .int .i64 s.2)] [.own (.slice A58 n59 c60) 5 1 n59 (s.1.flatMap (eI .u8))] [Sm w.heap.size F w [], St w []])) ?_ hs
  clear hs s
  intro s o1 h hO1
  obtain ⟨x57, x62⟩ := s
  show ∀ (A58 : Option Addr) (n59 : Nat) (c60 : Nat) (h61 : Ow w.heap.size A58 n59 c60 x57), G (trellislaw26_marked_C w F r) [.code q9c10, .inLoop q9c10, .inBlock 0, .code q9c6] [(0, .slice A2 n3 c4), (3, .slice A58 n59 c60), (4, .int .i64 x62)] [.own (.slice A58 n59 c60) 5 1 n59 (x57.flatMap (eI .u8))] [Sm w.heap.size F w [], St w []]
  intro A58 n59 c60 h61
  have h : trellislaw26_marked_b1 x1 x57 x62 o1 := h
  unfold trellislaw26_marked_b1 at h
  refine g_seq (c := q9c10) rfl ?_
  refine g_seq (c := q9c11) rfl ?_
  refine g_region (c := q9c13) rfl rfl ?_
  refine wl_v 0 rfl (v_move rfl) gn rfl ?_
  refine wl_v 1 rfl (v_move rfl) gn rfl ?_
  refine wl_v 2 rfl (v_lenQ un_27 rfl h5.hq) gn rfl ?_
  refine wl_v 3 rfl (v_bin rfl rfl rfl) gn rfl ?_
  refine w_end 4 rfl ?_
  by_cases hp111 : x62 < (x1.length : Int)
  ·have h := if_pos' hp111 h
   refine g_true (c := q9c14) rfl _ rfl ((decide_eq_true hp111)) ?_
   refine g_skip (c := q9c15) rfl ?_
   refine g_seq (c := q9c12) rfl ?_
   refine g_block (c := q9c17) rfl ?_
   refine g_region (c := q9c19) rfl rfl ?_
   refine wl_v 0 rfl (v_move rfl) gn rfl ?_
   refine wl_v 1 rfl (v_move rfl) gn rfl ?_
   refine wl_v 2 rfl (v_move rfl) gn rfl ?_
   obtain ⟨hb112, h⟩ := h
   have hr113 := Rw.readF (s := St w []) (hl := (hlI .u8)) (h1 := (hone_int .u8)) h5 hb112
   refine wl_v 3 rfl (v_idxR (s := St w []) slE_27 rfl rfl h5 hb112) gn rfl ?_
   refine wl_v 4 rfl (v_ldA1 (kk := (x62 : Int).toNat * 1) (j := 0) (St w []) ld_5 rfl hr113 rfl (me 1 rfl)) gn rfl ?_
   refine wl_s 5 rfl (s_litO (xs := ([ix x1 x62] : List Int)) [.int .u8 (ix x1 x62)] bs_27_1 rfl (by kernel_rfl) rfl rfl rfl rfl fun gb115 h116 => ?_) gn
   obtain ⟨x120, hv121, h⟩ := h
   obtain ⟨hb122, h⟩ := h
   refine wl_s 6 rfl (s_app (zs := x120) (cells' := x120.flatMap (eI .u8)) 1 ap_27 rfl rfl rfl h61 (Nat.le_refl _) (Src.ownF (hl := (hlI .u8)) (h1 := (hone_int .u8)) 0 rfl h116) (by rw [hv121, List.flatMap_append] <;> rfl) (app_len hv121 h116.hq) hb122 rfl rfl fun A117 c118 h119 => ?_) gn
   refine wl_v 7 rfl (v_assign rfl) gn rfl ?_
   refine w_end 8 rfl ?_
   refine g_inBlock ?_
   refine g_region (c := q9c18) rfl rfl ?_
   refine wl_v 0 rfl (v_move rfl) gn rfl ?_
   refine wl_v 1 rfl (v_bin rfl rfl rfl) gn rfl ?_
   refine wl_v 2 rfl (v_assign rfl) gn rfl ?_
   refine w_end 3 rfl ?_
   refine g_inLoop ?_
   have ih := Out.inl hO1 h
   exact g_go [0, 1] (ih A117 (n59 + 1) c118 h119) ⟨rfl, rfl, rfl, trivial⟩ (.cons _ (.cons_cons _ (.slnil))) rfl
  ·have h := if_neg' hp111 h
   refine g_false (c := q9c14) rfl _ rfl ((decide_eq_false hp111)) ?_
   refine g_exit (c := q9c16) [.code q9c6] rfl rfl ?_
   refine g_seq (c := q9c6) rfl ?_
   refine g_seq (c := q9c20) rfl ?_
   refine g_region (c := q9c22) rfl rfl ?_
   refine wl_v 0 rfl (v_assign rfl) gn rfl ?_
   refine w_end 1 rfl ?_
   refine g_block (c := q9c23) rfl ?_
   refine g_loop (c := q9c24) rfl ?_
   have key2 : ∀ s, Rounds (fun (s : (List Int) × Int) o => trellislaw26_marked_b2 s.1 s.2 o) s o1 → (fun (s : (List Int) × Int) => ∀ (A134 : Option Addr) (n135 : Nat) (c136 : Nat) (h137 : Ow w.heap.size A134 n135 c136 s.1), G (trellislaw26_marked_C w F r) [.code q9c25, .inLoop q9c25, .inBlock 2, .code q9c21] [(3, .slice A134 n135 c136), (5, .int .i64 s.2)] [.own (.slice A134 n135 c136) 5 1 n135 (s.1.flatMap (eI .u8))] [Sm w.heap.size F w [], St w []]) s := by
    intro s hs
    refine Rounds.ind (mot := (fun (s : (List Int) × Int) => ∀ (A134 : Option Addr) (n135 : Nat) (c136 : Nat) (h137 : Ow w.heap.size A134 n135 c136 s.1), G (trellislaw26_marked_C w F r) [.code q9c25, .inLoop q9c25, .inBlock 2, .code q9c21] [(3, .slice A134 n135 c136), (5, .int .i64 s.2)] [.own (.slice A134 n135 c136) 5 1 n135 (s.1.flatMap (eI .u8))] [Sm w.heap.size F w [], St w []])) ?_ hs
    clear hs s
    intro s o2 h hO2
    obtain ⟨x133, x138⟩ := s
    show ∀ (A134 : Option Addr) (n135 : Nat) (c136 : Nat) (h137 : Ow w.heap.size A134 n135 c136 x133), G (trellislaw26_marked_C w F r) [.code q9c25, .inLoop q9c25, .inBlock 2, .code q9c21] [(3, .slice A134 n135 c136), (5, .int .i64 x138)] [.own (.slice A134 n135 c136) 5 1 n135 (x133.flatMap (eI .u8))] [Sm w.heap.size F w [], St w []]
    intro A134 n135 c136 h137
    have h : trellislaw26_marked_b2 x133 x138 o2 := h
    unfold trellislaw26_marked_b2 at h
    refine g_seq (c := q9c25) rfl ?_
    refine g_seq (c := q9c26) rfl ?_
    refine g_region (c := q9c28) rfl rfl ?_
    refine wl_v 0 rfl (v_move rfl) gn rfl ?_
    refine wl_v 1 rfl (v_bin rfl rfl rfl) gn rfl ?_
    refine w_end 2 rfl ?_
    by_cases hp149 : x138 < 64
    ·have h := if_pos' hp149 h
     refine g_true (c := q9c29) rfl _ rfl ((decide_eq_true hp149)) ?_
     refine g_skip (c := q9c30) rfl ?_
     refine g_seq (c := q9c27) rfl ?_
     refine g_block (c := q9c32) rfl ?_
     refine g_region (c := q9c34) rfl rfl ?_
     refine wl_v 0 rfl (v_move rfl) gn rfl ?_
     refine wl_v 1 rfl (v_move rfl) gn rfl ?_
     refine wl_v 2 rfl (v_bin rfl rfl rfl) gn rfl ?_
     refine wl_v 3 rfl (v_conv ⟨_, un_3⟩ un_5 rfl) gn rfl ?_
     refine wl_s 4 rfl (s_litO (xs := ([IntKind.u8.wrap (w64 (150 + x138))] : List Int)) [.int .u8 (IntKind.u8.wrap (w64 (150 + x138)))] bs_27_1 rfl (by kernel_rfl) rfl rfl rfl rfl fun gb151 h152 => ?_) gn
     obtain ⟨x156, hv157, h⟩ := h
     obtain ⟨hb158, h⟩ := h
     refine wl_s 5 rfl (s_app (zs := x156) (cells' := x156.flatMap (eI .u8)) 1 ap_27 rfl rfl rfl h137 (Nat.le_refl _) (Src.ownF (hl := (hlI .u8)) (h1 := (hone_int .u8)) 0 rfl h152) (by rw [hv157, List.flatMap_append] <;> rfl) (app_len hv157 h152.hq) hb158 rfl rfl fun A153 c154 h155 => ?_) gn
     refine wl_v 6 rfl (v_assign rfl) gn rfl ?_
     refine w_end 7 rfl ?_
     refine g_inBlock ?_
     refine g_region (c := q9c33) rfl rfl ?_
     refine wl_v 0 rfl (v_move rfl) gn rfl ?_
     refine wl_v 1 rfl (v_bin rfl rfl rfl) gn rfl ?_
     refine wl_v 2 rfl (v_assign rfl) gn rfl ?_
     refine w_end 3 rfl ?_
     refine g_inLoop ?_
     have ih := Out.inl hO2 h
     exact g_go [0, 1] (ih A153 (n135 + 1) c154 h155) ⟨rfl, rfl, trivial⟩ (.cons _ (.cons_cons _ (.slnil))) rfl
    ·have h := if_neg' hp149 h
     refine g_false (c := q9c29) rfl _ rfl ((decide_eq_false hp149)) ?_
     refine g_exit (c := q9c31) [.code q9c21] rfl rfl ?_
     refine g_seq (c := q9c21) rfl ?_
     refine g_region (c := q9c35) rfl rfl ?_
     refine wl_v 0 rfl (v_move rfl) gn rfl ?_
     refine wl_v 1 rfl (v_assign rfl) gn rfl ?_
     refine w_end 2 rfl ?_
     have h := Out.inr hO2 h
     have h := Out.inr hO1 h
     refine g_retR (c := q9c36) [.slice A134 n135 c136] rfl Try.func9 rfl (.tmp rfl (.nil)) fun wr hLr => ?_
     have hMr : B.Loc w wr [.own (.slice A134 n135 c136) 5 1 n135 (x133.flatMap (eI .u8))] [St w []] := hLr.pick (rest := []) (perm_of_idx [0] [] rfl rfl (by kernel_rfl)) (sels [1] rfl)
     show trellislaw26_marked_R w F  r (.returned (packV [.slice A134 n135 c136])) wr
     rw [h]
     exact ⟨A134, n135, c136, rfl, hMr, h137⟩
   exact g_go [0, 1] (key2 _ h A58 n59 c60 h61) ⟨rfl, rfl, trivial⟩ (.cons_cons _ (.slnil)) rfl
 refine g_nil 5 1 ?_
 exact g_go [0, 1] (key1 _ h none 0 0 (Ow.nil (z := w.heap.size))) ⟨rfl, rfl, rfl, trivial⟩ (.cons_cons _ (.slnil)) rfl
end Go.Proofs.Ytbejkaeidnajkaa.K
