/- What the machine's calls do, function by function, printed by my own tool. Condition of each: its relation holds of the answer, and what is handed in lies in memory as told. -/
import Derived.Test.YtbejkaeidnajkaaDoorK0
set_option linter.unusedVariables false
set_option maxRecDepth 100000
set_option maxHeartbeats 4000000
namespace Go.Proofs.YtbejkaeidnajkaaDoor.K
open Go.Proofs.YtbejkaeidnajkaaDoor.B Go.Proofs.YtbejkaeidnajkaaDoor.R Go.RowKit
noncomputable abbrev strconv_Itoa_c0 : Code := bodyOf Tryd.f18
abbrev strconv_Itoa_R (w : World) (F : Nat → Prop) (r : ByteArray) : Ending → World → Prop := fun e w' => e = .returned (.string r) ∧ B.Loc w w' [] [St w []]
noncomputable abbrev strconv_Itoa_C (w : World) (F : Nat → Prop) (r : ByteArray) : Cx := ⟨Tryd.prog, 18, Tryd.f18, 5, strconv_Itoa_R w F  r, w⟩
theorem strconv_Itoa_calls (w : World) (F : Nat → Prop) (x1 : Int) (hG : Tb Tryd.prog (St w [])) (hF : ∀ b, F b → b < w.heap.size ∧ ∀ o ∈ ([] : List (List Nat)), b ∉ o) (hL0 : B.Loc w w [] [Sm w.heap.size F w [], St w []]) (r : ByteArray) (h : strconv_Itoa x1 r) : Calls Tryd.prog 18 #[.int .i64 x1] w (strconv_Itoa_R w F  r) := by
  unfold strconv_Itoa at h
  obtain ⟨h1, rfl⟩ := h
  refine Calls.mono (Tryd.strconv_Itoa x1 h1.1 h1.2 w hG.2) ?_
  rintro e w' ⟨rfl, k, os, rfl⟩
  exact ⟨rfl, Loc.of_below (Lib.below_grow _ _ (Nat.le_refl _) _ _)⟩
noncomputable abbrev rpc_Put_c0 : Code := bodyOf Tryd.f8
noncomputable abbrev rpc_Put_c1 : Code := Code.fst rpc_Put_c0
noncomputable abbrev rpc_Put_c2 : Code := Code.snd rpc_Put_c0
noncomputable abbrev rpc_Put_c3 : Code := Code.fst rpc_Put_c2
noncomputable abbrev rpc_Put_c4 : Code := Code.snd rpc_Put_c2
noncomputable abbrev rpc_Put_c5 : Code := Code.fst rpc_Put_c3
noncomputable abbrev rpc_Put_c6 : Code := Code.snd rpc_Put_c3
noncomputable abbrev rpc_Put_c7 : Code := Code.fst rpc_Put_c6
noncomputable abbrev rpc_Put_c8 : Code := Code.snd rpc_Put_c6
noncomputable abbrev rpc_Put_c9 : Code := Code.fst rpc_Put_c7
noncomputable abbrev rpc_Put_c10 : Code := Code.snd rpc_Put_c7
noncomputable abbrev rpc_Put_c11 : Code := Code.fst rpc_Put_c4
noncomputable abbrev rpc_Put_c12 : Code := Code.snd rpc_Put_c4
abbrev rpc_Put_R (w : World) (F : Nat → Prop) (r : (List Int) × Int) : Ending → World → Prop := fun e w' => ∃ A0 : Option Addr, ∃ n0 : Nat, ∃ c0 : Nat, e = .returned (.tuple #[.slice A0 n0 c0, .int .i64 r.2]) ∧ B.Loc w w' [.own (.slice A0 n0 c0) 5 1 n0 (r.1.flatMap (eI .u8))] [St w []] ∧ Ow w.heap.size A0 n0 c0 r.1
noncomputable abbrev rpc_Put_C (w : World) (F : Nat → Prop) (r : (List Int) × Int) : Cx := ⟨Tryd.prog, 8, Tryd.f8, 15, rpc_Put_R w F  r, w⟩
theorem rpc_Put_calls (w : World) (F : Nat → Prop) (x1 : ByteArray) (hG : Tb Tryd.prog (St w [])) (hF : ∀ b, F b → b < w.heap.size ∧ ∀ o ∈ ([] : List (List Nat)), b ∉ o) (hL0 : B.Loc w w [] [Sm w.heap.size F w [], St w []]) (r : (List Int) × Int) (h : rpc_Put x1 r) : Calls Tryd.prog 8 #[.string x1] w (rpc_Put_R w F  r) := by
  unfold rpc_Put at h
  refine calls_of_Loc (vs := [.string x1]) 15 Tryd.func8 rfl Tryd.ntmps8 rfl hL0 ?_
  show G (rpc_Put_C w F r) _ _ _ _
  refine g_seq (c := rpc_Put_c0) rfl ?_
  refine g_region (c := rpc_Put_c1) rfl rfl ?_
  refine wl_v 0 rfl (v_assign rfl) gn rfl ?_
  refine wl_v 1 rfl (v_assign rfl) gn rfl ?_
  refine w_end 2 rfl ?_
  refine g_seq (c := rpc_Put_c2) rfl ?_
  refine g_seq (c := rpc_Put_c3) rfl ?_
  refine g_region (c := rpc_Put_c5) rfl rfl ?_
  refine wl_v 0 rfl (v_move rfl) gn rfl ?_
  refine wl_v 1 rfl (v_lenS un_9 rfl) gn rfl ?_
  refine wl_v 2 rfl (v_bin rfl rfl rfl) gn rfl ?_
  refine w_end 3 rfl ?_
  by_cases hp2 : (x1.size : Int) > 2097152
  · have h := if_pos' hp2 h
    refine g_true (c := rpc_Put_c6) rfl _ rfl ((decide_eq_true hp2)) ?_
    refine g_seq (c := rpc_Put_c7) rfl ?_
    refine g_region (c := rpc_Put_c9) rfl rfl ?_
    refine wl_v 0 rfl (v_assign rfl) gn rfl ?_
    refine wl_v 1 rfl (v_assign rfl) gn rfl ?_
    refine w_end 2 rfl ?_
    refine g_nil 5 1 ?_
    refine g_retR (c := rpc_Put_c10) [.slice none 0 0, .int .i64 262] rfl Tryd.func8 rfl (.tmp rfl (.tmp rfl (.nil))) fun wr hLr => ?_
    have hMr : B.Loc w wr [.own (.slice none 0 0) 5 1 0 (([] : List Int).flatMap (eI .u8))] [St w []] := hLr.pick (rest := []) (perm_of_idx [0] [] rfl rfl (by kernel_rfl)) (sels [1] rfl)
    have hMi : ∀ e ∈ ([.own (.slice none 0 0) 5 1 0 (([] : List Int).flatMap (eI .u8))] : List Ent), e ∈ ([.own (.slice none 0 0) 5 1 0 (([] : List Int).flatMap (eI .u8))] : List Ent) := sels [0] rfl
    show rpc_Put_R w F  r (.returned (packV [.slice none 0 0, .int .i64 262])) wr
    rw [h]
    exact ⟨none, 0, 0, rfl, hMr, (Ow.nil (z := w.heap.size))⟩
  · have h := if_neg' hp2 h
    refine g_false (c := rpc_Put_c6) rfl _ rfl ((decide_eq_false hp2)) ?_
    refine g_skip (c := rpc_Put_c8) rfl ?_
    refine g_seq (c := rpc_Put_c4) rfl ?_
    refine g_region (c := rpc_Put_c11) rfl rfl ?_
    refine wl_v 0 rfl (v_move rfl) gn rfl ?_
    refine wl_v 1 rfl (v_lenS un_9 rfl) gn rfl ?_
    obtain ⟨r6, hv7, h⟩ := h
    refine wl_s 2 rfl (s_call [.int .i64 (x1.size : Int)] rfl Tryd.func18 rfl rfl rfl fun w3 hL4 => ?_) gn
    have hp5 : List.Perm ([] : List Ent) (([] : List Ent) ++ ([] : List Ent)) := perm_of_idx [] [] rfl rfl (by kernel_rfl)
    refine Calls.mono (strconv_Itoa_calls w3 (Fl ([] : List Snap)) (x1.size : Int) (hL4.tb hp5 hG (me 1 rfl)) (hL4.hFl (Sl := ([] : List Snap)) hp5 (sels [] rfl)) (hL4.into hp5 (Fl ([] : List Snap))) r6 hv7) ?_
    rintro _ w8 ⟨rfl, hM9⟩
    have hL10 := hL4.call hp5 hM9
    refine ⟨_, _, _, rfl, hL10, ?_⟩
    obtain ⟨hb11, h⟩ := h
    refine wl_v 3 rfl (v_catS rfl rfl hb11) gn rfl ?_
    obtain ⟨hb12, h⟩ := h
    refine wl_v 4 rfl (v_catS rfl rfl hb12) gn rfl ?_
    refine wl_v 5 rfl (v_move rfl) gn rfl ?_
    obtain ⟨hb13, h⟩ := h
    refine wl_v 6 rfl (v_catS rfl rfl hb13) gn rfl ?_
    obtain ⟨hb14, h⟩ := h
    refine wl_s 7 rfl (s_s2b un_9 slE_22 un_5 rfl hb14 rfl fun A15 c16 h17 => ?_) gn
    refine wl_v 8 rfl (v_assign rfl) gn rfl ?_
    refine wl_v 9 rfl (v_assign rfl) gn rfl ?_
    refine w_end 10 rfl ?_
    refine g_retR (c := rpc_Put_c12) [.slice A15 (((((⟨#[67, 111, 110, 116, 101, 110, 116, 45, 76, 101, 110, 103, 116, 104, 58, 32]⟩ : ByteArray) ++ r6) ++ (⟨#[13, 10, 13, 10]⟩ : ByteArray)) ++ x1).size) c16, .int .i64 0] rfl Tryd.func8 rfl (.tmp rfl (.tmp rfl (.nil))) fun wr hLr => ?_
    have hMr : B.Loc w wr [.own (.slice A15 (((((⟨#[67, 111, 110, 116, 101, 110, 116, 45, 76, 101, 110, 103, 116, 104, 58, 32]⟩ : ByteArray) ++ r6) ++ (⟨#[13, 10, 13, 10]⟩ : ByteArray)) ++ x1).size) c16) 5 1 (((((⟨#[67, 111, 110, 116, 101, 110, 116, 45, 76, 101, 110, 103, 116, 104, 58, 32]⟩ : ByteArray) ++ r6) ++ (⟨#[13, 10, 13, 10]⟩ : ByteArray)) ++ x1).size) ((bsOf ((((⟨#[67, 111, 110, 116, 101, 110, 116, 45, 76, 101, 110, 103, 116, 104, 58, 32]⟩ : ByteArray) ++ r6) ++ (⟨#[13, 10, 13, 10]⟩ : ByteArray)) ++ x1)).flatMap (eI .u8))] [St w []] := hLr.pick (rest := []) (perm_of_idx [0] [] rfl rfl (by kernel_rfl)) (sels [1] rfl)
    have hMi : ∀ e ∈ ([.own (.slice A15 (((((⟨#[67, 111, 110, 116, 101, 110, 116, 45, 76, 101, 110, 103, 116, 104, 58, 32]⟩ : ByteArray) ++ r6) ++ (⟨#[13, 10, 13, 10]⟩ : ByteArray)) ++ x1).size) c16) 5 1 (((((⟨#[67, 111, 110, 116, 101, 110, 116, 45, 76, 101, 110, 103, 116, 104, 58, 32]⟩ : ByteArray) ++ r6) ++ (⟨#[13, 10, 13, 10]⟩ : ByteArray)) ++ x1).size) ((bsOf ((((⟨#[67, 111, 110, 116, 101, 110, 116, 45, 76, 101, 110, 103, 116, 104, 58, 32]⟩ : ByteArray) ++ r6) ++ (⟨#[13, 10, 13, 10]⟩ : ByteArray)) ++ x1)).flatMap (eI .u8))] : List Ent), e ∈ ([.own (.slice A15 (((((⟨#[67, 111, 110, 116, 101, 110, 116, 45, 76, 101, 110, 103, 116, 104, 58, 32]⟩ : ByteArray) ++ r6) ++ (⟨#[13, 10, 13, 10]⟩ : ByteArray)) ++ x1).size) c16) 5 1 (((((⟨#[67, 111, 110, 116, 101, 110, 116, 45, 76, 101, 110, 103, 116, 104, 58, 32]⟩ : ByteArray) ++ r6) ++ (⟨#[13, 10, 13, 10]⟩ : ByteArray)) ++ x1).size) ((bsOf ((((⟨#[67, 111, 110, 116, 101, 110, 116, 45, 76, 101, 110, 103, 116, 104, 58, 32]⟩ : ByteArray) ++ r6) ++ (⟨#[13, 10, 13, 10]⟩ : ByteArray)) ++ x1)).flatMap (eI .u8))] : List Ent) := sels [0] rfl
    show rpc_Put_R w F  r (.returned (packV [.slice A15 (((((⟨#[67, 111, 110, 116, 101, 110, 116, 45, 76, 101, 110, 103, 116, 104, 58, 32]⟩ : ByteArray) ++ r6) ++ (⟨#[13, 10, 13, 10]⟩ : ByteArray)) ++ x1).size) c16, .int .i64 0])) wr
    rw [h]
    exact ⟨A15, ((((⟨#[67, 111, 110, 116, 101, 110, 116, 45, 76, 101, 110, 103, 116, 104, 58, 32]⟩ : ByteArray) ++ r6) ++ (⟨#[13, 10, 13, 10]⟩ : ByteArray)) ++ x1).size, c16, rfl, hMr, h17⟩
noncomputable abbrev trellisref26_Digits_c0 : Code := bodyOf Tryd.f19
noncomputable abbrev trellisref26_Digits_c1 : Code := Code.fst trellisref26_Digits_c0
noncomputable abbrev trellisref26_Digits_c2 : Code := Code.snd trellisref26_Digits_c0
noncomputable abbrev trellisref26_Digits_c3 : Code := Code.fst trellisref26_Digits_c2
noncomputable abbrev trellisref26_Digits_c4 : Code := Code.snd trellisref26_Digits_c2
noncomputable abbrev trellisref26_Digits_c5 : Code := Code.fst trellisref26_Digits_c4
noncomputable abbrev trellisref26_Digits_c6 : Code := Code.snd trellisref26_Digits_c4
noncomputable abbrev trellisref26_Digits_c7 : Code := Code.fst trellisref26_Digits_c5
noncomputable abbrev trellisref26_Digits_c8 : Code := Code.fst trellisref26_Digits_c7
noncomputable abbrev trellisref26_Digits_c9 : Code := Code.fst trellisref26_Digits_c8
noncomputable abbrev trellisref26_Digits_c10 : Code := Code.snd trellisref26_Digits_c8
noncomputable abbrev trellisref26_Digits_c11 : Code := Code.fst trellisref26_Digits_c9
noncomputable abbrev trellisref26_Digits_c12 : Code := Code.snd trellisref26_Digits_c9
noncomputable abbrev trellisref26_Digits_c13 : Code := Code.fst trellisref26_Digits_c12
noncomputable abbrev trellisref26_Digits_c14 : Code := Code.snd trellisref26_Digits_c12
noncomputable abbrev trellisref26_Digits_c15 : Code := Code.fst trellisref26_Digits_c10
noncomputable abbrev trellisref26_Digits_c16 : Code := Code.fst trellisref26_Digits_c15
noncomputable abbrev trellisref26_Digits_c17 : Code := Code.snd trellisref26_Digits_c15
noncomputable abbrev trellisref26_Digits_c18 : Code := Code.fst trellisref26_Digits_c6
noncomputable abbrev trellisref26_Digits_c19 : Code := Code.snd trellisref26_Digits_c6
abbrev trellisref26_Digits_R (w : World) (F : Nat → Prop) (r : ByteArray) : Ending → World → Prop := fun e w' => e = .returned (.string r) ∧ B.Loc w w' [] [St w []]
noncomputable abbrev trellisref26_Digits_C (w : World) (F : Nat → Prop) (r : ByteArray) : Cx := ⟨Tryd.prog, 19, Tryd.f19, 22, trellisref26_Digits_R w F  r, w⟩
theorem trellisref26_Digits_calls (w : World) (F : Nat → Prop) (x1 : Int) (hF : ∀ b, F b → b < w.heap.size ∧ ∀ o ∈ ([] : List (List Nat)), b ∉ o) (hL0 : B.Loc w w [] [Sm w.heap.size F w [], St w []]) (r : ByteArray) (h : trellisref26_Digits x1 r) : Calls Tryd.prog 19 #[.int .i64 x1] w (trellisref26_Digits_R w F  r) := by
  unfold trellisref26_Digits at h
  refine calls_of_Loc (vs := [.int .i64 x1]) 22 Tryd.func19 rfl Tryd.ntmps19 rfl hL0 ?_
  show G (trellisref26_Digits_C w F r) _ _ _ _
  refine g_seq (c := trellisref26_Digits_c0) rfl ?_
  refine g_region (c := trellisref26_Digits_c1) rfl rfl ?_
  refine wl_v 0 rfl (v_assign rfl) gn rfl ?_
  refine w_end 1 rfl ?_
  refine g_seq (c := trellisref26_Digits_c2) rfl ?_
  refine g_region (c := trellisref26_Digits_c3) rfl rfl ?_
  refine wl_v 0 rfl (v_assign rfl) gn rfl ?_
  refine w_end 1 rfl ?_
  refine g_seq (c := trellisref26_Digits_c4) rfl ?_
  refine g_block (c := trellisref26_Digits_c5) rfl ?_
  refine g_loop (c := trellisref26_Digits_c7) rfl ?_
  have key1 : ∀ s, Rounds (fun (s : Int × ByteArray) o => trellisref26_Digits_b1 s.1 s.2 o) s r → (fun (s : Int × ByteArray) => ∀ (_ : Unit), G (trellisref26_Digits_C w F r) [.code trellisref26_Digits_c8, .inLoop trellisref26_Digits_c8, .inBlock 0, .code trellisref26_Digits_c6] [(0, .int .i64 s.1), (3, .string s.2)] [] [Sm w.heap.size F w [], St w []]) s := by
    intro s hs
    refine Rounds.ind (mot := (fun (s : Int × ByteArray) => ∀ (_ : Unit), G (trellisref26_Digits_C w F r) [.code trellisref26_Digits_c8, .inLoop trellisref26_Digits_c8, .inBlock 0, .code trellisref26_Digits_c6] [(0, .int .i64 s.1), (3, .string s.2)] [] [Sm w.heap.size F w [], St w []])) ?_ hs
    clear hs s
    intro s o1 h hO1
    obtain ⟨x8, x9⟩ := s
    show ∀ (_ : Unit), G (trellisref26_Digits_C w F r) [.code trellisref26_Digits_c8, .inLoop trellisref26_Digits_c8, .inBlock 0, .code trellisref26_Digits_c6] [(0, .int .i64 x8), (3, .string x9)] [] [Sm w.heap.size F w [], St w []]
    intro _
    have h : trellisref26_Digits_b1 x8 x9 o1 := h
    unfold trellisref26_Digits_b1 at h
    refine g_seq (c := trellisref26_Digits_c8) rfl ?_
    refine g_seq (c := trellisref26_Digits_c9) rfl ?_
    refine g_region (c := trellisref26_Digits_c11) rfl rfl ?_
    refine wl_v 0 rfl (v_move rfl) gn rfl ?_
    refine wl_v 1 rfl (v_bin rfl rfl rfl) gn rfl ?_
    refine w_end 2 rfl ?_
    by_cases hp15 : x8 ≥ 10
    · have h := if_pos' hp15 h
      refine g_true (c := trellisref26_Digits_c12) rfl _ rfl ((decide_eq_true hp15)) ?_
      refine g_skip (c := trellisref26_Digits_c13) rfl ?_
      refine g_block (c := trellisref26_Digits_c10) rfl ?_
      refine g_seq (c := trellisref26_Digits_c15) rfl ?_
      refine g_region (c := trellisref26_Digits_c16) rfl rfl ?_
      refine wl_v 0 rfl (v_move rfl) gn rfl ?_
      refine wl_v 1 rfl (v_rem rfl rfl (by decide)) gn rfl ?_
      refine wl_v 2 rfl (v_move rfl) gn rfl ?_
      refine wl_v 3 rfl (v_rem rfl rfl (by decide)) gn rfl ?_
      refine wl_v 4 rfl (v_bin rfl rfl rfl) gn rfl ?_
      obtain ⟨hb16, h⟩ := h
      refine wl_v 5 rfl (v_cutS (Int.tmod x8 10) (w64 ((Int.tmod x8 10) + 1)) un_9 rfl (.inr ⟨_, _, rfl, rfl⟩) (.inr ⟨_, _, rfl, rfl⟩) ⟨hb16.1, hb16.2.1⟩ hb16.2.2) gn rfl ?_
      refine wl_v 6 rfl (v_move rfl) gn rfl ?_
      obtain ⟨hb17, h⟩ := h
      refine wl_v 7 rfl (v_catS rfl rfl hb17) gn rfl ?_
      refine wl_v 8 rfl (v_assign rfl) gn rfl ?_
      refine w_end 9 rfl ?_
      refine g_region (c := trellisref26_Digits_c17) rfl rfl ?_
      refine wl_v 0 rfl (v_move rfl) gn rfl ?_
      refine wl_v 1 rfl (v_quo rfl rfl (by decide)) gn rfl ?_
      refine wl_v 2 rfl (v_assign rfl) gn rfl ?_
      refine w_end 3 rfl ?_
      refine g_inBlock ?_
      refine g_inLoop ?_
      have ih := Out.inl hO1 h
      exact g_go [0, 1] (ih ()) ⟨rfl, rfl, trivial⟩ (.slnil) rfl
    · have h := if_neg' hp15 h
      refine g_false (c := trellisref26_Digits_c12) rfl _ rfl ((decide_eq_false hp15)) ?_
      refine g_exit (c := trellisref26_Digits_c14) [.code trellisref26_Digits_c6] rfl rfl ?_
      refine g_seq (c := trellisref26_Digits_c6) rfl ?_
      refine g_region (c := trellisref26_Digits_c18) rfl rfl ?_
      refine wl_v 0 rfl (v_move rfl) gn rfl ?_
      refine wl_v 1 rfl (v_move rfl) gn rfl ?_
      refine wl_v 2 rfl (v_bin rfl rfl rfl) gn rfl ?_
      obtain ⟨hb18, h⟩ := h
      refine wl_v 3 rfl (v_cutS x8 (w64 (x8 + 1)) un_9 rfl (.inr ⟨_, _, rfl, rfl⟩) (.inr ⟨_, _, rfl, rfl⟩) ⟨hb18.1, hb18.2.1⟩ hb18.2.2) gn rfl ?_
      refine wl_v 4 rfl (v_move rfl) gn rfl ?_
      obtain ⟨hb19, h⟩ := h
      refine wl_v 5 rfl (v_catS rfl rfl hb19) gn rfl ?_
      refine wl_v 6 rfl (v_assign rfl) gn rfl ?_
      refine w_end 7 rfl ?_
      have h := Out.inr hO1 h
      refine g_retR (c := trellisref26_Digits_c19) [.string (((⟨#[48, 49, 50, 51, 52, 53, 54, 55, 56, 57]⟩ : ByteArray).extract (x8 : Int).toNat (w64 (x8 + 1) : Int).toNat) ++ x9)] rfl Tryd.func19 rfl (.tmp rfl (.nil)) fun wr hLr => ?_
      have hMr : B.Loc w wr [] [St w []] := hLr.pick (rest := []) (perm_of_idx [] [] rfl rfl (by kernel_rfl)) (sels [1] rfl)
      have hMi : ∀ e ∈ ([] : List Ent), e ∈ ([] : List Ent) := sels [] rfl
      show trellisref26_Digits_R w F  r (.returned (packV [.string (((⟨#[48, 49, 50, 51, 52, 53, 54, 55, 56, 57]⟩ : ByteArray).extract (x8 : Int).toNat (w64 (x8 + 1) : Int).toNat) ++ x9)])) wr
      rw [h]
      exact ⟨rfl, hMr⟩
  exact g_go [0, 1] (key1 _ h ()) ⟨rfl, rfl, trivial⟩ (.slnil) rfl
noncomputable abbrev trellisref26_Put_c0 : Code := bodyOf Tryd.f9
noncomputable abbrev trellisref26_Put_c1 : Code := Code.fst trellisref26_Put_c0
noncomputable abbrev trellisref26_Put_c2 : Code := Code.snd trellisref26_Put_c0
noncomputable abbrev trellisref26_Put_c3 : Code := Code.fst trellisref26_Put_c2
noncomputable abbrev trellisref26_Put_c4 : Code := Code.snd trellisref26_Put_c2
noncomputable abbrev trellisref26_Put_c5 : Code := Code.fst trellisref26_Put_c3
noncomputable abbrev trellisref26_Put_c6 : Code := Code.snd trellisref26_Put_c3
noncomputable abbrev trellisref26_Put_c7 : Code := Code.fst trellisref26_Put_c6
noncomputable abbrev trellisref26_Put_c8 : Code := Code.snd trellisref26_Put_c6
noncomputable abbrev trellisref26_Put_c9 : Code := Code.fst trellisref26_Put_c7
noncomputable abbrev trellisref26_Put_c10 : Code := Code.snd trellisref26_Put_c7
noncomputable abbrev trellisref26_Put_c11 : Code := Code.fst trellisref26_Put_c4
noncomputable abbrev trellisref26_Put_c12 : Code := Code.snd trellisref26_Put_c4
abbrev trellisref26_Put_R (w : World) (F : Nat → Prop) (r : (List Int) × Int) : Ending → World → Prop := fun e w' => ∃ A0 : Option Addr, ∃ n0 : Nat, ∃ c0 : Nat, e = .returned (.tuple #[.slice A0 n0 c0, .int .i64 r.2]) ∧ B.Loc w w' [.own (.slice A0 n0 c0) 5 1 n0 (r.1.flatMap (eI .u8))] [St w []] ∧ Ow w.heap.size A0 n0 c0 r.1
noncomputable abbrev trellisref26_Put_C (w : World) (F : Nat → Prop) (r : (List Int) × Int) : Cx := ⟨Tryd.prog, 9, Tryd.f9, 15, trellisref26_Put_R w F  r, w⟩
theorem trellisref26_Put_calls (w : World) (F : Nat → Prop) (x1 : ByteArray) (hF : ∀ b, F b → b < w.heap.size ∧ ∀ o ∈ ([] : List (List Nat)), b ∉ o) (hL0 : B.Loc w w [] [Sm w.heap.size F w [], St w []]) (r : (List Int) × Int) (h : trellisref26_Put x1 r) : Calls Tryd.prog 9 #[.string x1] w (trellisref26_Put_R w F  r) := by
  unfold trellisref26_Put at h
  refine calls_of_Loc (vs := [.string x1]) 15 Tryd.func9 rfl Tryd.ntmps9 rfl hL0 ?_
  show G (trellisref26_Put_C w F r) _ _ _ _
  refine g_seq (c := trellisref26_Put_c0) rfl ?_
  refine g_region (c := trellisref26_Put_c1) rfl rfl ?_
  refine wl_v 0 rfl (v_assign rfl) gn rfl ?_
  refine wl_v 1 rfl (v_assign rfl) gn rfl ?_
  refine w_end 2 rfl ?_
  refine g_seq (c := trellisref26_Put_c2) rfl ?_
  refine g_seq (c := trellisref26_Put_c3) rfl ?_
  refine g_region (c := trellisref26_Put_c5) rfl rfl ?_
  refine wl_v 0 rfl (v_move rfl) gn rfl ?_
  refine wl_v 1 rfl (v_lenS un_9 rfl) gn rfl ?_
  refine wl_v 2 rfl (v_bin rfl rfl rfl) gn rfl ?_
  refine w_end 3 rfl ?_
  by_cases hp2 : (x1.size : Int) > 2097152
  · have h := if_pos' hp2 h
    refine g_true (c := trellisref26_Put_c6) rfl _ rfl ((decide_eq_true hp2)) ?_
    refine g_seq (c := trellisref26_Put_c7) rfl ?_
    refine g_region (c := trellisref26_Put_c9) rfl rfl ?_
    refine wl_v 0 rfl (v_assign rfl) gn rfl ?_
    refine wl_v 1 rfl (v_assign rfl) gn rfl ?_
    refine w_end 2 rfl ?_
    refine g_nil 5 1 ?_
    refine g_retR (c := trellisref26_Put_c10) [.slice none 0 0, .int .i64 262] rfl Tryd.func9 rfl (.tmp rfl (.tmp rfl (.nil))) fun wr hLr => ?_
    have hMr : B.Loc w wr [.own (.slice none 0 0) 5 1 0 (([] : List Int).flatMap (eI .u8))] [St w []] := hLr.pick (rest := []) (perm_of_idx [0] [] rfl rfl (by kernel_rfl)) (sels [1] rfl)
    have hMi : ∀ e ∈ ([.own (.slice none 0 0) 5 1 0 (([] : List Int).flatMap (eI .u8))] : List Ent), e ∈ ([.own (.slice none 0 0) 5 1 0 (([] : List Int).flatMap (eI .u8))] : List Ent) := sels [0] rfl
    show trellisref26_Put_R w F  r (.returned (packV [.slice none 0 0, .int .i64 262])) wr
    rw [h]
    exact ⟨none, 0, 0, rfl, hMr, (Ow.nil (z := w.heap.size))⟩
  · have h := if_neg' hp2 h
    refine g_false (c := trellisref26_Put_c6) rfl _ rfl ((decide_eq_false hp2)) ?_
    refine g_skip (c := trellisref26_Put_c8) rfl ?_
    refine g_seq (c := trellisref26_Put_c4) rfl ?_
    refine g_region (c := trellisref26_Put_c11) rfl rfl ?_
    refine wl_v 0 rfl (v_move rfl) gn rfl ?_
    refine wl_v 1 rfl (v_lenS un_9 rfl) gn rfl ?_
    obtain ⟨r6, hv7, h⟩ := h
    refine wl_s 2 rfl (s_call [.int .i64 (x1.size : Int)] rfl Tryd.func19 rfl rfl rfl fun w3 hL4 => ?_) gn
    have hp5 : List.Perm ([] : List Ent) (([] : List Ent) ++ ([] : List Ent)) := perm_of_idx [] [] rfl rfl (by kernel_rfl)
    refine Calls.mono (trellisref26_Digits_calls w3 (Fl ([] : List Snap)) (x1.size : Int) (hL4.hFl (Sl := ([] : List Snap)) hp5 (sels [] rfl)) (hL4.into hp5 (Fl ([] : List Snap))) r6 hv7) ?_
    rintro _ w8 ⟨rfl, hM9⟩
    have hL10 := hL4.call hp5 hM9
    refine ⟨_, _, _, rfl, hL10, ?_⟩
    obtain ⟨hb11, h⟩ := h
    refine wl_v 3 rfl (v_catS rfl rfl hb11) gn rfl ?_
    obtain ⟨hb12, h⟩ := h
    refine wl_v 4 rfl (v_catS rfl rfl hb12) gn rfl ?_
    refine wl_v 5 rfl (v_move rfl) gn rfl ?_
    obtain ⟨hb13, h⟩ := h
    refine wl_v 6 rfl (v_catS rfl rfl hb13) gn rfl ?_
    obtain ⟨hb14, h⟩ := h
    refine wl_s 7 rfl (s_s2b un_9 slE_22 un_5 rfl hb14 rfl fun A15 c16 h17 => ?_) gn
    refine wl_v 8 rfl (v_assign rfl) gn rfl ?_
    refine wl_v 9 rfl (v_assign rfl) gn rfl ?_
    refine w_end 10 rfl ?_
    refine g_retR (c := trellisref26_Put_c12) [.slice A15 (((((⟨#[67, 111, 110, 116, 101, 110, 116, 45, 76, 101, 110, 103, 116, 104, 58, 32]⟩ : ByteArray) ++ r6) ++ (⟨#[13, 10, 13, 10]⟩ : ByteArray)) ++ x1).size) c16, .int .i64 0] rfl Tryd.func9 rfl (.tmp rfl (.tmp rfl (.nil))) fun wr hLr => ?_
    have hMr : B.Loc w wr [.own (.slice A15 (((((⟨#[67, 111, 110, 116, 101, 110, 116, 45, 76, 101, 110, 103, 116, 104, 58, 32]⟩ : ByteArray) ++ r6) ++ (⟨#[13, 10, 13, 10]⟩ : ByteArray)) ++ x1).size) c16) 5 1 (((((⟨#[67, 111, 110, 116, 101, 110, 116, 45, 76, 101, 110, 103, 116, 104, 58, 32]⟩ : ByteArray) ++ r6) ++ (⟨#[13, 10, 13, 10]⟩ : ByteArray)) ++ x1).size) ((bsOf ((((⟨#[67, 111, 110, 116, 101, 110, 116, 45, 76, 101, 110, 103, 116, 104, 58, 32]⟩ : ByteArray) ++ r6) ++ (⟨#[13, 10, 13, 10]⟩ : ByteArray)) ++ x1)).flatMap (eI .u8))] [St w []] := hLr.pick (rest := []) (perm_of_idx [0] [] rfl rfl (by kernel_rfl)) (sels [1] rfl)
    have hMi : ∀ e ∈ ([.own (.slice A15 (((((⟨#[67, 111, 110, 116, 101, 110, 116, 45, 76, 101, 110, 103, 116, 104, 58, 32]⟩ : ByteArray) ++ r6) ++ (⟨#[13, 10, 13, 10]⟩ : ByteArray)) ++ x1).size) c16) 5 1 (((((⟨#[67, 111, 110, 116, 101, 110, 116, 45, 76, 101, 110, 103, 116, 104, 58, 32]⟩ : ByteArray) ++ r6) ++ (⟨#[13, 10, 13, 10]⟩ : ByteArray)) ++ x1).size) ((bsOf ((((⟨#[67, 111, 110, 116, 101, 110, 116, 45, 76, 101, 110, 103, 116, 104, 58, 32]⟩ : ByteArray) ++ r6) ++ (⟨#[13, 10, 13, 10]⟩ : ByteArray)) ++ x1)).flatMap (eI .u8))] : List Ent), e ∈ ([.own (.slice A15 (((((⟨#[67, 111, 110, 116, 101, 110, 116, 45, 76, 101, 110, 103, 116, 104, 58, 32]⟩ : ByteArray) ++ r6) ++ (⟨#[13, 10, 13, 10]⟩ : ByteArray)) ++ x1).size) c16) 5 1 (((((⟨#[67, 111, 110, 116, 101, 110, 116, 45, 76, 101, 110, 103, 116, 104, 58, 32]⟩ : ByteArray) ++ r6) ++ (⟨#[13, 10, 13, 10]⟩ : ByteArray)) ++ x1).size) ((bsOf ((((⟨#[67, 111, 110, 116, 101, 110, 116, 45, 76, 101, 110, 103, 116, 104, 58, 32]⟩ : ByteArray) ++ r6) ++ (⟨#[13, 10, 13, 10]⟩ : ByteArray)) ++ x1)).flatMap (eI .u8))] : List Ent) := sels [0] rfl
    show trellisref26_Put_R w F  r (.returned (packV [.slice A15 (((((⟨#[67, 111, 110, 116, 101, 110, 116, 45, 76, 101, 110, 103, 116, 104, 58, 32]⟩ : ByteArray) ++ r6) ++ (⟨#[13, 10, 13, 10]⟩ : ByteArray)) ++ x1).size) c16, .int .i64 0])) wr
    rw [h]
    exact ⟨A15, ((((⟨#[67, 111, 110, 116, 101, 110, 116, 45, 76, 101, 110, 103, 116, 104, 58, 32]⟩ : ByteArray) ++ r6) ++ (⟨#[13, 10, 13, 10]⟩ : ByteArray)) ++ x1).size, c16, rfl, hMr, h17⟩
noncomputable abbrev trellislaw26_sameBytes_c0 : Code := bodyOf Tryd.f10
noncomputable abbrev trellislaw26_sameBytes_c1 : Code := Code.fst trellislaw26_sameBytes_c0
noncomputable abbrev trellislaw26_sameBytes_c2 : Code := Code.snd trellislaw26_sameBytes_c0
noncomputable abbrev trellislaw26_sameBytes_c3 : Code := Code.fst trellislaw26_sameBytes_c2
noncomputable abbrev trellislaw26_sameBytes_c4 : Code := Code.snd trellislaw26_sameBytes_c2
noncomputable abbrev trellislaw26_sameBytes_c5 : Code := Code.fst trellislaw26_sameBytes_c3
noncomputable abbrev trellislaw26_sameBytes_c6 : Code := Code.snd trellislaw26_sameBytes_c3
noncomputable abbrev trellislaw26_sameBytes_c7 : Code := Code.fst trellislaw26_sameBytes_c6
noncomputable abbrev trellislaw26_sameBytes_c8 : Code := Code.snd trellislaw26_sameBytes_c6
noncomputable abbrev trellislaw26_sameBytes_c9 : Code := Code.fst trellislaw26_sameBytes_c4
noncomputable abbrev trellislaw26_sameBytes_c10 : Code := Code.snd trellislaw26_sameBytes_c4
noncomputable abbrev trellislaw26_sameBytes_c11 : Code := Code.fst trellislaw26_sameBytes_c9
noncomputable abbrev trellislaw26_sameBytes_c12 : Code := Code.snd trellislaw26_sameBytes_c9
noncomputable abbrev trellislaw26_sameBytes_c13 : Code := Code.fst trellislaw26_sameBytes_c12
noncomputable abbrev trellislaw26_sameBytes_c14 : Code := Code.fst trellislaw26_sameBytes_c13
noncomputable abbrev trellislaw26_sameBytes_c15 : Code := Code.fst trellislaw26_sameBytes_c14
noncomputable abbrev trellislaw26_sameBytes_c16 : Code := Code.snd trellislaw26_sameBytes_c14
noncomputable abbrev trellislaw26_sameBytes_c17 : Code := Code.fst trellislaw26_sameBytes_c15
noncomputable abbrev trellislaw26_sameBytes_c18 : Code := Code.snd trellislaw26_sameBytes_c15
noncomputable abbrev trellislaw26_sameBytes_c19 : Code := Code.fst trellislaw26_sameBytes_c18
noncomputable abbrev trellislaw26_sameBytes_c20 : Code := Code.snd trellislaw26_sameBytes_c18
noncomputable abbrev trellislaw26_sameBytes_c21 : Code := Code.fst trellislaw26_sameBytes_c16
noncomputable abbrev trellislaw26_sameBytes_c22 : Code := Code.snd trellislaw26_sameBytes_c16
noncomputable abbrev trellislaw26_sameBytes_c23 : Code := Code.fst trellislaw26_sameBytes_c21
noncomputable abbrev trellislaw26_sameBytes_c24 : Code := Code.fst trellislaw26_sameBytes_c23
noncomputable abbrev trellislaw26_sameBytes_c25 : Code := Code.snd trellislaw26_sameBytes_c23
noncomputable abbrev trellislaw26_sameBytes_c26 : Code := Code.fst trellislaw26_sameBytes_c25
noncomputable abbrev trellislaw26_sameBytes_c27 : Code := Code.snd trellislaw26_sameBytes_c25
noncomputable abbrev trellislaw26_sameBytes_c28 : Code := Code.fst trellislaw26_sameBytes_c26
noncomputable abbrev trellislaw26_sameBytes_c29 : Code := Code.snd trellislaw26_sameBytes_c26
noncomputable abbrev trellislaw26_sameBytes_c30 : Code := Code.fst trellislaw26_sameBytes_c10
noncomputable abbrev trellislaw26_sameBytes_c31 : Code := Code.snd trellislaw26_sameBytes_c10
noncomputable abbrev trellislaw26_sameBytes_c32 : Code := Code.fst trellislaw26_sameBytes_c7
noncomputable abbrev trellislaw26_sameBytes_c33 : Code := Code.snd trellislaw26_sameBytes_c7
abbrev trellislaw26_sameBytes_R (w : World) (F : Nat → Prop) (r : Bool) : Ending → World → Prop := fun e w' => e = .returned (.bool r) ∧ B.Loc w w' [] [St w []]
noncomputable abbrev trellislaw26_sameBytes_C (w : World) (F : Nat → Prop) (r : Bool) : Cx := ⟨Tryd.prog, 10, Tryd.f10, 26, trellislaw26_sameBytes_R w F  r, w⟩
theorem trellislaw26_sameBytes_calls (w : World) (F : Nat → Prop) (x1 : List Int) (x6 : List Int) (A2 : Option Addr) (n3 : Nat) (c4 : Nat) (A7 : Option Addr) (n8 : Nat) (c9 : Nat) (h5 : Rw (kInt .u8) w (St w []).av A2 n3 c4 x1) (h10 : Rw (kInt .u8) w (St w []).av A7 n8 c9 x6) (hF : ∀ b, F b → b < w.heap.size ∧ ∀ o ∈ ([] : List (List Nat)), b ∉ o) (hL0 : B.Loc w w [] [Sm w.heap.size F w [], St w []]) (r : Bool) (h : trellislaw26_sameBytes x1 x6 r) : Calls Tryd.prog 10 #[.slice A2 n3 c4, .slice A7 n8 c9] w (trellislaw26_sameBytes_R w F  r) := by
  unfold trellislaw26_sameBytes at h
  refine calls_of_Loc (vs := [.slice A2 n3 c4, .slice A7 n8 c9]) 26 Tryd.func10 rfl Tryd.ntmps10 rfl hL0 ?_
  show G (trellislaw26_sameBytes_C w F r) _ _ _ _
  refine g_seq (c := trellislaw26_sameBytes_c0) rfl ?_
  refine g_region (c := trellislaw26_sameBytes_c1) rfl rfl ?_
  refine wl_v 0 rfl (v_assign rfl) gn rfl ?_
  refine w_end 1 rfl ?_
  refine g_seq (c := trellislaw26_sameBytes_c2) rfl ?_
  refine g_seq (c := trellislaw26_sameBytes_c3) rfl ?_
  refine g_region (c := trellislaw26_sameBytes_c5) rfl rfl ?_
  refine wl_v 0 rfl (v_move rfl) gn rfl ?_
  refine wl_v 1 rfl (v_lenQ un_22 rfl h5.hq) gn rfl ?_
  refine wl_v 2 rfl (v_move rfl) gn rfl ?_
  refine wl_v 3 rfl (v_lenQ un_22 rfl h10.hq) gn rfl ?_
  refine wl_v 4 rfl (v_bin rfl rfl rfl) gn rfl ?_
  refine w_end 5 rfl ?_
  by_cases hp11 : (x1.length : Int) = (x6.length : Int)
  · have h := if_pos' hp11 h
    refine g_false (c := trellislaw26_sameBytes_c6) rfl _ rfl ((eqib hp11)) ?_
    refine g_skip (c := trellislaw26_sameBytes_c8) rfl ?_
    refine g_seq (c := trellislaw26_sameBytes_c4) rfl ?_
    refine g_seq (c := trellislaw26_sameBytes_c9) rfl ?_
    refine g_region (c := trellislaw26_sameBytes_c11) rfl rfl ?_
    refine wl_v 0 rfl (v_assign rfl) gn rfl ?_
    refine w_end 1 rfl ?_
    refine g_block (c := trellislaw26_sameBytes_c12) rfl ?_
    refine g_loop (c := trellislaw26_sameBytes_c13) rfl ?_
    have key1 : ∀ s, Rounds (fun (s : Int) o => trellislaw26_sameBytes_b1 x1 x6 s o) s r → (fun (s : Int) => ∀ (_ : Unit), G (trellislaw26_sameBytes_C w F r) [.code trellislaw26_sameBytes_c14, .inLoop trellislaw26_sameBytes_c14, .inBlock 0, .code trellislaw26_sameBytes_c10] [(0, .slice A2 n3 c4), (1, .slice A7 n8 c9), (5, .int .i64 s)] [] [Sm w.heap.size F w [], St w []]) s := by
      intro s hs
      refine Rounds.ind (mot := (fun (s : Int) => ∀ (_ : Unit), G (trellislaw26_sameBytes_C w F r) [.code trellislaw26_sameBytes_c14, .inLoop trellislaw26_sameBytes_c14, .inBlock 0, .code trellislaw26_sameBytes_c10] [(0, .slice A2 n3 c4), (1, .slice A7 n8 c9), (5, .int .i64 s)] [] [Sm w.heap.size F w [], St w []])) ?_ hs
      clear hs s
      intro x23 o1 h hO1
      show ∀ (_ : Unit), G (trellislaw26_sameBytes_C w F r) [.code trellislaw26_sameBytes_c14, .inLoop trellislaw26_sameBytes_c14, .inBlock 0, .code trellislaw26_sameBytes_c10] [(0, .slice A2 n3 c4), (1, .slice A7 n8 c9), (5, .int .i64 x23)] [] [Sm w.heap.size F w [], St w []]
      intro _
      have h : trellislaw26_sameBytes_b1 x1 x6 x23 o1 := h
      unfold trellislaw26_sameBytes_b1 at h
      refine g_seq (c := trellislaw26_sameBytes_c14) rfl ?_
      refine g_seq (c := trellislaw26_sameBytes_c15) rfl ?_
      refine g_region (c := trellislaw26_sameBytes_c17) rfl rfl ?_
      refine wl_v 0 rfl (v_move rfl) gn rfl ?_
      refine wl_v 1 rfl (v_move rfl) gn rfl ?_
      refine wl_v 2 rfl (v_lenQ un_22 rfl h5.hq) gn rfl ?_
      refine wl_v 3 rfl (v_bin rfl rfl rfl) gn rfl ?_
      refine w_end 4 rfl ?_
      by_cases hp34 : x23 < (x1.length : Int)
      · have h := if_pos' hp34 h
        refine g_true (c := trellislaw26_sameBytes_c18) rfl _ rfl ((decide_eq_true hp34)) ?_
        refine g_skip (c := trellislaw26_sameBytes_c19) rfl ?_
        refine g_seq (c := trellislaw26_sameBytes_c16) rfl ?_
        refine g_block (c := trellislaw26_sameBytes_c21) rfl ?_
        refine g_seq (c := trellislaw26_sameBytes_c23) rfl ?_
        obtain ⟨hb35, h⟩ := h
        obtain ⟨hb37, h⟩ := h
        have hns : Region.noSelect (Code.ops trellislaw26_sameBytes_c24) = true := by kernel_rfl
        refine g_drawF (c := trellislaw26_sameBytes_c24) [] [Sm w.heap.size F w [], St w []] [] 9 rfl rfl mix rfl (.slnil) (sels [0, 1] rfl) ?_
        refine wf_v 0 rfl (v_move rfl) gn rfl hns (by kernel_rfl) (by kernel_rfl) rfl rfl ?_
        refine wf_v 1 rfl (v_move rfl) gn rfl hns (by kernel_rfl) (by kernel_rfl) rfl rfl ?_
        have hr41 := Rw.readF (s := St w []) (hl := (hlI .u8)) (h1 := (hone_int .u8)) h5 hb35
        refine wf_v 2 rfl (v_idxR (s := St w []) slE_22 rfl rfl h5 hb35) gn rfl hns (by kernel_rfl) (by kernel_rfl) rfl rfl ?_
        refine wf_v 3 rfl (v_ldA1 (kk := (x23 : Int).toNat * 1) (j := 0) (St w []) ld_5 rfl hr41 rfl (me 1 rfl)) gn rfl hns (by kernel_rfl) (by kernel_rfl) rfl rfl ?_
        refine wf_v 4 rfl (v_move rfl) gn rfl hns (by kernel_rfl) (by kernel_rfl) rfl rfl ?_
        refine wf_v 5 rfl (v_move rfl) gn rfl hns (by kernel_rfl) (by kernel_rfl) rfl rfl ?_
        have hr42 := Rw.readF (s := St w []) (hl := (hlI .u8)) (h1 := (hone_int .u8)) h10 hb37
        refine wf_v 6 rfl (v_idxR (s := St w []) slE_22 rfl rfl h10 hb37) gn rfl hns (by kernel_rfl) (by kernel_rfl) rfl rfl ?_
        refine wf_v 7 rfl (v_ldA1 (kk := (x23 : Int).toNat * 1) (j := 0) (St w []) ld_5 rfl hr42 rfl (me 1 rfl)) gn rfl hns (by kernel_rfl) (by kernel_rfl) rfl rfl ?_
        refine wf_v 8 rfl (v_bin rfl rfl rfl) gn rfl hns (by kernel_rfl) (by kernel_rfl) rfl rfl ?_
        refine wf_end (by kernel_rfl) ?_
        by_cases hp43 : ix x1 x23 = ix x6 x23
        · have h := if_pos' hp43 h
          refine g_false (c := trellislaw26_sameBytes_c25) rfl _ rfl ((eqib hp43)) ?_
          refine g_skip (c := trellislaw26_sameBytes_c27) rfl ?_
          refine g_inBlock ?_
          refine g_region (c := trellislaw26_sameBytes_c22) rfl rfl ?_
          refine wl_v 0 rfl (v_move rfl) gn rfl ?_
          refine wl_v 1 rfl (v_bin rfl rfl rfl) gn rfl ?_
          refine wl_v 2 rfl (v_assign rfl) gn rfl ?_
          refine w_end 3 rfl ?_
          refine g_inLoop ?_
          have ih := Out.inl hO1 h
          exact g_go [0, 1] (ih ()) ⟨rfl, rfl, rfl, trivial⟩ (.slnil) rfl
        · have h := if_neg' hp43 h
          refine g_true (c := trellislaw26_sameBytes_c25) rfl _ rfl ((neib hp43)) ?_
          refine g_seq (c := trellislaw26_sameBytes_c26) rfl ?_
          refine g_region (c := trellislaw26_sameBytes_c28) rfl rfl ?_
          refine wl_v 0 rfl (v_assign rfl) gn rfl ?_
          refine w_end 1 rfl ?_
          have h := Out.inr hO1 h
          refine g_retR (c := trellislaw26_sameBytes_c29) [.bool false] rfl Tryd.func10 rfl (.tmp rfl (.nil)) fun wr hLr => ?_
          have hMr : B.Loc w wr [] [St w []] := hLr.pick (rest := []) (perm_of_idx [] [] rfl rfl (by kernel_rfl)) (sels [1] rfl)
          have hMi : ∀ e ∈ ([] : List Ent), e ∈ ([] : List Ent) := sels [] rfl
          show trellislaw26_sameBytes_R w F  r (.returned (packV [.bool false])) wr
          rw [h]
          exact ⟨rfl, hMr⟩
      · have h := if_neg' hp34 h
        refine g_false (c := trellislaw26_sameBytes_c18) rfl _ rfl ((decide_eq_false hp34)) ?_
        refine g_exit (c := trellislaw26_sameBytes_c20) [.code trellislaw26_sameBytes_c10] rfl rfl ?_
        refine g_seq (c := trellislaw26_sameBytes_c10) rfl ?_
        refine g_region (c := trellislaw26_sameBytes_c30) rfl rfl ?_
        refine wl_v 0 rfl (v_assign rfl) gn rfl ?_
        refine w_end 1 rfl ?_
        have h := Out.inr hO1 h
        refine g_retR (c := trellislaw26_sameBytes_c31) [.bool true] rfl Tryd.func10 rfl (.tmp rfl (.nil)) fun wr hLr => ?_
        have hMr : B.Loc w wr [] [St w []] := hLr.pick (rest := []) (perm_of_idx [] [] rfl rfl (by kernel_rfl)) (sels [1] rfl)
        have hMi : ∀ e ∈ ([] : List Ent), e ∈ ([] : List Ent) := sels [] rfl
        show trellislaw26_sameBytes_R w F  r (.returned (packV [.bool true])) wr
        rw [h]
        exact ⟨rfl, hMr⟩
    exact g_go [0, 1] (key1 _ h ()) ⟨rfl, rfl, rfl, trivial⟩ (.slnil) rfl
  · have h := if_neg' hp11 h
    refine g_true (c := trellislaw26_sameBytes_c6) rfl _ rfl ((neib hp11)) ?_
    refine g_seq (c := trellislaw26_sameBytes_c7) rfl ?_
    refine g_region (c := trellislaw26_sameBytes_c32) rfl rfl ?_
    refine wl_v 0 rfl (v_assign rfl) gn rfl ?_
    refine w_end 1 rfl ?_
    refine g_retR (c := trellislaw26_sameBytes_c33) [.bool false] rfl Tryd.func10 rfl (.tmp rfl (.nil)) fun wr hLr => ?_
    have hMr : B.Loc w wr [] [St w []] := hLr.pick (rest := []) (perm_of_idx [] [] rfl rfl (by kernel_rfl)) (sels [1] rfl)
    have hMi : ∀ e ∈ ([] : List Ent), e ∈ ([] : List Ent) := sels [] rfl
    show trellislaw26_sameBytes_R w F  r (.returned (packV [.bool false])) wr
    rw [h]
    exact ⟨rfl, hMr⟩
noncomputable abbrev trellislaw26_marked_c0 : Code := bodyOf Tryd.f11
noncomputable abbrev trellislaw26_marked_c1 : Code := Code.fst trellislaw26_marked_c0
noncomputable abbrev trellislaw26_marked_c2 : Code := Code.snd trellislaw26_marked_c0
noncomputable abbrev trellislaw26_marked_c3 : Code := Code.fst trellislaw26_marked_c2
noncomputable abbrev trellislaw26_marked_c4 : Code := Code.snd trellislaw26_marked_c2
noncomputable abbrev trellislaw26_marked_c5 : Code := Code.fst trellislaw26_marked_c4
noncomputable abbrev trellislaw26_marked_c6 : Code := Code.snd trellislaw26_marked_c4
noncomputable abbrev trellislaw26_marked_c7 : Code := Code.fst trellislaw26_marked_c5
noncomputable abbrev trellislaw26_marked_c8 : Code := Code.snd trellislaw26_marked_c5
noncomputable abbrev trellislaw26_marked_c9 : Code := Code.fst trellislaw26_marked_c8
noncomputable abbrev trellislaw26_marked_c10 : Code := Code.fst trellislaw26_marked_c9
noncomputable abbrev trellislaw26_marked_c11 : Code := Code.fst trellislaw26_marked_c10
noncomputable abbrev trellislaw26_marked_c12 : Code := Code.snd trellislaw26_marked_c10
noncomputable abbrev trellislaw26_marked_c13 : Code := Code.fst trellislaw26_marked_c11
noncomputable abbrev trellislaw26_marked_c14 : Code := Code.snd trellislaw26_marked_c11
noncomputable abbrev trellislaw26_marked_c15 : Code := Code.fst trellislaw26_marked_c14
noncomputable abbrev trellislaw26_marked_c16 : Code := Code.snd trellislaw26_marked_c14
noncomputable abbrev trellislaw26_marked_c17 : Code := Code.fst trellislaw26_marked_c12
noncomputable abbrev trellislaw26_marked_c18 : Code := Code.snd trellislaw26_marked_c12
noncomputable abbrev trellislaw26_marked_c19 : Code := Code.fst trellislaw26_marked_c17
noncomputable abbrev trellislaw26_marked_c20 : Code := Code.fst trellislaw26_marked_c6
noncomputable abbrev trellislaw26_marked_c21 : Code := Code.snd trellislaw26_marked_c6
noncomputable abbrev trellislaw26_marked_c22 : Code := Code.fst trellislaw26_marked_c20
noncomputable abbrev trellislaw26_marked_c23 : Code := Code.snd trellislaw26_marked_c20
noncomputable abbrev trellislaw26_marked_c24 : Code := Code.fst trellislaw26_marked_c23
noncomputable abbrev trellislaw26_marked_c25 : Code := Code.fst trellislaw26_marked_c24
noncomputable abbrev trellislaw26_marked_c26 : Code := Code.fst trellislaw26_marked_c25
noncomputable abbrev trellislaw26_marked_c27 : Code := Code.snd trellislaw26_marked_c25
noncomputable abbrev trellislaw26_marked_c28 : Code := Code.fst trellislaw26_marked_c26
noncomputable abbrev trellislaw26_marked_c29 : Code := Code.snd trellislaw26_marked_c26
noncomputable abbrev trellislaw26_marked_c30 : Code := Code.fst trellislaw26_marked_c29
noncomputable abbrev trellislaw26_marked_c31 : Code := Code.snd trellislaw26_marked_c29
noncomputable abbrev trellislaw26_marked_c32 : Code := Code.fst trellislaw26_marked_c27
noncomputable abbrev trellislaw26_marked_c33 : Code := Code.snd trellislaw26_marked_c27
noncomputable abbrev trellislaw26_marked_c34 : Code := Code.fst trellislaw26_marked_c32
noncomputable abbrev trellislaw26_marked_c35 : Code := Code.fst trellislaw26_marked_c21
noncomputable abbrev trellislaw26_marked_c36 : Code := Code.snd trellislaw26_marked_c21
abbrev trellislaw26_marked_R (w : World) (F : Nat → Prop) (r : List Int) : Ending → World → Prop := fun e w' => ∃ A0 : Option Addr, ∃ n0 : Nat, ∃ c0 : Nat, e = .returned (.slice A0 n0 c0) ∧ B.Loc w w' [.own (.slice A0 n0 c0) 5 1 n0 (r.flatMap (eI .u8))] [St w []] ∧ Ow w.heap.size A0 n0 c0 r
noncomputable abbrev trellislaw26_marked_C (w : World) (F : Nat → Prop) (r : List Int) : Cx := ⟨Tryd.prog, 11, Tryd.f11, 30, trellislaw26_marked_R w F  r, w⟩
theorem trellislaw26_marked_calls (w : World) (F : Nat → Prop) (x1 : List Int) (A2 : Option Addr) (n3 : Nat) (c4 : Nat) (h5 : Rw (kInt .u8) w (St w []).av A2 n3 c4 x1) (hF : ∀ b, F b → b < w.heap.size ∧ ∀ o ∈ ([] : List (List Nat)), b ∉ o) (hL0 : B.Loc w w [] [Sm w.heap.size F w [], St w []]) (r : List Int) (h : trellislaw26_marked x1 r) : Calls Tryd.prog 11 #[.slice A2 n3 c4] w (trellislaw26_marked_R w F  r) := by
  unfold trellislaw26_marked at h
  refine calls_of_Loc (vs := [.slice A2 n3 c4]) 30 Tryd.func11 rfl Tryd.ntmps11 rfl hL0 ?_
  show G (trellislaw26_marked_C w F r) _ _ _ _
  refine g_seq (c := trellislaw26_marked_c0) rfl ?_
  refine g_region (c := trellislaw26_marked_c1) rfl rfl ?_
  refine wl_v 0 rfl (v_assign rfl) gn rfl ?_
  refine w_end 1 rfl ?_
  refine g_seq (c := trellislaw26_marked_c2) rfl ?_
  refine g_region (c := trellislaw26_marked_c3) rfl rfl ?_
  refine wl_v 0 rfl (v_assign rfl) gn rfl ?_
  refine w_end 1 rfl ?_
  refine g_seq (c := trellislaw26_marked_c4) rfl ?_
  refine g_seq (c := trellislaw26_marked_c5) rfl ?_
  refine g_region (c := trellislaw26_marked_c7) rfl rfl ?_
  refine wl_v 0 rfl (v_assign rfl) gn rfl ?_
  refine w_end 1 rfl ?_
  refine g_block (c := trellislaw26_marked_c8) rfl ?_
  refine g_loop (c := trellislaw26_marked_c9) rfl ?_
  have key1 : ∀ s, Rounds (fun (s : (List Int) × Int) o => trellislaw26_marked_b1 x1 s.1 s.2 o) s r → (fun (s : (List Int) × Int) => ∀ (A58 : Option Addr) (n59 : Nat) (c60 : Nat) (h61 : Ow w.heap.size A58 n59 c60 s.1), G (trellislaw26_marked_C w F r) [.code trellislaw26_marked_c10, .inLoop trellislaw26_marked_c10, .inBlock 0, .code trellislaw26_marked_c6] [(0, .slice A2 n3 c4), (3, .slice A58 n59 c60), (4, .int .i64 s.2)] [.own (.slice A58 n59 c60) 5 1 n59 (s.1.flatMap (eI .u8))] [Sm w.heap.size F w [], St w []]) s := by
    intro s hs
    refine Rounds.ind (mot := (fun (s : (List Int) × Int) => ∀ (A58 : Option Addr) (n59 : Nat) (c60 : Nat) (h61 : Ow w.heap.size A58 n59 c60 s.1), G (trellislaw26_marked_C w F r) [.code trellislaw26_marked_c10, .inLoop trellislaw26_marked_c10, .inBlock 0, .code trellislaw26_marked_c6] [(0, .slice A2 n3 c4), (3, .slice A58 n59 c60), (4, .int .i64 s.2)] [.own (.slice A58 n59 c60) 5 1 n59 (s.1.flatMap (eI .u8))] [Sm w.heap.size F w [], St w []])) ?_ hs
    clear hs s
    intro s o1 h hO1
    obtain ⟨x57, x62⟩ := s
    show ∀ (A58 : Option Addr) (n59 : Nat) (c60 : Nat) (h61 : Ow w.heap.size A58 n59 c60 x57), G (trellislaw26_marked_C w F r) [.code trellislaw26_marked_c10, .inLoop trellislaw26_marked_c10, .inBlock 0, .code trellislaw26_marked_c6] [(0, .slice A2 n3 c4), (3, .slice A58 n59 c60), (4, .int .i64 x62)] [.own (.slice A58 n59 c60) 5 1 n59 (x57.flatMap (eI .u8))] [Sm w.heap.size F w [], St w []]
    intro A58 n59 c60 h61
    have h : trellislaw26_marked_b1 x1 x57 x62 o1 := h
    unfold trellislaw26_marked_b1 at h
    refine g_seq (c := trellislaw26_marked_c10) rfl ?_
    refine g_seq (c := trellislaw26_marked_c11) rfl ?_
    refine g_region (c := trellislaw26_marked_c13) rfl rfl ?_
    refine wl_v 0 rfl (v_move rfl) gn rfl ?_
    refine wl_v 1 rfl (v_move rfl) gn rfl ?_
    refine wl_v 2 rfl (v_lenQ un_22 rfl h5.hq) gn rfl ?_
    refine wl_v 3 rfl (v_bin rfl rfl rfl) gn rfl ?_
    refine w_end 4 rfl ?_
    by_cases hp111 : x62 < (x1.length : Int)
    · have h := if_pos' hp111 h
      refine g_true (c := trellislaw26_marked_c14) rfl _ rfl ((decide_eq_true hp111)) ?_
      refine g_skip (c := trellislaw26_marked_c15) rfl ?_
      refine g_seq (c := trellislaw26_marked_c12) rfl ?_
      refine g_block (c := trellislaw26_marked_c17) rfl ?_
      refine g_region (c := trellislaw26_marked_c19) rfl rfl ?_
      refine wl_v 0 rfl (v_move rfl) gn rfl ?_
      refine wl_v 1 rfl (v_move rfl) gn rfl ?_
      refine wl_v 2 rfl (v_move rfl) gn rfl ?_
      obtain ⟨hb112, h⟩ := h
      have hr113 := Rw.readF (s := St w []) (hl := (hlI .u8)) (h1 := (hone_int .u8)) h5 hb112
      refine wl_v 3 rfl (v_idxR (s := St w []) slE_22 rfl rfl h5 hb112) gn rfl ?_
      refine wl_v 4 rfl (v_ldA1 (kk := (x62 : Int).toNat * 1) (j := 0) (St w []) ld_5 rfl hr113 rfl (me 1 rfl)) gn rfl ?_
      refine wl_s 5 rfl (s_litO (xs := ([ix x1 x62] : List Int)) [.int .u8 (ix x1 x62)] bs_22_1 rfl (by kernel_rfl) rfl rfl rfl rfl fun gb115 h116 => ?_) gn
      obtain ⟨x120, hv121, h⟩ := h
      obtain ⟨hb122, h⟩ := h
      refine wl_s 6 rfl (s_app (zs := x120) (cells' := x120.flatMap (eI .u8)) 1 ap_22 rfl rfl rfl h61 (Nat.le_refl _) (Src.ownF (hl := (hlI .u8)) (h1 := (hone_int .u8)) 0 rfl h116) (by rw [hv121, List.flatMap_append] <;> rfl) (app_len hv121 h116.hq) hb122 rfl rfl fun A117 c118 h119 => ?_) gn
      refine wl_v 7 rfl (v_assign rfl) gn rfl ?_
      refine w_end 8 rfl ?_
      refine g_inBlock ?_
      refine g_region (c := trellislaw26_marked_c18) rfl rfl ?_
      refine wl_v 0 rfl (v_move rfl) gn rfl ?_
      refine wl_v 1 rfl (v_bin rfl rfl rfl) gn rfl ?_
      refine wl_v 2 rfl (v_assign rfl) gn rfl ?_
      refine w_end 3 rfl ?_
      refine g_inLoop ?_
      have ih := Out.inl hO1 h
      exact g_go [0, 1] (ih A117 (n59 + 1) c118 h119) ⟨rfl, rfl, rfl, trivial⟩ (.cons _ (.cons_cons _ (.slnil))) rfl
    · have h := if_neg' hp111 h
      refine g_false (c := trellislaw26_marked_c14) rfl _ rfl ((decide_eq_false hp111)) ?_
      refine g_exit (c := trellislaw26_marked_c16) [.code trellislaw26_marked_c6] rfl rfl ?_
      refine g_seq (c := trellislaw26_marked_c6) rfl ?_
      refine g_seq (c := trellislaw26_marked_c20) rfl ?_
      refine g_region (c := trellislaw26_marked_c22) rfl rfl ?_
      refine wl_v 0 rfl (v_assign rfl) gn rfl ?_
      refine w_end 1 rfl ?_
      refine g_block (c := trellislaw26_marked_c23) rfl ?_
      refine g_loop (c := trellislaw26_marked_c24) rfl ?_
      have key2 : ∀ s, Rounds (fun (s : (List Int) × Int) o => trellislaw26_marked_b2 s.1 s.2 o) s o1 → (fun (s : (List Int) × Int) => ∀ (A134 : Option Addr) (n135 : Nat) (c136 : Nat) (h137 : Ow w.heap.size A134 n135 c136 s.1), G (trellislaw26_marked_C w F r) [.code trellislaw26_marked_c25, .inLoop trellislaw26_marked_c25, .inBlock 2, .code trellislaw26_marked_c21] [(3, .slice A134 n135 c136), (5, .int .i64 s.2)] [.own (.slice A134 n135 c136) 5 1 n135 (s.1.flatMap (eI .u8))] [Sm w.heap.size F w [], St w []]) s := by
        intro s hs
        refine Rounds.ind (mot := (fun (s : (List Int) × Int) => ∀ (A134 : Option Addr) (n135 : Nat) (c136 : Nat) (h137 : Ow w.heap.size A134 n135 c136 s.1), G (trellislaw26_marked_C w F r) [.code trellislaw26_marked_c25, .inLoop trellislaw26_marked_c25, .inBlock 2, .code trellislaw26_marked_c21] [(3, .slice A134 n135 c136), (5, .int .i64 s.2)] [.own (.slice A134 n135 c136) 5 1 n135 (s.1.flatMap (eI .u8))] [Sm w.heap.size F w [], St w []])) ?_ hs
        clear hs s
        intro s o2 h hO2
        obtain ⟨x133, x138⟩ := s
        show ∀ (A134 : Option Addr) (n135 : Nat) (c136 : Nat) (h137 : Ow w.heap.size A134 n135 c136 x133), G (trellislaw26_marked_C w F r) [.code trellislaw26_marked_c25, .inLoop trellislaw26_marked_c25, .inBlock 2, .code trellislaw26_marked_c21] [(3, .slice A134 n135 c136), (5, .int .i64 x138)] [.own (.slice A134 n135 c136) 5 1 n135 (x133.flatMap (eI .u8))] [Sm w.heap.size F w [], St w []]
        intro A134 n135 c136 h137
        have h : trellislaw26_marked_b2 x133 x138 o2 := h
        unfold trellislaw26_marked_b2 at h
        refine g_seq (c := trellislaw26_marked_c25) rfl ?_
        refine g_seq (c := trellislaw26_marked_c26) rfl ?_
        refine g_region (c := trellislaw26_marked_c28) rfl rfl ?_
        refine wl_v 0 rfl (v_move rfl) gn rfl ?_
        refine wl_v 1 rfl (v_bin rfl rfl rfl) gn rfl ?_
        refine w_end 2 rfl ?_
        by_cases hp149 : x138 < 64
        · have h := if_pos' hp149 h
          refine g_true (c := trellislaw26_marked_c29) rfl _ rfl ((decide_eq_true hp149)) ?_
          refine g_skip (c := trellislaw26_marked_c30) rfl ?_
          refine g_seq (c := trellislaw26_marked_c27) rfl ?_
          refine g_block (c := trellislaw26_marked_c32) rfl ?_
          refine g_region (c := trellislaw26_marked_c34) rfl rfl ?_
          refine wl_v 0 rfl (v_move rfl) gn rfl ?_
          refine wl_v 1 rfl (v_move rfl) gn rfl ?_
          refine wl_v 2 rfl (v_bin rfl rfl rfl) gn rfl ?_
          refine wl_v 3 rfl (v_conv ⟨_, un_3⟩ un_5 rfl) gn rfl ?_
          refine wl_s 4 rfl (s_litO (xs := ([IntKind.u8.wrap (w64 (150 + x138))] : List Int)) [.int .u8 (IntKind.u8.wrap (w64 (150 + x138)))] bs_22_1 rfl (by kernel_rfl) rfl rfl rfl rfl fun gb151 h152 => ?_) gn
          obtain ⟨x156, hv157, h⟩ := h
          obtain ⟨hb158, h⟩ := h
          refine wl_s 5 rfl (s_app (zs := x156) (cells' := x156.flatMap (eI .u8)) 1 ap_22 rfl rfl rfl h137 (Nat.le_refl _) (Src.ownF (hl := (hlI .u8)) (h1 := (hone_int .u8)) 0 rfl h152) (by rw [hv157, List.flatMap_append] <;> rfl) (app_len hv157 h152.hq) hb158 rfl rfl fun A153 c154 h155 => ?_) gn
          refine wl_v 6 rfl (v_assign rfl) gn rfl ?_
          refine w_end 7 rfl ?_
          refine g_inBlock ?_
          refine g_region (c := trellislaw26_marked_c33) rfl rfl ?_
          refine wl_v 0 rfl (v_move rfl) gn rfl ?_
          refine wl_v 1 rfl (v_bin rfl rfl rfl) gn rfl ?_
          refine wl_v 2 rfl (v_assign rfl) gn rfl ?_
          refine w_end 3 rfl ?_
          refine g_inLoop ?_
          have ih := Out.inl hO2 h
          exact g_go [0, 1] (ih A153 (n135 + 1) c154 h155) ⟨rfl, rfl, trivial⟩ (.cons _ (.cons_cons _ (.slnil))) rfl
        · have h := if_neg' hp149 h
          refine g_false (c := trellislaw26_marked_c29) rfl _ rfl ((decide_eq_false hp149)) ?_
          refine g_exit (c := trellislaw26_marked_c31) [.code trellislaw26_marked_c21] rfl rfl ?_
          refine g_seq (c := trellislaw26_marked_c21) rfl ?_
          refine g_region (c := trellislaw26_marked_c35) rfl rfl ?_
          refine wl_v 0 rfl (v_move rfl) gn rfl ?_
          refine wl_v 1 rfl (v_assign rfl) gn rfl ?_
          refine w_end 2 rfl ?_
          have h := Out.inr hO2 h
          have h := Out.inr hO1 h
          refine g_retR (c := trellislaw26_marked_c36) [.slice A134 n135 c136] rfl Tryd.func11 rfl (.tmp rfl (.nil)) fun wr hLr => ?_
          have hMr : B.Loc w wr [.own (.slice A134 n135 c136) 5 1 n135 (x133.flatMap (eI .u8))] [St w []] := hLr.pick (rest := []) (perm_of_idx [0] [] rfl rfl (by kernel_rfl)) (sels [1] rfl)
          have hMi : ∀ e ∈ ([.own (.slice A134 n135 c136) 5 1 n135 (x133.flatMap (eI .u8))] : List Ent), e ∈ ([.own (.slice A134 n135 c136) 5 1 n135 (x133.flatMap (eI .u8))] : List Ent) := sels [0] rfl
          show trellislaw26_marked_R w F  r (.returned (packV [.slice A134 n135 c136])) wr
          rw [h]
          exact ⟨A134, n135, c136, rfl, hMr, h137⟩
      exact g_go [0, 1] (key2 _ h A58 n59 c60 h61) ⟨rfl, rfl, trivial⟩ (.cons_cons _ (.slnil)) rfl
  refine g_nil 5 1 ?_
  exact g_go [0, 1] (key1 _ h none 0 0 (Ow.nil (z := w.heap.size))) ⟨rfl, rfl, rfl, trivial⟩ (.cons_cons _ (.slnil)) rfl
noncomputable abbrev rpc_stands_c0 : Code := bodyOf Tryd.f20
noncomputable abbrev rpc_stands_c1 : Code := Code.fst rpc_stands_c0
noncomputable abbrev rpc_stands_c2 : Code := Code.snd rpc_stands_c0
noncomputable abbrev rpc_stands_c3 : Code := Code.fst rpc_stands_c2
noncomputable abbrev rpc_stands_c4 : Code := Code.snd rpc_stands_c2
noncomputable abbrev rpc_stands_c5 : Code := Code.fst rpc_stands_c3
noncomputable abbrev rpc_stands_c6 : Code := Code.snd rpc_stands_c3
noncomputable abbrev rpc_stands_c7 : Code := Code.fst rpc_stands_c6
noncomputable abbrev rpc_stands_c8 : Code := Code.fst rpc_stands_c7
noncomputable abbrev rpc_stands_c9 : Code := Code.fst rpc_stands_c8
noncomputable abbrev rpc_stands_c10 : Code := Code.snd rpc_stands_c8
noncomputable abbrev rpc_stands_c11 : Code := Code.fst rpc_stands_c10
noncomputable abbrev rpc_stands_c12 : Code := Code.snd rpc_stands_c10
noncomputable abbrev rpc_stands_c13 : Code := Code.fst rpc_stands_c11
noncomputable abbrev rpc_stands_c14 : Code := Code.snd rpc_stands_c11
noncomputable abbrev rpc_stands_c15 : Code := Code.fst rpc_stands_c12
noncomputable abbrev rpc_stands_c16 : Code := Code.snd rpc_stands_c12
noncomputable abbrev rpc_stands_c17 : Code := Code.fst rpc_stands_c15
noncomputable abbrev rpc_stands_c18 : Code := Code.fst rpc_stands_c17
noncomputable abbrev rpc_stands_c19 : Code := Code.snd rpc_stands_c17
noncomputable abbrev rpc_stands_c20 : Code := Code.fst rpc_stands_c19
noncomputable abbrev rpc_stands_c21 : Code := Code.snd rpc_stands_c19
noncomputable abbrev rpc_stands_c22 : Code := Code.fst rpc_stands_c20
noncomputable abbrev rpc_stands_c23 : Code := Code.snd rpc_stands_c20
noncomputable abbrev rpc_stands_c24 : Code := Code.fst rpc_stands_c23
noncomputable abbrev rpc_stands_c25 : Code := Code.snd rpc_stands_c23
noncomputable abbrev rpc_stands_c26 : Code := Code.fst rpc_stands_c24
noncomputable abbrev rpc_stands_c27 : Code := Code.snd rpc_stands_c24
noncomputable abbrev rpc_stands_c28 : Code := Code.fst rpc_stands_c21
noncomputable abbrev rpc_stands_c29 : Code := Code.snd rpc_stands_c21
noncomputable abbrev rpc_stands_c30 : Code := Code.fst rpc_stands_c29
noncomputable abbrev rpc_stands_c31 : Code := Code.snd rpc_stands_c29
noncomputable abbrev rpc_stands_c32 : Code := Code.fst rpc_stands_c30
noncomputable abbrev rpc_stands_c33 : Code := Code.snd rpc_stands_c30
noncomputable abbrev rpc_stands_c34 : Code := Code.fst rpc_stands_c4
noncomputable abbrev rpc_stands_c35 : Code := Code.snd rpc_stands_c4
abbrev rpc_stands_R (w : World) (F : Nat → Prop) (r : Int) : Ending → World → Prop := fun e w' => e = .returned (.int .i64 r) ∧ B.Loc w w' [] [St w []]
noncomputable abbrev rpc_stands_C (w : World) (F : Nat → Prop) (r : Int) : Cx := ⟨Tryd.prog, 20, Tryd.f20, 24, rpc_stands_R w F  r, w⟩
theorem rpc_stands_calls (w : World) (F : Nat → Prop) (x1 : List Int) (x6 : ByteArray) (A2 : Option Addr) (n3 : Nat) (c4 : Nat) (h5 : Rw (kInt .u8) w (St w []).av A2 n3 c4 x1) (hF : ∀ b, F b → b < w.heap.size ∧ ∀ o ∈ ([] : List (List Nat)), b ∉ o) (hL0 : B.Loc w w [] [Sm w.heap.size F w [], St w []]) (r : Int) (h : rpc_stands x1 x6 r) : Calls Tryd.prog 20 #[.slice A2 n3 c4, .string x6] w (rpc_stands_R w F  r) := by
  unfold rpc_stands at h
  refine calls_of_Loc (vs := [.slice A2 n3 c4, .string x6]) 24 Tryd.func20 rfl Tryd.ntmps20 rfl hL0 ?_
  show G (rpc_stands_C w F r) _ _ _ _
  refine g_seq (c := rpc_stands_c0) rfl ?_
  refine g_region (c := rpc_stands_c1) rfl rfl ?_
  refine wl_v 0 rfl (v_assign rfl) gn rfl ?_
  refine w_end 1 rfl ?_
  refine g_seq (c := rpc_stands_c2) rfl ?_
  refine g_seq (c := rpc_stands_c3) rfl ?_
  refine g_region (c := rpc_stands_c5) rfl rfl ?_
  refine wl_v 0 rfl (v_move rfl) gn rfl ?_
  refine wl_v 1 rfl (v_lenS un_9 rfl) gn rfl ?_
  refine wl_v 2 rfl (v_move rfl) gn rfl ?_
  refine w_end 3 rfl ?_
  refine g_block (c := rpc_stands_c6) rfl ?_
  refine g_loop (c := rpc_stands_c7) rfl ?_
  have key1 : ∀ s, Rounds (fun (s : Int) o => rpc_stands_b1 x6 x1 s o) s r → (fun (s : Int) => ∀ (_ : Unit), G (rpc_stands_C w F r) [.code rpc_stands_c8, .inLoop rpc_stands_c8, .inBlock 0, .code rpc_stands_c4] [(0, .slice A2 n3 c4), (1, .string x6), (7, .int .i64 (x6.size : Int)), (8, .int .i64 s)] [] [Sm w.heap.size F w [], St w []]) s := by
    intro s hs
    refine Rounds.ind (mot := (fun (s : Int) => ∀ (_ : Unit), G (rpc_stands_C w F r) [.code rpc_stands_c8, .inLoop rpc_stands_c8, .inBlock 0, .code rpc_stands_c4] [(0, .slice A2 n3 c4), (1, .string x6), (7, .int .i64 (x6.size : Int)), (8, .int .i64 s)] [] [Sm w.heap.size F w [], St w []])) ?_ hs
    clear hs s
    intro x16 o1 h hO1
    show ∀ (_ : Unit), G (rpc_stands_C w F r) [.code rpc_stands_c8, .inLoop rpc_stands_c8, .inBlock 0, .code rpc_stands_c4] [(0, .slice A2 n3 c4), (1, .string x6), (7, .int .i64 (x6.size : Int)), (8, .int .i64 x16)] [] [Sm w.heap.size F w [], St w []]
    intro _
    have h : rpc_stands_b1 x6 x1 x16 o1 := h
    unfold rpc_stands_b1 at h
    refine g_seq (c := rpc_stands_c8) rfl ?_
    refine g_region (c := rpc_stands_c9) rfl rfl ?_
    refine wl_v 0 rfl (v_bin rfl rfl rfl) gn rfl ?_
    refine w_end 1 rfl ?_
    refine g_seq (c := rpc_stands_c10) rfl ?_
    by_cases hp25 : x16 < (x6.size : Int)
    · have h := if_pos' hp25 h
      refine g_true (c := rpc_stands_c11) rfl _ rfl ((decide_eq_true hp25)) ?_
      refine g_skip (c := rpc_stands_c13) rfl ?_
      refine g_seq (c := rpc_stands_c12) rfl ?_
      refine g_block (c := rpc_stands_c15) rfl ?_
      refine g_seq (c := rpc_stands_c17) rfl ?_
      refine g_region (c := rpc_stands_c18) rfl rfl ?_
      refine wl_v 0 rfl (v_move rfl) gn rfl ?_
      refine wl_v 1 rfl (v_assign rfl) gn rfl ?_
      refine w_end 2 rfl ?_
      refine g_seq (c := rpc_stands_c19) rfl ?_
      refine g_seq (c := rpc_stands_c20) rfl ?_
      refine g_region (c := rpc_stands_c22) rfl rfl ?_
      refine wl_v 0 rfl (v_move rfl) gn rfl ?_
      refine wl_v 1 rfl (v_move rfl) gn rfl ?_
      refine wl_v 2 rfl (v_lenQ un_22 rfl h5.hq) gn rfl ?_
      refine wl_v 3 rfl (v_bin rfl rfl rfl) gn rfl ?_
      refine w_end 4 rfl ?_
      by_cases hp26 : x16 = (x1.length : Int)
      · have h := if_pos' hp26 h
        refine g_true (c := rpc_stands_c23) rfl _ rfl ((eqi hp26)) ?_
        refine g_seq (c := rpc_stands_c24) rfl ?_
        refine g_region (c := rpc_stands_c26) rfl rfl ?_
        refine wl_v 0 rfl (v_assign rfl) gn rfl ?_
        refine w_end 1 rfl ?_
        have h := Out.inr hO1 h
        refine g_retR (c := rpc_stands_c27) [.int .i64 260] rfl Tryd.func20 rfl (.tmp rfl (.nil)) fun wr hLr => ?_
        have hMr : B.Loc w wr [] [St w []] := hLr.pick (rest := []) (perm_of_idx [] [] rfl rfl (by kernel_rfl)) (sels [1] rfl)
        have hMi : ∀ e ∈ ([] : List Ent), e ∈ ([] : List Ent) := sels [] rfl
        show rpc_stands_R w F  r (.returned (packV [.int .i64 260])) wr
        rw [h]
        exact ⟨rfl, hMr⟩
      · have h := if_neg' hp26 h
        refine g_false (c := rpc_stands_c23) rfl _ rfl ((nei hp26)) ?_
        refine g_skip (c := rpc_stands_c25) rfl ?_
        refine g_seq (c := rpc_stands_c21) rfl ?_
        obtain ⟨hb27, h⟩ := h
        obtain ⟨hb29, h⟩ := h
        have hns : Region.noSelect (Code.ops rpc_stands_c28) = true := by kernel_rfl
        refine g_drawF (c := rpc_stands_c28) [] [Sm w.heap.size F w [], St w []] [] 8 rfl rfl mix rfl (.slnil) (sels [0, 1] rfl) ?_
        refine wf_v 0 rfl (v_move rfl) gn rfl hns (by kernel_rfl) (by kernel_rfl) rfl rfl ?_
        refine wf_v 1 rfl (v_move rfl) gn rfl hns (by kernel_rfl) (by kernel_rfl) rfl rfl ?_
        have hr31 := Rw.readF (s := St w []) (hl := (hlI .u8)) (h1 := (hone_int .u8)) h5 hb27
        refine wf_v 2 rfl (v_idxR (s := St w []) slE_22 rfl rfl h5 hb27) gn rfl hns (by kernel_rfl) (by kernel_rfl) rfl rfl ?_
        refine wf_v 3 rfl (v_ldA1 (kk := (x16 : Int).toNat * 1) (j := 0) (St w []) ld_5 rfl hr31 rfl (me 1 rfl)) gn rfl hns (by kernel_rfl) (by kernel_rfl) rfl rfl ?_
        refine wf_v 4 rfl (v_move rfl) gn rfl hns (by kernel_rfl) (by kernel_rfl) rfl rfl ?_
        refine wf_v 5 rfl (v_move rfl) gn rfl hns (by kernel_rfl) (by kernel_rfl) rfl rfl ?_
        refine wf_v 6 rfl (v_indexS un_9 rfl rfl hb29) gn rfl hns (by kernel_rfl) (by kernel_rfl) rfl rfl ?_
        refine wf_v 7 rfl (v_bin rfl rfl rfl) gn rfl hns (by kernel_rfl) (by kernel_rfl) rfl rfl ?_
        refine wf_end (by kernel_rfl) ?_
        by_cases hp32 : ix x1 x16 = bt x6 x16
        · have h := if_pos' hp32 h
          refine g_false (c := rpc_stands_c29) rfl _ rfl ((eqib hp32)) ?_
          refine g_skip (c := rpc_stands_c31) rfl ?_
          refine g_inBlock ?_
          refine g_region (c := rpc_stands_c16) rfl rfl ?_
          refine wl_v 0 rfl (v_bin rfl rfl rfl) gn rfl ?_
          refine wl_v 1 rfl (v_move rfl) gn rfl ?_
          refine w_end 2 rfl ?_
          refine g_inLoop ?_
          have ih := Out.inl hO1 h
          exact g_go [0, 1] (ih ()) ⟨rfl, rfl, rfl, rfl, trivial⟩ (.slnil) rfl
        · have h := if_neg' hp32 h
          refine g_true (c := rpc_stands_c29) rfl _ rfl ((neib hp32)) ?_
          refine g_seq (c := rpc_stands_c30) rfl ?_
          refine g_region (c := rpc_stands_c32) rfl rfl ?_
          refine wl_v 0 rfl (v_assign rfl) gn rfl ?_
          refine w_end 1 rfl ?_
          have h := Out.inr hO1 h
          refine g_retR (c := rpc_stands_c33) [.int .i64 261] rfl Tryd.func20 rfl (.tmp rfl (.nil)) fun wr hLr => ?_
          have hMr : B.Loc w wr [] [St w []] := hLr.pick (rest := []) (perm_of_idx [] [] rfl rfl (by kernel_rfl)) (sels [1] rfl)
          have hMi : ∀ e ∈ ([] : List Ent), e ∈ ([] : List Ent) := sels [] rfl
          show rpc_stands_R w F  r (.returned (packV [.int .i64 261])) wr
          rw [h]
          exact ⟨rfl, hMr⟩
    · have h := if_neg' hp25 h
      refine g_false (c := rpc_stands_c11) rfl _ rfl ((decide_eq_false hp25)) ?_
      refine g_exit (c := rpc_stands_c14) [.code rpc_stands_c4] rfl rfl ?_
      refine g_seq (c := rpc_stands_c4) rfl ?_
      refine g_region (c := rpc_stands_c34) rfl rfl ?_
      refine wl_v 0 rfl (v_assign rfl) gn rfl ?_
      refine w_end 1 rfl ?_
      have h := Out.inr hO1 h
      refine g_retR (c := rpc_stands_c35) [.int .i64 0] rfl Tryd.func20 rfl (.tmp rfl (.nil)) fun wr hLr => ?_
      have hMr : B.Loc w wr [] [St w []] := hLr.pick (rest := []) (perm_of_idx [] [] rfl rfl (by kernel_rfl)) (sels [1] rfl)
      have hMi : ∀ e ∈ ([] : List Ent), e ∈ ([] : List Ent) := sels [] rfl
      show rpc_stands_R w F  r (.returned (packV [.int .i64 0])) wr
      rw [h]
      exact ⟨rfl, hMr⟩
  exact g_go [0, 1] (key1 _ h ()) ⟨rfl, rfl, rfl, rfl, trivial⟩ (.slnil) rfl
noncomputable abbrev rpc_number_c0 : Code := bodyOf Tryd.f21
noncomputable abbrev rpc_number_c1 : Code := Code.fst rpc_number_c0
noncomputable abbrev rpc_number_c2 : Code := Code.snd rpc_number_c0
noncomputable abbrev rpc_number_c3 : Code := Code.fst rpc_number_c2
noncomputable abbrev rpc_number_c4 : Code := Code.snd rpc_number_c2
noncomputable abbrev rpc_number_c5 : Code := Code.fst rpc_number_c4
noncomputable abbrev rpc_number_c6 : Code := Code.snd rpc_number_c4
noncomputable abbrev rpc_number_c7 : Code := Code.fst rpc_number_c5
noncomputable abbrev rpc_number_c8 : Code := Code.fst rpc_number_c7
noncomputable abbrev rpc_number_c9 : Code := Code.fst rpc_number_c8
noncomputable abbrev rpc_number_c10 : Code := Code.snd rpc_number_c8
noncomputable abbrev rpc_number_c11 : Code := Code.fst rpc_number_c9
noncomputable abbrev rpc_number_c12 : Code := Code.fst rpc_number_c11
noncomputable abbrev rpc_number_c13 : Code := Code.snd rpc_number_c11
noncomputable abbrev rpc_number_c14 : Code := Code.fst rpc_number_c12
noncomputable abbrev rpc_number_c15 : Code := Code.snd rpc_number_c12
noncomputable abbrev rpc_number_c16 : Code := Code.fst rpc_number_c15
noncomputable abbrev rpc_number_c17 : Code := Code.snd rpc_number_c15
noncomputable abbrev rpc_number_c18 : Code := Code.fst rpc_number_c16
noncomputable abbrev rpc_number_c19 : Code := Code.snd rpc_number_c16
noncomputable abbrev rpc_number_c20 : Code := Code.fst rpc_number_c13
noncomputable abbrev rpc_number_c21 : Code := Code.snd rpc_number_c13
noncomputable abbrev rpc_number_c22 : Code := Code.fst rpc_number_c20
noncomputable abbrev rpc_number_c23 : Code := Code.snd rpc_number_c20
noncomputable abbrev rpc_number_c24 : Code := Code.fst rpc_number_c23
noncomputable abbrev rpc_number_c25 : Code := Code.snd rpc_number_c23
noncomputable abbrev rpc_number_c26 : Code := Code.fst rpc_number_c6
noncomputable abbrev rpc_number_c27 : Code := Code.snd rpc_number_c6
noncomputable abbrev rpc_number_c28 : Code := Code.fst rpc_number_c26
noncomputable abbrev rpc_number_c29 : Code := Code.snd rpc_number_c26
noncomputable abbrev rpc_number_c30 : Code := Code.fst rpc_number_c29
noncomputable abbrev rpc_number_c31 : Code := Code.snd rpc_number_c29
noncomputable abbrev rpc_number_c32 : Code := Code.fst rpc_number_c30
noncomputable abbrev rpc_number_c33 : Code := Code.snd rpc_number_c30
noncomputable abbrev rpc_number_c34 : Code := Code.fst rpc_number_c21
noncomputable abbrev rpc_number_c35 : Code := Code.snd rpc_number_c21
noncomputable abbrev rpc_number_c36 : Code := Code.fst rpc_number_c34
noncomputable abbrev rpc_number_c37 : Code := Code.snd rpc_number_c34
noncomputable abbrev rpc_number_c38 : Code := Code.fst rpc_number_c37
noncomputable abbrev rpc_number_c39 : Code := Code.snd rpc_number_c37
noncomputable abbrev rpc_number_c40 : Code := Code.fst rpc_number_c35
noncomputable abbrev rpc_number_c41 : Code := Code.snd rpc_number_c35
noncomputable abbrev rpc_number_c42 : Code := Code.fst rpc_number_c41
noncomputable abbrev rpc_number_c43 : Code := Code.snd rpc_number_c41
noncomputable abbrev rpc_number_c44 : Code := Code.fst rpc_number_c43
noncomputable abbrev rpc_number_c45 : Code := Code.snd rpc_number_c43
noncomputable abbrev rpc_number_c46 : Code := Code.fst rpc_number_c44
noncomputable abbrev rpc_number_c47 : Code := Code.snd rpc_number_c44
noncomputable abbrev rpc_number_c48 : Code := Code.fst rpc_number_c27
noncomputable abbrev rpc_number_c49 : Code := Code.snd rpc_number_c27
noncomputable abbrev rpc_number_c50 : Code := Code.fst rpc_number_c38
noncomputable abbrev rpc_number_c51 : Code := Code.snd rpc_number_c38
abbrev rpc_number_R (w : World) (F : Nat → Prop) (r : Int × Int × Int) : Ending → World → Prop := fun e w' => e = .returned (.tuple #[.int .i64 r.1, .int .i64 r.2.1, .int .i64 r.2.2]) ∧ B.Loc w w' [] [St w []]
noncomputable abbrev rpc_number_C (w : World) (F : Nat → Prop) (r : Int × Int × Int) : Cx := ⟨Tryd.prog, 21, Tryd.f21, 46, rpc_number_R w F  r, w⟩
theorem rpc_number_calls (w : World) (F : Nat → Prop) (x1 : List Int) (A2 : Option Addr) (n3 : Nat) (c4 : Nat) (h5 : Rw (kInt .u8) w (St w []).av A2 n3 c4 x1) (hF : ∀ b, F b → b < w.heap.size ∧ ∀ o ∈ ([] : List (List Nat)), b ∉ o) (hL0 : B.Loc w w [] [Sm w.heap.size F w [], St w []]) (r : Int × Int × Int) (h : rpc_number x1 r) : Calls Tryd.prog 21 #[.slice A2 n3 c4] w (rpc_number_R w F  r) := by
  unfold rpc_number at h
  refine calls_of_Loc (vs := [.slice A2 n3 c4]) 46 Tryd.func21 rfl Tryd.ntmps21 rfl hL0 ?_
  show G (rpc_number_C w F r) _ _ _ _
  refine g_seq (c := rpc_number_c0) rfl ?_
  refine g_region (c := rpc_number_c1) rfl rfl ?_
  refine wl_v 0 rfl (v_assign rfl) gn rfl ?_
  refine wl_v 1 rfl (v_assign rfl) gn rfl ?_
  refine wl_v 2 rfl (v_assign rfl) gn rfl ?_
  refine w_end 3 rfl ?_
  refine g_seq (c := rpc_number_c2) rfl ?_
  refine g_region (c := rpc_number_c3) rfl rfl ?_
  refine wl_v 0 rfl (v_assign rfl) gn rfl ?_
  refine wl_v 1 rfl (v_assign rfl) gn rfl ?_
  refine w_end 2 rfl ?_
  refine g_seq (c := rpc_number_c4) rfl ?_
  refine g_block (c := rpc_number_c5) rfl ?_
  refine g_loop (c := rpc_number_c7) rfl ?_
  have key1 : ∀ s, Rounds (fun (s : Int × Int) o => rpc_number_b1 x1 s.1 s.2 o) s r → (fun (s : Int × Int) => ∀ (_ : Unit), G (rpc_number_C w F r) [.code rpc_number_c8, .inLoop rpc_number_c8, .inBlock 0, .code rpc_number_c6] [(0, .slice A2 n3 c4), (5, .int .i64 s.1), (6, .int .i64 s.2)] [] [Sm w.heap.size F w [], St w []]) s := by
    intro s hs
    refine Rounds.ind (mot := (fun (s : Int × Int) => ∀ (_ : Unit), G (rpc_number_C w F r) [.code rpc_number_c8, .inLoop rpc_number_c8, .inBlock 0, .code rpc_number_c6] [(0, .slice A2 n3 c4), (5, .int .i64 s.1), (6, .int .i64 s.2)] [] [Sm w.heap.size F w [], St w []])) ?_ hs
    clear hs s
    intro s o1 h hO1
    obtain ⟨x22, x23⟩ := s
    show ∀ (_ : Unit), G (rpc_number_C w F r) [.code rpc_number_c8, .inLoop rpc_number_c8, .inBlock 0, .code rpc_number_c6] [(0, .slice A2 n3 c4), (5, .int .i64 x22), (6, .int .i64 x23)] [] [Sm w.heap.size F w [], St w []]
    intro _
    have h : rpc_number_b1 x1 x22 x23 o1 := h
    unfold rpc_number_b1 at h
    refine g_seq (c := rpc_number_c8) rfl ?_
    refine g_block (c := rpc_number_c9) rfl ?_
    refine g_seq (c := rpc_number_c11) rfl ?_
    refine g_seq (c := rpc_number_c12) rfl ?_
    refine g_region (c := rpc_number_c14) rfl rfl ?_
    refine wl_v 0 rfl (v_move rfl) gn rfl ?_
    refine wl_v 1 rfl (v_move rfl) gn rfl ?_
    refine wl_v 2 rfl (v_lenQ un_22 rfl h5.hq) gn rfl ?_
    refine wl_v 3 rfl (v_bin rfl rfl rfl) gn rfl ?_
    refine w_end 4 rfl ?_
    by_cases hp45 : x23 = (x1.length : Int)
    · have h := if_pos' hp45 h
      refine g_true (c := rpc_number_c15) rfl _ rfl ((eqi hp45)) ?_
      refine g_seq (c := rpc_number_c16) rfl ?_
      refine g_region (c := rpc_number_c18) rfl rfl ?_
      refine wl_v 0 rfl (v_assign rfl) gn rfl ?_
      refine wl_v 1 rfl (v_assign rfl) gn rfl ?_
      refine wl_v 2 rfl (v_assign rfl) gn rfl ?_
      refine w_end 3 rfl ?_
      have h := Out.inr hO1 h
      refine g_retR (c := rpc_number_c19) [.int .i64 0, .int .i64 0, .int .i64 260] rfl Tryd.func21 rfl (.tmp rfl (.tmp rfl (.tmp rfl (.nil)))) fun wr hLr => ?_
      have hMr : B.Loc w wr [] [St w []] := hLr.pick (rest := []) (perm_of_idx [] [] rfl rfl (by kernel_rfl)) (sels [1] rfl)
      have hMi : ∀ e ∈ ([] : List Ent), e ∈ ([] : List Ent) := sels [] rfl
      show rpc_number_R w F  r (.returned (packV [.int .i64 0, .int .i64 0, .int .i64 260])) wr
      rw [h]
      exact ⟨rfl, hMr⟩
    · have h := if_neg' hp45 h
      refine g_false (c := rpc_number_c15) rfl _ rfl ((nei hp45)) ?_
      refine g_skip (c := rpc_number_c17) rfl ?_
      refine g_seq (c := rpc_number_c13) rfl ?_
      refine g_seq (c := rpc_number_c20) rfl ?_
      have j2 : ∀ (x51 : Bool) (h : rpc_number_j2 x23 x22 x1 x51 o1) , G (rpc_number_C w F r) [.code rpc_number_c23, .code rpc_number_c21, .inBlock 1, .code rpc_number_c10, .inLoop rpc_number_c8, .inBlock 0, .code rpc_number_c6] [(0, .slice A2 n3 c4), (5, .int .i64 x22), (6, .int .i64 x23), (24, .bool x51)] [] [Sm w.heap.size F w [], St w []] := by
        intro x51 h
        unfold rpc_number_j2 at h
        by_cases hp52 : x51 = true
        · have h := if_pos' hp52 h
          refine g_true (c := rpc_number_c23) rfl _ rfl (hp52) ?_
          refine g_exit (c := rpc_number_c24) [.code rpc_number_c6] rfl rfl ?_
          refine g_seq (c := rpc_number_c6) rfl ?_
          refine g_seq (c := rpc_number_c26) rfl ?_
          refine g_region (c := rpc_number_c28) rfl rfl ?_
          refine wl_v 0 rfl (v_move rfl) gn rfl ?_
          refine wl_v 1 rfl (v_bin rfl rfl rfl) gn rfl ?_
          refine w_end 2 rfl ?_
          by_cases hp53 : x23 = 0
          · have h := if_pos' hp53 h
            refine g_true (c := rpc_number_c29) rfl _ rfl ((eqi hp53)) ?_
            refine g_seq (c := rpc_number_c30) rfl ?_
            refine g_region (c := rpc_number_c32) rfl rfl ?_
            refine wl_v 0 rfl (v_assign rfl) gn rfl ?_
            refine wl_v 1 rfl (v_assign rfl) gn rfl ?_
            refine wl_v 2 rfl (v_assign rfl) gn rfl ?_
            refine w_end 3 rfl ?_
            have h := Out.inr hO1 h
            refine g_retR (c := rpc_number_c33) [.int .i64 0, .int .i64 0, .int .i64 261] rfl Tryd.func21 rfl (.tmp rfl (.tmp rfl (.tmp rfl (.nil)))) fun wr hLr => ?_
            have hMr : B.Loc w wr [] [St w []] := hLr.pick (rest := []) (perm_of_idx [] [] rfl rfl (by kernel_rfl)) (sels [1] rfl)
            have hMi : ∀ e ∈ ([] : List Ent), e ∈ ([] : List Ent) := sels [] rfl
            show rpc_number_R w F  r (.returned (packV [.int .i64 0, .int .i64 0, .int .i64 261])) wr
            rw [h]
            exact ⟨rfl, hMr⟩
          · have h := if_neg' hp53 h
            refine g_false (c := rpc_number_c29) rfl _ rfl ((nei hp53)) ?_
            refine g_skip (c := rpc_number_c31) rfl ?_
            refine g_seq (c := rpc_number_c27) rfl ?_
            refine g_region (c := rpc_number_c48) rfl rfl ?_
            refine wl_v 0 rfl (v_move rfl) gn rfl ?_
            refine wl_v 1 rfl (v_move rfl) gn rfl ?_
            refine wl_v 2 rfl (v_assign rfl) gn rfl ?_
            refine wl_v 3 rfl (v_assign rfl) gn rfl ?_
            refine wl_v 4 rfl (v_assign rfl) gn rfl ?_
            refine w_end 5 rfl ?_
            have h := Out.inr hO1 h
            refine g_retR (c := rpc_number_c49) [.int .i64 x22, .int .i64 x23, .int .i64 0] rfl Tryd.func21 rfl (.tmp rfl (.tmp rfl (.tmp rfl (.nil)))) fun wr hLr => ?_
            have hMr : B.Loc w wr [] [St w []] := hLr.pick (rest := []) (perm_of_idx [] [] rfl rfl (by kernel_rfl)) (sels [1] rfl)
            have hMi : ∀ e ∈ ([] : List Ent), e ∈ ([] : List Ent) := sels [] rfl
            show rpc_number_R w F  r (.returned (packV [.int .i64 x22, .int .i64 x23, .int .i64 0])) wr
            rw [h]
            exact ⟨rfl, hMr⟩
        · have h := if_neg' hp52 h
          refine g_false (c := rpc_number_c23) rfl _ rfl ((bf hp52)) ?_
          refine g_skip (c := rpc_number_c25) rfl ?_
          refine g_seq (c := rpc_number_c21) rfl ?_
          refine g_seq (c := rpc_number_c34) rfl ?_
          have j3 : ∀ (x56 : Bool) (h : rpc_number_j3 x23 x1 x22 x56 o1) , G (rpc_number_C w F r) [.code rpc_number_c37, .code rpc_number_c35, .inBlock 1, .code rpc_number_c10, .inLoop rpc_number_c8, .inBlock 0, .code rpc_number_c6] [(0, .slice A2 n3 c4), (5, .int .i64 x22), (6, .int .i64 x23), (30, .bool x56)] [] [Sm w.heap.size F w [], St w []] := by
            intro x56 h
            unfold rpc_number_j3 at h
            by_cases hp57 : x56 = true
            · have h := if_pos' hp57 h
              refine g_true (c := rpc_number_c37) rfl _ rfl (hp57) ?_
              refine g_seq (c := rpc_number_c38) rfl ?_
              refine g_region (c := rpc_number_c50) rfl rfl ?_
              refine wl_v 0 rfl (v_assign rfl) gn rfl ?_
              refine wl_v 1 rfl (v_assign rfl) gn rfl ?_
              refine wl_v 2 rfl (v_assign rfl) gn rfl ?_
              refine w_end 3 rfl ?_
              have h := Out.inr hO1 h
              refine g_retR (c := rpc_number_c51) [.int .i64 0, .int .i64 0, .int .i64 261] rfl Tryd.func21 rfl (.tmp rfl (.tmp rfl (.tmp rfl (.nil)))) fun wr hLr => ?_
              have hMr : B.Loc w wr [] [St w []] := hLr.pick (rest := []) (perm_of_idx [] [] rfl rfl (by kernel_rfl)) (sels [1] rfl)
              have hMi : ∀ e ∈ ([] : List Ent), e ∈ ([] : List Ent) := sels [] rfl
              show rpc_number_R w F  r (.returned (packV [.int .i64 0, .int .i64 0, .int .i64 261])) wr
              rw [h]
              exact ⟨rfl, hMr⟩
            · have h := if_neg' hp57 h
              refine g_false (c := rpc_number_c37) rfl _ rfl ((bf hp57)) ?_
              refine g_skip (c := rpc_number_c39) rfl ?_
              refine g_seq (c := rpc_number_c35) rfl ?_
              refine g_region (c := rpc_number_c40) rfl rfl ?_
              refine wl_v 0 rfl (v_move rfl) gn rfl ?_
              refine wl_v 1 rfl (v_bin rfl rfl rfl) gn rfl ?_
              refine wl_v 2 rfl (v_move rfl) gn rfl ?_
              refine wl_v 3 rfl (v_move rfl) gn rfl ?_
              obtain ⟨hb58, h⟩ := h
              have hr59 := Rw.readF (s := St w []) (hl := (hlI .u8)) (h1 := (hone_int .u8)) h5 hb58
              refine wl_v 4 rfl (v_idxR (s := St w []) slE_22 rfl rfl h5 hb58) gn rfl ?_
              refine wl_v 5 rfl (v_ldA1 (kk := (x23 : Int).toNat * 1) (j := 0) (St w []) ld_5 rfl hr59 rfl (me 1 rfl)) gn rfl ?_
              refine wl_v 6 rfl (v_bin rfl rfl rfl) gn rfl ?_
              refine wl_v 7 rfl (v_conv ⟨_, un_5⟩ un_3 rfl) gn rfl ?_
              refine wl_v 8 rfl (v_bin rfl rfl rfl) gn rfl ?_
              refine wl_v 9 rfl (v_assign rfl) gn rfl ?_
              refine w_end 10 rfl ?_
              refine g_seq (c := rpc_number_c41) rfl ?_
              refine g_region (c := rpc_number_c42) rfl rfl ?_
              refine wl_v 0 rfl (v_move rfl) gn rfl ?_
              refine wl_v 1 rfl (v_bin rfl rfl rfl) gn rfl ?_
              refine w_end 2 rfl ?_
              by_cases hp60 : w64 ((w64 (10 * x22)) + (w64 (IntKind.u8.wrap ((ix x1 x23) - 48)))) > 2097152
              · have h := if_pos' hp60 h
                refine g_true (c := rpc_number_c43) rfl _ rfl ((decide_eq_true hp60)) ?_
                refine g_seq (c := rpc_number_c44) rfl ?_
                refine g_region (c := rpc_number_c46) rfl rfl ?_
                refine wl_v 0 rfl (v_assign rfl) gn rfl ?_
                refine wl_v 1 rfl (v_assign rfl) gn rfl ?_
                refine wl_v 2 rfl (v_assign rfl) gn rfl ?_
                refine w_end 3 rfl ?_
                have h := Out.inr hO1 h
                refine g_retR (c := rpc_number_c47) [.int .i64 0, .int .i64 0, .int .i64 262] rfl Tryd.func21 rfl (.tmp rfl (.tmp rfl (.tmp rfl (.nil)))) fun wr hLr => ?_
                have hMr : B.Loc w wr [] [St w []] := hLr.pick (rest := []) (perm_of_idx [] [] rfl rfl (by kernel_rfl)) (sels [1] rfl)
                have hMi : ∀ e ∈ ([] : List Ent), e ∈ ([] : List Ent) := sels [] rfl
                show rpc_number_R w F  r (.returned (packV [.int .i64 0, .int .i64 0, .int .i64 262])) wr
                rw [h]
                exact ⟨rfl, hMr⟩
              · have h := if_neg' hp60 h
                refine g_false (c := rpc_number_c43) rfl _ rfl ((decide_eq_false hp60)) ?_
                refine g_skip (c := rpc_number_c45) rfl ?_
                refine g_inBlock ?_
                refine g_region (c := rpc_number_c10) rfl rfl ?_
                refine wl_v 0 rfl (v_move rfl) gn rfl ?_
                refine wl_v 1 rfl (v_bin rfl rfl rfl) gn rfl ?_
                refine wl_v 2 rfl (v_assign rfl) gn rfl ?_
                refine w_end 3 rfl ?_
                refine g_inLoop ?_
                have ih := Out.inl hO1 h
                exact g_go [0, 1] (ih ()) ⟨rfl, rfl, rfl, trivial⟩ (.slnil) rfl
          refine g_region (c := rpc_number_c36) rfl rfl ?_
          refine wl_v 0 rfl (v_move rfl) gn rfl ?_
          refine wl_v 1 rfl (v_bin rfl rfl rfl) gn rfl ?_
          refine wl_v 2 rfl (v_move rfl) gn rfl ?_
          by_cases hp61 : x23 > 0
          · have h := if_pos' hp61 h
            refine w_bool 27 rfl ((decide_eq_true hp61)) ?_
            refine wl_v 3 rfl (v_move rfl) (gy 27 rfl rfl) rfl ?_
            refine wl_v 4 rfl (v_bin rfl rfl rfl) (gy 27 rfl rfl) rfl ?_
            refine wl_v 5 rfl (v_pick (b := true) rfl rfl) gn rfl ?_
            refine w_end 6 rfl ?_
            exact g_go [0, 1] (j3 (x22 == 0) h) ⟨rfl, rfl, rfl, rfl, trivial⟩ (.slnil) rfl
          · have h := if_neg' hp61 h
            refine w_bool 27 rfl ((decide_eq_false hp61)) ?_
            refine wl_pass 3 rfl (ps 27 rfl rfl rfl) ?_
            refine wl_pass 4 rfl (ps 27 rfl rfl rfl) ?_
            refine wl_v 5 rfl (v_pick (b := false) rfl rfl) gn rfl ?_
            refine w_end 6 rfl ?_
            exact g_go [0, 1] (j3 false h) ⟨rfl, rfl, rfl, rfl, trivial⟩ (.slnil) rfl
      refine g_region (c := rpc_number_c22) rfl rfl ?_
      refine wl_v 0 rfl (v_move rfl) gn rfl ?_
      refine wl_v 1 rfl (v_move rfl) gn rfl ?_
      obtain ⟨hb62, h⟩ := h
      have hr63 := Rw.readF (s := St w []) (hl := (hlI .u8)) (h1 := (hone_int .u8)) h5 hb62
      refine wl_v 2 rfl (v_idxR (s := St w []) slE_22 rfl rfl h5 hb62) gn rfl ?_
      refine wl_v 3 rfl (v_ldA1 (kk := (x23 : Int).toNat * 1) (j := 0) (St w []) ld_5 rfl hr63 rfl (me 1 rfl)) gn rfl ?_
      refine wl_v 4 rfl (v_bin rfl rfl rfl) gn rfl ?_
      refine wl_v 5 rfl (v_move rfl) gn rfl ?_
      by_cases hp64 : ix x1 x23 < 48
      · have h := if_pos' hp64 h
        refine w_bool 18 rfl ((decide_eq_true hp64)) ?_
        refine wl_pass 6 rfl (ps 18 rfl rfl rfl) ?_
        refine wl_pass 7 rfl (ps 18 rfl rfl rfl) ?_
        refine wl_pass 8 rfl (ps 18 rfl rfl rfl) ?_
        refine wl_pass 9 rfl (ps 18 rfl rfl rfl) ?_
        refine wl_pass 10 rfl (ps 18 rfl rfl rfl) ?_
        refine wl_v 11 rfl (v_pick (b := true) rfl rfl) gn rfl ?_
        refine w_end 12 rfl ?_
        exact g_go [0, 1] (j2 true h) ⟨rfl, rfl, rfl, rfl, trivial⟩ (.slnil) rfl
      · have h := if_neg' hp64 h
        refine w_bool 18 rfl ((decide_eq_false hp64)) ?_
        refine wl_v 6 rfl (v_move rfl) (gy 18 rfl rfl) rfl ?_
        refine wl_v 7 rfl (v_move rfl) (gy 18 rfl rfl) rfl ?_
        have hr65 := Rw.readF (s := St w []) (hl := (hlI .u8)) (h1 := (hone_int .u8)) h5 hb62
        refine wl_v 8 rfl (v_idxR (s := St w []) slE_22 rfl rfl h5 hb62) (gy 18 rfl rfl) rfl ?_
        refine wl_v 9 rfl (v_ldA1 (kk := (x23 : Int).toNat * 1) (j := 0) (St w []) ld_5 rfl hr65 rfl (me 1 rfl)) (gy 18 rfl rfl) rfl ?_
        refine wl_v 10 rfl (v_bin rfl rfl rfl) (gy 18 rfl rfl) rfl ?_
        refine wl_v 11 rfl (v_pick (b := false) rfl rfl) gn rfl ?_
        refine w_end 12 rfl ?_
        exact g_go [0, 1] (j2 (decide (ix x1 x23 > 57)) h) ⟨rfl, rfl, rfl, rfl, trivial⟩ (.slnil) rfl
  exact g_go [0, 1] (key1 _ h ()) ⟨rfl, rfl, rfl, trivial⟩ (.slnil) rfl
noncomputable abbrev rpc_Take_c0 : Code := bodyOf Tryd.f12
noncomputable abbrev rpc_Take_c1 : Code := Code.fst rpc_Take_c0
noncomputable abbrev rpc_Take_c2 : Code := Code.snd rpc_Take_c0
noncomputable abbrev rpc_Take_c3 : Code := Code.fst rpc_Take_c2
noncomputable abbrev rpc_Take_c4 : Code := Code.snd rpc_Take_c2
noncomputable abbrev rpc_Take_c5 : Code := Code.fst rpc_Take_c3
noncomputable abbrev rpc_Take_c6 : Code := Code.snd rpc_Take_c3
noncomputable abbrev rpc_Take_c7 : Code := Code.fst rpc_Take_c6
noncomputable abbrev rpc_Take_c8 : Code := Code.snd rpc_Take_c6
noncomputable abbrev rpc_Take_c9 : Code := Code.fst rpc_Take_c8
noncomputable abbrev rpc_Take_c10 : Code := Code.snd rpc_Take_c8
noncomputable abbrev rpc_Take_c11 : Code := Code.fst rpc_Take_c4
noncomputable abbrev rpc_Take_c12 : Code := Code.snd rpc_Take_c4
noncomputable abbrev rpc_Take_c13 : Code := Code.fst rpc_Take_c12
noncomputable abbrev rpc_Take_c14 : Code := Code.snd rpc_Take_c12
noncomputable abbrev rpc_Take_c15 : Code := Code.fst rpc_Take_c14
noncomputable abbrev rpc_Take_c16 : Code := Code.snd rpc_Take_c14
noncomputable abbrev rpc_Take_c17 : Code := Code.fst rpc_Take_c15
noncomputable abbrev rpc_Take_c18 : Code := Code.snd rpc_Take_c15
noncomputable abbrev rpc_Take_c19 : Code := Code.fst rpc_Take_c18
noncomputable abbrev rpc_Take_c20 : Code := Code.snd rpc_Take_c18
noncomputable abbrev rpc_Take_c21 : Code := Code.fst rpc_Take_c16
noncomputable abbrev rpc_Take_c22 : Code := Code.snd rpc_Take_c16
noncomputable abbrev rpc_Take_c23 : Code := Code.fst rpc_Take_c22
noncomputable abbrev rpc_Take_c24 : Code := Code.snd rpc_Take_c22
noncomputable abbrev rpc_Take_c25 : Code := Code.fst rpc_Take_c23
noncomputable abbrev rpc_Take_c26 : Code := Code.snd rpc_Take_c23
noncomputable abbrev rpc_Take_c27 : Code := Code.fst rpc_Take_c26
noncomputable abbrev rpc_Take_c28 : Code := Code.snd rpc_Take_c26
noncomputable abbrev rpc_Take_c29 : Code := Code.fst rpc_Take_c28
noncomputable abbrev rpc_Take_c30 : Code := Code.snd rpc_Take_c28
noncomputable abbrev rpc_Take_c31 : Code := Code.fst rpc_Take_c24
noncomputable abbrev rpc_Take_c32 : Code := Code.snd rpc_Take_c24
noncomputable abbrev rpc_Take_c33 : Code := Code.fst rpc_Take_c32
noncomputable abbrev rpc_Take_c34 : Code := Code.snd rpc_Take_c32
noncomputable abbrev rpc_Take_c35 : Code := Code.fst rpc_Take_c33
noncomputable abbrev rpc_Take_c36 : Code := Code.snd rpc_Take_c33
noncomputable abbrev rpc_Take_c37 : Code := Code.fst rpc_Take_c36
noncomputable abbrev rpc_Take_c38 : Code := Code.snd rpc_Take_c36
noncomputable abbrev rpc_Take_c39 : Code := Code.fst rpc_Take_c37
noncomputable abbrev rpc_Take_c40 : Code := Code.snd rpc_Take_c37
noncomputable abbrev rpc_Take_c41 : Code := Code.fst rpc_Take_c34
noncomputable abbrev rpc_Take_c42 : Code := Code.snd rpc_Take_c34
noncomputable abbrev rpc_Take_c43 : Code := Code.fst rpc_Take_c29
noncomputable abbrev rpc_Take_c44 : Code := Code.snd rpc_Take_c29
noncomputable abbrev rpc_Take_c45 : Code := Code.fst rpc_Take_c19
noncomputable abbrev rpc_Take_c46 : Code := Code.snd rpc_Take_c19
noncomputable abbrev rpc_Take_c47 : Code := Code.fst rpc_Take_c9
noncomputable abbrev rpc_Take_c48 : Code := Code.snd rpc_Take_c9
abbrev rpc_Take_R (w : World) (F : Nat → Prop) (r : ByteArray × Int × Int) : Ending → World → Prop := fun e w' => e = .returned (.tuple #[.string r.1, .int .i64 r.2.1, .int .i64 r.2.2]) ∧ B.Loc w w' [] [St w []]
noncomputable abbrev rpc_Take_C (w : World) (F : Nat → Prop) (r : ByteArray × Int × Int) : Cx := ⟨Tryd.prog, 12, Tryd.f12, 55, rpc_Take_R w F  r, w⟩
theorem rpc_Take_calls (w : World) (F : Nat → Prop) (x1 : List Int) (A2 : Option Addr) (n3 : Nat) (c4 : Nat) (h5 : Rw (kInt .u8) w (St w []).av A2 n3 c4 x1) (hF : ∀ b, F b → b < w.heap.size ∧ ∀ o ∈ ([] : List (List Nat)), b ∉ o) (hL0 : B.Loc w w [] [Sm w.heap.size F w [], St w []]) (r : ByteArray × Int × Int) (h : rpc_Take x1 r) : Calls Tryd.prog 12 #[.slice A2 n3 c4] w (rpc_Take_R w F  r) := by
  unfold rpc_Take at h
  refine calls_of_Loc (vs := [.slice A2 n3 c4]) 55 Tryd.func12 rfl Tryd.ntmps12 rfl hL0 ?_
  show G (rpc_Take_C w F r) _ _ _ _
  refine g_seq (c := rpc_Take_c0) rfl ?_
  refine g_region (c := rpc_Take_c1) rfl rfl ?_
  refine wl_v 0 rfl (v_assign rfl) gn rfl ?_
  refine wl_v 1 rfl (v_assign rfl) gn rfl ?_
  refine wl_v 2 rfl (v_assign rfl) gn rfl ?_
  refine w_end 3 rfl ?_
  refine g_seq (c := rpc_Take_c2) rfl ?_
  refine g_seq (c := rpc_Take_c3) rfl ?_
  refine g_region (c := rpc_Take_c5) rfl rfl ?_
  refine wl_v 0 rfl (v_move rfl) gn rfl ?_
  obtain ⟨r9, hv10, h⟩ := h
  refine wl_s 1 rfl (s_call [.slice A2 n3 c4, .string (⟨#[67, 111, 110, 116, 101, 110, 116, 45, 76, 101, 110, 103, 116, 104, 58, 32]⟩ : ByteArray)] rfl Tryd.func20 rfl rfl rfl fun w6 hL7 => ?_) gn
  have hp8 : List.Perm ([] : List Ent) (([] : List Ent) ++ ([] : List Ent)) := perm_of_idx [] [] rfl rfl (by kernel_rfl)
  refine Calls.mono (rpc_stands_calls w6 (Fl ([] : List Snap)) x1 (⟨#[67, 111, 110, 116, 101, 110, 116, 45, 76, 101, 110, 103, 116, 104, 58, 32]⟩ : ByteArray) A2 n3 c4 (Rw.mono h5 (hL7.toSt hp8 (me 1 rfl))) (hL7.hFl (Sl := ([] : List Snap)) hp8 (sels [] rfl)) (hL7.into hp8 (Fl ([] : List Snap))) r9 hv10) ?_
  rintro _ w11 ⟨rfl, hM12⟩
  have hL13 := hL7.call hp8 hM12
  refine ⟨_, _, _, rfl, hL13, ?_⟩
  refine wl_v 2 rfl (v_assign rfl) gn rfl ?_
  refine w_end 3 rfl ?_
  refine g_seq (c := rpc_Take_c6) rfl ?_
  refine g_region (c := rpc_Take_c7) rfl rfl ?_
  refine wl_v 0 rfl (v_move rfl) gn rfl ?_
  refine wl_v 1 rfl (v_bin rfl rfl rfl) gn rfl ?_
  refine w_end 2 rfl ?_
  by_cases hp14 : r9 = 0
  · have h := if_pos' hp14 h
    refine g_false (c := rpc_Take_c8) rfl _ rfl ((eqib hp14)) ?_
    refine g_skip (c := rpc_Take_c10) rfl ?_
    refine g_seq (c := rpc_Take_c4) rfl ?_
    refine g_region (c := rpc_Take_c11) rfl rfl ?_
    refine wl_v 0 rfl (v_assign rfl) gn rfl ?_
    refine w_end 1 rfl ?_
    refine g_seq (c := rpc_Take_c12) rfl ?_
    refine g_region (c := rpc_Take_c13) rfl rfl ?_
    refine wl_v 0 rfl (v_move rfl) gn rfl ?_
    refine wl_v 1 rfl (v_move rfl) gn rfl ?_
    obtain ⟨hb15, h⟩ := h
    have h16 := Rw.cut (sz := 1) (lv := 16) (hv := ((n3 : Nat) : Int)) (mv := ((c4 : Nat) : Int)) h5 rfl (by have q := hb15; have q1 := h5.hq; have q2 := h5.hn; omega) (by have q := hb15; have q1 := h5.hq; have q2 := h5.hn; omega) (by have q := hb15; have q1 := h5.hq; have q2 := h5.hn; omega)
    rw [cut_all h5.hq] at h16
    refine wl_v 2 rfl (v_cut (sz := 1) (n := n3) (c := c4) 16 ((n3 : Nat) : Int) ((c4 : Nat) : Int) slE_22 rfl (by_ rfl) bn bn (by have q := hb15; have q1 := h5.hq; have q2 := h5.hn; omega) (by have q := hb15; have q1 := h5.hq; have q2 := h5.hn; omega) (by have q := hb15; have q1 := h5.hq; have q2 := h5.hn; omega) h5.hn rfl) gn rfl ?_
    obtain ⟨r20, hv21, h⟩ := h
    refine wl_s 3 rfl (s_call [.slice (if (((c4 : Nat) : Int) : Int).toNat = (16 : Int).toNat then A2 else A2.map (·.add ((16 : Int).toNat * 1))) ((((n3 : Nat) : Int) : Int).toNat - (16 : Int).toNat) ((((c4 : Nat) : Int) : Int).toNat - (16 : Int).toNat)] rfl Tryd.func21 rfl rfl rfl fun w17 hL18 => ?_) gn
    have hp19 : List.Perm ([] : List Ent) (([] : List Ent) ++ ([] : List Ent)) := perm_of_idx [] [] rfl rfl (by kernel_rfl)
    refine Calls.mono (rpc_number_calls w17 (Fl ([] : List Snap)) (x1.drop (16 : Int).toNat) (if (((c4 : Nat) : Int) : Int).toNat = (16 : Int).toNat then A2 else A2.map (·.add ((16 : Int).toNat * 1))) ((((n3 : Nat) : Int) : Int).toNat - (16 : Int).toNat) ((((c4 : Nat) : Int) : Int).toNat - (16 : Int).toNat) (Rw.mono h16 (hL18.toSt hp19 (me 1 rfl))) (hL18.hFl (Sl := ([] : List Snap)) hp19 (sels [] rfl)) (hL18.into hp19 (Fl ([] : List Snap))) r20 hv21) ?_
    rintro _ w22 ⟨rfl, hM23⟩
    have hL24 := hL18.call hp19 hM23
    refine ⟨_, _, _, rfl, hL24, ?_⟩
    refine wl_v 4 rfl (v_move rfl) gn rfl ?_
    refine wl_v 5 rfl (v_extract rfl rfl) gn rfl ?_
    refine wl_v 6 rfl (v_extract rfl rfl) gn rfl ?_
    refine wl_v 7 rfl (v_extract rfl rfl) gn rfl ?_
    refine wl_v 8 rfl (v_assign rfl) gn rfl ?_
    refine wl_v 9 rfl (v_assign rfl) gn rfl ?_
    refine wl_v 10 rfl (v_assign rfl) gn rfl ?_
    refine w_end 11 rfl ?_
    refine g_seq (c := rpc_Take_c14) rfl ?_
    refine g_seq (c := rpc_Take_c15) rfl ?_
    refine g_region (c := rpc_Take_c17) rfl rfl ?_
    refine wl_v 0 rfl (v_move rfl) gn rfl ?_
    refine wl_v 1 rfl (v_bin rfl rfl rfl) gn rfl ?_
    refine w_end 2 rfl ?_
    by_cases hp25 : r20.2.2 = 0
    · have h := if_pos' hp25 h
      refine g_false (c := rpc_Take_c18) rfl _ rfl ((eqib hp25)) ?_
      refine g_skip (c := rpc_Take_c20) rfl ?_
      refine g_seq (c := rpc_Take_c16) rfl ?_
      refine g_region (c := rpc_Take_c21) rfl rfl ?_
      refine wl_v 0 rfl (v_move rfl) gn rfl ?_
      refine wl_v 1 rfl (v_move rfl) gn rfl ?_
      refine wl_v 2 rfl (v_bin rfl rfl rfl) gn rfl ?_
      refine wl_v 3 rfl (v_assign rfl) gn rfl ?_
      refine w_end 4 rfl ?_
      refine g_seq (c := rpc_Take_c22) rfl ?_
      refine g_seq (c := rpc_Take_c23) rfl ?_
      refine g_region (c := rpc_Take_c25) rfl rfl ?_
      refine wl_v 0 rfl (v_move rfl) gn rfl ?_
      refine wl_v 1 rfl (v_move rfl) gn rfl ?_
      obtain ⟨hb26, h⟩ := h
      have h27 := Rw.cut (sz := 1) (lv := w64 (16 + r20.2.1)) (hv := ((n3 : Nat) : Int)) (mv := ((c4 : Nat) : Int)) h5 rfl (by have q := hb26; have q1 := h5.hq; have q2 := h5.hn; omega) (by have q := hb26; have q1 := h5.hq; have q2 := h5.hn; omega) (by have q := hb26; have q1 := h5.hq; have q2 := h5.hn; omega)
      rw [cut_all h5.hq] at h27
      refine wl_v 2 rfl (v_cut (sz := 1) (n := n3) (c := c4) (w64 (16 + r20.2.1)) ((n3 : Nat) : Int) ((c4 : Nat) : Int) slE_22 rfl (by_ rfl) bn bn (by have q := hb26; have q1 := h5.hq; have q2 := h5.hn; omega) (by have q := hb26; have q1 := h5.hq; have q2 := h5.hn; omega) (by have q := hb26; have q1 := h5.hq; have q2 := h5.hn; omega) h5.hn rfl) gn rfl ?_
      obtain ⟨r31, hv32, h⟩ := h
      refine wl_s 3 rfl (s_call [.slice (if (((c4 : Nat) : Int) : Int).toNat = (w64 (16 + r20.2.1) : Int).toNat then A2 else A2.map (·.add ((w64 (16 + r20.2.1) : Int).toNat * 1))) ((((n3 : Nat) : Int) : Int).toNat - (w64 (16 + r20.2.1) : Int).toNat) ((((c4 : Nat) : Int) : Int).toNat - (w64 (16 + r20.2.1) : Int).toNat), .string (⟨#[13, 10, 13, 10]⟩ : ByteArray)] rfl Tryd.func20 rfl rfl rfl fun w28 hL29 => ?_) gn
      have hp30 : List.Perm ([] : List Ent) (([] : List Ent) ++ ([] : List Ent)) := perm_of_idx [] [] rfl rfl (by kernel_rfl)
      refine Calls.mono (rpc_stands_calls w28 (Fl ([] : List Snap)) (x1.drop (w64 (16 + r20.2.1) : Int).toNat) (⟨#[13, 10, 13, 10]⟩ : ByteArray) (if (((c4 : Nat) : Int) : Int).toNat = (w64 (16 + r20.2.1) : Int).toNat then A2 else A2.map (·.add ((w64 (16 + r20.2.1) : Int).toNat * 1))) ((((n3 : Nat) : Int) : Int).toNat - (w64 (16 + r20.2.1) : Int).toNat) ((((c4 : Nat) : Int) : Int).toNat - (w64 (16 + r20.2.1) : Int).toNat) (Rw.mono h27 (hL29.toSt hp30 (me 1 rfl))) (hL29.hFl (Sl := ([] : List Snap)) hp30 (sels [] rfl)) (hL29.into hp30 (Fl ([] : List Snap))) r31 hv32) ?_
      rintro _ w33 ⟨rfl, hM34⟩
      have hL35 := hL29.call hp30 hM34
      refine ⟨_, _, _, rfl, hL35, ?_⟩
      refine wl_v 4 rfl (v_assign rfl) gn rfl ?_
      refine w_end 5 rfl ?_
      refine g_seq (c := rpc_Take_c26) rfl ?_
      refine g_region (c := rpc_Take_c27) rfl rfl ?_
      refine wl_v 0 rfl (v_move rfl) gn rfl ?_
      refine wl_v 1 rfl (v_bin rfl rfl rfl) gn rfl ?_
      refine w_end 2 rfl ?_
      by_cases hp36 : r31 = 0
      · have h := if_pos' hp36 h
        refine g_false (c := rpc_Take_c28) rfl _ rfl ((eqib hp36)) ?_
        refine g_skip (c := rpc_Take_c30) rfl ?_
        refine g_seq (c := rpc_Take_c24) rfl ?_
        refine g_region (c := rpc_Take_c31) rfl rfl ?_
        refine wl_v 0 rfl (v_move rfl) gn rfl ?_
        refine wl_v 1 rfl (v_bin rfl rfl rfl) gn rfl ?_
        refine wl_v 2 rfl (v_assign rfl) gn rfl ?_
        refine w_end 3 rfl ?_
        refine g_seq (c := rpc_Take_c32) rfl ?_
        refine g_seq (c := rpc_Take_c33) rfl ?_
        refine g_region (c := rpc_Take_c35) rfl rfl ?_
        refine wl_v 0 rfl (v_move rfl) gn rfl ?_
        refine wl_v 1 rfl (v_move rfl) gn rfl ?_
        refine wl_v 2 rfl (v_lenQ un_22 rfl h5.hq) gn rfl ?_
        refine wl_v 3 rfl (v_move rfl) gn rfl ?_
        refine wl_v 4 rfl (v_bin rfl rfl rfl) gn rfl ?_
        refine wl_v 5 rfl (v_bin rfl rfl rfl) gn rfl ?_
        refine w_end 6 rfl ?_
        by_cases hp37 : r20.1 > w64 ((x1.length : Int) - (w64 ((w64 (16 + r20.2.1)) + 4)))
        · have h := if_pos' hp37 h
          refine g_true (c := rpc_Take_c36) rfl _ rfl ((decide_eq_true hp37)) ?_
          refine g_seq (c := rpc_Take_c37) rfl ?_
          refine g_region (c := rpc_Take_c39) rfl rfl ?_
          refine wl_v 0 rfl (v_assign rfl) gn rfl ?_
          refine wl_v 1 rfl (v_assign rfl) gn rfl ?_
          refine wl_v 2 rfl (v_assign rfl) gn rfl ?_
          refine w_end 3 rfl ?_
          refine g_retR (c := rpc_Take_c40) [.string (⟨#[]⟩ : ByteArray), .int .i64 0, .int .i64 260] rfl Tryd.func12 rfl (.tmp rfl (.tmp rfl (.tmp rfl (.nil)))) fun wr hLr => ?_
          have hMr : B.Loc w wr [] [St w []] := hLr.pick (rest := []) (perm_of_idx [] [] rfl rfl (by kernel_rfl)) (sels [1] rfl)
          have hMi : ∀ e ∈ ([] : List Ent), e ∈ ([] : List Ent) := sels [] rfl
          show rpc_Take_R w F  r (.returned (packV [.string (⟨#[]⟩ : ByteArray), .int .i64 0, .int .i64 260])) wr
          rw [h]
          exact ⟨rfl, hMr⟩
        · have h := if_neg' hp37 h
          refine g_false (c := rpc_Take_c36) rfl _ rfl ((decide_eq_false hp37)) ?_
          refine g_skip (c := rpc_Take_c38) rfl ?_
          refine g_seq (c := rpc_Take_c34) rfl ?_
          refine g_region (c := rpc_Take_c41) rfl rfl ?_
          refine wl_v 0 rfl (v_move rfl) gn rfl ?_
          refine wl_v 1 rfl (v_move rfl) gn rfl ?_
          refine wl_v 2 rfl (v_move rfl) gn rfl ?_
          refine wl_v 3 rfl (v_move rfl) gn rfl ?_
          refine wl_v 4 rfl (v_bin rfl rfl rfl) gn rfl ?_
          obtain ⟨hb38, h⟩ := h
          have h39 := Rw.cut (sz := 1) (lv := w64 ((w64 (16 + r20.2.1)) + 4)) (hv := w64 ((w64 ((w64 (16 + r20.2.1)) + 4)) + r20.1)) (mv := ((c4 : Nat) : Int)) h5 rfl (by have q := hb38; have q1 := h5.hq; have q2 := h5.hn; omega) (by have q := hb38; have q1 := h5.hq; have q2 := h5.hn; omega) (by have q := hb38; have q1 := h5.hq; have q2 := h5.hn; omega)
          refine wl_v 5 rfl (v_cut (sz := 1) (n := n3) (c := c4) (w64 ((w64 (16 + r20.2.1)) + 4)) (w64 ((w64 ((w64 (16 + r20.2.1)) + 4)) + r20.1)) ((c4 : Nat) : Int) slE_22 rfl (by_ rfl) (by_ rfl) bn (by have q := hb38; have q1 := h5.hq; have q2 := h5.hn; omega) (by have q := hb38; have q1 := h5.hq; have q2 := h5.hn; omega) (by have q := hb38; have q1 := h5.hq; have q2 := h5.hn; omega) h5.hn rfl) gn rfl ?_
          refine wl_v 6 rfl (v_b2s u8_22 un_9 rfl (Src.readF (s := St w []) (hl := (hlI .u8)) (h1 := (hone_int .u8)) h39 (me 1 rfl)) h39.hq) gn rfl ?_
          refine wl_v 7 rfl (v_move rfl) gn rfl ?_
          refine wl_v 8 rfl (v_move rfl) gn rfl ?_
          refine wl_v 9 rfl (v_bin rfl rfl rfl) gn rfl ?_
          refine wl_v 10 rfl (v_assign rfl) gn rfl ?_
          refine wl_v 11 rfl (v_assign rfl) gn rfl ?_
          refine wl_v 12 rfl (v_assign rfl) gn rfl ?_
          refine w_end 13 rfl ?_
          refine g_retR (c := rpc_Take_c42) [.string (ofBs ((x1.take (w64 ((w64 ((w64 (16 + r20.2.1)) + 4)) + r20.1) : Int).toNat).drop (w64 ((w64 (16 + r20.2.1)) + 4) : Int).toNat)), .int .i64 (w64 ((w64 ((w64 (16 + r20.2.1)) + 4)) + r20.1)), .int .i64 0] rfl Tryd.func12 rfl (.tmp rfl (.tmp rfl (.tmp rfl (.nil)))) fun wr hLr => ?_
          have hMr : B.Loc w wr [] [St w []] := hLr.pick (rest := []) (perm_of_idx [] [] rfl rfl (by kernel_rfl)) (sels [1] rfl)
          have hMi : ∀ e ∈ ([] : List Ent), e ∈ ([] : List Ent) := sels [] rfl
          show rpc_Take_R w F  r (.returned (packV [.string (ofBs ((x1.take (w64 ((w64 ((w64 (16 + r20.2.1)) + 4)) + r20.1) : Int).toNat).drop (w64 ((w64 (16 + r20.2.1)) + 4) : Int).toNat)), .int .i64 (w64 ((w64 ((w64 (16 + r20.2.1)) + 4)) + r20.1)), .int .i64 0])) wr
          rw [h]
          exact ⟨rfl, hMr⟩
      · have h := if_neg' hp36 h
        refine g_true (c := rpc_Take_c28) rfl _ rfl ((neib hp36)) ?_
        refine g_seq (c := rpc_Take_c29) rfl ?_
        refine g_region (c := rpc_Take_c43) rfl rfl ?_
        refine wl_v 0 rfl (v_move rfl) gn rfl ?_
        refine wl_v 1 rfl (v_assign rfl) gn rfl ?_
        refine wl_v 2 rfl (v_assign rfl) gn rfl ?_
        refine wl_v 3 rfl (v_assign rfl) gn rfl ?_
        refine w_end 4 rfl ?_
        refine g_retR (c := rpc_Take_c44) [.string (⟨#[]⟩ : ByteArray), .int .i64 0, .int .i64 r31] rfl Tryd.func12 rfl (.tmp rfl (.tmp rfl (.tmp rfl (.nil)))) fun wr hLr => ?_
        have hMr : B.Loc w wr [] [St w []] := hLr.pick (rest := []) (perm_of_idx [] [] rfl rfl (by kernel_rfl)) (sels [1] rfl)
        have hMi : ∀ e ∈ ([] : List Ent), e ∈ ([] : List Ent) := sels [] rfl
        show rpc_Take_R w F  r (.returned (packV [.string (⟨#[]⟩ : ByteArray), .int .i64 0, .int .i64 r31])) wr
        rw [h]
        exact ⟨rfl, hMr⟩
    · have h := if_neg' hp25 h
      refine g_true (c := rpc_Take_c18) rfl _ rfl ((neib hp25)) ?_
      refine g_seq (c := rpc_Take_c19) rfl ?_
      refine g_region (c := rpc_Take_c45) rfl rfl ?_
      refine wl_v 0 rfl (v_move rfl) gn rfl ?_
      refine wl_v 1 rfl (v_assign rfl) gn rfl ?_
      refine wl_v 2 rfl (v_assign rfl) gn rfl ?_
      refine wl_v 3 rfl (v_assign rfl) gn rfl ?_
      refine w_end 4 rfl ?_
      refine g_retR (c := rpc_Take_c46) [.string (⟨#[]⟩ : ByteArray), .int .i64 0, .int .i64 r20.2.2] rfl Tryd.func12 rfl (.tmp rfl (.tmp rfl (.tmp rfl (.nil)))) fun wr hLr => ?_
      have hMr : B.Loc w wr [] [St w []] := hLr.pick (rest := []) (perm_of_idx [] [] rfl rfl (by kernel_rfl)) (sels [1] rfl)
      have hMi : ∀ e ∈ ([] : List Ent), e ∈ ([] : List Ent) := sels [] rfl
      show rpc_Take_R w F  r (.returned (packV [.string (⟨#[]⟩ : ByteArray), .int .i64 0, .int .i64 r20.2.2])) wr
      rw [h]
      exact ⟨rfl, hMr⟩
  · have h := if_neg' hp14 h
    refine g_true (c := rpc_Take_c8) rfl _ rfl ((neib hp14)) ?_
    refine g_seq (c := rpc_Take_c9) rfl ?_
    refine g_region (c := rpc_Take_c47) rfl rfl ?_
    refine wl_v 0 rfl (v_move rfl) gn rfl ?_
    refine wl_v 1 rfl (v_assign rfl) gn rfl ?_
    refine wl_v 2 rfl (v_assign rfl) gn rfl ?_
    refine wl_v 3 rfl (v_assign rfl) gn rfl ?_
    refine w_end 4 rfl ?_
    refine g_retR (c := rpc_Take_c48) [.string (⟨#[]⟩ : ByteArray), .int .i64 0, .int .i64 r9] rfl Tryd.func12 rfl (.tmp rfl (.tmp rfl (.tmp rfl (.nil)))) fun wr hLr => ?_
    have hMr : B.Loc w wr [] [St w []] := hLr.pick (rest := []) (perm_of_idx [] [] rfl rfl (by kernel_rfl)) (sels [1] rfl)
    have hMi : ∀ e ∈ ([] : List Ent), e ∈ ([] : List Ent) := sels [] rfl
    show rpc_Take_R w F  r (.returned (packV [.string (⟨#[]⟩ : ByteArray), .int .i64 0, .int .i64 r9])) wr
    rw [h]
    exact ⟨rfl, hMr⟩
noncomputable abbrev trellisref26_Take_c0 : Code := bodyOf Tryd.f13
noncomputable abbrev trellisref26_Take_c1 : Code := Code.fst trellisref26_Take_c0
noncomputable abbrev trellisref26_Take_c2 : Code := Code.snd trellisref26_Take_c0
noncomputable abbrev trellisref26_Take_c3 : Code := Code.fst trellisref26_Take_c2
noncomputable abbrev trellisref26_Take_c4 : Code := Code.snd trellisref26_Take_c2
noncomputable abbrev trellisref26_Take_c5 : Code := Code.fst trellisref26_Take_c4
noncomputable abbrev trellisref26_Take_c6 : Code := Code.snd trellisref26_Take_c4
noncomputable abbrev trellisref26_Take_c7 : Code := Code.fst trellisref26_Take_c6
noncomputable abbrev trellisref26_Take_c8 : Code := Code.snd trellisref26_Take_c6
noncomputable abbrev trellisref26_Take_c9 : Code := Code.fst trellisref26_Take_c8
noncomputable abbrev trellisref26_Take_c10 : Code := Code.snd trellisref26_Take_c8
noncomputable abbrev trellisref26_Take_c11 : Code := Code.fst trellisref26_Take_c9
noncomputable abbrev trellisref26_Take_c12 : Code := Code.snd trellisref26_Take_c9
noncomputable abbrev trellisref26_Take_c13 : Code := Code.fst trellisref26_Take_c12
noncomputable abbrev trellisref26_Take_c14 : Code := Code.fst trellisref26_Take_c13
noncomputable abbrev trellisref26_Take_c15 : Code := Code.fst trellisref26_Take_c14
noncomputable abbrev trellisref26_Take_c16 : Code := Code.snd trellisref26_Take_c14
noncomputable abbrev trellisref26_Take_c17 : Code := Code.fst trellisref26_Take_c15
noncomputable abbrev trellisref26_Take_c18 : Code := Code.snd trellisref26_Take_c15
noncomputable abbrev trellisref26_Take_c19 : Code := Code.fst trellisref26_Take_c18
noncomputable abbrev trellisref26_Take_c20 : Code := Code.snd trellisref26_Take_c18
noncomputable abbrev trellisref26_Take_c21 : Code := Code.fst trellisref26_Take_c16
noncomputable abbrev trellisref26_Take_c22 : Code := Code.snd trellisref26_Take_c16
noncomputable abbrev trellisref26_Take_c23 : Code := Code.fst trellisref26_Take_c21
noncomputable abbrev trellisref26_Take_c24 : Code := Code.fst trellisref26_Take_c23
noncomputable abbrev trellisref26_Take_c25 : Code := Code.snd trellisref26_Take_c23
noncomputable abbrev trellisref26_Take_c26 : Code := Code.fst trellisref26_Take_c25
noncomputable abbrev trellisref26_Take_c27 : Code := Code.snd trellisref26_Take_c25
noncomputable abbrev trellisref26_Take_c28 : Code := Code.fst trellisref26_Take_c26
noncomputable abbrev trellisref26_Take_c29 : Code := Code.fst trellisref26_Take_c28
noncomputable abbrev trellisref26_Take_c30 : Code := Code.snd trellisref26_Take_c28
noncomputable abbrev trellisref26_Take_c31 : Code := Code.fst trellisref26_Take_c30
noncomputable abbrev trellisref26_Take_c32 : Code := Code.snd trellisref26_Take_c30
noncomputable abbrev trellisref26_Take_c33 : Code := Code.fst trellisref26_Take_c31
noncomputable abbrev trellisref26_Take_c34 : Code := Code.snd trellisref26_Take_c31
noncomputable abbrev trellisref26_Take_c35 : Code := Code.fst trellisref26_Take_c34
noncomputable abbrev trellisref26_Take_c36 : Code := Code.snd trellisref26_Take_c34
noncomputable abbrev trellisref26_Take_c37 : Code := Code.fst trellisref26_Take_c27
noncomputable abbrev trellisref26_Take_c38 : Code := Code.snd trellisref26_Take_c27
noncomputable abbrev trellisref26_Take_c39 : Code := Code.fst trellisref26_Take_c38
noncomputable abbrev trellisref26_Take_c40 : Code := Code.snd trellisref26_Take_c38
noncomputable abbrev trellisref26_Take_c41 : Code := Code.fst trellisref26_Take_c35
noncomputable abbrev trellisref26_Take_c42 : Code := Code.snd trellisref26_Take_c35
noncomputable abbrev trellisref26_Take_c43 : Code := Code.fst trellisref26_Take_c10
noncomputable abbrev trellisref26_Take_c44 : Code := Code.snd trellisref26_Take_c10
noncomputable abbrev trellisref26_Take_c45 : Code := Code.fst trellisref26_Take_c32
noncomputable abbrev trellisref26_Take_c46 : Code := Code.snd trellisref26_Take_c32
noncomputable abbrev trellisref26_Take_c47 : Code := Code.fst trellisref26_Take_c46
noncomputable abbrev trellisref26_Take_c48 : Code := Code.snd trellisref26_Take_c46
noncomputable abbrev trellisref26_Take_c49 : Code := Code.fst trellisref26_Take_c47
noncomputable abbrev trellisref26_Take_c50 : Code := Code.snd trellisref26_Take_c47
noncomputable abbrev trellisref26_Take_c51 : Code := Code.fst trellisref26_Take_c49
noncomputable abbrev trellisref26_Take_c52 : Code := Code.snd trellisref26_Take_c49
noncomputable abbrev trellisref26_Take_c53 : Code := Code.fst trellisref26_Take_c52
noncomputable abbrev trellisref26_Take_c54 : Code := Code.snd trellisref26_Take_c52
noncomputable abbrev trellisref26_Take_c55 : Code := Code.fst trellisref26_Take_c50
noncomputable abbrev trellisref26_Take_c56 : Code := Code.snd trellisref26_Take_c50
noncomputable abbrev trellisref26_Take_c57 : Code := Code.fst trellisref26_Take_c56
noncomputable abbrev trellisref26_Take_c58 : Code := Code.snd trellisref26_Take_c56
noncomputable abbrev trellisref26_Take_c59 : Code := Code.fst trellisref26_Take_c58
noncomputable abbrev trellisref26_Take_c60 : Code := Code.snd trellisref26_Take_c58
noncomputable abbrev trellisref26_Take_c61 : Code := Code.fst trellisref26_Take_c60
noncomputable abbrev trellisref26_Take_c62 : Code := Code.snd trellisref26_Take_c60
noncomputable abbrev trellisref26_Take_c63 : Code := Code.fst trellisref26_Take_c61
noncomputable abbrev trellisref26_Take_c64 : Code := Code.snd trellisref26_Take_c61
noncomputable abbrev trellisref26_Take_c65 : Code := Code.fst trellisref26_Take_c48
noncomputable abbrev trellisref26_Take_c66 : Code := Code.snd trellisref26_Take_c48
noncomputable abbrev trellisref26_Take_c67 : Code := Code.fst trellisref26_Take_c65
noncomputable abbrev trellisref26_Take_c68 : Code := Code.snd trellisref26_Take_c65
noncomputable abbrev trellisref26_Take_c69 : Code := Code.fst trellisref26_Take_c68
noncomputable abbrev trellisref26_Take_c70 : Code := Code.snd trellisref26_Take_c68
noncomputable abbrev trellisref26_Take_c71 : Code := Code.fst trellisref26_Take_c69
noncomputable abbrev trellisref26_Take_c72 : Code := Code.snd trellisref26_Take_c69
noncomputable abbrev trellisref26_Take_c73 : Code := Code.fst trellisref26_Take_c53
noncomputable abbrev trellisref26_Take_c74 : Code := Code.snd trellisref26_Take_c53
noncomputable abbrev trellisref26_Take_c75 : Code := Code.fst trellisref26_Take_c39
noncomputable abbrev trellisref26_Take_c76 : Code := Code.snd trellisref26_Take_c39
noncomputable abbrev trellisref26_Take_c77 : Code := Code.fst trellisref26_Take_c76
noncomputable abbrev trellisref26_Take_c78 : Code := Code.snd trellisref26_Take_c76
noncomputable abbrev trellisref26_Take_c79 : Code := Code.fst trellisref26_Take_c77
noncomputable abbrev trellisref26_Take_c80 : Code := Code.snd trellisref26_Take_c77
noncomputable abbrev trellisref26_Take_c81 : Code := Code.fst trellisref26_Take_c80
noncomputable abbrev trellisref26_Take_c82 : Code := Code.snd trellisref26_Take_c80
noncomputable abbrev trellisref26_Take_c83 : Code := Code.fst trellisref26_Take_c81
noncomputable abbrev trellisref26_Take_c84 : Code := Code.snd trellisref26_Take_c81
noncomputable abbrev trellisref26_Take_c85 : Code := Code.fst trellisref26_Take_c78
noncomputable abbrev trellisref26_Take_c86 : Code := Code.snd trellisref26_Take_c78
abbrev trellisref26_Take_R (w : World) (F : Nat → Prop) (r : ByteArray × Int × Int) : Ending → World → Prop := fun e w' => e = .returned (.tuple #[.string r.1, .int .i64 r.2.1, .int .i64 r.2.2]) ∧ B.Loc w w' [] [St w []]
noncomputable abbrev trellisref26_Take_C (w : World) (F : Nat → Prop) (r : ByteArray × Int × Int) : Cx := ⟨Tryd.prog, 13, Tryd.f13, 85, trellisref26_Take_R w F  r, w⟩
theorem trellisref26_Take_calls (w : World) (F : Nat → Prop) (x1 : List Int) (A2 : Option Addr) (n3 : Nat) (c4 : Nat) (h5 : Rw (kInt .u8) w (St w []).av A2 n3 c4 x1) (hF : ∀ b, F b → b < w.heap.size ∧ ∀ o ∈ ([] : List (List Nat)), b ∉ o) (hL0 : B.Loc w w [] [Sm w.heap.size F w [], St w []]) (r : ByteArray × Int × Int) (h : trellisref26_Take x1 r) : Calls Tryd.prog 13 #[.slice A2 n3 c4] w (trellisref26_Take_R w F  r) := by
  unfold trellisref26_Take at h
  refine calls_of_Loc (vs := [.slice A2 n3 c4]) 85 Tryd.func13 rfl Tryd.ntmps13 rfl hL0 ?_
  show G (trellisref26_Take_C w F r) _ _ _ _
  refine g_seq (c := trellisref26_Take_c0) rfl ?_
  refine g_region (c := trellisref26_Take_c1) rfl rfl ?_
  refine wl_v 0 rfl (v_assign rfl) gn rfl ?_
  refine wl_v 1 rfl (v_assign rfl) gn rfl ?_
  refine wl_v 2 rfl (v_assign rfl) gn rfl ?_
  refine w_end 3 rfl ?_
  refine g_seq (c := trellisref26_Take_c2) rfl ?_
  refine g_region (c := trellisref26_Take_c3) rfl rfl ?_
  refine wl_v 0 rfl (v_assign rfl) gn rfl ?_
  refine w_end 1 rfl ?_
  refine g_seq (c := trellisref26_Take_c4) rfl ?_
  refine g_region (c := trellisref26_Take_c5) rfl rfl ?_
  refine wl_v 0 rfl (v_assign rfl) gn rfl ?_
  refine w_end 1 rfl ?_
  refine g_seq (c := trellisref26_Take_c6) rfl ?_
  refine g_region (c := trellisref26_Take_c7) rfl rfl ?_
  refine wl_v 0 rfl (v_assign rfl) gn rfl ?_
  refine w_end 1 rfl ?_
  refine g_seq (c := trellisref26_Take_c8) rfl ?_
  refine g_seq (c := trellisref26_Take_c9) rfl ?_
  refine g_region (c := trellisref26_Take_c11) rfl rfl ?_
  refine wl_v 0 rfl (v_assign rfl) gn rfl ?_
  refine w_end 1 rfl ?_
  refine g_block (c := trellisref26_Take_c12) rfl ?_
  refine g_loop (c := trellisref26_Take_c13) rfl ?_
  have key1 : ∀ s, Rounds (fun (s : Int × Int × Int × Int) o => trellisref26_Take_b1 x1 s.1 s.2.1 s.2.2.1 s.2.2.2 o) s r → (fun (s : Int × Int × Int × Int) => ∀ (_ : Unit), G (trellisref26_Take_C w F r) [.code trellisref26_Take_c14, .inLoop trellisref26_Take_c14, .inBlock 0, .code trellisref26_Take_c10] [(0, .slice A2 n3 c4), (5, .int .i64 s.1), (6, .int .i64 s.2.1), (7, .int .i64 s.2.2.1), (8, .int .i64 s.2.2.2)] [] [Sm w.heap.size F w [], St w []]) s := by
    intro s hs
    refine Rounds.ind (mot := (fun (s : Int × Int × Int × Int) => ∀ (_ : Unit), G (trellisref26_Take_C w F r) [.code trellisref26_Take_c14, .inLoop trellisref26_Take_c14, .inBlock 0, .code trellisref26_Take_c10] [(0, .slice A2 n3 c4), (5, .int .i64 s.1), (6, .int .i64 s.2.1), (7, .int .i64 s.2.2.1), (8, .int .i64 s.2.2.2)] [] [Sm w.heap.size F w [], St w []])) ?_ hs
    clear hs s
    intro s o1 h hO1
    obtain ⟨x36, x37, x82, x12⟩ := s
    show ∀ (_ : Unit), G (trellisref26_Take_C w F r) [.code trellisref26_Take_c14, .inLoop trellisref26_Take_c14, .inBlock 0, .code trellisref26_Take_c10] [(0, .slice A2 n3 c4), (5, .int .i64 x36), (6, .int .i64 x37), (7, .int .i64 x82), (8, .int .i64 x12)] [] [Sm w.heap.size F w [], St w []]
    intro _
    have h : trellisref26_Take_b1 x1 x36 x37 x82 x12 o1 := h
    unfold trellisref26_Take_b1 at h
    refine g_seq (c := trellisref26_Take_c14) rfl ?_
    refine g_seq (c := trellisref26_Take_c15) rfl ?_
    refine g_region (c := trellisref26_Take_c17) rfl rfl ?_
    refine wl_v 0 rfl (v_move rfl) gn rfl ?_
    refine wl_v 1 rfl (v_move rfl) gn rfl ?_
    refine wl_v 2 rfl (v_lenQ un_22 rfl h5.hq) gn rfl ?_
    refine wl_v 3 rfl (v_bin rfl rfl rfl) gn rfl ?_
    refine w_end 4 rfl ?_
    by_cases hp131 : x12 < (x1.length : Int)
    · have h := if_pos' hp131 h
      refine g_true (c := trellisref26_Take_c18) rfl _ rfl ((decide_eq_true hp131)) ?_
      refine g_skip (c := trellisref26_Take_c19) rfl ?_
      refine g_seq (c := trellisref26_Take_c16) rfl ?_
      refine g_block (c := trellisref26_Take_c21) rfl ?_
      refine g_seq (c := trellisref26_Take_c23) rfl ?_
      refine g_region (c := trellisref26_Take_c24) rfl rfl ?_
      refine wl_v 0 rfl (v_move rfl) gn rfl ?_
      refine wl_v 1 rfl (v_move rfl) gn rfl ?_
      obtain ⟨hb132, h⟩ := h
      have hr133 := Rw.readF (s := St w []) (hl := (hlI .u8)) (h1 := (hone_int .u8)) h5 hb132
      refine wl_v 2 rfl (v_idxR (s := St w []) slE_22 rfl rfl h5 hb132) gn rfl ?_
      refine wl_v 3 rfl (v_ldA1 (kk := (x12 : Int).toNat * 1) (j := 0) (St w []) ld_5 rfl hr133 rfl (me 1 rfl)) gn rfl ?_
      refine wl_v 4 rfl (v_assign rfl) gn rfl ?_
      refine w_end 5 rfl ?_
      refine g_seq (c := trellisref26_Take_c25) rfl ?_
      refine g_block (c := trellisref26_Take_c26) rfl ?_
      refine g_seq (c := trellisref26_Take_c28) rfl ?_
      refine g_region (c := trellisref26_Take_c29) rfl rfl ?_
      refine wl_v 0 rfl (v_move rfl) gn rfl ?_
      refine wl_v 1 rfl (v_bin rfl rfl rfl) gn rfl ?_
      refine wl_v 2 rfl (v_assign rfl) gn rfl ?_
      refine w_end 3 rfl ?_
      have j2 : ∀ (x154 : Int) (x155 : Int) (x156 : Int) (h : trellisref26_Take_j2 x1 x12 x154 x155 x156 o1) , G (trellisref26_Take_C w F r) [.inBlock 2, .code trellisref26_Take_c27, .inBlock 1, .code trellisref26_Take_c22, .inLoop trellisref26_Take_c14, .inBlock 0, .code trellisref26_Take_c10] [(0, .slice A2 n3 c4), (5, .int .i64 x154), (6, .int .i64 x155), (7, .int .i64 x156), (8, .int .i64 x12)] [] [Sm w.heap.size F w [], St w []] := by
        intro x154 x155 x156 h
        unfold trellisref26_Take_j2 at h
        refine g_inBlock ?_
        refine g_seq (c := trellisref26_Take_c27) rfl ?_
        refine g_region (c := trellisref26_Take_c37) rfl rfl ?_
        refine wl_v 0 rfl (v_move rfl) gn rfl ?_
        refine wl_v 1 rfl (v_bin rfl rfl rfl) gn rfl ?_
        refine w_end 2 rfl ?_
        by_cases hp157 : x156 = 4
        · have h := if_pos' hp157 h
          refine g_true (c := trellisref26_Take_c38) rfl _ rfl ((eqi hp157)) ?_
          refine g_seq (c := trellisref26_Take_c39) rfl ?_
          refine g_region (c := trellisref26_Take_c75) rfl rfl ?_
          refine wl_v 0 rfl (v_move rfl) gn rfl ?_
          refine wl_v 1 rfl (v_bin rfl rfl rfl) gn rfl ?_
          refine wl_v 2 rfl (v_assign rfl) gn rfl ?_
          refine w_end 3 rfl ?_
          refine g_seq (c := trellisref26_Take_c76) rfl ?_
          refine g_seq (c := trellisref26_Take_c77) rfl ?_
          refine g_region (c := trellisref26_Take_c79) rfl rfl ?_
          refine wl_v 0 rfl (v_move rfl) gn rfl ?_
          refine wl_v 1 rfl (v_lenQ un_22 rfl h5.hq) gn rfl ?_
          refine wl_v 2 rfl (v_move rfl) gn rfl ?_
          refine wl_v 3 rfl (v_bin rfl rfl rfl) gn rfl ?_
          refine wl_v 4 rfl (v_move rfl) gn rfl ?_
          refine wl_v 5 rfl (v_bin rfl rfl rfl) gn rfl ?_
          refine w_end 6 rfl ?_
          by_cases hp158 : w64 ((x1.length : Int) - (w64 (x12 + 1))) < x154
          · have h := if_pos' hp158 h
            refine g_true (c := trellisref26_Take_c80) rfl _ rfl ((decide_eq_true hp158)) ?_
            refine g_seq (c := trellisref26_Take_c81) rfl ?_
            refine g_region (c := trellisref26_Take_c83) rfl rfl ?_
            refine wl_v 0 rfl (v_assign rfl) gn rfl ?_
            refine wl_v 1 rfl (v_assign rfl) gn rfl ?_
            refine wl_v 2 rfl (v_assign rfl) gn rfl ?_
            refine w_end 3 rfl ?_
            have h := Out.inr hO1 h
            refine g_retR (c := trellisref26_Take_c84) [.string (⟨#[]⟩ : ByteArray), .int .i64 0, .int .i64 260] rfl Tryd.func13 rfl (.tmp rfl (.tmp rfl (.tmp rfl (.nil)))) fun wr hLr => ?_
            have hMr : B.Loc w wr [] [St w []] := hLr.pick (rest := []) (perm_of_idx [] [] rfl rfl (by kernel_rfl)) (sels [1] rfl)
            have hMi : ∀ e ∈ ([] : List Ent), e ∈ ([] : List Ent) := sels [] rfl
            show trellisref26_Take_R w F  r (.returned (packV [.string (⟨#[]⟩ : ByteArray), .int .i64 0, .int .i64 260])) wr
            rw [h]
            exact ⟨rfl, hMr⟩
          · have h := if_neg' hp158 h
            refine g_false (c := trellisref26_Take_c80) rfl _ rfl ((decide_eq_false hp158)) ?_
            refine g_skip (c := trellisref26_Take_c82) rfl ?_
            refine g_seq (c := trellisref26_Take_c78) rfl ?_
            refine g_region (c := trellisref26_Take_c85) rfl rfl ?_
            refine wl_v 0 rfl (v_move rfl) gn rfl ?_
            refine wl_v 1 rfl (v_move rfl) gn rfl ?_
            refine wl_v 2 rfl (v_move rfl) gn rfl ?_
            refine wl_v 3 rfl (v_move rfl) gn rfl ?_
            refine wl_v 4 rfl (v_bin rfl rfl rfl) gn rfl ?_
            obtain ⟨hb159, h⟩ := h
            have h160 := Rw.cut (sz := 1) (lv := w64 (x12 + 1)) (hv := w64 ((w64 (x12 + 1)) + x154)) (mv := ((c4 : Nat) : Int)) h5 rfl (by have q := hb159; have q1 := h5.hq; have q2 := h5.hn; omega) (by have q := hb159; have q1 := h5.hq; have q2 := h5.hn; omega) (by have q := hb159; have q1 := h5.hq; have q2 := h5.hn; omega)
            refine wl_v 5 rfl (v_cut (sz := 1) (n := n3) (c := c4) (w64 (x12 + 1)) (w64 ((w64 (x12 + 1)) + x154)) ((c4 : Nat) : Int) slE_22 rfl (by_ rfl) (by_ rfl) bn (by have q := hb159; have q1 := h5.hq; have q2 := h5.hn; omega) (by have q := hb159; have q1 := h5.hq; have q2 := h5.hn; omega) (by have q := hb159; have q1 := h5.hq; have q2 := h5.hn; omega) h5.hn rfl) gn rfl ?_
            refine wl_v 6 rfl (v_b2s u8_22 un_9 rfl (Src.readF (s := St w []) (hl := (hlI .u8)) (h1 := (hone_int .u8)) h160 (me 1 rfl)) h160.hq) gn rfl ?_
            refine wl_v 7 rfl (v_move rfl) gn rfl ?_
            refine wl_v 8 rfl (v_move rfl) gn rfl ?_
            refine wl_v 9 rfl (v_bin rfl rfl rfl) gn rfl ?_
            refine wl_v 10 rfl (v_assign rfl) gn rfl ?_
            refine wl_v 11 rfl (v_assign rfl) gn rfl ?_
            refine wl_v 12 rfl (v_assign rfl) gn rfl ?_
            refine w_end 13 rfl ?_
            have h := Out.inr hO1 h
            refine g_retR (c := trellisref26_Take_c86) [.string (ofBs ((x1.take (w64 ((w64 (x12 + 1)) + x154) : Int).toNat).drop (w64 (x12 + 1) : Int).toNat)), .int .i64 (w64 ((w64 (x12 + 1)) + x154)), .int .i64 0] rfl Tryd.func13 rfl (.tmp rfl (.tmp rfl (.tmp rfl (.nil)))) fun wr hLr => ?_
            have hMr : B.Loc w wr [] [St w []] := hLr.pick (rest := []) (perm_of_idx [] [] rfl rfl (by kernel_rfl)) (sels [1] rfl)
            have hMi : ∀ e ∈ ([] : List Ent), e ∈ ([] : List Ent) := sels [] rfl
            show trellisref26_Take_R w F  r (.returned (packV [.string (ofBs ((x1.take (w64 ((w64 (x12 + 1)) + x154) : Int).toNat).drop (w64 (x12 + 1) : Int).toNat)), .int .i64 (w64 ((w64 (x12 + 1)) + x154)), .int .i64 0])) wr
            rw [h]
            exact ⟨rfl, hMr⟩
        · have h := if_neg' hp157 h
          refine g_false (c := trellisref26_Take_c38) rfl _ rfl ((nei hp157)) ?_
          refine g_skip (c := trellisref26_Take_c40) rfl ?_
          refine g_inBlock ?_
          refine g_region (c := trellisref26_Take_c22) rfl rfl ?_
          refine wl_v 0 rfl (v_move rfl) gn rfl ?_
          refine wl_v 1 rfl (v_bin rfl rfl rfl) gn rfl ?_
          refine wl_v 2 rfl (v_assign rfl) gn rfl ?_
          refine w_end 3 rfl ?_
          refine g_inLoop ?_
          have ih := Out.inl hO1 h
          exact g_go [0, 1] (ih ()) ⟨rfl, rfl, rfl, rfl, rfl, trivial⟩ (.slnil) rfl
      by_cases hp134 : x12 < 16
      · have h := if_pos' hp134 h
        refine g_true (c := trellisref26_Take_c30) rfl _ rfl ((decide_eq_true hp134)) ?_
        refine g_seq (c := trellisref26_Take_c31) rfl ?_
        refine g_region (c := trellisref26_Take_c33) rfl rfl ?_
        refine wl_v 0 rfl (v_move rfl) gn rfl ?_
        refine wl_v 1 rfl (v_move rfl) gn rfl ?_
        obtain ⟨hb161, h⟩ := h
        refine wl_v 2 rfl (v_indexS un_9 rfl rfl hb161) gn rfl ?_
        refine wl_v 3 rfl (v_bin rfl rfl rfl) gn rfl ?_
        refine w_end 4 rfl ?_
        by_cases hp162 : ix x1 x12 = bt (⟨#[67, 111, 110, 116, 101, 110, 116, 45, 76, 101, 110, 103, 116, 104, 58, 32]⟩ : ByteArray) x12
        · have h := if_pos' hp162 h
          refine g_false (c := trellisref26_Take_c34) rfl _ rfl ((eqib hp162)) ?_
          refine g_skip (c := trellisref26_Take_c36) rfl ?_
          exact g_go [0, 1] (j2 x36 x37 x82 h) ⟨rfl, rfl, rfl, rfl, rfl, trivial⟩ (.slnil) rfl
        · have h := if_neg' hp162 h
          refine g_true (c := trellisref26_Take_c34) rfl _ rfl ((neib hp162)) ?_
          refine g_seq (c := trellisref26_Take_c35) rfl ?_
          refine g_region (c := trellisref26_Take_c41) rfl rfl ?_
          refine wl_v 0 rfl (v_assign rfl) gn rfl ?_
          refine wl_v 1 rfl (v_assign rfl) gn rfl ?_
          refine wl_v 2 rfl (v_assign rfl) gn rfl ?_
          refine w_end 3 rfl ?_
          have h := Out.inr hO1 h
          refine g_retR (c := trellisref26_Take_c42) [.string (⟨#[]⟩ : ByteArray), .int .i64 0, .int .i64 261] rfl Tryd.func13 rfl (.tmp rfl (.tmp rfl (.tmp rfl (.nil)))) fun wr hLr => ?_
          have hMr : B.Loc w wr [] [St w []] := hLr.pick (rest := []) (perm_of_idx [] [] rfl rfl (by kernel_rfl)) (sels [1] rfl)
          have hMi : ∀ e ∈ ([] : List Ent), e ∈ ([] : List Ent) := sels [] rfl
          show trellisref26_Take_R w F  r (.returned (packV [.string (⟨#[]⟩ : ByteArray), .int .i64 0, .int .i64 261])) wr
          rw [h]
          exact ⟨rfl, hMr⟩
      · have h := if_neg' hp134 h
        refine g_false (c := trellisref26_Take_c30) rfl _ rfl ((decide_eq_false hp134)) ?_
        refine g_seq (c := trellisref26_Take_c32) rfl ?_
        have j3 : ∀ (x166 : Bool) (h : trellisref26_Take_j3 x37 x36 x1 x12 x82 x166 o1) , G (trellisref26_Take_C w F r) [.code trellisref26_Take_c46, .inBlock 2, .code trellisref26_Take_c27, .inBlock 1, .code trellisref26_Take_c22, .inLoop trellisref26_Take_c14, .inBlock 0, .code trellisref26_Take_c10] [(0, .slice A2 n3 c4), (5, .int .i64 x36), (6, .int .i64 x37), (7, .int .i64 x82), (8, .int .i64 x12), (9, .int .u8 (ix x1 x12)), (38, .bool x166)] [] [Sm w.heap.size F w [], St w []] := by
          intro x166 h
          unfold trellisref26_Take_j3 at h
          by_cases hp167 : x166 = true
          · have h := if_pos' hp167 h
            refine g_true (c := trellisref26_Take_c46) rfl _ rfl (hp167) ?_
            refine g_seq (c := trellisref26_Take_c47) rfl ?_
            refine g_seq (c := trellisref26_Take_c49) rfl ?_
            have j4 : ∀ (x170 : Bool) (h : trellisref26_Take_j4 x36 x1 x12 x37 x82 x170 o1) , G (trellisref26_Take_C w F r) [.code trellisref26_Take_c52, .code trellisref26_Take_c50, .inBlock 2, .code trellisref26_Take_c27, .inBlock 1, .code trellisref26_Take_c22, .inLoop trellisref26_Take_c14, .inBlock 0, .code trellisref26_Take_c10] [(0, .slice A2 n3 c4), (5, .int .i64 x36), (6, .int .i64 x37), (7, .int .i64 x82), (8, .int .i64 x12), (9, .int .u8 (ix x1 x12)), (54, .bool x170)] [] [Sm w.heap.size F w [], St w []] := by
              intro x170 h
              unfold trellisref26_Take_j4 at h
              by_cases hp171 : x170 = true
              · have h := if_pos' hp171 h
                refine g_true (c := trellisref26_Take_c52) rfl _ rfl (hp171) ?_
                refine g_seq (c := trellisref26_Take_c53) rfl ?_
                refine g_region (c := trellisref26_Take_c73) rfl rfl ?_
                refine wl_v 0 rfl (v_assign rfl) gn rfl ?_
                refine wl_v 1 rfl (v_assign rfl) gn rfl ?_
                refine wl_v 2 rfl (v_assign rfl) gn rfl ?_
                refine w_end 3 rfl ?_
                have h := Out.inr hO1 h
                refine g_retR (c := trellisref26_Take_c74) [.string (⟨#[]⟩ : ByteArray), .int .i64 0, .int .i64 261] rfl Tryd.func13 rfl (.tmp rfl (.tmp rfl (.tmp rfl (.nil)))) fun wr hLr => ?_
                have hMr : B.Loc w wr [] [St w []] := hLr.pick (rest := []) (perm_of_idx [] [] rfl rfl (by kernel_rfl)) (sels [1] rfl)
                have hMi : ∀ e ∈ ([] : List Ent), e ∈ ([] : List Ent) := sels [] rfl
                show trellisref26_Take_R w F  r (.returned (packV [.string (⟨#[]⟩ : ByteArray), .int .i64 0, .int .i64 261])) wr
                rw [h]
                exact ⟨rfl, hMr⟩
              · have h := if_neg' hp171 h
                refine g_false (c := trellisref26_Take_c52) rfl _ rfl ((bf hp171)) ?_
                refine g_skip (c := trellisref26_Take_c54) rfl ?_
                refine g_seq (c := trellisref26_Take_c50) rfl ?_
                refine g_region (c := trellisref26_Take_c55) rfl rfl ?_
                refine wl_v 0 rfl (v_move rfl) gn rfl ?_
                refine wl_v 1 rfl (v_bin rfl rfl rfl) gn rfl ?_
                refine wl_v 2 rfl (v_move rfl) gn rfl ?_
                refine wl_v 3 rfl (v_bin rfl rfl rfl) gn rfl ?_
                refine wl_v 4 rfl (v_conv ⟨_, un_5⟩ un_3 rfl) gn rfl ?_
                refine wl_v 5 rfl (v_bin rfl rfl rfl) gn rfl ?_
                refine wl_v 6 rfl (v_assign rfl) gn rfl ?_
                refine w_end 7 rfl ?_
                refine g_seq (c := trellisref26_Take_c56) rfl ?_
                refine g_region (c := trellisref26_Take_c57) rfl rfl ?_
                refine wl_v 0 rfl (v_move rfl) gn rfl ?_
                refine wl_v 1 rfl (v_bin rfl rfl rfl) gn rfl ?_
                refine wl_v 2 rfl (v_assign rfl) gn rfl ?_
                refine w_end 3 rfl ?_
                refine g_seq (c := trellisref26_Take_c58) rfl ?_
                refine g_region (c := trellisref26_Take_c59) rfl rfl ?_
                refine wl_v 0 rfl (v_move rfl) gn rfl ?_
                refine wl_v 1 rfl (v_bin rfl rfl rfl) gn rfl ?_
                refine w_end 2 rfl ?_
                by_cases hp172 : w64 ((w64 (10 * x36)) + (w64 (IntKind.u8.wrap ((ix x1 x12) - 48)))) > 2097152
                · have h := if_pos' hp172 h
                  refine g_true (c := trellisref26_Take_c60) rfl _ rfl ((decide_eq_true hp172)) ?_
                  refine g_seq (c := trellisref26_Take_c61) rfl ?_
                  refine g_region (c := trellisref26_Take_c63) rfl rfl ?_
                  refine wl_v 0 rfl (v_assign rfl) gn rfl ?_
                  refine wl_v 1 rfl (v_assign rfl) gn rfl ?_
                  refine wl_v 2 rfl (v_assign rfl) gn rfl ?_
                  refine w_end 3 rfl ?_
                  have h := Out.inr hO1 h
                  refine g_retR (c := trellisref26_Take_c64) [.string (⟨#[]⟩ : ByteArray), .int .i64 0, .int .i64 262] rfl Tryd.func13 rfl (.tmp rfl (.tmp rfl (.tmp rfl (.nil)))) fun wr hLr => ?_
                  have hMr : B.Loc w wr [] [St w []] := hLr.pick (rest := []) (perm_of_idx [] [] rfl rfl (by kernel_rfl)) (sels [1] rfl)
                  have hMi : ∀ e ∈ ([] : List Ent), e ∈ ([] : List Ent) := sels [] rfl
                  show trellisref26_Take_R w F  r (.returned (packV [.string (⟨#[]⟩ : ByteArray), .int .i64 0, .int .i64 262])) wr
                  rw [h]
                  exact ⟨rfl, hMr⟩
                · have h := if_neg' hp172 h
                  refine g_false (c := trellisref26_Take_c60) rfl _ rfl ((decide_eq_false hp172)) ?_
                  refine g_skip (c := trellisref26_Take_c62) rfl ?_
                  exact g_go [0, 1] (j2 (w64 ((w64 (10 * x36)) + (w64 (IntKind.u8.wrap ((ix x1 x12) - 48))))) (w64 (x37 + 1)) x82 h) ⟨rfl, rfl, rfl, rfl, rfl, trivial⟩ (.slnil) rfl
            refine g_region (c := trellisref26_Take_c51) rfl rfl ?_
            refine wl_v 0 rfl (v_move rfl) gn rfl ?_
            refine wl_v 1 rfl (v_bin rfl rfl rfl) gn rfl ?_
            refine wl_v 2 rfl (v_move rfl) gn rfl ?_
            by_cases hp173 : x37 > 0
            · have h := if_pos' hp173 h
              refine w_bool 51 rfl ((decide_eq_true hp173)) ?_
              refine wl_v 3 rfl (v_move rfl) (gy 51 rfl rfl) rfl ?_
              refine wl_v 4 rfl (v_bin rfl rfl rfl) (gy 51 rfl rfl) rfl ?_
              refine wl_v 5 rfl (v_pick (b := true) rfl rfl) gn rfl ?_
              refine w_end 6 rfl ?_
              exact g_go [0, 1] (j4 (x36 == 0) h) ⟨rfl, rfl, rfl, rfl, rfl, rfl, rfl, trivial⟩ (.slnil) rfl
            · have h := if_neg' hp173 h
              refine w_bool 51 rfl ((decide_eq_false hp173)) ?_
              refine wl_pass 3 rfl (ps 51 rfl rfl rfl) ?_
              refine wl_pass 4 rfl (ps 51 rfl rfl rfl) ?_
              refine wl_v 5 rfl (v_pick (b := false) rfl rfl) gn rfl ?_
              refine w_end 6 rfl ?_
              exact g_go [0, 1] (j4 false h) ⟨rfl, rfl, rfl, rfl, rfl, rfl, rfl, trivial⟩ (.slnil) rfl
          · have h := if_neg' hp167 h
            refine g_false (c := trellisref26_Take_c46) rfl _ rfl ((bf hp167)) ?_
            refine g_seq (c := trellisref26_Take_c48) rfl ?_
            refine g_seq (c := trellisref26_Take_c65) rfl ?_
            refine g_region (c := trellisref26_Take_c67) rfl rfl ?_
            refine wl_v 0 rfl (v_move rfl) gn rfl ?_
            refine wl_v 1 rfl (v_bin rfl rfl rfl) gn rfl ?_
            refine wl_v 2 rfl (v_move rfl) gn rfl ?_
            by_cases hp174 : x37 = 0
            · have h := if_pos' hp174 h
              refine w_bool 23 rfl ((eqi hp174)) ?_
              refine wl_pass 3 rfl (ps 23 rfl rfl rfl) ?_
              refine wl_pass 4 rfl (ps 23 rfl rfl rfl) ?_
              refine wl_pass 5 rfl (ps 23 rfl rfl rfl) ?_
              refine wl_pass 6 rfl (ps 23 rfl rfl rfl) ?_
              refine wl_v 7 rfl (v_pick (b := true) rfl rfl) gn rfl ?_
              refine w_end 8 rfl ?_
              refine g_true (c := trellisref26_Take_c68) rfl _ rfl (rfl) ?_
              refine g_seq (c := trellisref26_Take_c69) rfl ?_
              refine g_region (c := trellisref26_Take_c71) rfl rfl ?_
              refine wl_v 0 rfl (v_assign rfl) gn rfl ?_
              refine wl_v 1 rfl (v_assign rfl) gn rfl ?_
              refine wl_v 2 rfl (v_assign rfl) gn rfl ?_
              refine w_end 3 rfl ?_
              have h := Out.inr hO1 h
              refine g_retR (c := trellisref26_Take_c72) [.string (⟨#[]⟩ : ByteArray), .int .i64 0, .int .i64 261] rfl Tryd.func13 rfl (.tmp rfl (.tmp rfl (.tmp rfl (.nil)))) fun wr hLr => ?_
              have hMr : B.Loc w wr [] [St w []] := hLr.pick (rest := []) (perm_of_idx [] [] rfl rfl (by kernel_rfl)) (sels [1] rfl)
              have hMi : ∀ e ∈ ([] : List Ent), e ∈ ([] : List Ent) := sels [] rfl
              show trellisref26_Take_R w F  r (.returned (packV [.string (⟨#[]⟩ : ByteArray), .int .i64 0, .int .i64 261])) wr
              rw [h]
              exact ⟨rfl, hMr⟩
            · have h := if_neg' hp174 h
              refine w_bool 23 rfl ((nei hp174)) ?_
              refine wl_v 3 rfl (v_move rfl) (gy 23 rfl rfl) rfl ?_
              refine wl_v 4 rfl (v_move rfl) (gy 23 rfl rfl) rfl ?_
              obtain ⟨hb175, h⟩ := h
              refine wl_v 5 rfl (v_indexS un_9 rfl rfl hb175) (gy 23 rfl rfl) rfl ?_
              refine wl_v 6 rfl (v_bin rfl rfl rfl) (gy 23 rfl rfl) rfl ?_
              refine wl_v 7 rfl (v_pick (b := false) rfl rfl) gn rfl ?_
              refine w_end 8 rfl ?_
              by_cases hp176 : ix x1 x12 = bt (⟨#[13, 10, 13, 10]⟩ : ByteArray) x82
              · have h := if_pos' hp176 h
                refine g_false (c := trellisref26_Take_c68) rfl _ rfl ((eqib hp176)) ?_
                refine g_skip (c := trellisref26_Take_c70) rfl ?_
                refine g_region (c := trellisref26_Take_c66) rfl rfl ?_
                refine wl_v 0 rfl (v_move rfl) gn rfl ?_
                refine wl_v 1 rfl (v_bin rfl rfl rfl) gn rfl ?_
                refine wl_v 2 rfl (v_assign rfl) gn rfl ?_
                refine w_end 3 rfl ?_
                exact g_go [0, 1] (j2 x36 x37 (w64 (x82 + 1)) h) ⟨rfl, rfl, rfl, rfl, rfl, trivial⟩ (.slnil) rfl
              · have h := if_neg' hp176 h
                refine g_true (c := trellisref26_Take_c68) rfl _ rfl ((neib hp176)) ?_
                refine g_seq (c := trellisref26_Take_c69) rfl ?_
                refine g_region (c := trellisref26_Take_c71) rfl rfl ?_
                refine wl_v 0 rfl (v_assign rfl) gn rfl ?_
                refine wl_v 1 rfl (v_assign rfl) gn rfl ?_
                refine wl_v 2 rfl (v_assign rfl) gn rfl ?_
                refine w_end 3 rfl ?_
                have h := Out.inr hO1 h
                refine g_retR (c := trellisref26_Take_c72) [.string (⟨#[]⟩ : ByteArray), .int .i64 0, .int .i64 261] rfl Tryd.func13 rfl (.tmp rfl (.tmp rfl (.tmp rfl (.nil)))) fun wr hLr => ?_
                have hMr : B.Loc w wr [] [St w []] := hLr.pick (rest := []) (perm_of_idx [] [] rfl rfl (by kernel_rfl)) (sels [1] rfl)
                have hMi : ∀ e ∈ ([] : List Ent), e ∈ ([] : List Ent) := sels [] rfl
                show trellisref26_Take_R w F  r (.returned (packV [.string (⟨#[]⟩ : ByteArray), .int .i64 0, .int .i64 261])) wr
                rw [h]
                exact ⟨rfl, hMr⟩
        refine g_region (c := trellisref26_Take_c45) rfl rfl ?_
        refine wl_v 0 rfl (v_move rfl) gn rfl ?_
        refine wl_v 1 rfl (v_bin rfl rfl rfl) gn rfl ?_
        refine wl_v 2 rfl (v_move rfl) gn rfl ?_
        by_cases hp177 : x82 = 0
        · have h := if_pos' hp177 h
          refine w_bool 41 rfl ((eqi hp177)) ?_
          refine wl_v 3 rfl (v_move rfl) (gy 41 rfl rfl) rfl ?_
          refine wl_v 4 rfl (v_bin rfl rfl rfl) (gy 41 rfl rfl) rfl ?_
          refine wl_v 5 rfl (v_pick (b := true) rfl rfl) gn rfl ?_
          refine wl_v 6 rfl (v_move rfl) gn rfl ?_
          by_cases hp178 : ix x1 x12 ≥ 48
          · have h := if_pos' hp178 h
            refine w_bool 45 rfl ((decide_eq_true hp178)) ?_
            refine wl_v 7 rfl (v_move rfl) (gy 45 rfl rfl) rfl ?_
            refine wl_v 8 rfl (v_bin rfl rfl rfl) (gy 45 rfl rfl) rfl ?_
            refine wl_v 9 rfl (v_pick (b := true) rfl rfl) gn rfl ?_
            refine wl_v 10 rfl (v_assign rfl) gn rfl ?_
            refine w_end 11 rfl ?_
            exact g_go [0, 1] (j3 (decide (ix x1 x12 ≤ 57)) h) ⟨rfl, rfl, rfl, rfl, rfl, rfl, rfl, trivial⟩ (.slnil) rfl
          · have h := if_neg' hp178 h
            refine w_bool 45 rfl ((decide_eq_false hp178)) ?_
            refine wl_pass 7 rfl (ps 45 rfl rfl rfl) ?_
            refine wl_pass 8 rfl (ps 45 rfl rfl rfl) ?_
            refine wl_v 9 rfl (v_pick (b := false) rfl rfl) gn rfl ?_
            refine wl_v 10 rfl (v_assign rfl) gn rfl ?_
            refine w_end 11 rfl ?_
            exact g_go [0, 1] (j3 false h) ⟨rfl, rfl, rfl, rfl, rfl, rfl, rfl, trivial⟩ (.slnil) rfl
        · have h := if_neg' hp177 h
          refine w_bool 41 rfl ((nei hp177)) ?_
          refine wl_pass 3 rfl (ps 41 rfl rfl rfl) ?_
          refine wl_pass 4 rfl (ps 41 rfl rfl rfl) ?_
          refine wl_v 5 rfl (v_pick (b := false) rfl rfl) gn rfl ?_
          refine wl_v 6 rfl (v_move rfl) gn rfl ?_
          refine wl_pass 7 rfl (ps 45 rfl rfl rfl) ?_
          refine wl_pass 8 rfl (ps 45 rfl rfl rfl) ?_
          refine wl_v 9 rfl (v_pick (b := false) rfl rfl) gn rfl ?_
          refine wl_v 10 rfl (v_assign rfl) gn rfl ?_
          refine w_end 11 rfl ?_
          exact g_go [0, 1] (j3 false h) ⟨rfl, rfl, rfl, rfl, rfl, rfl, rfl, trivial⟩ (.slnil) rfl
    · have h := if_neg' hp131 h
      refine g_false (c := trellisref26_Take_c18) rfl _ rfl ((decide_eq_false hp131)) ?_
      refine g_exit (c := trellisref26_Take_c20) [.code trellisref26_Take_c10] rfl rfl ?_
      refine g_seq (c := trellisref26_Take_c10) rfl ?_
      refine g_region (c := trellisref26_Take_c43) rfl rfl ?_
      refine wl_v 0 rfl (v_assign rfl) gn rfl ?_
      refine wl_v 1 rfl (v_assign rfl) gn rfl ?_
      refine wl_v 2 rfl (v_assign rfl) gn rfl ?_
      refine w_end 3 rfl ?_
      have h := Out.inr hO1 h
      refine g_retR (c := trellisref26_Take_c44) [.string (⟨#[]⟩ : ByteArray), .int .i64 0, .int .i64 260] rfl Tryd.func13 rfl (.tmp rfl (.tmp rfl (.tmp rfl (.nil)))) fun wr hLr => ?_
      have hMr : B.Loc w wr [] [St w []] := hLr.pick (rest := []) (perm_of_idx [] [] rfl rfl (by kernel_rfl)) (sels [1] rfl)
      have hMi : ∀ e ∈ ([] : List Ent), e ∈ ([] : List Ent) := sels [] rfl
      show trellisref26_Take_R w F  r (.returned (packV [.string (⟨#[]⟩ : ByteArray), .int .i64 0, .int .i64 260])) wr
      rw [h]
      exact ⟨rfl, hMr⟩
  exact g_go [0, 1] (key1 _ h ()) ⟨rfl, rfl, rfl, rfl, rfl, trivial⟩ (.slnil) rfl
noncomputable abbrev trellislaw26_whole_c0 : Code := bodyOf Tryd.f14
noncomputable abbrev trellislaw26_whole_c1 : Code := Code.fst trellislaw26_whole_c0
noncomputable abbrev trellislaw26_whole_c2 : Code := Code.snd trellislaw26_whole_c0
noncomputable abbrev trellislaw26_whole_c3 : Code := Code.fst trellislaw26_whole_c2
noncomputable abbrev trellislaw26_whole_c4 : Code := Code.snd trellislaw26_whole_c2
noncomputable abbrev trellislaw26_whole_c5 : Code := Code.fst trellislaw26_whole_c3
noncomputable abbrev trellislaw26_whole_c6 : Code := Code.snd trellislaw26_whole_c3
noncomputable abbrev trellislaw26_whole_c7 : Code := Code.fst trellislaw26_whole_c6
noncomputable abbrev trellislaw26_whole_c8 : Code := Code.fst trellislaw26_whole_c7
noncomputable abbrev trellislaw26_whole_c9 : Code := Code.fst trellislaw26_whole_c8
noncomputable abbrev trellislaw26_whole_c10 : Code := Code.snd trellislaw26_whole_c8
noncomputable abbrev trellislaw26_whole_c11 : Code := Code.fst trellislaw26_whole_c9
noncomputable abbrev trellislaw26_whole_c12 : Code := Code.snd trellislaw26_whole_c9
noncomputable abbrev trellislaw26_whole_c13 : Code := Code.fst trellislaw26_whole_c12
noncomputable abbrev trellislaw26_whole_c14 : Code := Code.snd trellislaw26_whole_c12
noncomputable abbrev trellislaw26_whole_c15 : Code := Code.fst trellislaw26_whole_c10
noncomputable abbrev trellislaw26_whole_c16 : Code := Code.snd trellislaw26_whole_c10
noncomputable abbrev trellislaw26_whole_c17 : Code := Code.fst trellislaw26_whole_c15
noncomputable abbrev trellislaw26_whole_c18 : Code := Code.fst trellislaw26_whole_c17
noncomputable abbrev trellislaw26_whole_c19 : Code := Code.snd trellislaw26_whole_c17
noncomputable abbrev trellislaw26_whole_c20 : Code := Code.fst trellislaw26_whole_c19
noncomputable abbrev trellislaw26_whole_c21 : Code := Code.snd trellislaw26_whole_c19
noncomputable abbrev trellislaw26_whole_c22 : Code := Code.fst trellislaw26_whole_c20
noncomputable abbrev trellislaw26_whole_c23 : Code := Code.snd trellislaw26_whole_c20
noncomputable abbrev trellislaw26_whole_c24 : Code := Code.fst trellislaw26_whole_c4
noncomputable abbrev trellislaw26_whole_c25 : Code := Code.snd trellislaw26_whole_c4
abbrev trellislaw26_whole_R (w : World) (F : Nat → Prop) (r : Bool) : Ending → World → Prop := fun e w' => e = .returned (.bool r) ∧ B.Loc w w' [] [St w []]
noncomputable abbrev trellislaw26_whole_C (w : World) (F : Nat → Prop) (r : Bool) : Cx := ⟨Tryd.prog, 14, Tryd.f14, 27, trellislaw26_whole_R w F  r, w⟩
theorem trellislaw26_whole_calls (w : World) (F : Nat → Prop) (x1 : List Int) (x6 : List Int) (A2 : Option Addr) (n3 : Nat) (c4 : Nat) (A7 : Option Addr) (n8 : Nat) (c9 : Nat) (h5 : Rw (kInt .u8) w (St w []).av A2 n3 c4 x1) (h10 : Rw (kInt .u8) w (St w []).av A7 n8 c9 x6) (hF : ∀ b, F b → b < w.heap.size ∧ ∀ o ∈ ([] : List (List Nat)), b ∉ o) (hL0 : B.Loc w w [] [Sm w.heap.size F w [], St w []]) (r : Bool) (h : trellislaw26_whole x1 x6 r) : Calls Tryd.prog 14 #[.slice A2 n3 c4, .slice A7 n8 c9] w (trellislaw26_whole_R w F  r) := by
  unfold trellislaw26_whole at h
  refine calls_of_Loc (vs := [.slice A2 n3 c4, .slice A7 n8 c9]) 27 Tryd.func14 rfl Tryd.ntmps14 rfl hL0 ?_
  show G (trellislaw26_whole_C w F r) _ _ _ _
  refine g_seq (c := trellislaw26_whole_c0) rfl ?_
  refine g_region (c := trellislaw26_whole_c1) rfl rfl ?_
  refine wl_v 0 rfl (v_assign rfl) gn rfl ?_
  refine w_end 1 rfl ?_
  refine g_seq (c := trellislaw26_whole_c2) rfl ?_
  refine g_seq (c := trellislaw26_whole_c3) rfl ?_
  refine g_region (c := trellislaw26_whole_c5) rfl rfl ?_
  refine wl_v 0 rfl (v_assign rfl) gn rfl ?_
  refine w_end 1 rfl ?_
  refine g_block (c := trellislaw26_whole_c6) rfl ?_
  refine g_loop (c := trellislaw26_whole_c7) rfl ?_
  have key1 : ∀ s, Rounds (fun (s : Int) o => trellislaw26_whole_b1 x6 x1 s o) s r → (fun (s : Int) => ∀ (_ : Unit), G (trellislaw26_whole_C w F r) [.code trellislaw26_whole_c8, .inLoop trellislaw26_whole_c8, .inBlock 0, .code trellislaw26_whole_c4] [(0, .slice A2 n3 c4), (1, .slice A7 n8 c9), (5, .int .i64 s)] [] [Sm w.heap.size F w [], St w []]) s := by
    intro s hs
    refine Rounds.ind (mot := (fun (s : Int) => ∀ (_ : Unit), G (trellislaw26_whole_C w F r) [.code trellislaw26_whole_c8, .inLoop trellislaw26_whole_c8, .inBlock 0, .code trellislaw26_whole_c4] [(0, .slice A2 n3 c4), (1, .slice A7 n8 c9), (5, .int .i64 s)] [] [Sm w.heap.size F w [], St w []])) ?_ hs
    clear hs s
    intro x15 o1 h hO1
    show ∀ (_ : Unit), G (trellislaw26_whole_C w F r) [.code trellislaw26_whole_c8, .inLoop trellislaw26_whole_c8, .inBlock 0, .code trellislaw26_whole_c4] [(0, .slice A2 n3 c4), (1, .slice A7 n8 c9), (5, .int .i64 x15)] [] [Sm w.heap.size F w [], St w []]
    intro _
    have h : trellislaw26_whole_b1 x6 x1 x15 o1 := h
    unfold trellislaw26_whole_b1 at h
    refine g_seq (c := trellislaw26_whole_c8) rfl ?_
    refine g_seq (c := trellislaw26_whole_c9) rfl ?_
    refine g_region (c := trellislaw26_whole_c11) rfl rfl ?_
    refine wl_v 0 rfl (v_move rfl) gn rfl ?_
    refine wl_v 1 rfl (v_bin rfl rfl rfl) gn rfl ?_
    refine w_end 2 rfl ?_
    by_cases hp30 : x15 < 64
    · have h := if_pos' hp30 h
      refine g_true (c := trellislaw26_whole_c12) rfl _ rfl ((decide_eq_true hp30)) ?_
      refine g_skip (c := trellislaw26_whole_c13) rfl ?_
      refine g_seq (c := trellislaw26_whole_c10) rfl ?_
      refine g_block (c := trellislaw26_whole_c15) rfl ?_
      refine g_seq (c := trellislaw26_whole_c17) rfl ?_
      refine g_region (c := trellislaw26_whole_c18) rfl rfl ?_
      refine wl_v 0 rfl (v_move rfl) gn rfl ?_
      refine wl_v 1 rfl (v_move rfl) gn rfl ?_
      refine wl_v 2 rfl (v_lenQ un_22 rfl h10.hq) gn rfl ?_
      refine wl_v 3 rfl (v_move rfl) gn rfl ?_
      refine wl_v 4 rfl (v_bin rfl rfl rfl) gn rfl ?_
      obtain ⟨hb31, h⟩ := h
      have hr32 := Rw.readF (s := St w []) (hl := (hlI .u8)) (h1 := (hone_int .u8)) h5 hb31
      refine wl_v 5 rfl (v_idxR (s := St w []) slE_22 rfl rfl h5 hb31) gn rfl ?_
      refine wl_v 6 rfl (v_ldA1 (kk := (w64 ((x6.length : Int) + x15) : Int).toNat * 1) (j := 0) (St w []) ld_5 rfl hr32 rfl (me 1 rfl)) gn rfl ?_
      refine wl_v 7 rfl (v_conv ⟨_, un_5⟩ un_3 rfl) gn rfl ?_
      refine wl_v 8 rfl (v_move rfl) gn rfl ?_
      refine wl_v 9 rfl (v_bin rfl rfl rfl) gn rfl ?_
      refine wl_v 10 rfl (v_bin rfl rfl rfl) gn rfl ?_
      refine w_end 11 rfl ?_
      by_cases hp33 : w64 (ix x1 (w64 ((x6.length : Int) + x15))) = w64 (150 + x15)
      · have h := if_pos' hp33 h
        refine g_false (c := trellislaw26_whole_c19) rfl _ rfl ((eqib hp33)) ?_
        refine g_skip (c := trellislaw26_whole_c21) rfl ?_
        refine g_inBlock ?_
        refine g_region (c := trellislaw26_whole_c16) rfl rfl ?_
        refine wl_v 0 rfl (v_move rfl) gn rfl ?_
        refine wl_v 1 rfl (v_bin rfl rfl rfl) gn rfl ?_
        refine wl_v 2 rfl (v_assign rfl) gn rfl ?_
        refine w_end 3 rfl ?_
        refine g_inLoop ?_
        have ih := Out.inl hO1 h
        exact g_go [0, 1] (ih ()) ⟨rfl, rfl, rfl, trivial⟩ (.slnil) rfl
      · have h := if_neg' hp33 h
        refine g_true (c := trellislaw26_whole_c19) rfl _ rfl ((neib hp33)) ?_
        refine g_seq (c := trellislaw26_whole_c20) rfl ?_
        refine g_region (c := trellislaw26_whole_c22) rfl rfl ?_
        refine wl_v 0 rfl (v_assign rfl) gn rfl ?_
        refine w_end 1 rfl ?_
        have h := Out.inr hO1 h
        refine g_retR (c := trellislaw26_whole_c23) [.bool false] rfl Tryd.func14 rfl (.tmp rfl (.nil)) fun wr hLr => ?_
        have hMr : B.Loc w wr [] [St w []] := hLr.pick (rest := []) (perm_of_idx [] [] rfl rfl (by kernel_rfl)) (sels [1] rfl)
        have hMi : ∀ e ∈ ([] : List Ent), e ∈ ([] : List Ent) := sels [] rfl
        show trellislaw26_whole_R w F  r (.returned (packV [.bool false])) wr
        rw [h]
        exact ⟨rfl, hMr⟩
    · have h := if_neg' hp30 h
      refine g_false (c := trellislaw26_whole_c12) rfl _ rfl ((decide_eq_false hp30)) ?_
      refine g_exit (c := trellislaw26_whole_c14) [.code trellislaw26_whole_c4] rfl rfl ?_
      refine g_seq (c := trellislaw26_whole_c4) rfl ?_
      refine g_region (c := trellislaw26_whole_c24) rfl rfl ?_
      refine wl_v 0 rfl (v_move rfl) gn rfl ?_
      refine wl_v 1 rfl (v_move rfl) gn rfl ?_
      refine wl_v 2 rfl (v_lenQ un_22 rfl h10.hq) gn rfl ?_
      obtain ⟨hb34, h⟩ := h
      have h35 := Rw.cutHi (hv := (x6.length : Int)) h5 (by have q := hb34; have q1 := h5.hq; have q2 := h5.hn; omega)
      refine wl_v 3 rfl (v_cutHi (i := (x6.length : Int)) slE_22 rfl rfl (by have q := hb34; have q1 := h5.hq; have q2 := h5.hn; omega) h5.hn rfl) gn rfl ?_
      refine wl_v 4 rfl (v_move rfl) gn rfl ?_
      obtain ⟨r39, hv40, h⟩ := h
      refine wl_s 5 rfl (s_call [.slice A2 (((x6.length : Int) : Int).toNat) c4, .slice A7 n8 c9] rfl Tryd.func10 rfl rfl rfl fun w36 hL37 => ?_) gn
      have hp38 : List.Perm ([] : List Ent) (([] : List Ent) ++ ([] : List Ent)) := perm_of_idx [] [] rfl rfl (by kernel_rfl)
      refine Calls.mono (trellislaw26_sameBytes_calls w36 (Fl ([] : List Snap)) (x1.take ((x6.length : Int) : Int).toNat) x6 A2 (((x6.length : Int) : Int).toNat) c4 A7 n8 c9 (Rw.mono h35 (hL37.toSt hp38 (me 1 rfl))) (Rw.mono h10 (hL37.toSt hp38 (me 1 rfl))) (hL37.hFl (Sl := ([] : List Snap)) hp38 (sels [] rfl)) (hL37.into hp38 (Fl ([] : List Snap))) r39 hv40) ?_
      rintro _ w41 ⟨rfl, hM42⟩
      have hL43 := hL37.call hp38 hM42
      refine ⟨_, _, _, rfl, hL43, ?_⟩
      refine wl_v 6 rfl (v_assign rfl) gn rfl ?_
      refine w_end 7 rfl ?_
      have h := Out.inr hO1 h
      refine g_retR (c := trellislaw26_whole_c25) [.bool r39] rfl Tryd.func14 rfl (.tmp rfl (.nil)) fun wr hLr => ?_
      have hMr : B.Loc w wr [] [St w []] := hLr.pick (rest := []) (perm_of_idx [] [] rfl rfl (by kernel_rfl)) (sels [1] rfl)
      have hMi : ∀ e ∈ ([] : List Ent), e ∈ ([] : List Ent) := sels [] rfl
      show trellislaw26_whole_R w F  r (.returned (packV [.bool r39])) wr
      rw [h]
      exact ⟨rfl, hMr⟩
  exact g_go [0, 1] (key1 _ h ()) ⟨rfl, rfl, rfl, trivial⟩ (.slnil) rfl
end Go.Proofs.YtbejkaeidnajkaaDoor.K
