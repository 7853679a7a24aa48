/- What the machine's calls do, function by function, printed by my own tool. Condition of each: its relation holds of the answer, and what is handed in lies in memory as told. -/
import Derived.Test.YtbejkaeidnajkaaK1
set_option linter.unusedVariables false
set_option maxRecDepth 100000
set_option maxHeartbeats 4000000
namespace Go.Proofs.Ytbejkaeidnajkaa.K
open Go.Proofs.Ytbejkaeidnajkaa.B Go.Proofs.Ytbejkaeidnajkaa.R Go.RowKit
noncomputable abbrev q16c0 : Code := bodyOf Try.f16
noncomputable abbrev q16c1 : Code := Code.fst q16c0
noncomputable abbrev q16c2 : Code := Code.snd q16c0
noncomputable abbrev q16c3 : Code := Code.fst q16c2
noncomputable abbrev q16c4 : Code := Code.snd q16c2
noncomputable abbrev q16c5 : Code := Code.fst q16c4
noncomputable abbrev q16c6 : Code := Code.snd q16c4
noncomputable abbrev q16c7 : Code := Code.fst q16c6
noncomputable abbrev q16c8 : Code := Code.snd q16c6
noncomputable abbrev q16c9 : Code := Code.fst q16c8
noncomputable abbrev q16c10 : Code := Code.snd q16c8
noncomputable abbrev q16c11 : Code := Code.fst q16c9
noncomputable abbrev q16c12 : Code := Code.snd q16c9
noncomputable abbrev q16c13 : Code := Code.fst q16c12
noncomputable abbrev q16c14 : Code := Code.fst q16c13
noncomputable abbrev q16c15 : Code := Code.fst q16c14
noncomputable abbrev q16c16 : Code := Code.snd q16c14
noncomputable abbrev q16c17 : Code := Code.fst q16c15
noncomputable abbrev q16c18 : Code := Code.snd q16c15
noncomputable abbrev q16c19 : Code := Code.fst q16c18
noncomputable abbrev q16c20 : Code := Code.snd q16c18
noncomputable abbrev q16c21 : Code := Code.fst q16c16
noncomputable abbrev q16c22 : Code := Code.snd q16c16
noncomputable abbrev q16c23 : Code := Code.fst q16c21
noncomputable abbrev q16c24 : Code := Code.fst q16c23
noncomputable abbrev q16c25 : Code := Code.snd q16c23
noncomputable abbrev q16c26 : Code := Code.fst q16c25
noncomputable abbrev q16c27 : Code := Code.snd q16c25
noncomputable abbrev q16c28 : Code := Code.fst q16c26
noncomputable abbrev q16c29 : Code := Code.fst q16c28
noncomputable abbrev q16c30 : Code := Code.snd q16c28
noncomputable abbrev q16c31 : Code := Code.fst q16c30
noncomputable abbrev q16c32 : Code := Code.snd q16c30
noncomputable abbrev q16c33 : Code := Code.fst q16c31
noncomputable abbrev q16c34 : Code := Code.snd q16c31
noncomputable abbrev q16c35 : Code := Code.fst q16c34
noncomputable abbrev q16c36 : Code := Code.snd q16c34
noncomputable abbrev q16c37 : Code := Code.fst q16c27
noncomputable abbrev q16c38 : Code := Code.snd q16c27
noncomputable abbrev q16c39 : Code := Code.fst q16c38
noncomputable abbrev q16c40 : Code := Code.snd q16c38
noncomputable abbrev q16c41 : Code := Code.fst q16c35
noncomputable abbrev q16c42 : Code := Code.snd q16c35
noncomputable abbrev q16c43 : Code := Code.fst q16c10
noncomputable abbrev q16c44 : Code := Code.snd q16c10
noncomputable abbrev q16c45 : Code := Code.fst q16c32
noncomputable abbrev q16c46 : Code := Code.snd q16c32
noncomputable abbrev q16c47 : Code := Code.fst q16c46
noncomputable abbrev q16c48 : Code := Code.snd q16c46
noncomputable abbrev q16c49 : Code := Code.fst q16c47
noncomputable abbrev q16c50 : Code := Code.snd q16c47
noncomputable abbrev q16c51 : Code := Code.fst q16c49
noncomputable abbrev q16c52 : Code := Code.snd q16c49
noncomputable abbrev q16c53 : Code := Code.fst q16c52
noncomputable abbrev q16c54 : Code := Code.snd q16c52
noncomputable abbrev q16c55 : Code := Code.fst q16c50
noncomputable abbrev q16c56 : Code := Code.snd q16c50
noncomputable abbrev q16c57 : Code := Code.fst q16c56
noncomputable abbrev q16c58 : Code := Code.snd q16c56
noncomputable abbrev q16c59 : Code := Code.fst q16c58
noncomputable abbrev q16c60 : Code := Code.snd q16c58
noncomputable abbrev q16c61 : Code := Code.fst q16c60
noncomputable abbrev q16c62 : Code := Code.snd q16c60
noncomputable abbrev q16c63 : Code := Code.fst q16c61
noncomputable abbrev q16c64 : Code := Code.snd q16c61
noncomputable abbrev q16c65 : Code := Code.fst q16c48
noncomputable abbrev q16c66 : Code := Code.snd q16c48
noncomputable abbrev q16c67 : Code := Code.fst q16c65
noncomputable abbrev q16c68 : Code := Code.snd q16c65
noncomputable abbrev q16c69 : Code := Code.fst q16c68
noncomputable abbrev q16c70 : Code := Code.snd q16c68
noncomputable abbrev q16c71 : Code := Code.fst q16c69
noncomputable abbrev q16c72 : Code := Code.snd q16c69
noncomputable abbrev q16c73 : Code := Code.fst q16c53
noncomputable abbrev q16c74 : Code := Code.snd q16c53
noncomputable abbrev q16c75 : Code := Code.fst q16c39
noncomputable abbrev q16c76 : Code := Code.snd q16c39
noncomputable abbrev q16c77 : Code := Code.fst q16c76
noncomputable abbrev q16c78 : Code := Code.snd q16c76
noncomputable abbrev q16c79 : Code := Code.fst q16c77
noncomputable abbrev q16c80 : Code := Code.snd q16c77
noncomputable abbrev q16c81 : Code := Code.fst q16c80
noncomputable abbrev q16c82 : Code := Code.snd q16c80
noncomputable abbrev q16c83 : Code := Code.fst q16c81
noncomputable abbrev q16c84 : Code := Code.snd q16c81
noncomputable abbrev q16c85 : Code := Code.fst q16c78
noncomputable abbrev q16c86 : Code := Code.snd q16c78
abbrev trellisref26_Take_R (w : World) (F : Nat → Prop) (r : ByteArray × Int × Int) : Ending → World → Prop := fun e w' => e = .returned (.tuple #[.string r.1, .int .i64 r.2.1, .int .i64 r.2.2]) ∧ B.Loc w w' [] [St w []]
noncomputable abbrev trellisref26_Take_C (w : World) (F : Nat → Prop) (r : ByteArray × Int × Int) : Cx := ⟨Try.prog, 16, Try.f16, 85, trellisref26_Take_R w F  r, w⟩
theorem trellisref26_Take_calls (w : World) (F : Nat → Prop) (x1 : List Int) (A2 : Option Addr) (n3 : Nat) (c4 : Nat) (h5 : Rw (kInt .u8) w (St w []).av A2 n3 c4 x1) (hF : ∀ b, F b → b < w.heap.size ∧ ∀ o ∈ ([] : List (List Nat)), b ∉ o) (hL0 : B.Loc w w [] [Sm w.heap.size F w [], St w []]) (r : ByteArray × Int × Int) (h : trellisref26_Take x1 r) : Calls Try.prog 16 #[.slice A2 n3 c4] w (trellisref26_Take_R w F  r) := by
 unfold trellisref26_Take at h
 refine calls_of_Loc (vs := [.slice A2 n3 c4]) 85 Try.func16 rfl Try.ntmps16 rfl hL0 ?_
 show G (trellisref26_Take_C w F r) _ _ _ _
 refine g_seq (c := q16c0) rfl ?_
 refine g_region (c := q16c1) rfl rfl ?_
 refine wl_v 0 rfl (v_assign rfl) gn rfl ?_
 refine wl_v 1 rfl (v_assign rfl) gn rfl ?_
 refine wl_v 2 rfl (v_assign rfl) gn rfl ?_
 refine w_end 3 rfl ?_
 refine g_seq (c := q16c2) rfl ?_
 refine g_region (c := q16c3) rfl rfl ?_
 refine wl_v 0 rfl (v_assign rfl) gn rfl ?_
 refine w_end 1 rfl ?_
 refine g_seq (c := q16c4) rfl ?_
 refine g_region (c := q16c5) rfl rfl ?_
 refine wl_v 0 rfl (v_assign rfl) gn rfl ?_
 refine w_end 1 rfl ?_
 refine g_seq (c := q16c6) rfl ?_
 refine g_region (c := q16c7) rfl rfl ?_
 refine wl_v 0 rfl (v_assign rfl) gn rfl ?_
 refine w_end 1 rfl ?_
 refine g_seq (c := q16c8) rfl ?_
 refine g_seq (c := q16c9) rfl ?_
 refine g_region (c := q16c11) rfl rfl ?_
 refine wl_v 0 rfl (v_assign rfl) gn rfl ?_
 refine w_end 1 rfl ?_
 refine g_block (c := q16c12) rfl ?_
 refine g_loop (c := q16c13) rfl ?_
 have key1 : ∀ s, Rounds (fun (s : Int × Int × Int × Int) o => trellisref26_Take_b1 x1 s.1 s.2.1 s.2.2.1 s.2.2.2 o) s r → (fun (s : Int × Int × Int × Int) => ∀ (_ : Unit), G (trellisref26_Take_C w F r) [.code q16c14, .inLoop q16c14, .inBlock 0, .code q16c10] [(0, .slice A2 n3 c4), (5, .int .i64 s.1), (6, .int .i64 s.2.1), (7, .int .i64 s.2.2.1), (8, .int .i64 s.2.2.2)] [] [Sm w.heap.size F w [], St w []]) s := by
  intro s hs
  refine Rounds.ind (mot := (fun (s : Int × Int × Int × Int) => ∀ (_ : Unit), G (trellisref26_Take_C w F r) [.code q16c14, .inLoop q16c14, .inBlock 0, .code q16c10] [(0, .slice A2 n3 c4), (5, .int .i64 s.1), (6, .int .i64 s.2.1), (7, .int .i64 s.2.2.1), (8, .int .i64 s.2.2.2)] [] [Sm w.heap.size F w [], St w []])) ?_ hs
  clear hs s
  intro s o1 h hO1
  obtain ⟨x36, x37, x82, x12⟩ := s
  show ∀ (_ : Unit), G (trellisref26_Take_C w F r) [.code q16c14, .inLoop q16c14, .inBlock 0, .code q16c10] [(0, .slice A2 n3 c4), (5, .int .i64 x36), (6, .int .i64 x37), (7, .int .i64 x82), (8, .int .i64 x12)] [] [Sm w.heap.size F w [], St w []]
  intro _
  have h : trellisref26_Take_b1 x1 x36 x37 x82 x12 o1 := h
  unfold trellisref26_Take_b1 at h
  refine g_seq (c := q16c14) rfl ?_
  refine g_seq (c := q16c15) rfl ?_
  refine g_region (c := q16c17) rfl rfl ?_
  refine wl_v 0 rfl (v_move rfl) gn rfl ?_
  refine wl_v 1 rfl (v_move rfl) gn rfl ?_
  refine wl_v 2 rfl (v_lenQ un_27 rfl h5.hq) gn rfl ?_
  refine wl_v 3 rfl (v_bin rfl rfl rfl) gn rfl ?_
  refine w_end 4 rfl ?_
  by_cases hp131 : x12 < (x1.length : Int)
  ·have h := if_pos' hp131 h
   refine g_true (c := q16c18) rfl _ rfl ((decide_eq_true hp131)) ?_
   refine g_skip (c := q16c19) rfl ?_
   refine g_seq (c := q16c16) rfl ?_
   refine g_block (c := q16c21) rfl ?_
   refine g_seq (c := q16c23) rfl ?_
   refine g_region (c := q16c24) rfl rfl ?_
   refine wl_v 0 rfl (v_move rfl) gn rfl ?_
   refine wl_v 1 rfl (v_move rfl) gn rfl ?_
   obtain ⟨hb132, h⟩ := h
   have hr133 := Rw.readF (s := St w []) (hl := (hlI .u8)) (h1 := (hone_int .u8)) h5 hb132
   refine wl_v 2 rfl (v_idxR (s := St w []) slE_27 rfl rfl h5 hb132) gn rfl ?_
   refine wl_v 3 rfl (v_ldA1 (kk := (x12 : Int).toNat * 1) (j := 0) (St w []) ld_5 rfl hr133 rfl (me 1 rfl)) gn rfl ?_
   refine wl_v 4 rfl (v_assign rfl) gn rfl ?_
   refine w_end 5 rfl ?_
   refine g_seq (c := q16c25) rfl ?_
   refine g_block (c := q16c26) rfl ?_
   refine g_seq (c := q16c28) rfl ?_
   refine g_region (c := q16c29) rfl rfl ?_
   refine wl_v 0 rfl (v_move rfl) gn rfl ?_
   refine wl_v 1 rfl (v_bin rfl rfl rfl) gn rfl ?_
   refine wl_v 2 rfl (v_assign rfl) gn rfl ?_
   refine w_end 3 rfl ?_
   have j2 : ∀ (x154 : Int) (x155 : Int) (x156 : Int) (h : trellisref26_Take_j2 x1 x12 x154 x155 x156 o1) , G (trellisref26_Take_C w F r) [.inBlock 2, .code q16c27, .inBlock 1, .code q16c22, .inLoop q16c14, .inBlock 0, .code q16c10] [(0, .slice A2 n3 c4), (5, .int .i64 x154), (6, .int .i64 x155), (7, .int .i64 x156), (8, .int .i64 x12)] [] [Sm w.heap.size F w [], St w []] := by
    intro x154 x155 x156 h
    unfold trellisref26_Take_j2 at h
    refine g_inBlock ?_
    refine g_seq (c := q16c27) rfl ?_
    refine g_region (c := q16c37) rfl rfl ?_
    refine wl_v 0 rfl (v_move rfl) gn rfl ?_
    refine wl_v 1 rfl (v_bin rfl rfl rfl) gn rfl ?_
    refine w_end 2 rfl ?_
    by_cases hp157 : x156 = 4
    ·have h := if_pos' hp157 h
     refine g_true (c := q16c38) rfl _ rfl ((eqi hp157)) ?_
     refine g_seq (c := q16c39) rfl ?_
     refine g_region (c := q16c75) rfl rfl ?_
     refine wl_v 0 rfl (v_move rfl) gn rfl ?_
     refine wl_v 1 rfl (v_bin rfl rfl rfl) gn rfl ?_
     refine wl_v 2 rfl (v_assign rfl) gn rfl ?_
     refine w_end 3 rfl ?_
     refine g_seq (c := q16c76) rfl ?_
     refine g_seq (c := q16c77) rfl ?_
     refine g_region (c := q16c79) rfl rfl ?_
     refine wl_v 0 rfl (v_move rfl) gn rfl ?_
     refine wl_v 1 rfl (v_lenQ un_27 rfl h5.hq) gn rfl ?_
     refine wl_v 2 rfl (v_move rfl) gn rfl ?_
     refine wl_v 3 rfl (v_bin rfl rfl rfl) gn rfl ?_
     refine wl_v 4 rfl (v_move rfl) gn rfl ?_
     refine wl_v 5 rfl (v_bin rfl rfl rfl) gn rfl ?_
     refine w_end 6 rfl ?_
     by_cases hp158 : w64 ((x1.length : Int) - (w64 (x12 + 1))) < x154
     ·have h := if_pos' hp158 h
      refine g_true (c := q16c80) rfl _ rfl ((decide_eq_true hp158)) ?_
      refine g_seq (c := q16c81) rfl ?_
      refine g_region (c := q16c83) rfl rfl ?_
      refine wl_v 0 rfl (v_assign rfl) gn rfl ?_
      refine wl_v 1 rfl (v_assign rfl) gn rfl ?_
      refine wl_v 2 rfl (v_assign rfl) gn rfl ?_
      refine w_end 3 rfl ?_
      have h := Out.inr hO1 h
      refine g_retR (c := q16c84) [.string (⟨#[]⟩ : ByteArray), .int .i64 0, .int .i64 260] rfl Try.func16 rfl (.tmp rfl (.tmp rfl (.tmp rfl (.nil)))) fun wr hLr => ?_
      have hMr : B.Loc w wr [] [St w []] := hLr.pick0 (sels [1] rfl)
      show trellisref26_Take_R w F  r (.returned (packV [.string (⟨#[]⟩ : ByteArray), .int .i64 0, .int .i64 260])) wr
      rw [h]
      exact ⟨rfl, hMr⟩
     ·have h := if_neg' hp158 h
      refine g_false (c := q16c80) rfl _ rfl ((decide_eq_false hp158)) ?_
      refine g_skip (c := q16c82) rfl ?_
      refine g_seq (c := q16c78) rfl ?_
      refine g_region (c := q16c85) rfl rfl ?_
      refine wl_v 0 rfl (v_move rfl) gn rfl ?_
      refine wl_v 1 rfl (v_move rfl) gn rfl ?_
      refine wl_v 2 rfl (v_move rfl) gn rfl ?_
      refine wl_v 3 rfl (v_move rfl) gn rfl ?_
      refine wl_v 4 rfl (v_bin rfl rfl rfl) gn rfl ?_
      obtain ⟨hb159, h⟩ := h
      have h160 := Rw.cut (sz := 1) (lv := w64 (x12 + 1)) (hv := w64 ((w64 (x12 + 1)) + x154)) (mv := ((c4 : Nat) : Int)) h5 rfl (by have q := hb159; have q1 := h5.hq; have q2 := h5.hn; omega) (by have q := hb159; have q1 := h5.hq; have q2 := h5.hn; omega) (by have q := hb159; have q1 := h5.hq; have q2 := h5.hn; omega)
      refine wl_v 5 rfl (v_cut (sz := 1) (n := n3) (c := c4) (w64 (x12 + 1)) (w64 ((w64 (x12 + 1)) + x154)) ((c4 : Nat) : Int) slE_27 rfl (by_ rfl) (by_ rfl) bn (by have q := hb159; have q1 := h5.hq; have q2 := h5.hn; omega) (by have q := hb159; have q1 := h5.hq; have q2 := h5.hn; omega) (by have q := hb159; have q1 := h5.hq; have q2 := h5.hn; omega) h5.hn rfl) gn rfl ?_
      refine wl_v 6 rfl (v_b2s u8_27 un_9 rfl (Src.readF (s := St w []) (hl := (hlI .u8)) (h1 := (hone_int .u8)) h160 (me 1 rfl)) h160.hq) gn rfl ?_
      refine wl_v 7 rfl (v_move rfl) gn rfl ?_
      refine wl_v 8 rfl (v_move rfl) gn rfl ?_
      refine wl_v 9 rfl (v_bin rfl rfl rfl) gn rfl ?_
      refine wl_v 10 rfl (v_assign rfl) gn rfl ?_
      refine wl_v 11 rfl (v_assign rfl) gn rfl ?_
      refine wl_v 12 rfl (v_assign rfl) gn rfl ?_
      refine w_end 13 rfl ?_
      have h := Out.inr hO1 h
      refine g_retR (c := q16c86) [.string (ofBs ((x1.take (w64 ((w64 (x12 + 1)) + x154) : Int).toNat).drop (w64 (x12 + 1) : Int).toNat)), .int .i64 (w64 ((w64 (x12 + 1)) + x154)), .int .i64 0] rfl Try.func16 rfl (.tmp rfl (.tmp rfl (.tmp rfl (.nil)))) fun wr hLr => ?_
      have hMr : B.Loc w wr [] [St w []] := hLr.pick0 (sels [1] rfl)
      show trellisref26_Take_R w F  r (.returned (packV [.string (ofBs ((x1.take (w64 ((w64 (x12 + 1)) + x154) : Int).toNat).drop (w64 (x12 + 1) : Int).toNat)), .int .i64 (w64 ((w64 (x12 + 1)) + x154)), .int .i64 0])) wr
      rw [h]
      exact ⟨rfl, hMr⟩
    ·have h := if_neg' hp157 h
     refine g_false (c := q16c38) rfl _ rfl ((nei hp157)) ?_
     refine g_skip (c := q16c40) rfl ?_
     refine g_inBlock ?_
     refine g_region (c := q16c22) rfl rfl ?_
     refine wl_v 0 rfl (v_move rfl) gn rfl ?_
     refine wl_v 1 rfl (v_bin rfl rfl rfl) gn rfl ?_
     refine wl_v 2 rfl (v_assign rfl) gn rfl ?_
     refine w_end 3 rfl ?_
     refine g_inLoop ?_
     have ih := Out.inl hO1 h
     exact g_go [0, 1] (ih ()) ⟨rfl, rfl, rfl, rfl, rfl, trivial⟩ (.slnil) rfl
   by_cases hp134 : x12 < 16
   ·have h := if_pos' hp134 h
    refine g_true (c := q16c30) rfl _ rfl ((decide_eq_true hp134)) ?_
    refine g_seq (c := q16c31) rfl ?_
    refine g_region (c := q16c33) rfl rfl ?_
    refine wl_v 0 rfl (v_move rfl) gn rfl ?_
    refine wl_v 1 rfl (v_move rfl) gn rfl ?_
    obtain ⟨hb161, h⟩ := h
    refine wl_v 2 rfl (v_indexS un_9 rfl rfl hb161) gn rfl ?_
    refine wl_v 3 rfl (v_bin rfl rfl rfl) gn rfl ?_
    refine w_end 4 rfl ?_
    by_cases hp162 : ix x1 x12 = bt (⟨#[67, 111, 110, 116, 101, 110, 116, 45, 76, 101, 110, 103, 116, 104, 58, 32]⟩ : ByteArray) x12
    ·have h := if_pos' hp162 h
     refine g_false (c := q16c34) rfl _ rfl ((eqib hp162)) ?_
     refine g_skip (c := q16c36) rfl ?_
     exact g_go [0, 1] (j2 x36 x37 x82 h) ⟨rfl, rfl, rfl, rfl, rfl, trivial⟩ (.slnil) rfl
    ·have h := if_neg' hp162 h
     refine g_true (c := q16c34) rfl _ rfl ((neib hp162)) ?_
     refine g_seq (c := q16c35) rfl ?_
     refine g_region (c := q16c41) rfl rfl ?_
     refine wl_v 0 rfl (v_assign rfl) gn rfl ?_
     refine wl_v 1 rfl (v_assign rfl) gn rfl ?_
     refine wl_v 2 rfl (v_assign rfl) gn rfl ?_
     refine w_end 3 rfl ?_
     have h := Out.inr hO1 h
     refine g_retR (c := q16c42) [.string (⟨#[]⟩ : ByteArray), .int .i64 0, .int .i64 261] rfl Try.func16 rfl (.tmp rfl (.tmp rfl (.tmp rfl (.nil)))) fun wr hLr => ?_
     have hMr : B.Loc w wr [] [St w []] := hLr.pick0 (sels [1] rfl)
     show trellisref26_Take_R w F  r (.returned (packV [.string (⟨#[]⟩ : ByteArray), .int .i64 0, .int .i64 261])) wr
     rw [h]
     exact ⟨rfl, hMr⟩
   ·have h := if_neg' hp134 h
    refine g_false (c := q16c30) rfl _ rfl ((decide_eq_false hp134)) ?_
    refine g_seq (c := q16c32) rfl ?_
    have j3 : ∀ (x166 : Bool) (h : trellisref26_Take_j3 x37 x36 x1 x12 x82 x166 o1) , G (trellisref26_Take_C w F r) [.code q16c46, .inBlock 2, .code q16c27, .inBlock 1, .code q16c22, .inLoop q16c14, .inBlock 0, .code q16c10] [(0, .slice A2 n3 c4), (5, .int .i64 x36), (6, .int .i64 x37), (7, .int .i64 x82), (8, .int .i64 x12), (9, .int .u8 (ix x1 x12)), (38, .bool x166)] [] [Sm w.heap.size F w [], St w []] := by
     intro x166 h
     unfold trellisref26_Take_j3 at h
     by_cases hp167 : x166 = true
     ·have h := if_pos' hp167 h
      refine g_true (c := q16c46) rfl _ rfl (hp167) ?_
      refine g_seq (c := q16c47) rfl ?_
      refine g_seq (c := q16c49) rfl ?_
      have j4 : ∀ (x170 : Bool) (h : trellisref26_Take_j4 x36 x1 x12 x37 x82 x170 o1) , G (trellisref26_Take_C w F r) [.code q16c52, .code q16c50, .inBlock 2, .code q16c27, .inBlock 1, .code q16c22, .inLoop q16c14, .inBlock 0, .code q16c10] [(0, .slice A2 n3 c4), (5, .int .i64 x36), (6, .int .i64 x37), (7, .int .i64 x82), (8, .int .i64 x12), (9, .int .u8 (ix x1 x12)), (54, .bool x170)] [] [Sm w.heap.size F w [], St w []] := by
       intro x170 h
       unfold trellisref26_Take_j4 at h
       by_cases hp171 : x170 = true
       ·have h := if_pos' hp171 h
        refine g_true (c := q16c52) rfl _ rfl (hp171) ?_
        refine g_seq (c := q16c53) rfl ?_
        refine g_region (c := q16c73) rfl rfl ?_
        refine wl_v 0 rfl (v_assign rfl) gn rfl ?_
        refine wl_v 1 rfl (v_assign rfl) gn rfl ?_
        refine wl_v 2 rfl (v_assign rfl) gn rfl ?_
        refine w_end 3 rfl ?_
        have h := Out.inr hO1 h
        refine g_retR (c := q16c74) [.string (⟨#[]⟩ : ByteArray), .int .i64 0, .int .i64 261] rfl Try.func16 rfl (.tmp rfl (.tmp rfl (.tmp rfl (.nil)))) fun wr hLr => ?_
        have hMr : B.Loc w wr [] [St w []] := hLr.pick0 (sels [1] rfl)
        show trellisref26_Take_R w F  r (.returned (packV [.string (⟨#[]⟩ : ByteArray), .int .i64 0, .int .i64 261])) wr
        rw [h]
        exact ⟨rfl, hMr⟩
       ·have h := if_neg' hp171 h
        refine g_false (c := q16c52) rfl _ rfl ((bf hp171)) ?_
        refine g_skip (c := q16c54) rfl ?_
        refine g_seq (c := q16c50) rfl ?_
        refine g_region (c := q16c55) rfl rfl ?_
        refine wl_v 0 rfl (v_move rfl) gn rfl ?_
        refine wl_v 1 rfl (v_bin rfl rfl rfl) gn rfl ?_
        refine wl_v 2 rfl (v_move rfl) gn rfl ?_
        refine wl_v 3 rfl (v_bin rfl rfl rfl) gn rfl ?_
        refine wl_v 4 rfl (v_conv ⟨_, un_5⟩ un_3 rfl) gn rfl ?_
        refine wl_v 5 rfl (v_bin rfl rfl rfl) gn rfl ?_
        refine wl_v 6 rfl (v_assign rfl) gn rfl ?_
        refine w_end 7 rfl ?_
        refine g_seq (c := q16c56) rfl ?_
        refine g_region (c := q16c57) rfl rfl ?_
        refine wl_v 0 rfl (v_move rfl) gn rfl ?_
        refine wl_v 1 rfl (v_bin rfl rfl rfl) gn rfl ?_
        refine wl_v 2 rfl (v_assign rfl) gn rfl ?_
        refine w_end 3 rfl ?_
        refine g_seq (c := q16c58) rfl ?_
        refine g_region (c := q16c59) rfl rfl ?_
        refine wl_v 0 rfl (v_move rfl) gn rfl ?_
        refine wl_v 1 rfl (v_bin rfl rfl rfl) gn rfl ?_
        refine w_end 2 rfl ?_
        by_cases hp172 : w64 ((w64 (10 * x36)) + (w64 (IntKind.u8.wrap ((ix x1 x12) - 48)))) > 2097152
        ·have h := if_pos' hp172 h
         refine g_true (c := q16c60) rfl _ rfl ((decide_eq_true hp172)) ?_
         refine g_seq (c := q16c61) rfl ?_
         refine g_region (c := q16c63) rfl rfl ?_
         refine wl_v 0 rfl (v_assign rfl) gn rfl ?_
         refine wl_v 1 rfl (v_assign rfl) gn rfl ?_
         refine wl_v 2 rfl (v_assign rfl) gn rfl ?_
         refine w_end 3 rfl ?_
         have h := Out.inr hO1 h
         refine g_retR (c := q16c64) [.string (⟨#[]⟩ : ByteArray), .int .i64 0, .int .i64 262] rfl Try.func16 rfl (.tmp rfl (.tmp rfl (.tmp rfl (.nil)))) fun wr hLr => ?_
         have hMr : B.Loc w wr [] [St w []] := hLr.pick0 (sels [1] rfl)
         show trellisref26_Take_R w F  r (.returned (packV [.string (⟨#[]⟩ : ByteArray), .int .i64 0, .int .i64 262])) wr
         rw [h]
         exact ⟨rfl, hMr⟩
        ·have h := if_neg' hp172 h
         refine g_false (c := q16c60) rfl _ rfl ((decide_eq_false hp172)) ?_
         refine g_skip (c := q16c62) rfl ?_
         exact g_go [0, 1] (j2 (w64 ((w64 (10 * x36)) + (w64 (IntKind.u8.wrap ((ix x1 x12) - 48))))) (w64 (x37 + 1)) x82 h) ⟨rfl, rfl, rfl, rfl, rfl, trivial⟩ (.slnil) rfl
      refine g_region (c := q16c51) rfl rfl ?_
      refine wl_v 0 rfl (v_move rfl) gn rfl ?_
      refine wl_v 1 rfl (v_bin rfl rfl rfl) gn rfl ?_
      refine wl_v 2 rfl (v_move rfl) gn rfl ?_
      by_cases hp173 : x37 > 0
      ·have h := if_pos' hp173 h
       refine w_bool 51 rfl ((decide_eq_true hp173)) ?_
       refine wl_v 3 rfl (v_move rfl) (gy 51 rfl rfl) rfl ?_
       refine wl_v 4 rfl (v_bin rfl rfl rfl) (gy 51 rfl rfl) rfl ?_
       refine wl_v 5 rfl (v_pick (b := true) rfl rfl) gn rfl ?_
       refine w_end 6 rfl ?_
       exact g_go [0, 1] (j4 (x36 == 0) h) ⟨rfl, rfl, rfl, rfl, rfl, rfl, rfl, trivial⟩ (.slnil) rfl
      ·have h := if_neg' hp173 h
       refine w_bool 51 rfl ((decide_eq_false hp173)) ?_
       refine wl_pass 3 rfl (ps 51 rfl rfl rfl) ?_
       refine wl_pass 4 rfl (ps 51 rfl rfl rfl) ?_
       refine wl_v 5 rfl (v_pick (b := false) rfl rfl) gn rfl ?_
       refine w_end 6 rfl ?_
       exact g_go [0, 1] (j4 false h) ⟨rfl, rfl, rfl, rfl, rfl, rfl, rfl, trivial⟩ (.slnil) rfl
     ·have h := if_neg' hp167 h
      refine g_false (c := q16c46) rfl _ rfl ((bf hp167)) ?_
      refine g_seq (c := q16c48) rfl ?_
      refine g_seq (c := q16c65) rfl ?_
      refine g_region (c := q16c67) rfl rfl ?_
      refine wl_v 0 rfl (v_move rfl) gn rfl ?_
      refine wl_v 1 rfl (v_bin rfl rfl rfl) gn rfl ?_
      refine wl_v 2 rfl (v_move rfl) gn rfl ?_
      by_cases hp174 : x37 = 0
      ·have h := if_pos' hp174 h
       refine w_bool 23 rfl ((eqi hp174)) ?_
       refine wl_pass 3 rfl (ps 23 rfl rfl rfl) ?_
       refine wl_pass 4 rfl (ps 23 rfl rfl rfl) ?_
       refine wl_pass 5 rfl (ps 23 rfl rfl rfl) ?_
       refine wl_pass 6 rfl (ps 23 rfl rfl rfl) ?_
       refine wl_v 7 rfl (v_pick (b := true) rfl rfl) gn rfl ?_
       refine w_end 8 rfl ?_
       refine g_true (c := q16c68) rfl _ rfl (rfl) ?_
       refine g_seq (c := q16c69) rfl ?_
       refine g_region (c := q16c71) rfl rfl ?_
       refine wl_v 0 rfl (v_assign rfl) gn rfl ?_
       refine wl_v 1 rfl (v_assign rfl) gn rfl ?_
       refine wl_v 2 rfl (v_assign rfl) gn rfl ?_
       refine w_end 3 rfl ?_
       have h := Out.inr hO1 h
       refine g_retR (c := q16c72) [.string (⟨#[]⟩ : ByteArray), .int .i64 0, .int .i64 261] rfl Try.func16 rfl (.tmp rfl (.tmp rfl (.tmp rfl (.nil)))) fun wr hLr => ?_
       have hMr : B.Loc w wr [] [St w []] := hLr.pick0 (sels [1] rfl)
       show trellisref26_Take_R w F  r (.returned (packV [.string (⟨#[]⟩ : ByteArray), .int .i64 0, .int .i64 261])) wr
       rw [h]
       exact ⟨rfl, hMr⟩
      ·have h := if_neg' hp174 h
       refine w_bool 23 rfl ((nei hp174)) ?_
       refine wl_v 3 rfl (v_move rfl) (gy 23 rfl rfl) rfl ?_
       refine wl_v 4 rfl (v_move rfl) (gy 23 rfl rfl) rfl ?_
       obtain ⟨hb175, h⟩ := h
       refine wl_v 5 rfl (v_indexS un_9 rfl rfl hb175) (gy 23 rfl rfl) rfl ?_
       refine wl_v 6 rfl (v_bin rfl rfl rfl) (gy 23 rfl rfl) rfl ?_
       refine wl_v 7 rfl (v_pick (b := false) rfl rfl) gn rfl ?_
       refine w_end 8 rfl ?_
       by_cases hp176 : ix x1 x12 = bt (⟨#[13, 10, 13, 10]⟩ : ByteArray) x82
       ·have h := if_pos' hp176 h
        refine g_false (c := q16c68) rfl _ rfl ((eqib hp176)) ?_
        refine g_skip (c := q16c70) rfl ?_
        refine g_region (c := q16c66) rfl rfl ?_
        refine wl_v 0 rfl (v_move rfl) gn rfl ?_
        refine wl_v 1 rfl (v_bin rfl rfl rfl) gn rfl ?_
        refine wl_v 2 rfl (v_assign rfl) gn rfl ?_
        refine w_end 3 rfl ?_
        exact g_go [0, 1] (j2 x36 x37 (w64 (x82 + 1)) h) ⟨rfl, rfl, rfl, rfl, rfl, trivial⟩ (.slnil) rfl
       ·have h := if_neg' hp176 h
        refine g_true (c := q16c68) rfl _ rfl ((neib hp176)) ?_
        refine g_seq (c := q16c69) rfl ?_
        refine g_region (c := q16c71) rfl rfl ?_
        refine wl_v 0 rfl (v_assign rfl) gn rfl ?_
        refine wl_v 1 rfl (v_assign rfl) gn rfl ?_
        refine wl_v 2 rfl (v_assign rfl) gn rfl ?_
        refine w_end 3 rfl ?_
        have h := Out.inr hO1 h
        refine g_retR (c := q16c72) [.string (⟨#[]⟩ : ByteArray), .int .i64 0, .int .i64 261] rfl Try.func16 rfl (.tmp rfl (.tmp rfl (.tmp rfl (.nil)))) fun wr hLr => ?_
        have hMr : B.Loc w wr [] [St w []] := hLr.pick0 (sels [1] rfl)
        show trellisref26_Take_R w F  r (.returned (packV [.string (⟨#[]⟩ : ByteArray), .int .i64 0, .int .i64 261])) wr
        rw [h]
        exact ⟨rfl, hMr⟩
    refine g_region (c := q16c45) rfl rfl ?_
    refine wl_v 0 rfl (v_move rfl) gn rfl ?_
    refine wl_v 1 rfl (v_bin rfl rfl rfl) gn rfl ?_
    refine wl_v 2 rfl (v_move rfl) gn rfl ?_
    by_cases hp177 : x82 = 0
    ·have h := if_pos' hp177 h
     refine w_bool 41 rfl ((eqi hp177)) ?_
     refine wl_v 3 rfl (v_move rfl) (gy 41 rfl rfl) rfl ?_
     refine wl_v 4 rfl (v_bin rfl rfl rfl) (gy 41 rfl rfl) rfl ?_
     refine wl_v 5 rfl (v_pick (b := true) rfl rfl) gn rfl ?_
     refine wl_v 6 rfl (v_move rfl) gn rfl ?_
     by_cases hp178 : ix x1 x12 ≥ 48
     ·have h := if_pos' hp178 h
      refine w_bool 45 rfl ((decide_eq_true hp178)) ?_
      refine wl_v 7 rfl (v_move rfl) (gy 45 rfl rfl) rfl ?_
      refine wl_v 8 rfl (v_bin rfl rfl rfl) (gy 45 rfl rfl) rfl ?_
      refine wl_v 9 rfl (v_pick (b := true) rfl rfl) gn rfl ?_
      refine wl_v 10 rfl (v_assign rfl) gn rfl ?_
      refine w_end 11 rfl ?_
      exact g_go [0, 1] (j3 (decide (ix x1 x12 ≤ 57)) h) ⟨rfl, rfl, rfl, rfl, rfl, rfl, rfl, trivial⟩ (.slnil) rfl
     ·have h := if_neg' hp178 h
      refine w_bool 45 rfl ((decide_eq_false hp178)) ?_
      refine wl_pass 7 rfl (ps 45 rfl rfl rfl) ?_
      refine wl_pass 8 rfl (ps 45 rfl rfl rfl) ?_
      refine wl_v 9 rfl (v_pick (b := false) rfl rfl) gn rfl ?_
      refine wl_v 10 rfl (v_assign rfl) gn rfl ?_
      refine w_end 11 rfl ?_
      exact g_go [0, 1] (j3 false h) ⟨rfl, rfl, rfl, rfl, rfl, rfl, rfl, trivial⟩ (.slnil) rfl
    ·have h := if_neg' hp177 h
     refine w_bool 41 rfl ((nei hp177)) ?_
     refine wl_pass 3 rfl (ps 41 rfl rfl rfl) ?_
     refine wl_pass 4 rfl (ps 41 rfl rfl rfl) ?_
     refine wl_v 5 rfl (v_pick (b := false) rfl rfl) gn rfl ?_
     refine wl_v 6 rfl (v_move rfl) gn rfl ?_
     refine wl_pass 7 rfl (ps 45 rfl rfl rfl) ?_
     refine wl_pass 8 rfl (ps 45 rfl rfl rfl) ?_
     refine wl_v 9 rfl (v_pick (b := false) rfl rfl) gn rfl ?_
     refine wl_v 10 rfl (v_assign rfl) gn rfl ?_
     refine w_end 11 rfl ?_
     exact g_go [0, 1] (j3 false h) ⟨rfl, rfl, rfl, rfl, rfl, rfl, rfl, trivial⟩ (.slnil) rfl
  ·have h := if_neg' hp131 h
   refine g_false (c := q16c18) rfl _ rfl ((decide_eq_false hp131)) ?_
   refine g_exit (c := q16c20) [.code q16c10] rfl rfl ?_
   refine g_seq (c := q16c10) rfl ?_
   refine g_region (c := q16c43) rfl rfl ?_
   refine wl_v 0 rfl (v_assign rfl) gn rfl ?_
   refine wl_v 1 rfl (v_assign rfl) gn rfl ?_
   refine wl_v 2 rfl (v_assign rfl) gn rfl ?_
   refine w_end 3 rfl ?_
   have h := Out.inr hO1 h
   refine g_retR (c := q16c44) [.string (⟨#[]⟩ : ByteArray), .int .i64 0, .int .i64 260] rfl Try.func16 rfl (.tmp rfl (.tmp rfl (.tmp rfl (.nil)))) fun wr hLr => ?_
   have hMr : B.Loc w wr [] [St w []] := hLr.pick0 (sels [1] rfl)
   show trellisref26_Take_R w F  r (.returned (packV [.string (⟨#[]⟩ : ByteArray), .int .i64 0, .int .i64 260])) wr
   rw [h]
   exact ⟨rfl, hMr⟩
 exact g_go [0, 1] (key1 _ h ()) ⟨rfl, rfl, rfl, rfl, rfl, trivial⟩ (.slnil) rfl
noncomputable abbrev q10c0 : Code := bodyOf Try.f10
noncomputable abbrev q10c1 : Code := Code.fst q10c0
noncomputable abbrev q10c2 : Code := Code.snd q10c0
noncomputable abbrev q10c3 : Code := Code.fst q10c2
noncomputable abbrev q10c4 : Code := Code.snd q10c2
noncomputable abbrev q10c5 : Code := Code.fst q10c3
noncomputable abbrev q10c6 : Code := Code.snd q10c3
noncomputable abbrev q10c7 : Code := Code.fst q10c6
noncomputable abbrev q10c8 : Code := Code.snd q10c6
noncomputable abbrev q10c9 : Code := Code.fst q10c4
noncomputable abbrev q10c10 : Code := Code.snd q10c4
noncomputable abbrev q10c11 : Code := Code.fst q10c10
noncomputable abbrev q10c12 : Code := Code.snd q10c10
noncomputable abbrev q10c13 : Code := Code.fst q10c11
noncomputable abbrev q10c14 : Code := Code.snd q10c11
noncomputable abbrev q10c15 : Code := Code.fst q10c14
noncomputable abbrev q10c16 : Code := Code.fst q10c15
noncomputable abbrev q10c17 : Code := Code.fst q10c16
noncomputable abbrev q10c18 : Code := Code.snd q10c16
noncomputable abbrev q10c19 : Code := Code.fst q10c17
noncomputable abbrev q10c20 : Code := Code.snd q10c17
noncomputable abbrev q10c21 : Code := Code.fst q10c20
noncomputable abbrev q10c22 : Code := Code.snd q10c20
noncomputable abbrev q10c23 : Code := Code.fst q10c18
noncomputable abbrev q10c24 : Code := Code.snd q10c18
noncomputable abbrev q10c25 : Code := Code.fst q10c23
noncomputable abbrev q10c26 : Code := Code.fst q10c12
noncomputable abbrev q10c27 : Code := Code.snd q10c12
noncomputable abbrev q10c28 : Code := Code.fst q10c26
noncomputable abbrev q10c29 : Code := Code.snd q10c26
noncomputable abbrev q10c30 : Code := Code.fst q10c29
noncomputable abbrev q10c31 : Code := Code.fst q10c30
noncomputable abbrev q10c32 : Code := Code.fst q10c31
noncomputable abbrev q10c33 : Code := Code.snd q10c31
noncomputable abbrev q10c34 : Code := Code.fst q10c32
noncomputable abbrev q10c35 : Code := Code.snd q10c32
noncomputable abbrev q10c36 : Code := Code.fst q10c35
noncomputable abbrev q10c37 : Code := Code.snd q10c35
noncomputable abbrev q10c38 : Code := Code.fst q10c33
noncomputable abbrev q10c39 : Code := Code.snd q10c33
noncomputable abbrev q10c40 : Code := Code.fst q10c38
noncomputable abbrev q10c41 : Code := Code.fst q10c27
noncomputable abbrev q10c42 : Code := Code.snd q10c27
noncomputable abbrev q10c43 : Code := Code.fst q10c42
noncomputable abbrev q10c44 : Code := Code.snd q10c42
noncomputable abbrev q10c45 : Code := Code.fst q10c44
noncomputable abbrev q10c46 : Code := Code.fst q10c45
noncomputable abbrev q10c47 : Code := Code.fst q10c46
noncomputable abbrev q10c48 : Code := Code.fst q10c47
noncomputable abbrev q10c49 : Code := Code.snd q10c47
noncomputable abbrev q10c50 : Code := Code.fst q10c49
noncomputable abbrev q10c51 : Code := Code.snd q10c49
noncomputable abbrev q10c52 : Code := Code.fst q10c50
noncomputable abbrev q10c53 : Code := Code.snd q10c50
noncomputable abbrev q10c54 : Code := Code.fst q10c53
noncomputable abbrev q10c55 : Code := Code.snd q10c53
noncomputable abbrev q10c56 : Code := Code.fst q10c54
noncomputable abbrev q10c57 : Code := Code.snd q10c54
noncomputable abbrev q10c58 : Code := Code.fst q10c57
noncomputable abbrev q10c59 : Code := Code.snd q10c57
noncomputable abbrev q10c60 : Code := Code.fst q10c51
noncomputable abbrev q10c61 : Code := Code.snd q10c51
noncomputable abbrev q10c62 : Code := Code.fst q10c60
noncomputable abbrev q10c63 : Code := Code.snd q10c60
noncomputable abbrev q10c64 : Code := Code.fst q10c63
noncomputable abbrev q10c65 : Code := Code.snd q10c63
noncomputable abbrev q10c66 : Code := Code.fst q10c61
noncomputable abbrev q10c67 : Code := Code.snd q10c61
noncomputable abbrev q10c68 : Code := Code.fst q10c64
noncomputable abbrev q10c69 : Code := Code.snd q10c64
noncomputable abbrev q10c70 : Code := Code.fst q10c69
noncomputable abbrev q10c71 : Code := Code.snd q10c69
noncomputable abbrev q10c72 : Code := Code.fst q10c71
noncomputable abbrev q10c73 : Code := Code.snd q10c71
noncomputable abbrev q10c74 : Code := Code.fst q10c7
noncomputable abbrev q10c75 : Code := Code.snd q10c7
abbrev trellisref26_Model_Feed_R (w : World) (F : Nat → Prop) (g2 : Nat) (Tb3 : Nat) (r : (List ByteArray) × Int × trellisref26_Model) : Ending → World → Prop := fun e w' => ∃ A0 : Option Addr, ∃ n0 : Nat, ∃ c0 : Nat, ∃ A1 : Option Addr, ∃ n1 : Nat, ∃ c1 : Nat, e = .returned (.tuple #[.slice A0 n0 c0, .int .i64 r.2.1]) ∧ B.Loc w w' [.box g2 Tb3 [.slice A1 n1 c1, .int .i64 r.2.2.code], .own (.slice A0 n0 c0) 9 1 n0 (r.1.flatMap eS)] [St w [[g2]]] ∧ Ow w.heap.size A0 n0 c0 r.1 ∧ Rw (kInt .u8) w' (Nw w w' F [.box g2 Tb3 [.slice A1 n1 c1, .int .i64 r.2.2.code], .own (.slice A0 n0 c0) 9 1 n0 (r.1.flatMap eS)]) A1 n1 c1 r.2.2.b
noncomputable abbrev trellisref26_Model_Feed_C (w : World) (F : Nat → Prop) (g2 : Nat) (Tb3 : Nat) (r : (List ByteArray) × Int × trellisref26_Model) : Cx := ⟨Try.prog, 10, Try.f10, 90, trellisref26_Model_Feed_R w F g2 Tb3 r, w⟩
theorem trellisref26_Model_Feed_calls (w : World) (F : Nat → Prop) (x1 : trellisref26_Model) (x8 : List Int) (g2 : Nat) (Tb3 : Nat) (A4 : Option Addr) (n5 : Nat) (c6 : Nat) (A9 : Option Addr) (n10 : Nat) (c11 : Nat) (h7 : Rw (kInt .u8) w F A4 n5 c6 x1.b) (h12 : Rw (kInt .u8) w (St w [[g2]]).av A9 n10 c11 x8) (hF : ∀ b, F b → b < w.heap.size ∧ ∀ o ∈ ([[g2]] : List (List Nat)), b ∉ o) (hL0 : B.Loc w w [.box g2 Tb3 [.slice A4 n5 c6, .int .i64 x1.code]] [Sm w.heap.size F w [[g2]], St w [[g2]]]) (r : (List ByteArray) × Int × trellisref26_Model) (h : trellisref26_Model_Feed x1 x8 r) : Calls Try.prog 10 #[.pointer (some ⟨g2, 0, none⟩), .slice A9 n10 c11] w (trellisref26_Model_Feed_R w F g2 Tb3 r) := by
 unfold trellisref26_Model_Feed at h
 have h7 := Rw.into (bs := [[g2]]) hF h7
 refine calls_of_Loc (vs := [.pointer (some ⟨g2, 0, none⟩), .slice A9 n10 c11]) 90 Try.func10 rfl Try.ntmps10 rfl hL0 ?_
 show G (trellisref26_Model_Feed_C w F g2 Tb3 r) _ _ _ _
 refine g_seq (c := q10c0) rfl ?_
 refine g_region (c := q10c1) rfl rfl ?_
 refine wl_v 0 rfl (v_assign rfl) gn rfl ?_
 refine wl_v 1 rfl (v_assign rfl) gn rfl ?_
 refine w_end 2 rfl ?_
 refine g_seq (c := q10c2) rfl ?_
 refine g_seq (c := q10c3) rfl ?_
 refine g_region (c := q10c5) rfl rfl ?_
 refine wl_v 0 rfl (v_move rfl) gn rfl ?_
 refine wl_v 1 rfl (v_nilCheck rfl) gn rfl ?_
 refine wl_v 2 rfl (v_fldB fo_45_1 rfl) gn rfl ?_
 refine wl_v 3 rfl (v_ldB1 0 ld_34 rfl rfl rfl) gn rfl ?_
 refine wl_v 4 rfl (v_bin rfl rfl rfl) gn rfl ?_
 refine w_end 5 rfl ?_
 by_cases hp13 : x1.code = 0
 ·have h := if_pos' hp13 h
  refine g_false (c := q10c6) rfl _ rfl ((eqib hp13)) ?_
  refine g_skip (c := q10c8) rfl ?_
  refine g_seq (c := q10c4) rfl ?_
  refine g_region (c := q10c9) rfl rfl ?_
  refine wl_v 0 rfl (v_assign rfl) gn rfl ?_
  refine w_end 1 rfl ?_
  refine g_seq (c := q10c10) rfl ?_
  refine g_seq (c := q10c11) rfl ?_
  refine g_region (c := q10c13) rfl rfl ?_
  refine wl_v 0 rfl (v_assign rfl) gn rfl ?_
  refine w_end 1 rfl ?_
  refine g_block (c := q10c14) rfl ?_
  refine g_loop (c := q10c15) rfl ?_
  have key1 : ∀ s, Rounds (fun (s : (List Int) × Int) o => trellisref26_Model_Feed_b1 x1 x8 s.1 s.2 o) s r → (fun (s : (List Int) × Int) => ∀ (A313 : Option Addr) (n314 : Nat) (c315 : Nat) (h316 : Ow w.heap.size A313 n314 c315 s.1), G (trellisref26_Model_Feed_C w F g2 Tb3 r) [.code q10c16, .inLoop q10c16, .inBlock 0, .code q10c12] [(0, .pointer (some ⟨g2, 0, none⟩)), (1, .slice A9 n10 c11), (6, .slice A313 n314 c315), (7, .int .i64 s.2)] [.own (.slice A313 n314 c315) 5 1 n314 (s.1.flatMap (eI .u8)), .box g2 Tb3 [.slice A4 n5 c6, .int .i64 x1.code]] [Sm w.heap.size F w [[g2]], St w [[g2]]]) s := by
   intro s hs
   refine Rounds.ind (mot := (fun (s : (List Int) × Int) => ∀ (A313 : Option Addr) (n314 : Nat) (c315 : Nat) (h316 : Ow w.heap.size A313 n314 c315 s.1), G (trellisref26_Model_Feed_C w F g2 Tb3 r) [.code q10c16, .inLoop q10c16, .inBlock 0, .code q10c12] [(0, .pointer (some ⟨g2, 0, none⟩)), (1, .slice A9 n10 c11), (6, .slice A313 n314 c315), (7, .int .i64 s.2)] [.own (.slice A313 n314 c315) 5 1 n314 (s.1.flatMap (eI .u8)), .box g2 Tb3 [.slice A4 n5 c6, .int .i64 x1.code]] [Sm w.heap.size F w [[g2]], St w [[g2]]])) ?_ hs
   clear hs s
   intro s o1 h hO1
   obtain ⟨x312, x317⟩ := s
   show ∀ (A313 : Option Addr) (n314 : Nat) (c315 : Nat) (h316 : Ow w.heap.size A313 n314 c315 x312), G (trellisref26_Model_Feed_C w F g2 Tb3 r) [.code q10c16, .inLoop q10c16, .inBlock 0, .code q10c12] [(0, .pointer (some ⟨g2, 0, none⟩)), (1, .slice A9 n10 c11), (6, .slice A313 n314 c315), (7, .int .i64 x317)] [.own (.slice A313 n314 c315) 5 1 n314 (x312.flatMap (eI .u8)), .box g2 Tb3 [.slice A4 n5 c6, .int .i64 x1.code]] [Sm w.heap.size F w [[g2]], St w [[g2]]]
   intro A313 n314 c315 h316
   have h : trellisref26_Model_Feed_b1 x1 x8 x312 x317 o1 := h
   unfold trellisref26_Model_Feed_b1 at h
   refine g_seq (c := q10c16) rfl ?_
   refine g_seq (c := q10c17) rfl ?_
   refine g_region (c := q10c19) rfl rfl ?_
   refine wl_v 0 rfl (v_move rfl) gn rfl ?_
   refine wl_v 1 rfl (v_move rfl) gn rfl ?_
   refine wl_v 2 rfl (v_nilCheck rfl) gn rfl ?_
   refine wl_v 3 rfl (v_fldB fo_45_0 rfl) gn rfl ?_
   refine wl_v 4 rfl (v_ldB1 1 ld_27 rfl rfl rfl) gn rfl ?_
   refine wl_v 5 rfl (v_lenQ un_27 rfl h7.hq) gn rfl ?_
   refine wl_v 6 rfl (v_bin rfl rfl rfl) gn rfl ?_
   refine w_end 7 rfl ?_
   by_cases hp622 : x317 < (x1.b.length : Int)
   ·have h := if_pos' hp622 h
    refine g_true (c := q10c20) rfl _ rfl ((decide_eq_true hp622)) ?_
    refine g_skip (c := q10c21) rfl ?_
    refine g_seq (c := q10c18) rfl ?_
    refine g_block (c := q10c23) rfl ?_
    refine g_region (c := q10c25) rfl rfl ?_
    refine wl_v 0 rfl (v_move rfl) gn rfl ?_
    refine wl_v 1 rfl (v_move rfl) gn rfl ?_
    refine wl_v 2 rfl (v_nilCheck rfl) gn rfl ?_
    refine wl_v 3 rfl (v_fldB fo_45_0 rfl) gn rfl ?_
    refine wl_v 4 rfl (v_ldB1 1 ld_27 rfl rfl rfl) gn rfl ?_
    refine wl_v 5 rfl (v_move rfl) gn rfl ?_
    obtain ⟨hb623, h⟩ := h
    have hr624 := Rw.readF (s := Sm w.heap.size F w [[g2]]) (hl := (hlI .u8)) (h1 := (hone_int .u8)) h7 hb623
    refine wl_v 6 rfl (v_idxR (s := Sm w.heap.size F w [[g2]]) slE_27 rfl rfl h7 hb623) gn rfl ?_
    refine wl_v 7 rfl (v_ldA1 (kk := (x317 : Int).toNat * 1) (j := 0) (Sm w.heap.size F w [[g2]]) ld_5 rfl hr624 rfl (me 0 rfl)) gn rfl ?_
    refine wl_s 8 rfl (s_litO (xs := ([ix x1.b x317] : List Int)) [.int .u8 (ix x1.b x317)] bs_27_1 rfl (by kernel_rfl) rfl rfl rfl rfl fun gb626 h627 => ?_) gn
    obtain ⟨x631, hv632, h⟩ := h
    obtain ⟨hb633, h⟩ := h
    refine wl_s 9 rfl (s_app (zs := x631) (cells' := x631.flatMap (eI .u8)) 1 ap_27 rfl rfl rfl h316 (Nat.le_refl _) (Src.ownF (hl := (hlI .u8)) (h1 := (hone_int .u8)) 0 rfl h627) (by rw [hv632, List.flatMap_append] <;> rfl) (app_len hv632 h627.hq) hb633 rfl rfl fun A628 c629 h630 => ?_) gn
    refine wl_v 10 rfl (v_assign rfl) gn rfl ?_
    refine w_end 11 rfl ?_
    refine g_inBlock ?_
    refine g_region (c := q10c24) rfl rfl ?_
    refine wl_v 0 rfl (v_move rfl) gn rfl ?_
    refine wl_v 1 rfl (v_bin rfl rfl rfl) gn rfl ?_
    refine wl_v 2 rfl (v_assign rfl) gn rfl ?_
    refine w_end 3 rfl ?_
    refine g_inLoop ?_
    have ih := Out.inl hO1 h
    exact g_go [0, 1] (ih A628 (n314 + 1) c629 h630) ⟨rfl, rfl, rfl, rfl, trivial⟩ (.cons _ (.cons_cons _ (.cons_cons _ (.slnil)))) rfl
   ·have h := if_neg' hp622 h
    refine g_false (c := q10c20) rfl _ rfl ((decide_eq_false hp622)) ?_
    refine g_exit (c := q10c22) [.code q10c12] rfl rfl ?_
    refine g_seq (c := q10c12) rfl ?_
    refine g_seq (c := q10c26) rfl ?_
    refine g_region (c := q10c28) rfl rfl ?_
    refine wl_v 0 rfl (v_assign rfl) gn rfl ?_
    refine w_end 1 rfl ?_
    refine g_block (c := q10c29) rfl ?_
    refine g_loop (c := q10c30) rfl ?_
    have key2 : ∀ s, Rounds (fun (s : (List Int) × Int) o => trellisref26_Model_Feed_b2 x8 x1 s.1 s.2 o) s o1 → (fun (s : (List Int) × Int) => ∀ (A731 : Option Addr) (n732 : Nat) (c733 : Nat) (h734 : Ow w.heap.size A731 n732 c733 s.1), G (trellisref26_Model_Feed_C w F g2 Tb3 r) [.code q10c31, .inLoop q10c31, .inBlock 2, .code q10c27] [(0, .pointer (some ⟨g2, 0, none⟩)), (1, .slice A9 n10 c11), (6, .slice A731 n732 c733), (8, .int .i64 s.2)] [.own (.slice A731 n732 c733) 5 1 n732 (s.1.flatMap (eI .u8)), .box g2 Tb3 [.slice A4 n5 c6, .int .i64 x1.code]] [Sm w.heap.size F w [[g2]], St w [[g2]]]) s := by
     intro s hs
     refine Rounds.ind (mot := (fun (s : (List Int) × Int) => ∀ (A731 : Option Addr) (n732 : Nat) (c733 : Nat) (h734 : Ow w.heap.size A731 n732 c733 s.1), G (trellisref26_Model_Feed_C w F g2 Tb3 r) [.code q10c31, .inLoop q10c31, .inBlock 2, .code q10c27] [(0, .pointer (some ⟨g2, 0, none⟩)), (1, .slice A9 n10 c11), (6, .slice A731 n732 c733), (8, .int .i64 s.2)] [.own (.slice A731 n732 c733) 5 1 n732 (s.1.flatMap (eI .u8)), .box g2 Tb3 [.slice A4 n5 c6, .int .i64 x1.code]] [Sm w.heap.size F w [[g2]], St w [[g2]]])) ?_ hs
     clear hs s
     intro s o2 h hO2
     obtain ⟨x730, x735⟩ := s
     show ∀ (A731 : Option Addr) (n732 : Nat) (c733 : Nat) (h734 : Ow w.heap.size A731 n732 c733 x730), G (trellisref26_Model_Feed_C w F g2 Tb3 r) [.code q10c31, .inLoop q10c31, .inBlock 2, .code q10c27] [(0, .pointer (some ⟨g2, 0, none⟩)), (1, .slice A9 n10 c11), (6, .slice A731 n732 c733), (8, .int .i64 x735)] [.own (.slice A731 n732 c733) 5 1 n732 (x730.flatMap (eI .u8)), .box g2 Tb3 [.slice A4 n5 c6, .int .i64 x1.code]] [Sm w.heap.size F w [[g2]], St w [[g2]]]
     intro A731 n732 c733 h734
     have h : trellisref26_Model_Feed_b2 x8 x1 x730 x735 o2 := h
     unfold trellisref26_Model_Feed_b2 at h
     refine g_seq (c := q10c31) rfl ?_
     refine g_seq (c := q10c32) rfl ?_
     refine g_region (c := q10c34) rfl rfl ?_
     refine wl_v 0 rfl (v_move rfl) gn rfl ?_
     refine wl_v 1 rfl (v_move rfl) gn rfl ?_
     refine wl_v 2 rfl (v_lenQ un_27 rfl h12.hq) gn rfl ?_
     refine wl_v 3 rfl (v_bin rfl rfl rfl) gn rfl ?_
     refine w_end 4 rfl ?_
     by_cases hp831 : x735 < (x8.length : Int)
     ·have h := if_pos' hp831 h
      refine g_true (c := q10c35) rfl _ rfl ((decide_eq_true hp831)) ?_
      refine g_skip (c := q10c36) rfl ?_
      refine g_seq (c := q10c33) rfl ?_
      refine g_block (c := q10c38) rfl ?_
      refine g_region (c := q10c40) rfl rfl ?_
      refine wl_v 0 rfl (v_move rfl) gn rfl ?_
      refine wl_v 1 rfl (v_move rfl) gn rfl ?_
      refine wl_v 2 rfl (v_move rfl) gn rfl ?_
      obtain ⟨hb832, h⟩ := h
      have hr833 := Rw.readF (s := St w [[g2]]) (hl := (hlI .u8)) (h1 := (hone_int .u8)) h12 hb832
      refine wl_v 3 rfl (v_idxR (s := St w [[g2]]) slE_27 rfl rfl h12 hb832) gn rfl ?_
      refine wl_v 4 rfl (v_ldA1 (kk := (x735 : Int).toNat * 1) (j := 0) (St w [[g2]]) ld_5 rfl hr833 rfl (me 1 rfl)) gn rfl ?_
      refine wl_s 5 rfl (s_litO (xs := ([ix x8 x735] : List Int)) [.int .u8 (ix x8 x735)] bs_27_1 rfl (by kernel_rfl) rfl rfl rfl rfl fun gb835 h836 => ?_) gn
      obtain ⟨x840, hv841, h⟩ := h
      obtain ⟨hb842, h⟩ := h
      refine wl_s 6 rfl (s_app (zs := x840) (cells' := x840.flatMap (eI .u8)) 1 ap_27 rfl rfl rfl h734 (Nat.le_refl _) (Src.ownF (hl := (hlI .u8)) (h1 := (hone_int .u8)) 0 rfl h836) (by rw [hv841, List.flatMap_append] <;> rfl) (app_len hv841 h836.hq) hb842 rfl rfl fun A837 c838 h839 => ?_) gn
      refine wl_v 7 rfl (v_assign rfl) gn rfl ?_
      refine w_end 8 rfl ?_
      refine g_inBlock ?_
      refine g_region (c := q10c39) rfl rfl ?_
      refine wl_v 0 rfl (v_move rfl) gn rfl ?_
      refine wl_v 1 rfl (v_bin rfl rfl rfl) gn rfl ?_
      refine wl_v 2 rfl (v_assign rfl) gn rfl ?_
      refine w_end 3 rfl ?_
      refine g_inLoop ?_
      have ih := Out.inl hO2 h
      exact g_go [0, 1] (ih A837 (n732 + 1) c838 h839) ⟨rfl, rfl, rfl, rfl, trivial⟩ (.cons _ (.cons_cons _ (.cons_cons _ (.slnil)))) rfl
     ·have h := if_neg' hp831 h
      refine g_false (c := q10c35) rfl _ rfl ((decide_eq_false hp831)) ?_
      refine g_exit (c := q10c37) [.code q10c27] rfl rfl ?_
      refine g_seq (c := q10c27) rfl ?_
      refine g_region (c := q10c41) rfl rfl ?_
      refine wl_v 0 rfl (v_assign rfl) gn rfl ?_
      refine w_end 1 rfl ?_
      refine g_seq (c := q10c42) rfl ?_
      refine g_region (c := q10c43) rfl rfl ?_
      refine wl_v 0 rfl (v_assign rfl) gn rfl ?_
      refine w_end 1 rfl ?_
      refine g_block (c := q10c44) rfl ?_
      refine g_loop (c := q10c45) rfl ?_
      have key3 : ∀ s, Rounds (fun (s : (List ByteArray) × Int) o => trellisref26_Model_Feed_b3 x730 x1 s.1 s.2 o) s o2 → (fun (s : (List ByteArray) × Int) => ∀ (A871 : Option Addr) (n872 : Nat) (c873 : Nat) (h874 : Ow w.heap.size A871 n872 c873 s.1), G (trellisref26_Model_Feed_C w F g2 Tb3 r) [.code q10c46, .inLoop q10c46, .inBlock 4] [(0, .pointer (some ⟨g2, 0, none⟩)), (6, .slice A731 n732 c733), (9, .slice A871 n872 c873), (10, .int .i64 s.2)] [.own (.slice A871 n872 c873) 9 1 n872 (s.1.flatMap eS), .own (.slice A731 n732 c733) 5 1 n732 (x730.flatMap (eI .u8)), .box g2 Tb3 [.slice A4 n5 c6, .int .i64 x1.code]] [Sm w.heap.size F w [[g2]], St w [[g2]]]) s := by
       intro s hs
       refine Rounds.ind (mot := (fun (s : (List ByteArray) × Int) => ∀ (A871 : Option Addr) (n872 : Nat) (c873 : Nat) (h874 : Ow w.heap.size A871 n872 c873 s.1), G (trellisref26_Model_Feed_C w F g2 Tb3 r) [.code q10c46, .inLoop q10c46, .inBlock 4] [(0, .pointer (some ⟨g2, 0, none⟩)), (6, .slice A731 n732 c733), (9, .slice A871 n872 c873), (10, .int .i64 s.2)] [.own (.slice A871 n872 c873) 9 1 n872 (s.1.flatMap eS), .own (.slice A731 n732 c733) 5 1 n732 (x730.flatMap (eI .u8)), .box g2 Tb3 [.slice A4 n5 c6, .int .i64 x1.code]] [Sm w.heap.size F w [[g2]], St w [[g2]]])) ?_ hs
       clear hs s
       intro s o3 h hO3
       obtain ⟨x870, x875⟩ := s
       show ∀ (A871 : Option Addr) (n872 : Nat) (c873 : Nat) (h874 : Ow w.heap.size A871 n872 c873 x870), G (trellisref26_Model_Feed_C w F g2 Tb3 r) [.code q10c46, .inLoop q10c46, .inBlock 4] [(0, .pointer (some ⟨g2, 0, none⟩)), (6, .slice A731 n732 c733), (9, .slice A871 n872 c873), (10, .int .i64 x875)] [.own (.slice A871 n872 c873) 9 1 n872 (x870.flatMap eS), .own (.slice A731 n732 c733) 5 1 n732 (x730.flatMap (eI .u8)), .box g2 Tb3 [.slice A4 n5 c6, .int .i64 x1.code]] [Sm w.heap.size F w [[g2]], St w [[g2]]]
       intro A871 n872 c873 h874
       have h : trellisref26_Model_Feed_b3 x730 x1 x870 x875 o3 := h
       unfold trellisref26_Model_Feed_b3 at h
       refine g_block (c := q10c46) rfl ?_
       refine g_seq (c := q10c47) rfl ?_
       refine g_region (c := q10c48) rfl rfl ?_
       refine wl_v 0 rfl (v_move rfl) gn rfl ?_
       refine wl_v 1 rfl (v_move rfl) gn rfl ?_
       obtain ⟨hb901, h⟩ := h
       have hv902 : Vw 1 A731 n732 (x875 : Int).toNat ((((n732 : Nat) : Int) : Int).toNat - (x875 : Int).toNat) (if (((c733 : Nat) : Int) : Int).toNat = (x875 : Int).toNat then A731 else A731.map (·.add ((x875 : Int).toNat * 1))) := Vw.cut (by have q := hb901; have q1 := h734.hq; have q2 := h734.hn; omega) (by have q := hb901; have q1 := h734.hq; have q2 := h734.hn; omega) (by have q := hb901; have q1 := h734.hq; have q2 := h734.hn; omega)
       refine wl_v 2 rfl (v_cut (sz := 1) (n := n732) (c := c733) x875 ((n732 : Nat) : Int) ((c733 : Nat) : Int) slE_27 rfl (by_ rfl) bn bn (by have q := hb901; have q1 := h734.hq; have q2 := h734.hn; omega) (by have q := hb901; have q1 := h734.hq; have q2 := h734.hn; omega) (by have q := hb901; have q1 := h734.hq; have q2 := h734.hn; omega) h734.hn rfl) gn rfl ?_
       obtain ⟨r906, hv907, h⟩ := h
       refine wl_s 3 rfl (s_call [.slice (if (((c733 : Nat) : Int) : Int).toNat = (x875 : Int).toNat then A731 else A731.map (·.add ((x875 : Int).toNat * 1))) ((((n732 : Nat) : Int) : Int).toNat - (x875 : Int).toNat) ((((c733 : Nat) : Int) : Int).toNat - (x875 : Int).toNat)] rfl Try.func16 rfl rfl rfl fun w903 hL904 => ?_) gn
       have hp905 : List.Perm ([.own (.slice A871 n872 c873) 9 1 n872 (x870.flatMap eS), .own (.slice A731 n732 c733) 5 1 n732 (x730.flatMap (eI .u8)), .box g2 Tb3 [.slice A4 n5 c6, .int .i64 x1.code]] : List Ent) (([] : List Ent) ++ ([.own (.slice A871 n872 c873) 9 1 n872 (x870.flatMap eS), .own (.slice A731 n732 c733) 5 1 n732 (x730.flatMap (eI .u8)), .box g2 Tb3 [.slice A4 n5 c6, .int .i64 x1.code]] : List Ent)) := perm_of_idx [] [0, 1, 2] rfl rfl (by kernel_rfl)
       refine Calls.mono (trellisref26_Take_calls w903 (Fl ([] : List Snap)) ((x730.drop (x875 : Int).toNat).take ((x730.length : Int).toNat - (x875 : Int).toNat)) (if (((c733 : Nat) : Int) : Int).toNat = (x875 : Int).toNat then A731 else A731.map (·.add ((x875 : Int).toNat * 1))) ((((n732 : Nat) : Int) : Int).toNat - (x875 : Int).toNat) ((((c733 : Nat) : Int) : Int).toNat - (x875 : Int).toNat) (Rw.w (hL904.argV (dk := (kInt .u8)) hp905 [] rfl 1 rfl rfl h734 (me 0 rfl) (Cells.flat _) hv902 (by have q := hb901; have q1 := h734.hq; have q2 := h734.hn; omega) (Nat.le_trans (Nat.sub_le _ _) (by have q := h734.hm; have q1 := hb901; omega))) (by rw [h734.hq])) (hL904.hFl (Sl := ([] : List Snap)) hp905 (sels [] rfl)) (hL904.into hp905 (Fl ([] : List Snap))) r906 hv907) ?_
       rintro _ w908 ⟨rfl, hM909⟩
       have hL910 := hL904.call hp905 hM909
       refine ⟨_, _, _, rfl, hL910, ?_⟩
       refine wl_v 4 rfl (v_move rfl) gn rfl ?_
       refine wl_v 5 rfl (v_extract rfl rfl) gn rfl ?_
       refine wl_v 6 rfl (v_extract rfl rfl) gn rfl ?_
       refine wl_v 7 rfl (v_extract rfl rfl) gn rfl ?_
       refine wl_v 8 rfl (v_assign rfl) gn rfl ?_
       refine wl_v 9 rfl (v_assign rfl) gn rfl ?_
       refine wl_v 10 rfl (v_assign rfl) gn rfl ?_
       refine w_end 11 rfl ?_
       refine g_seq (c := q10c49) rfl ?_
       refine g_seq (c := q10c50) rfl ?_
       refine g_region (c := q10c52) rfl rfl ?_
       refine wl_v 0 rfl (v_move rfl) gn rfl ?_
       refine wl_v 1 rfl (v_bin rfl rfl rfl) gn rfl ?_
       refine w_end 2 rfl ?_
       by_cases hp911 : r906.2.2 = 260
       ·have h := if_pos' hp911 h
        refine g_true (c := q10c53) rfl _ rfl ((eqi hp911)) ?_
        refine g_seq (c := q10c54) rfl ?_
        refine g_region (c := q10c56) rfl rfl ?_
        refine wl_v 0 rfl (v_move rfl) gn rfl ?_
        refine wl_v 1 rfl (v_move rfl) gn rfl ?_
        refine wl_v 2 rfl (v_move rfl) gn rfl ?_
        have hv912 : Vw 1 A731 n732 (x875 : Int).toNat ((((n732 : Nat) : Int) : Int).toNat - (x875 : Int).toNat) (if (((c733 : Nat) : Int) : Int).toNat = (x875 : Int).toNat then A731 else A731.map (·.add ((x875 : Int).toNat * 1))) := Vw.cut (by have q := hb901; have q1 := h734.hq; have q2 := h734.hn; omega) (by have q := hb901; have q1 := h734.hq; have q2 := h734.hn; omega) (by have q := hb901; have q1 := h734.hq; have q2 := h734.hn; omega)
        refine wl_v 3 rfl (v_cut (sz := 1) (n := n732) (c := c733) x875 ((n732 : Nat) : Int) ((c733 : Nat) : Int) slE_27 rfl (by_ rfl) bn bn (by have q := hb901; have q1 := h734.hq; have q2 := h734.hn; omega) (by have q := hb901; have q1 := h734.hq; have q2 := h734.hn; omega) (by have q := hb901; have q1 := h734.hq; have q2 := h734.hn; omega) h734.hn rfl) gn rfl ?_
        refine wl_v 4 rfl (v_nilCheck rfl) gn rfl ?_
        refine wl_v 5 rfl (v_fldB fo_45_0 rfl) gn rfl ?_
        refine wl_s 6 rfl (s_stB (vs := [.slice (if (((c733 : Nat) : Int) : Int).toNat = (x875 : Int).toNat then A731 else A731.map (·.add ((x875 : Int).toNat * 1))) ((((n732 : Nat) : Int) : Int).toNat - (x875 : Int).toNat) ((((c733 : Nat) : Int) : Int).toNat - (x875 : Int).toNat)]) (cs' := [.slice (if (((c733 : Nat) : Int) : Int).toNat = (x875 : Int).toNat then A731 else A731.map (·.add ((x875 : Int).toNat * 1))) ((((n732 : Nat) : Int) : Int).toNat - (x875 : Int).toNat) ((((c733 : Nat) : Int) : Int).toNat - (x875 : Int).toNat), .int .i64 x1.code]) (M' := [.own (.slice A871 n872 c873) 9 1 n872 (x870.flatMap eS), .own (.slice A731 n732 c733) 5 1 n732 (x730.flatMap (eI .u8)), .box g2 Tb3 [.slice (if (((c733 : Nat) : Int) : Int).toNat = (x875 : Int).toNat then A731 else A731.map (·.add ((x875 : Int).toNat * 1))) ((((n732 : Nat) : Int) : Int).toNat - (x875 : Int).toNat) ((((c733 : Nat) : Int) : Int).toNat - (x875 : Int).toNat), .int .i64 x1.code]]) 2 sz_27 rfl rfl rfl rfl rfl rfl rfl rfl rfl ?_) gn
        refine w_end 7 rfl ?_
        refine g_seq (c := q10c57) rfl ?_
        refine g_region (c := q10c58) rfl rfl ?_
        refine wl_v 0 rfl (v_move rfl) gn rfl ?_
        refine wl_v 1 rfl (v_assign rfl) gn rfl ?_
        refine wl_v 2 rfl (v_assign rfl) gn rfl ?_
        refine w_end 3 rfl ?_
        refine g_freeze (F := F) (dk := (kInt .u8)) (Sm w.heap.size F w [[g2]]) 1 rfl h734 (me 0 rfl) Sm.ok (Cells.flat _) fun sw914 sb915 h913 => ?_
        have h := Out.inr hO3 h
        have h := Out.inr hO2 h
        have h := Out.inr hO1 h
        refine g_retR (c := q10c59) [.slice A871 n872 c873, .int .i64 0] rfl Try.func10 rfl (.tmp rfl (.tmp rfl (.nil))) fun wr hLr => ?_
        have hMr : B.Loc w wr [.box g2 Tb3 [.slice (if (((c733 : Nat) : Int) : Int).toNat = (x875 : Int).toNat then A731 else A731.map (·.add ((x875 : Int).toNat * 1))) ((((n732 : Nat) : Int) : Int).toNat - (x875 : Int).toNat) ((((c733 : Nat) : Int) : Int).toNat - (x875 : Int).toNat), .int .i64 x1.code], .own (.slice A871 n872 c873) 9 1 n872 (x870.flatMap eS)] [St w [[g2]]] := hLr.pick (rest := []) (perm_of_idx [1, 0] [] rfl rfl (by kernel_rfl)) (sels [2] rfl)
        have hMi : ∀ e ∈ ([.box g2 Tb3 [.slice (if (((c733 : Nat) : Int) : Int).toNat = (x875 : Int).toNat then A731 else A731.map (·.add ((x875 : Int).toNat * 1))) ((((n732 : Nat) : Int) : Int).toNat - (x875 : Int).toNat) ((((c733 : Nat) : Int) : Int).toNat - (x875 : Int).toNat), .int .i64 x1.code], .own (.slice A871 n872 c873) 9 1 n872 (x870.flatMap eS)] : List Ent), e ∈ ([.own (.slice A871 n872 c873) 9 1 n872 (x870.flatMap eS), .box g2 Tb3 [.slice (if (((c733 : Nat) : Int) : Int).toNat = (x875 : Int).toNat then A731 else A731.map (·.add ((x875 : Int).toNat * 1))) ((((n732 : Nat) : Int) : Int).toNat - (x875 : Int).toNat) ((((c733 : Nat) : Int) : Int).toNat - (x875 : Int).toNat), .int .i64 x1.code]] : List Ent) := sels [1, 0] rfl
        show trellisref26_Model_Feed_R w F g2 Tb3 r (.returned (packV [.slice A871 n872 c873, .int .i64 0])) wr
        rw [h]
        exact ⟨A871, n872, c873, (if (((c733 : Nat) : Int) : Int).toNat = (x875 : Int).toNat then A731 else A731.map (·.add ((x875 : Int).toNat * 1))), (((n732 : Nat) : Int) : Int).toNat - (x875 : Int).toNat, (((c733 : Nat) : Int) : Int).toNat - (x875 : Int).toNat, rfl, hMr, h874, (hLr.outR (s := Sm w.heap.size F sw914 sb915) hMi (me 0 rfl) Sm.ok (Rw.w (Rw.cut (sz := 1) (lv := x875) (hv := ((n732 : Nat) : Int)) (mv := ((c733 : Nat) : Int)) h913 rfl (by have q := hb901; have q1 := h734.hq; have q2 := h734.hn; omega) (by have q := hb901; have q1 := h734.hq; have q2 := h734.hn; omega) (by have q := hb901; have q1 := h734.hq; have q2 := h734.hn; omega)) (by rw [List.drop_take, h913.hq])))⟩
       ·have h := if_neg' hp911 h
        refine g_false (c := q10c53) rfl _ rfl ((nei hp911)) ?_
        refine g_skip (c := q10c55) rfl ?_
        refine g_seq (c := q10c51) rfl ?_
        refine g_seq (c := q10c60) rfl ?_
        refine g_region (c := q10c62) rfl rfl ?_
        refine wl_v 0 rfl (v_move rfl) gn rfl ?_
        refine wl_v 1 rfl (v_bin rfl rfl rfl) gn rfl ?_
        refine w_end 2 rfl ?_
        by_cases hp916 : r906.2.2 = 0
        ·have h := if_pos' hp916 h
         refine g_false (c := q10c63) rfl _ rfl ((eqib hp916)) ?_
         refine g_skip (c := q10c65) rfl ?_
         refine g_seq (c := q10c61) rfl ?_
         refine g_region (c := q10c66) rfl rfl ?_
         refine wl_v 0 rfl (v_move rfl) gn rfl ?_
         refine wl_v 1 rfl (v_move rfl) gn rfl ?_
         refine wl_s 2 rfl (s_litO (xs := ([r906.1] : List ByteArray)) [.string r906.1] bs_33_1 rfl (by kernel_rfl) rfl rfl rfl rfl fun gb918 h919 => ?_) gn
         obtain ⟨x923, hv924, h⟩ := h
         obtain ⟨hb925, h⟩ := h
         refine wl_s 3 rfl (s_app (zs := x923) (cells' := x923.flatMap eS) 1 ap_33 rfl rfl rfl h874 (Nat.le_refl _) (Src.ownF (hl := hlS) (h1 := hone_str) 0 rfl h919) (by rw [hv924, List.flatMap_append] <;> rfl) (app_len hv924 h919.hq) hb925 rfl rfl fun A920 c921 h922 => ?_) gn
         refine wl_v 4 rfl (v_assign rfl) gn rfl ?_
         refine w_end 5 rfl ?_
         refine g_region (c := q10c67) rfl rfl ?_
         refine wl_v 0 rfl (v_move rfl) gn rfl ?_
         refine wl_v 1 rfl (v_move rfl) gn rfl ?_
         refine wl_v 2 rfl (v_bin rfl rfl rfl) gn rfl ?_
         refine wl_v 3 rfl (v_assign rfl) gn rfl ?_
         refine w_end 4 rfl ?_
         refine g_inBlock ?_
         refine g_inLoop ?_
         have ih := Out.inl hO3 h
         exact g_go [0, 1] (ih A920 (n872 + 1) c921 h922) ⟨rfl, rfl, rfl, rfl, trivial⟩ (.cons _ (.cons_cons _ (.cons_cons _ (.cons_cons _ (.slnil))))) rfl
        ·have h := if_neg' hp916 h
         refine g_true (c := q10c63) rfl _ rfl ((neib hp916)) ?_
         refine g_seq (c := q10c64) rfl ?_
         refine g_region (c := q10c68) rfl rfl ?_
         refine wl_v 0 rfl (v_move rfl) gn rfl ?_
         refine wl_v 1 rfl (v_nilCheck rfl) gn rfl ?_
         refine wl_v 2 rfl (v_fldB fo_45_0 rfl) gn rfl ?_
         refine wl_s 3 rfl (s_stB (vs := [.slice none 0 0]) (cs' := [.slice none 0 0, .int .i64 x1.code]) (M' := [.own (.slice A871 n872 c873) 9 1 n872 (x870.flatMap eS), .own (.slice A731 n732 c733) 5 1 n732 (x730.flatMap (eI .u8)), .box g2 Tb3 [.slice none 0 0, .int .i64 x1.code]]) 2 sz_27 rfl rfl rfl rfl rfl rfl rfl rfl rfl ?_) gn
         refine w_end 4 rfl ?_
         refine g_seq (c := q10c69) rfl ?_
         refine g_region (c := q10c70) rfl rfl ?_
         refine wl_v 0 rfl (v_move rfl) gn rfl ?_
         refine wl_v 1 rfl (v_move rfl) gn rfl ?_
         refine wl_v 2 rfl (v_nilCheck rfl) gn rfl ?_
         refine wl_v 3 rfl (v_fldB fo_45_1 rfl) gn rfl ?_
         refine wl_s 4 rfl (s_stB (vs := [.int .i64 r906.2.2]) (cs' := [.slice none 0 0, .int .i64 r906.2.2]) (M' := [.own (.slice A871 n872 c873) 9 1 n872 (x870.flatMap eS), .own (.slice A731 n732 c733) 5 1 n732 (x730.flatMap (eI .u8)), .box g2 Tb3 [.slice none 0 0, .int .i64 r906.2.2]]) 2 sz_34 rfl rfl rfl rfl rfl rfl rfl rfl rfl ?_) gn
         refine w_end 5 rfl ?_
         refine g_seq (c := q10c71) rfl ?_
         refine g_region (c := q10c72) rfl rfl ?_
         refine wl_v 0 rfl (v_move rfl) gn rfl ?_
         refine wl_v 1 rfl (v_move rfl) gn rfl ?_
         refine wl_v 2 rfl (v_assign rfl) gn rfl ?_
         refine wl_v 3 rfl (v_assign rfl) gn rfl ?_
         refine w_end 4 rfl ?_
         have h := Out.inr hO3 h
         have h := Out.inr hO2 h
         have h := Out.inr hO1 h
         refine g_retR (c := q10c73) [.slice A871 n872 c873, .int .i64 r906.2.2] rfl Try.func10 rfl (.tmp rfl (.tmp rfl (.nil))) fun wr hLr => ?_
         have hMr : B.Loc w wr [.box g2 Tb3 [.slice none 0 0, .int .i64 r906.2.2], .own (.slice A871 n872 c873) 9 1 n872 (x870.flatMap eS)] [St w [[g2]]] := hLr.pick (rest := [.own (.slice A731 n732 c733) 5 1 n732 (x730.flatMap (eI .u8))]) (perm_of_idx [2, 0] [1] rfl rfl (by kernel_rfl)) (sels [1] rfl)
         show trellisref26_Model_Feed_R w F g2 Tb3 r (.returned (packV [.slice A871 n872 c873, .int .i64 r906.2.2])) wr
         rw [h]
         exact ⟨A871, n872, c873, none, 0, 0, rfl, hMr, h874, Rw.nil⟩
      refine g_nil 9 1 ?_
      exact g_go [0, 1] (key3 _ h none 0 0 (Ow.nil (z := w.heap.size))) ⟨rfl, rfl, rfl, rfl, trivial⟩ (.cons_cons _ (.cons_cons _ (.cons_cons _ (.slnil)))) rfl
    exact g_go [0, 1] (key2 _ h A313 n314 c315 h316) ⟨rfl, rfl, rfl, rfl, trivial⟩ (.cons_cons _ (.cons_cons _ (.slnil))) rfl
  refine g_nil 5 1 ?_
  exact g_go [0, 1] (key1 _ h none 0 0 (Ow.nil (z := w.heap.size))) ⟨rfl, rfl, rfl, rfl, trivial⟩ (.cons_cons _ (.cons_cons _ (.slnil))) rfl
 ·have h := if_neg' hp13 h
  refine g_true (c := q10c6) rfl _ rfl ((neib hp13)) ?_
  refine g_seq (c := q10c7) rfl ?_
  have hns : Region.noSelect (Code.ops q10c74) = true := by kernel_rfl
  refine g_drawF (c := q10c74) [.box g2 Tb3 [.slice A4 n5 c6, .int .i64 x1.code]] [Sm w.heap.size F w [[g2]], St w [[g2]]] [] 6 rfl rfl mix rfl (.cons_cons _ (.slnil)) (sels [0, 1] rfl) ?_
  refine wfv 0 rfl (v_move rfl) gn hns rfl ?_
  refine wfv 1 rfl (v_nilCheck rfl) gn hns rfl ?_
  refine wfv 2 rfl (v_fldB fo_45_1 rfl) gn hns rfl ?_
  refine wfv 3 rfl (v_ldB1 0 ld_34 rfl rfl rfl) gn hns rfl ?_
  refine wfv 4 rfl (v_assign rfl) gn hns rfl ?_
  refine wfv 5 rfl (v_assign rfl) gn hns rfl ?_
  refine wf_end (by kernel_rfl) ?_
  refine g_nil 9 1 ?_
  refine g_retR (c := q10c75) [.slice none 0 0, .int .i64 x1.code] rfl Try.func10 rfl (.tmp rfl (.tmp rfl (.nil))) fun wr hLr => ?_
  have hMr : B.Loc w wr [.box g2 Tb3 [.slice A4 n5 c6, .int .i64 x1.code], .own (.slice none 0 0) 9 1 0 (([] : List ByteArray).flatMap eS)] [St w [[g2]]] := hLr.pick (rest := []) (perm_of_idx [1, 0] [] rfl rfl (by kernel_rfl)) (sels [1] rfl)
  have hMi : ∀ e ∈ ([.box g2 Tb3 [.slice A4 n5 c6, .int .i64 x1.code], .own (.slice none 0 0) 9 1 0 (([] : List ByteArray).flatMap eS)] : List Ent), e ∈ ([.own (.slice none 0 0) 9 1 0 (([] : List ByteArray).flatMap eS), .box g2 Tb3 [.slice A4 n5 c6, .int .i64 x1.code]] : List Ent) := sels [1, 0] rfl
  show trellisref26_Model_Feed_R w F g2 Tb3 r (.returned (packV [.slice none 0 0, .int .i64 x1.code])) wr
  rw [h]
  exact ⟨none, 0, 0, A4, n5, c6, rfl, hMr, (Ow.nil (z := w.heap.size)), (hLr.outR (s := Sm w.heap.size F w [[g2]]) hMi (me 0 rfl) Sm.ok h7)⟩
noncomputable abbrev q13c0 : Code := bodyOf Try.f13
noncomputable abbrev q13c1 : Code := Code.fst q13c0
noncomputable abbrev q13c2 : Code := Code.snd q13c0
noncomputable abbrev q13c3 : Code := Code.fst q13c2
noncomputable abbrev q13c4 : Code := Code.snd q13c2
abbrev trellisref26_Model_Waiting_R (w : World) (F : Nat → Prop) (g2 : Nat) (Tb3 : Nat) (r : Int × trellisref26_Model) : Ending → World → Prop := fun e w' => ∃ A0 : Option Addr, ∃ n0 : Nat, ∃ c0 : Nat, e = .returned (.int .i64 r.1) ∧ B.Loc w w' [.box g2 Tb3 [.slice A0 n0 c0, .int .i64 r.2.code]] [St w [[g2]]] ∧ Rw (kInt .u8) w' (Nw w w' F [.box g2 Tb3 [.slice A0 n0 c0, .int .i64 r.2.code]]) A0 n0 c0 r.2.b
noncomputable abbrev trellisref26_Model_Waiting_C (w : World) (F : Nat → Prop) (g2 : Nat) (Tb3 : Nat) (r : Int × trellisref26_Model) : Cx := ⟨Try.prog, 13, Try.f13, 8, trellisref26_Model_Waiting_R w F g2 Tb3 r, w⟩
theorem trellisref26_Model_Waiting_calls (w : World) (F : Nat → Prop) (x1 : trellisref26_Model) (g2 : Nat) (Tb3 : Nat) (A4 : Option Addr) (n5 : Nat) (c6 : Nat) (h7 : Rw (kInt .u8) w F A4 n5 c6 x1.b) (hF : ∀ b, F b → b < w.heap.size ∧ ∀ o ∈ ([[g2]] : List (List Nat)), b ∉ o) (hL0 : B.Loc w w [.box g2 Tb3 [.slice A4 n5 c6, .int .i64 x1.code]] [Sm w.heap.size F w [[g2]], St w [[g2]]]) (r : Int × trellisref26_Model) (h : trellisref26_Model_Waiting x1 r) : Calls Try.prog 13 #[.pointer (some ⟨g2, 0, none⟩)] w (trellisref26_Model_Waiting_R w F g2 Tb3 r) := by
 unfold trellisref26_Model_Waiting at h
 have h7 := Rw.into (bs := [[g2]]) hF h7
 refine calls_of_Loc (vs := [.pointer (some ⟨g2, 0, none⟩)]) 8 Try.func13 rfl Try.ntmps13 rfl hL0 ?_
 show G (trellisref26_Model_Waiting_C w F g2 Tb3 r) _ _ _ _
 refine g_seq (c := q13c0) rfl ?_
 refine g_region (c := q13c1) rfl rfl ?_
 refine wl_v 0 rfl (v_assign rfl) gn rfl ?_
 refine w_end 1 rfl ?_
 refine g_seq (c := q13c2) rfl ?_
 refine g_region (c := q13c3) rfl rfl ?_
 refine wl_v 0 rfl (v_move rfl) gn rfl ?_
 refine wl_v 1 rfl (v_nilCheck rfl) gn rfl ?_
 refine wl_v 2 rfl (v_fldB fo_45_0 rfl) gn rfl ?_
 refine wl_v 3 rfl (v_ldB1 0 ld_27 rfl rfl rfl) gn rfl ?_
 refine wl_v 4 rfl (v_lenQ un_27 rfl h7.hq) gn rfl ?_
 refine wl_v 5 rfl (v_assign rfl) gn rfl ?_
 refine w_end 6 rfl ?_
 refine g_retR (c := q13c4) [.int .i64 (x1.b.length : Int)] rfl Try.func13 rfl (.tmp rfl (.nil)) fun wr hLr => ?_
 have hMr : B.Loc w wr [.box g2 Tb3 [.slice A4 n5 c6, .int .i64 x1.code]] [St w [[g2]]] := hLr.pick (rest := []) (perm_of_idx [0] [] rfl rfl (by kernel_rfl)) (sels [1] rfl)
 have hMi : ∀ e ∈ ([.box g2 Tb3 [.slice A4 n5 c6, .int .i64 x1.code]] : List Ent), e ∈ ([.box g2 Tb3 [.slice A4 n5 c6, .int .i64 x1.code]] : List Ent) := sels [0] rfl
 show trellisref26_Model_Waiting_R w F g2 Tb3 r (.returned (packV [.int .i64 (x1.b.length : Int)])) wr
 rw [h]
 exact ⟨A4, n5, c6, rfl, hMr, (hLr.outR (s := Sm w.heap.size F w [[g2]]) hMi (me 0 rfl) Sm.ok h7)⟩
noncomputable abbrev q18c0 : Code := bodyOf Try.f18
noncomputable abbrev q18c1 : Code := Code.fst q18c0
noncomputable abbrev q18c2 : Code := Code.snd q18c0
noncomputable abbrev q18c3 : Code := Code.fst q18c2
noncomputable abbrev q18c4 : Code := Code.snd q18c2
noncomputable abbrev q18c5 : Code := Code.fst q18c3
noncomputable abbrev q18c6 : Code := Code.snd q18c3
noncomputable abbrev q18c7 : Code := Code.fst q18c6
noncomputable abbrev q18c8 : Code := Code.snd q18c6
noncomputable abbrev q18c9 : Code := Code.fst q18c4
noncomputable abbrev q18c10 : Code := Code.snd q18c4
noncomputable abbrev q18c11 : Code := Code.fst q18c9
noncomputable abbrev q18c12 : Code := Code.snd q18c9
noncomputable abbrev q18c13 : Code := Code.fst q18c12
noncomputable abbrev q18c14 : Code := Code.fst q18c13
noncomputable abbrev q18c15 : Code := Code.fst q18c14
noncomputable abbrev q18c16 : Code := Code.snd q18c14
noncomputable abbrev q18c17 : Code := Code.fst q18c15
noncomputable abbrev q18c18 : Code := Code.snd q18c15
noncomputable abbrev q18c19 : Code := Code.fst q18c18
noncomputable abbrev q18c20 : Code := Code.snd q18c18
noncomputable abbrev q18c21 : Code := Code.fst q18c16
noncomputable abbrev q18c22 : Code := Code.snd q18c16
noncomputable abbrev q18c23 : Code := Code.fst q18c21
noncomputable abbrev q18c24 : Code := Code.fst q18c23
noncomputable abbrev q18c25 : Code := Code.snd q18c23
noncomputable abbrev q18c26 : Code := Code.fst q18c25
noncomputable abbrev q18c27 : Code := Code.snd q18c25
noncomputable abbrev q18c28 : Code := Code.fst q18c26
noncomputable abbrev q18c29 : Code := Code.snd q18c26
noncomputable abbrev q18c30 : Code := Code.fst q18c10
noncomputable abbrev q18c31 : Code := Code.snd q18c10
noncomputable abbrev q18c32 : Code := Code.fst q18c7
noncomputable abbrev q18c33 : Code := Code.snd q18c7
abbrev trellislaw26_sameBytes_R (w : World) (F : Nat → Prop) (r : Bool) : Ending → World → Prop := fun e w' => e = .returned (.bool r) ∧ B.Loc w w' [] [St w []]
noncomputable abbrev trellislaw26_sameBytes_C (w : World) (F : Nat → Prop) (r : Bool) : Cx := ⟨Try.prog, 18, Try.f18, 26, trellislaw26_sameBytes_R w F  r, w⟩
theorem trellislaw26_sameBytes_calls (w : World) (F : Nat → Prop) (x1 : List Int) (x6 : List Int) (A2 : Option Addr) (n3 : Nat) (c4 : Nat) (A7 : Option Addr) (n8 : Nat) (c9 : Nat) (h5 : Rw (kInt .u8) w (St w []).av A2 n3 c4 x1) (h10 : Rw (kInt .u8) w (St w []).av A7 n8 c9 x6) (hF : ∀ b, F b → b < w.heap.size ∧ ∀ o ∈ ([] : List (List Nat)), b ∉ o) (hL0 : B.Loc w w [] [Sm w.heap.size F w [], St w []]) (r : Bool) (h : trellislaw26_sameBytes x1 x6 r) : Calls Try.prog 18 #[.slice A2 n3 c4, .slice A7 n8 c9] w (trellislaw26_sameBytes_R w F  r) := by
 unfold trellislaw26_sameBytes at h
 refine calls_of_Loc (vs := [.slice A2 n3 c4, .slice A7 n8 c9]) 26 Try.func18 rfl Try.ntmps18 rfl hL0 ?_
 show G (trellislaw26_sameBytes_C w F r) _ _ _ _
 refine g_seq (c := q18c0) rfl ?_
 refine g_region (c := q18c1) rfl rfl ?_
 refine wl_v 0 rfl (v_assign rfl) gn rfl ?_
 refine w_end 1 rfl ?_
 refine g_seq (c := q18c2) rfl ?_
 refine g_seq (c := q18c3) rfl ?_
 refine g_region (c := q18c5) rfl rfl ?_
 refine wl_v 0 rfl (v_move rfl) gn rfl ?_
 refine wl_v 1 rfl (v_lenQ un_27 rfl h5.hq) gn rfl ?_
 refine wl_v 2 rfl (v_move rfl) gn rfl ?_
 refine wl_v 3 rfl (v_lenQ un_27 rfl h10.hq) gn rfl ?_
 refine wl_v 4 rfl (v_bin rfl rfl rfl) gn rfl ?_
 refine w_end 5 rfl ?_
 by_cases hp11 : (x1.length : Int) = (x6.length : Int)
 ·have h := if_pos' hp11 h
  refine g_false (c := q18c6) rfl _ rfl ((eqib hp11)) ?_
  refine g_skip (c := q18c8) rfl ?_
  refine g_seq (c := q18c4) rfl ?_
  refine g_seq (c := q18c9) rfl ?_
  refine g_region (c := q18c11) rfl rfl ?_
  refine wl_v 0 rfl (v_assign rfl) gn rfl ?_
  refine w_end 1 rfl ?_
  refine g_block (c := q18c12) rfl ?_
  refine g_loop (c := q18c13) rfl ?_
  have key1 : ∀ s, Rounds (fun (s : Int) o => trellislaw26_sameBytes_b1 x1 x6 s o) s r → (fun (s : Int) => ∀ (_ : Unit), G (trellislaw26_sameBytes_C w F r) [.code q18c14, .inLoop q18c14, .inBlock 0, .code q18c10] [(0, .slice A2 n3 c4), (1, .slice A7 n8 c9), (5, .int .i64 s)] [] [Sm w.heap.size F w [], St w []]) s := by
   intro s hs
   refine Rounds.ind (mot := (fun (s : Int) => ∀ (_ : Unit), G (trellislaw26_sameBytes_C w F r) [.code q18c14, .inLoop q18c14, .inBlock 0, .code q18c10] [(0, .slice A2 n3 c4), (1, .slice A7 n8 c9), (5, .int .i64 s)] [] [Sm w.heap.size F w [], St w []])) ?_ hs
   clear hs s
   intro x23 o1 h hO1
   show ∀ (_ : Unit), G (trellislaw26_sameBytes_C w F r) [.code q18c14, .inLoop q18c14, .inBlock 0, .code q18c10] [(0, .slice A2 n3 c4), (1, .slice A7 n8 c9), (5, .int .i64 x23)] [] [Sm w.heap.size F w [], St w []]
   intro _
   have h : trellislaw26_sameBytes_b1 x1 x6 x23 o1 := h
   unfold trellislaw26_sameBytes_b1 at h
   refine g_seq (c := q18c14) rfl ?_
   refine g_seq (c := q18c15) rfl ?_
   refine g_region (c := q18c17) rfl rfl ?_
   refine wl_v 0 rfl (v_move rfl) gn rfl ?_
   refine wl_v 1 rfl (v_move rfl) gn rfl ?_
   refine wl_v 2 rfl (v_lenQ un_27 rfl h5.hq) gn rfl ?_
   refine wl_v 3 rfl (v_bin rfl rfl rfl) gn rfl ?_
   refine w_end 4 rfl ?_
   by_cases hp34 : x23 < (x1.length : Int)
   ·have h := if_pos' hp34 h
    refine g_true (c := q18c18) rfl _ rfl ((decide_eq_true hp34)) ?_
    refine g_skip (c := q18c19) rfl ?_
    refine g_seq (c := q18c16) rfl ?_
    refine g_block (c := q18c21) rfl ?_
    refine g_seq (c := q18c23) rfl ?_
    obtain ⟨hb35, h⟩ := h
    obtain ⟨hb37, h⟩ := h
    have hns : Region.noSelect (Code.ops q18c24) = true := by kernel_rfl
    refine g_drawF (c := q18c24) [] [Sm w.heap.size F w [], St w []] [] 9 rfl rfl mix rfl (.slnil) (sels [0, 1] rfl) ?_
    refine wfv 0 rfl (v_move rfl) gn hns rfl ?_
    refine wfv 1 rfl (v_move rfl) gn hns rfl ?_
    have hr41 := Rw.readF (s := St w []) (hl := (hlI .u8)) (h1 := (hone_int .u8)) h5 hb35
    refine wfv 2 rfl (v_idxR (s := St w []) slE_27 rfl rfl h5 hb35) gn hns rfl ?_
    refine wfv 3 rfl (v_ldA1 (kk := (x23 : Int).toNat * 1) (j := 0) (St w []) ld_5 rfl hr41 rfl (me 1 rfl)) gn hns rfl ?_
    refine wfv 4 rfl (v_move rfl) gn hns rfl ?_
    refine wfv 5 rfl (v_move rfl) gn hns rfl ?_
    have hr42 := Rw.readF (s := St w []) (hl := (hlI .u8)) (h1 := (hone_int .u8)) h10 hb37
    refine wfv 6 rfl (v_idxR (s := St w []) slE_27 rfl rfl h10 hb37) gn hns rfl ?_
    refine wfv 7 rfl (v_ldA1 (kk := (x23 : Int).toNat * 1) (j := 0) (St w []) ld_5 rfl hr42 rfl (me 1 rfl)) gn hns rfl ?_
    refine wfv 8 rfl (v_bin rfl rfl rfl) gn hns rfl ?_
    refine wf_end (by kernel_rfl) ?_
    by_cases hp43 : ix x1 x23 = ix x6 x23
    ·have h := if_pos' hp43 h
     refine g_false (c := q18c25) rfl _ rfl ((eqib hp43)) ?_
     refine g_skip (c := q18c27) rfl ?_
     refine g_inBlock ?_
     refine g_region (c := q18c22) rfl rfl ?_
     refine wl_v 0 rfl (v_move rfl) gn rfl ?_
     refine wl_v 1 rfl (v_bin rfl rfl rfl) gn rfl ?_
     refine wl_v 2 rfl (v_assign rfl) gn rfl ?_
     refine w_end 3 rfl ?_
     refine g_inLoop ?_
     have ih := Out.inl hO1 h
     exact g_go [0, 1] (ih ()) ⟨rfl, rfl, rfl, trivial⟩ (.slnil) rfl
    ·have h := if_neg' hp43 h
     refine g_true (c := q18c25) rfl _ rfl ((neib hp43)) ?_
     refine g_seq (c := q18c26) rfl ?_
     refine g_region (c := q18c28) rfl rfl ?_
     refine wl_v 0 rfl (v_assign rfl) gn rfl ?_
     refine w_end 1 rfl ?_
     have h := Out.inr hO1 h
     refine g_retR (c := q18c29) [.bool false] rfl Try.func18 rfl (.tmp rfl (.nil)) fun wr hLr => ?_
     have hMr : B.Loc w wr [] [St w []] := hLr.pick0 (sels [1] rfl)
     show trellislaw26_sameBytes_R w F  r (.returned (packV [.bool false])) wr
     rw [h]
     exact ⟨rfl, hMr⟩
   ·have h := if_neg' hp34 h
    refine g_false (c := q18c18) rfl _ rfl ((decide_eq_false hp34)) ?_
    refine g_exit (c := q18c20) [.code q18c10] rfl rfl ?_
    refine g_seq (c := q18c10) rfl ?_
    refine g_region (c := q18c30) rfl rfl ?_
    refine wl_v 0 rfl (v_assign rfl) gn rfl ?_
    refine w_end 1 rfl ?_
    have h := Out.inr hO1 h
    refine g_retR (c := q18c31) [.bool true] rfl Try.func18 rfl (.tmp rfl (.nil)) fun wr hLr => ?_
    have hMr : B.Loc w wr [] [St w []] := hLr.pick0 (sels [1] rfl)
    show trellislaw26_sameBytes_R w F  r (.returned (packV [.bool true])) wr
    rw [h]
    exact ⟨rfl, hMr⟩
  exact g_go [0, 1] (key1 _ h ()) ⟨rfl, rfl, rfl, trivial⟩ (.slnil) rfl
 ·have h := if_neg' hp11 h
  refine g_true (c := q18c6) rfl _ rfl ((neib hp11)) ?_
  refine g_seq (c := q18c7) rfl ?_
  refine g_region (c := q18c32) rfl rfl ?_
  refine wl_v 0 rfl (v_assign rfl) gn rfl ?_
  refine w_end 1 rfl ?_
  refine g_retR (c := q18c33) [.bool false] rfl Try.func18 rfl (.tmp rfl (.nil)) fun wr hLr => ?_
  have hMr : B.Loc w wr [] [St w []] := hLr.pick0 (sels [1] rfl)
  show trellislaw26_sameBytes_R w F  r (.returned (packV [.bool false])) wr
  rw [h]
  exact ⟨rfl, hMr⟩
noncomputable abbrev q14c0 : Code := bodyOf Try.f14
noncomputable abbrev q14c1 : Code := Code.fst q14c0
noncomputable abbrev q14c2 : Code := Code.snd q14c0
noncomputable abbrev q14c3 : Code := Code.fst q14c2
noncomputable abbrev q14c4 : Code := Code.snd q14c2
noncomputable abbrev q14c5 : Code := Code.fst q14c3
noncomputable abbrev q14c6 : Code := Code.snd q14c3
noncomputable abbrev q14c7 : Code := Code.fst q14c6
noncomputable abbrev q14c8 : Code := Code.fst q14c7
noncomputable abbrev q14c9 : Code := Code.fst q14c8
noncomputable abbrev q14c10 : Code := Code.snd q14c8
noncomputable abbrev q14c11 : Code := Code.fst q14c9
noncomputable abbrev q14c12 : Code := Code.snd q14c9
noncomputable abbrev q14c13 : Code := Code.fst q14c12
noncomputable abbrev q14c14 : Code := Code.snd q14c12
noncomputable abbrev q14c15 : Code := Code.fst q14c10
noncomputable abbrev q14c16 : Code := Code.snd q14c10
noncomputable abbrev q14c17 : Code := Code.fst q14c15
noncomputable abbrev q14c18 : Code := Code.fst q14c17
noncomputable abbrev q14c19 : Code := Code.snd q14c17
noncomputable abbrev q14c20 : Code := Code.fst q14c19
noncomputable abbrev q14c21 : Code := Code.snd q14c19
noncomputable abbrev q14c22 : Code := Code.fst q14c20
noncomputable abbrev q14c23 : Code := Code.snd q14c20
noncomputable abbrev q14c24 : Code := Code.fst q14c4
noncomputable abbrev q14c25 : Code := Code.snd q14c4
abbrev trellislaw26_whole_R (w : World) (F : Nat → Prop) (r : Bool) : Ending → World → Prop := fun e w' => e = .returned (.bool r) ∧ B.Loc w w' [] [St w []]
noncomputable abbrev trellislaw26_whole_C (w : World) (F : Nat → Prop) (r : Bool) : Cx := ⟨Try.prog, 14, Try.f14, 27, trellislaw26_whole_R w F  r, w⟩
theorem trellislaw26_whole_calls (w : World) (F : Nat → Prop) (x1 : List Int) (x6 : List Int) (A2 : Option Addr) (n3 : Nat) (c4 : Nat) (A7 : Option Addr) (n8 : Nat) (c9 : Nat) (h5 : Rw (kInt .u8) w (St w []).av A2 n3 c4 x1) (h10 : Rw (kInt .u8) w (St w []).av A7 n8 c9 x6) (hF : ∀ b, F b → b < w.heap.size ∧ ∀ o ∈ ([] : List (List Nat)), b ∉ o) (hL0 : B.Loc w w [] [Sm w.heap.size F w [], St w []]) (r : Bool) (h : trellislaw26_whole x1 x6 r) : Calls Try.prog 14 #[.slice A2 n3 c4, .slice A7 n8 c9] w (trellislaw26_whole_R w F  r) := by
 unfold trellislaw26_whole at h
 refine calls_of_Loc (vs := [.slice A2 n3 c4, .slice A7 n8 c9]) 27 Try.func14 rfl Try.ntmps14 rfl hL0 ?_
 show G (trellislaw26_whole_C w F r) _ _ _ _
 refine g_seq (c := q14c0) rfl ?_
 refine g_region (c := q14c1) rfl rfl ?_
 refine wl_v 0 rfl (v_assign rfl) gn rfl ?_
 refine w_end 1 rfl ?_
 refine g_seq (c := q14c2) rfl ?_
 refine g_seq (c := q14c3) rfl ?_
 refine g_region (c := q14c5) rfl rfl ?_
 refine wl_v 0 rfl (v_assign rfl) gn rfl ?_
 refine w_end 1 rfl ?_
 refine g_block (c := q14c6) rfl ?_
 refine g_loop (c := q14c7) rfl ?_
 have key1 : ∀ s, Rounds (fun (s : Int) o => trellislaw26_whole_b1 x6 x1 s o) s r → (fun (s : Int) => ∀ (_ : Unit), G (trellislaw26_whole_C w F r) [.code q14c8, .inLoop q14c8, .inBlock 0, .code q14c4] [(0, .slice A2 n3 c4), (1, .slice A7 n8 c9), (5, .int .i64 s)] [] [Sm w.heap.size F w [], St w []]) s := by
  intro s hs
  refine Rounds.ind (mot := (fun (s : Int) => ∀ (_ : Unit), G (trellislaw26_whole_C w F r) [.code q14c8, .inLoop q14c8, .inBlock 0, .code q14c4] [(0, .slice A2 n3 c4), (1, .slice A7 n8 c9), (5, .int .i64 s)] [] [Sm w.heap.size F w [], St w []])) ?_ hs
  clear hs s
  intro x15 o1 h hO1
  show ∀ (_ : Unit), G (trellislaw26_whole_C w F r) [.code q14c8, .inLoop q14c8, .inBlock 0, .code q14c4] [(0, .slice A2 n3 c4), (1, .slice A7 n8 c9), (5, .int .i64 x15)] [] [Sm w.heap.size F w [], St w []]
  intro _
  have h : trellislaw26_whole_b1 x6 x1 x15 o1 := h
  unfold trellislaw26_whole_b1 at h
  refine g_seq (c := q14c8) rfl ?_
  refine g_seq (c := q14c9) rfl ?_
  refine g_region (c := q14c11) rfl rfl ?_
  refine wl_v 0 rfl (v_move rfl) gn rfl ?_
  refine wl_v 1 rfl (v_bin rfl rfl rfl) gn rfl ?_
  refine w_end 2 rfl ?_
  by_cases hp30 : x15 < 64
  ·have h := if_pos' hp30 h
   refine g_true (c := q14c12) rfl _ rfl ((decide_eq_true hp30)) ?_
   refine g_skip (c := q14c13) rfl ?_
   refine g_seq (c := q14c10) rfl ?_
   refine g_block (c := q14c15) rfl ?_
   refine g_seq (c := q14c17) rfl ?_
   refine g_region (c := q14c18) rfl rfl ?_
   refine wl_v 0 rfl (v_move rfl) gn rfl ?_
   refine wl_v 1 rfl (v_move rfl) gn rfl ?_
   refine wl_v 2 rfl (v_lenQ un_27 rfl h10.hq) gn rfl ?_
   refine wl_v 3 rfl (v_move rfl) gn rfl ?_
   refine wl_v 4 rfl (v_bin rfl rfl rfl) gn rfl ?_
   obtain ⟨hb31, h⟩ := h
   have hr32 := Rw.readF (s := St w []) (hl := (hlI .u8)) (h1 := (hone_int .u8)) h5 hb31
   refine wl_v 5 rfl (v_idxR (s := St w []) slE_27 rfl rfl h5 hb31) gn rfl ?_
   refine wl_v 6 rfl (v_ldA1 (kk := (w64 ((x6.length : Int) + x15) : Int).toNat * 1) (j := 0) (St w []) ld_5 rfl hr32 rfl (me 1 rfl)) gn rfl ?_
   refine wl_v 7 rfl (v_conv ⟨_, un_5⟩ un_3 rfl) gn rfl ?_
   refine wl_v 8 rfl (v_move rfl) gn rfl ?_
   refine wl_v 9 rfl (v_bin rfl rfl rfl) gn rfl ?_
   refine wl_v 10 rfl (v_bin rfl rfl rfl) gn rfl ?_
   refine w_end 11 rfl ?_
   by_cases hp33 : w64 (ix x1 (w64 ((x6.length : Int) + x15))) = w64 (150 + x15)
   ·have h := if_pos' hp33 h
    refine g_false (c := q14c19) rfl _ rfl ((eqib hp33)) ?_
    refine g_skip (c := q14c21) rfl ?_
    refine g_inBlock ?_
    refine g_region (c := q14c16) rfl rfl ?_
    refine wl_v 0 rfl (v_move rfl) gn rfl ?_
    refine wl_v 1 rfl (v_bin rfl rfl rfl) gn rfl ?_
    refine wl_v 2 rfl (v_assign rfl) gn rfl ?_
    refine w_end 3 rfl ?_
    refine g_inLoop ?_
    have ih := Out.inl hO1 h
    exact g_go [0, 1] (ih ()) ⟨rfl, rfl, rfl, trivial⟩ (.slnil) rfl
   ·have h := if_neg' hp33 h
    refine g_true (c := q14c19) rfl _ rfl ((neib hp33)) ?_
    refine g_seq (c := q14c20) rfl ?_
    refine g_region (c := q14c22) rfl rfl ?_
    refine wl_v 0 rfl (v_assign rfl) gn rfl ?_
    refine w_end 1 rfl ?_
    have h := Out.inr hO1 h
    refine g_retR (c := q14c23) [.bool false] rfl Try.func14 rfl (.tmp rfl (.nil)) fun wr hLr => ?_
    have hMr : B.Loc w wr [] [St w []] := hLr.pick0 (sels [1] rfl)
    show trellislaw26_whole_R w F  r (.returned (packV [.bool false])) wr
    rw [h]
    exact ⟨rfl, hMr⟩
  ·have h := if_neg' hp30 h
   refine g_false (c := q14c12) rfl _ rfl ((decide_eq_false hp30)) ?_
   refine g_exit (c := q14c14) [.code q14c4] rfl rfl ?_
   refine g_seq (c := q14c4) rfl ?_
   refine g_region (c := q14c24) rfl rfl ?_
   refine wl_v 0 rfl (v_move rfl) gn rfl ?_
   refine wl_v 1 rfl (v_move rfl) gn rfl ?_
   refine wl_v 2 rfl (v_lenQ un_27 rfl h10.hq) gn rfl ?_
   obtain ⟨hb34, h⟩ := h
   have h35 := Rw.cutHi (hv := (x6.length : Int)) h5 (by have q := hb34; have q1 := h5.hq; have q2 := h5.hn; omega)
   refine wl_v 3 rfl (v_cutHi (i := (x6.length : Int)) slE_27 rfl rfl (by have q := hb34; have q1 := h5.hq; have q2 := h5.hn; omega) h5.hn rfl) gn rfl ?_
   refine wl_v 4 rfl (v_move rfl) gn rfl ?_
   obtain ⟨r39, hv40, h⟩ := h
   refine wl_s 5 rfl (s_call [.slice A2 (((x6.length : Int) : Int).toNat) c4, .slice A7 n8 c9] rfl Try.func18 rfl rfl rfl fun w36 hL37 => ?_) gn
   have hp38 : List.Perm ([] : List Ent) (([] : List Ent) ++ ([] : List Ent)) := perm_of_idx [] [] rfl rfl (by kernel_rfl)
   refine Calls.mono (trellislaw26_sameBytes_calls w36 (Fl ([] : List Snap)) (x1.take ((x6.length : Int) : Int).toNat) x6 A2 (((x6.length : Int) : Int).toNat) c4 A7 n8 c9 (Rw.mono h35 (hL37.toSt hp38 (me 1 rfl))) (Rw.mono h10 (hL37.toSt hp38 (me 1 rfl))) (hL37.hFl (Sl := ([] : List Snap)) hp38 (sels [] rfl)) (hL37.into hp38 (Fl ([] : List Snap))) r39 hv40) ?_
   rintro _ w41 ⟨rfl, hM42⟩
   have hL43 := hL37.call hp38 hM42
   refine ⟨_, _, _, rfl, hL43, ?_⟩
   refine wl_v 6 rfl (v_assign rfl) gn rfl ?_
   refine w_end 7 rfl ?_
   have h := Out.inr hO1 h
   refine g_retR (c := q14c25) [.bool r39] rfl Try.func14 rfl (.tmp rfl (.nil)) fun wr hLr => ?_
   have hMr : B.Loc w wr [] [St w []] := hLr.pick0 (sels [1] rfl)
   show trellislaw26_whole_R w F  r (.returned (packV [.bool r39])) wr
   rw [h]
   exact ⟨rfl, hMr⟩
 exact g_go [0, 1] (key1 _ h ()) ⟨rfl, rfl, rfl, trivial⟩ (.slnil) rfl
end Go.Proofs.Ytbejkaeidnajkaa.K
