/- What the machine's calls do, function by function, printed by my own tool. Condition of each: its relation holds of the answer, and what is handed in lies in memory as told. -/
import Derived.Test.YtmfopcbjgbphaaaDoorK5
set_option linter.unusedVariables false
set_option maxRecDepth 100000
set_option maxHeartbeats 4000000
namespace Go.Proofs.YtmfopcbjgbphaaaDoor.K
open Go.Proofs.YtmfopcbjgbphaaaDoor.B Go.Proofs.YtmfopcbjgbphaaaDoor.R Go.RowKit
noncomputable abbrev q9c0 : Code := bodyOf Tryd.f9
noncomputable abbrev q9c1 := Code.fst q9c0
noncomputable abbrev q9c2 := Code.snd q9c0
noncomputable abbrev q9c3 := Code.fst q9c2
noncomputable abbrev q9c4 := Code.snd q9c2
noncomputable abbrev q9c5 := Code.fst q9c3
noncomputable abbrev q9c6 := Code.snd q9c3
noncomputable abbrev q9c7 := Code.fst q9c6
noncomputable abbrev q9c8 := Code.snd q9c6
noncomputable abbrev q9c9 := Code.fst q9c4
noncomputable abbrev q9c10 := Code.snd q9c4
noncomputable abbrev q9c11 := Code.fst q9c10
noncomputable abbrev q9c12 := Code.snd q9c10
noncomputable abbrev q9c13 := Code.fst q9c12
noncomputable abbrev q9c14 := Code.snd q9c12
noncomputable abbrev q9c15 := Code.fst q9c14
noncomputable abbrev q9c16 := Code.snd q9c14
noncomputable abbrev q9c17 := Code.fst q9c15
noncomputable abbrev q9c18 := Code.snd q9c15
noncomputable abbrev q9c19 := Code.fst q9c18
noncomputable abbrev q9c20 := Code.fst q9c19
noncomputable abbrev q9c21 := Code.fst q9c20
noncomputable abbrev q9c22 := Code.snd q9c20
noncomputable abbrev q9c23 := Code.fst q9c21
noncomputable abbrev q9c24 := Code.snd q9c21
noncomputable abbrev q9c25 := Code.fst q9c24
noncomputable abbrev q9c26 := Code.snd q9c24
noncomputable abbrev q9c27 := Code.fst q9c22
noncomputable abbrev q9c28 := Code.snd q9c22
noncomputable abbrev q9c29 := Code.fst q9c27
noncomputable abbrev q9c30 := Code.fst q9c16
noncomputable abbrev q9c31 := Code.snd q9c16
noncomputable abbrev q9c32 := Code.fst q9c31
noncomputable abbrev q9c33 := Code.snd q9c31
noncomputable abbrev q9c34 := Code.fst q9c32
noncomputable abbrev q9c35 := Code.snd q9c32
noncomputable abbrev q9c36 := Code.fst q9c35
noncomputable abbrev q9c37 := Code.snd q9c35
noncomputable abbrev q9c38 := Code.fst q9c33
noncomputable abbrev q9c39 := Code.snd q9c33
noncomputable abbrev q9c40 := Code.fst q9c38
noncomputable abbrev q9c41 := Code.snd q9c38
noncomputable abbrev q9c42 := Code.fst q9c41
noncomputable abbrev q9c43 := Code.snd q9c41
noncomputable abbrev q9c44 := Code.fst q9c42
noncomputable abbrev q9c45 := Code.snd q9c42
noncomputable abbrev q9c46 := Code.fst q9c39
noncomputable abbrev q9c47 := Code.snd q9c39
noncomputable abbrev q9c48 := Code.fst q9c47
noncomputable abbrev q9c49 := Code.snd q9c47
noncomputable abbrev q9c50 := Code.fst q9c48
noncomputable abbrev q9c51 := Code.snd q9c48
noncomputable abbrev q9c52 := Code.fst q9c51
noncomputable abbrev q9c53 := Code.snd q9c51
noncomputable abbrev q9c54 := Code.fst q9c49
noncomputable abbrev q9c55 := Code.snd q9c49
noncomputable abbrev q9c56 := Code.fst q9c55
noncomputable abbrev q9c57 := Code.snd q9c55
noncomputable abbrev q9c58 := Code.fst q9c56
noncomputable abbrev q9c59 := Code.snd q9c56
noncomputable abbrev q9c60 := Code.fst q9c59
noncomputable abbrev q9c61 := Code.snd q9c59
noncomputable abbrev q9c62 := Code.fst q9c60
noncomputable abbrev q9c63 := Code.snd q9c60
noncomputable abbrev q9c64 := Code.fst q9c57
noncomputable abbrev q9c65 := Code.snd q9c57
noncomputable abbrev q9c66 := Code.fst q9c65
noncomputable abbrev q9c67 := Code.snd q9c65
noncomputable abbrev q9c68 := Code.fst q9c52
noncomputable abbrev q9c69 := Code.snd q9c52
noncomputable abbrev q9c70 := Code.fst q9c36
noncomputable abbrev q9c71 := Code.snd q9c36
noncomputable abbrev q9c72 := Code.fst q9c70
noncomputable abbrev q9c73 := Code.snd q9c70
noncomputable abbrev q9c74 := Code.fst q9c73
noncomputable abbrev q9c75 := Code.snd q9c73
noncomputable abbrev q9c76 := Code.fst q9c74
noncomputable abbrev q9c77 := Code.snd q9c74
noncomputable abbrev q9c78 := Code.fst q9c71
noncomputable abbrev q9c79 := Code.snd q9c71
noncomputable abbrev q9c80 := Code.fst q9c7
noncomputable abbrev q9c81 := Code.snd q9c7
abbrev tl_JsonBlanks_R (w : World) (F : Nat → Prop) (r : Bool) : Ending → World → Prop := fun e w' => e = .returned (.bool r) ∧ B.Loc w w' [] [St w []]
noncomputable abbrev tl_JsonBlanks_C (w : World) (F : Nat → Prop) (r : Bool) : Cx := ⟨Tryd.prog, 9, Tryd.f9, 175, tl_JsonBlanks_R w F  r, w⟩
theorem tl_JsonBlanks_calls (w : World) (F : Nat → Prop) (x1 : ByteArray) (x2 : Int) (hG0 : Tt .u8 tb_0 0 (St w [])) (hG1 : Tt .u8 tb_1 1 (St w [])) (hG2 : Tt .u8 tb_2 2 (St w [])) (hG3 : Tt .u8 tb_3 3 (St w [])) (hF : ∀ b, F b → b < w.heap.size ∧ ∀ o ∈ ([] : List (List Nat)), b ∉ o) (hL0 : B.Loc w w [] [Sm w.heap.size F w [], St w []]) (r : Bool) (h : tl_JsonBlanks x1 x2 r) : Calls Tryd.prog 9 #[.string x1, .int .i64 x2] w (tl_JsonBlanks_R w F  r) := by
 unfold tl_JsonBlanks at h
 refine calls_of_Loc (vs := [.string x1, .int .i64 x2]) 175 Tryd.func9 rfl Tryd.ntmps9 rfl hL0 ?_
 show G (tl_JsonBlanks_C w F r) _ _ _ _
 refine gSq (c := q9c0) rfl ?_
 refine gRg (c := q9c1) rfl rfl ?_
 refine wl_v 0 rfl (vAs rfl) gn rfl ?_
 refine w_end 1 rfl ?_
 refine gSq (c := q9c2) rfl ?_
 refine gSq (c := q9c3) rfl ?_
 refine gRg (c := q9c5) rfl rfl ?_
 obtain ⟨r6, hv7, h⟩ := h
 refine wl_s 0 rfl (sCl [] rfl Tryd.func28 rfl rfl rfl fun w3 hL4 => ?_) gn
 have hp5 : List.Perm ([] : List Ent) (([] : List Ent) ++ ([] : List Ent)) := pIx [] [] rfl rfl (by kernel_rfl)
 refine Calls.mono (tl_started_calls w3 (Fl ([] : List Snap)) (hL4.tt hp5 hG0 (me 1 rfl)) (hL4.tt hp5 hG1 (me 1 rfl)) (hL4.tt hp5 hG2 (me 1 rfl)) (hL4.tt hp5 hG3 (me 1 rfl)) (hL4.hFl (Sl := ([] : List Snap)) hp5 (sels [] rfl)) (hL4.into hp5 (Fl ([] : List Snap))) r6 hv7) ?_
 rintro _ w8 ⟨rfl, hM9⟩
 have hL10 := hL4.call hp5 hM9
 refine ⟨_, _, _, rfl, hL10, ?_⟩
 refine wl_v 1 rfl (v_not rfl) gn rfl ?_
 refine w_end 2 rfl ?_
 by_cases hp11 : r6 = true
 ·have h := if_pos' hp11 h
  refine gFa (c := q9c6) rfl _ rfl ((nf hp11)) ?_
  refine g_skip (c := q9c8) rfl ?_
  refine gSq (c := q9c4) rfl ?_
  refine gRg (c := q9c9) rfl rfl ?_
  refine wl_v 0 rfl (vMv rfl) gn rfl ?_
  obtain ⟨r15, hv16, h⟩ := h
  refine wl_s 1 rfl (sCl [.string x1] rfl Tryd.func25 rfl rfl rfl fun w12 hL13 => ?_) gn
  have hp14 : List.Perm ([] : List Ent) (([] : List Ent) ++ ([] : List Ent)) := pIx [] [] rfl rfl (by kernel_rfl)
  refine Calls.mono (json_Parse_calls w12 (Fl ([] : List Snap)) x1 (hL13.tt hp14 hG3 (me 1 rfl)) (hL13.hFl (Sl := ([] : List Snap)) hp14 (sels [] rfl)) (hL13.into hp14 (Fl ([] : List Snap))) r15 hv16) ?_
  rintro _ w22 ⟨A17, n18, c19, rfl, hM23, h20⟩
  have hL24 := hL13.call hp14 hM23
  refine ⟨_, _, _, rfl, hL24, ?_⟩
  refine wl_v 2 rfl (vMv rfl) gn rfl ?_
  refine wl_v 3 rfl (v_extract rfl rfl) gn rfl ?_
  refine wl_v 4 rfl (v_extract rfl rfl) gn rfl ?_
  refine wl_v 5 rfl (v_extract rfl rfl) gn rfl ?_
  refine wl_v 6 rfl (vAs rfl) gn rfl ?_
  refine wl_v 7 rfl (vAs rfl) gn rfl ?_
  refine wl_v 8 rfl (vAs rfl) gn rfl ?_
  refine w_end 9 rfl ?_
  refine gSq (c := q9c10) rfl ?_
  refine gRg (c := q9c11) rfl rfl ?_
  refine wl_v 0 rfl (v_buildA ((encA 4 fun j => [.string ((arrL ([(⟨#[32]⟩ : ByteArray), (⟨#[9]⟩ : ByteArray), (⟨#[10]⟩ : ByteArray), (⟨#[13]⟩ : ByteArray)] : List ByteArray)) j)])).toArray bA_42 rfl (by kernel_rfl)) gn rfl ?_
  refine wl_s 1 rfl (s_alloc (encA 4 fun j => [.string ((fun _ => (⟨#[]⟩ : ByteArray)) j)]) zr_42 rfl fun gb25 => ?_) gn
  obtain ⟨x27, hv28, h⟩ := h
  refine wl_s 2 rfl (s_stP (cs' := (encA 4 fun j => [.string (x27 j)])) (m := (encA 4 fun j => [.string ((fun _ => (⟨#[]⟩ : ByteArray)) j)])) (m' := (encA 4 fun j => [.string ((arrL ([(⟨#[32]⟩ : ByteArray), (⟨#[9]⟩ : ByteArray), (⟨#[10]⟩ : ByteArray), (⟨#[13]⟩ : ByteArray)] : List ByteArray)) j)])) 0 sz_42 rfl rfl rfl (by rw [hv28]; exact (Pt.refl _ (encA 4 fun j => [.string ((arrL ([(⟨#[32]⟩ : ByteArray), (⟨#[9]⟩ : ByteArray), (⟨#[10]⟩ : ByteArray), (⟨#[13]⟩ : ByteArray)] : List ByteArray)) j)]))) rfl (encA_len (sz := 1) (f := fun j => [.string ((fun _ => (⟨#[]⟩ : ByteArray)) j)]) (fun j => rfl) 4) (encA_len (sz := 1) (f := fun j => [.string ((arrL ([(⟨#[32]⟩ : ByteArray), (⟨#[9]⟩ : ByteArray), (⟨#[10]⟩ : ByteArray), (⟨#[13]⟩ : ByteArray)] : List ByteArray)) j)]) (fun j => rfl) 4) (encA_one (f := fun j => [.string ((arrL ([(⟨#[32]⟩ : ByteArray), (⟨#[9]⟩ : ByteArray), (⟨#[10]⟩ : ByteArray), (⟨#[13]⟩ : ByteArray)] : List ByteArray)) j)]) (fun j => rfl) 4) ?_) gn
  refine w_end 3 rfl ?_
  refine gSq (c := q9c12) rfl ?_
  refine gRg (c := q9c13) rfl rfl ?_
  refine wl_v 0 rfl (vAs rfl) gn rfl ?_
  refine w_end 1 rfl ?_
  refine gSq (c := q9c14) rfl ?_
  refine gSq (c := q9c15) rfl ?_
  refine gRg (c := q9c17) rfl rfl ?_
  refine wl_v 0 rfl (vAs rfl) gn rfl ?_
  refine w_end 1 rfl ?_
  refine g_block (c := q9c18) rfl ?_
  refine g_loop (c := q9c19) rfl ?_
  have key1 : ∀ s, Rounds (fun (s : ByteArray × Int) o => tl_JsonBlanks_b1 x2 x27 x1 r15 s.1 s.2 o) s r → (fun (s : ByteArray × Int) => ∀ (_ : Unit), G (tl_JsonBlanks_C w F r) [.code q9c20, .inLoop q9c20, .inBlock 0, .code q9c16] [(0, .string x1), (1, .int .i64 x2), (5, .slice A17 n18 c19), (6, .int .i64 r15.2.1), (7, .int .i64 r15.2.2), (8, .pointer (some ⟨gb25, 0, none⟩)), (9, .string s.1), (10, .int .i64 s.2)] [.box gb25 42 (encA 4 fun j => [.string (x27 j)]), .own (.slice A17 n18 c19) 31 4 n18 (r15.1.flatMap eJN)] [Sm w.heap.size F w [], St w []]) s := by
   intro s hs
   refine Rounds.ind (mot := (fun (s : ByteArray × Int) => ∀ (_ : Unit), G (tl_JsonBlanks_C w F r) [.code q9c20, .inLoop q9c20, .inBlock 0, .code q9c16] [(0, .string x1), (1, .int .i64 x2), (5, .slice A17 n18 c19), (6, .int .i64 r15.2.1), (7, .int .i64 r15.2.2), (8, .pointer (some ⟨gb25, 0, none⟩)), (9, .string s.1), (10, .int .i64 s.2)] [.box gb25 42 (encA 4 fun j => [.string (x27 j)]), .own (.slice A17 n18 c19) 31 4 n18 (r15.1.flatMap eJN)] [Sm w.heap.size F w [], St w []])) ?_ hs
   clear hs s
   intro s o1 h hO1
   obtain ⟨x162, x163⟩ := s
   show ∀ (_ : Unit), G (tl_JsonBlanks_C w F r) [.code q9c20, .inLoop q9c20, .inBlock 0, .code q9c16] [(0, .string x1), (1, .int .i64 x2), (5, .slice A17 n18 c19), (6, .int .i64 r15.2.1), (7, .int .i64 r15.2.2), (8, .pointer (some ⟨gb25, 0, none⟩)), (9, .string x162), (10, .int .i64 x163)] [.box gb25 42 (encA 4 fun j => [.string (x27 j)]), .own (.slice A17 n18 c19) 31 4 n18 (r15.1.flatMap eJN)] [Sm w.heap.size F w [], St w []]
   intro _
   have h : tl_JsonBlanks_b1 x2 x27 x1 r15 x162 x163 o1 := h
   unfold tl_JsonBlanks_b1 at h
   refine gSq (c := q9c20) rfl ?_
   refine gSq (c := q9c21) rfl ?_
   refine gRg (c := q9c23) rfl rfl ?_
   refine wl_v 0 rfl (vMv rfl) gn rfl ?_
   refine wl_v 1 rfl (vMv rfl) gn rfl ?_
   refine wl_v 2 rfl (vBn rfl rfl rfl) gn rfl ?_
   refine wl_v 3 rfl (vMv rfl) gn rfl ?_
   by_cases hp426 : x163 < x2
   ·have h := if_pos' hp426 h
    refine w_bool 32 rfl ((decide_eq_true hp426)) ?_
    refine wl_v 4 rfl (vMv rfl) (gy 32 rfl rfl) rfl ?_
    refine wl_v 5 rfl (vBn rfl rfl rfl) (gy 32 rfl rfl) rfl ?_
    refine wl_v 6 rfl (v_pick (b := true) rfl rfl) gn rfl ?_
    refine w_end 7 rfl ?_
    by_cases hp427 : x163 < 9
    ·have h := if_pos' hp427 h
     refine gTr (c := q9c24) rfl _ rfl ((decide_eq_true hp427)) ?_
     refine g_skip (c := q9c25) rfl ?_
     refine gSq (c := q9c22) rfl ?_
     refine g_block (c := q9c27) rfl ?_
     refine gRg (c := q9c29) rfl rfl ?_
     refine wl_v 0 rfl (vMv rfl) gn rfl ?_
     refine wl_v 1 rfl (vMv rfl) gn rfl ?_
     refine wl_v 2 rfl (v_rem rfl rfl (by decide)) gn rfl ?_
     obtain ⟨hb428, h⟩ := h
     refine wl_v 3 rfl (v_idxB ar_42 rfl rfl hb428) gn rfl ?_
     refine wl_v 4 rfl (v_ldP1 0 ld_9 rfl rfl (hp := (Pt.z (Pt.arr (f := x27) (enc := fun y => [.string y]) (fun _ => rfl) hb428 (x27 (Int.tmod x163 4))))) rfl) gn rfl ?_
     obtain ⟨hb429, h⟩ := h
     refine wl_v 5 rfl (v_catS rfl rfl hb429) gn rfl ?_
     refine wl_v 6 rfl (vAs rfl) gn rfl ?_
     refine w_end 7 rfl ?_
     refine g_inBlock ?_
     refine gRg (c := q9c28) rfl rfl ?_
     refine wl_v 0 rfl (vMv rfl) gn rfl ?_
     refine wl_v 1 rfl (vBn rfl rfl rfl) gn rfl ?_
     refine wl_v 2 rfl (vAs rfl) gn rfl ?_
     refine w_end 3 rfl ?_
     refine g_inLoop ?_
     have ih := Out.inl hO1 h
     exact g_go [0, 1] (ih ()) ⟨rfl, rfl, rfl, rfl, rfl, rfl, rfl, rfl, trivial⟩ (.cons_cons _ (.cons_cons _ (.slnil))) rfl
    ·have h := if_neg' hp427 h
     refine gFa (c := q9c24) rfl _ rfl ((decide_eq_false hp427)) ?_
     refine g_exit (c := q9c26) [.code q9c16] rfl rfl ?_
     refine gSq (c := q9c16) rfl ?_
     refine gRg (c := q9c30) rfl rfl ?_
     refine wl_v 0 rfl (vMv rfl) gn rfl ?_
     refine wl_v 1 rfl (vMv rfl) gn rfl ?_
     obtain ⟨hb430, h⟩ := h
     refine wl_v 2 rfl (v_catS rfl rfl hb430) gn rfl ?_
     refine wl_v 3 rfl (vMv rfl) gn rfl ?_
     obtain ⟨hb431, h⟩ := h
     refine wl_v 4 rfl (v_catS rfl rfl hb431) gn rfl ?_
     obtain ⟨r435, hv436, h⟩ := h
     refine wl_s 5 rfl (sCl [.string ((x162 ++ x1) ++ x162)] rfl Tryd.func25 rfl rfl rfl fun w432 hL433 => ?_) gn
     have hp434 : List.Perm ([.box gb25 42 (encA 4 fun j => [.string (x27 j)]), .own (.slice A17 n18 c19) 31 4 n18 (r15.1.flatMap eJN)] : List Ent) (([] : List Ent) ++ ([.box gb25 42 (encA 4 fun j => [.string (x27 j)]), .own (.slice A17 n18 c19) 31 4 n18 (r15.1.flatMap eJN)] : List Ent)) := pIx [] [0, 1] rfl rfl (by kernel_rfl)
     refine Calls.mono (json_Parse_calls w432 (Fl ([] : List Snap)) ((x162 ++ x1) ++ x162) (hL433.tt hp434 hG3 (me 1 rfl)) (hL433.hFl (Sl := ([] : List Snap)) hp434 (sels [] rfl)) (hL433.into hp434 (Fl ([] : List Snap))) r435 hv436) ?_
     rintro _ w442 ⟨A437, n438, c439, rfl, hM443, h440⟩
     have hL444 := hL433.call hp434 hM443
     refine ⟨_, _, _, rfl, hL444, ?_⟩
     refine wl_v 6 rfl (vMv rfl) gn rfl ?_
     refine wl_v 7 rfl (v_extract rfl rfl) gn rfl ?_
     refine wl_v 8 rfl (v_extract rfl rfl) gn rfl ?_
     refine wl_v 9 rfl (v_extract rfl rfl) gn rfl ?_
     refine wl_v 10 rfl (vAs rfl) gn rfl ?_
     refine wl_v 11 rfl (vAs rfl) gn rfl ?_
     refine wl_v 12 rfl (vAs rfl) gn rfl ?_
     refine w_end 13 rfl ?_
     refine gSq (c := q9c31) rfl ?_
     refine gSq (c := q9c32) rfl ?_
     refine gRg (c := q9c34) rfl rfl ?_
     refine wl_v 0 rfl (vMv rfl) gn rfl ?_
     refine wl_v 1 rfl (vBn rfl rfl rfl) gn rfl ?_
     refine w_end 2 rfl ?_
     by_cases hp445 : r15.2.1 = 0
     ·have h := if_pos' hp445 h
      refine gFa (c := q9c35) rfl _ rfl ((eqib hp445)) ?_
      refine g_skip (c := q9c37) rfl ?_
      refine gSq (c := q9c33) rfl ?_
      refine gSq (c := q9c38) rfl ?_
      have j2 : ∀ (x456 : Bool) (h : tl_JsonBlanks_j2 x1 r15 x456 o1) , G (tl_JsonBlanks_C w F r) [.code q9c41, .code q9c39] [(0, .string x1), (5, .slice A17 n18 c19), (98, .bool x456)] [.own (.slice A17 n18 c19) 31 4 n18 (r15.1.flatMap eJN)] [Sm w.heap.size F w [], St w []] := by
       intro x456 h
       unfold tl_JsonBlanks_j2 at h
       by_cases hp457 : x456 = true
       ·have h := if_pos' hp457 h
        refine gTr (c := q9c41) rfl _ rfl (hp457) ?_
        refine gSq (c := q9c42) rfl ?_
        refine gRg (c := q9c44) rfl rfl ?_
        refine wl_v 0 rfl (vAs rfl) gn rfl ?_
        refine w_end 1 rfl ?_
        have h := Out.inr hO1 h
        refine g_retR (c := q9c45) [.bool false] rfl Tryd.func9 rfl (.tmp rfl (.nil)) fun wr hLr => ?_
        have hMr : B.Loc w wr [] [St w []] := hLr.pick0 (sels [1] rfl)
        show tl_JsonBlanks_R w F  r (.returned (packV [.bool false])) wr
        rw [h]
        exact ⟨rfl, hMr⟩
       ·have h := if_neg' hp457 h
        refine gFa (c := q9c41) rfl _ rfl ((bf hp457)) ?_
        refine g_skip (c := q9c43) rfl ?_
        refine gSq (c := q9c39) rfl ?_
        refine gRg (c := q9c46) rfl rfl ?_
        refine wl_v 0 rfl (vMv rfl) gn rfl ?_
        obtain ⟨hb458, h⟩ := h
        refine wl_v 1 rfl (v_catS rfl rfl hb458) gn rfl ?_
        obtain ⟨hb459, h⟩ := h
        refine wl_v 2 rfl (v_catS rfl rfl hb459) gn rfl ?_
        obtain ⟨r463, hv464, h⟩ := h
        refine wl_s 3 rfl (sCl [.string (((⟨#[91]⟩ : ByteArray) ++ x1) ++ (⟨#[93]⟩ : ByteArray))] rfl Tryd.func25 rfl rfl rfl fun w460 hL461 => ?_) gn
        have hp462 : List.Perm ([.own (.slice A17 n18 c19) 31 4 n18 (r15.1.flatMap eJN)] : List Ent) (([] : List Ent) ++ ([.own (.slice A17 n18 c19) 31 4 n18 (r15.1.flatMap eJN)] : List Ent)) := pIx [] [0] rfl rfl (by kernel_rfl)
        refine Calls.mono (json_Parse_calls w460 (Fl ([] : List Snap)) (((⟨#[91]⟩ : ByteArray) ++ x1) ++ (⟨#[93]⟩ : ByteArray)) (hL461.tt hp462 hG3 (me 1 rfl)) (hL461.hFl (Sl := ([] : List Snap)) hp462 (sels [] rfl)) (hL461.into hp462 (Fl ([] : List Snap))) r463 hv464) ?_
        rintro _ w470 ⟨A465, n466, c467, rfl, hM471, h468⟩
        have hL472 := hL461.call hp462 hM471
        refine ⟨_, _, _, rfl, hL472, ?_⟩
        refine wl_v 4 rfl (vMv rfl) gn rfl ?_
        refine wl_v 5 rfl (v_extract rfl rfl) gn rfl ?_
        refine wl_v 6 rfl (v_extract rfl rfl) gn rfl ?_
        refine wl_v 7 rfl (v_extract rfl rfl) gn rfl ?_
        refine wl_v 8 rfl (vAs rfl) gn rfl ?_
        refine wl_v 9 rfl (vAs rfl) gn rfl ?_
        refine wl_v 10 rfl (vAs rfl) gn rfl ?_
        refine w_end 11 rfl ?_
        refine gSq (c := q9c47) rfl ?_
        refine gSq (c := q9c48) rfl ?_
        refine gRg (c := q9c50) rfl rfl ?_
        refine wl_v 0 rfl (vMv rfl) gn rfl ?_
        refine wl_v 1 rfl (vBn rfl rfl rfl) gn rfl ?_
        refine w_end 2 rfl ?_
        by_cases hp473 : r463.2.1 = 0
        ·have h := if_pos' hp473 h
         refine gFa (c := q9c51) rfl _ rfl ((eqib hp473)) ?_
         refine g_skip (c := q9c53) rfl ?_
         refine gSq (c := q9c49) rfl ?_
         refine gRg (c := q9c54) rfl rfl ?_
         refine wl_v 0 rfl (vMv rfl) gn rfl ?_
         obtain ⟨hb474, h⟩ := h
         refine wl_v 1 rfl (v_catS rfl rfl hb474) gn rfl ?_
         obtain ⟨hb475, h⟩ := h
         refine wl_v 2 rfl (v_catS rfl rfl hb475) gn rfl ?_
         obtain ⟨r479, hv480, h⟩ := h
         refine wl_s 3 rfl (sCl [.string (((⟨#[123, 34, 107, 34, 58]⟩ : ByteArray) ++ x1) ++ (⟨#[125]⟩ : ByteArray))] rfl Tryd.func25 rfl rfl rfl fun w476 hL477 => ?_) gn
         have hp478 : List.Perm ([.own (.slice A465 n466 c467) 31 4 n466 (r463.1.flatMap eJN), .own (.slice A17 n18 c19) 31 4 n18 (r15.1.flatMap eJN)] : List Ent) (([] : List Ent) ++ ([.own (.slice A465 n466 c467) 31 4 n466 (r463.1.flatMap eJN), .own (.slice A17 n18 c19) 31 4 n18 (r15.1.flatMap eJN)] : List Ent)) := pIx [] [0, 1] rfl rfl (by kernel_rfl)
         refine Calls.mono (json_Parse_calls w476 (Fl ([] : List Snap)) (((⟨#[123, 34, 107, 34, 58]⟩ : ByteArray) ++ x1) ++ (⟨#[125]⟩ : ByteArray)) (hL477.tt hp478 hG3 (me 1 rfl)) (hL477.hFl (Sl := ([] : List Snap)) hp478 (sels [] rfl)) (hL477.into hp478 (Fl ([] : List Snap))) r479 hv480) ?_
         rintro _ w486 ⟨A481, n482, c483, rfl, hM487, h484⟩
         have hL488 := hL477.call hp478 hM487
         refine ⟨_, _, _, rfl, hL488, ?_⟩
         refine wl_v 4 rfl (vMv rfl) gn rfl ?_
         refine wl_v 5 rfl (v_extract rfl rfl) gn rfl ?_
         refine wl_v 6 rfl (v_extract rfl rfl) gn rfl ?_
         refine wl_v 7 rfl (v_extract rfl rfl) gn rfl ?_
         refine wl_v 8 rfl (vAs rfl) gn rfl ?_
         refine wl_v 9 rfl (vAs rfl) gn rfl ?_
         refine wl_v 10 rfl (vAs rfl) gn rfl ?_
         refine w_end 11 rfl ?_
         refine gSq (c := q9c55) rfl ?_
         refine gSq (c := q9c56) rfl ?_
         have j3 : ∀ (x498 : Bool) (h : tl_JsonBlanks_j3 r479 r463 r15 x498 o1) , G (tl_JsonBlanks_C w F r) [.code q9c59, .code q9c57] [(5, .slice A17 n18 c19), (14, .slice A465 n466 c467), (17, .slice A481 n482 c483), (161, .bool x498)] [.own (.slice A481 n482 c483) 31 4 n482 (r479.1.flatMap eJN), .own (.slice A465 n466 c467) 31 4 n466 (r463.1.flatMap eJN), .own (.slice A17 n18 c19) 31 4 n18 (r15.1.flatMap eJN)] [Sm w.heap.size F w [], St w []] := by
          intro x498 h
          unfold tl_JsonBlanks_j3 at h
          by_cases hp499 : x498 = true
          ·have h := if_pos' hp499 h
           refine gTr (c := q9c59) rfl _ rfl (hp499) ?_
           refine gSq (c := q9c60) rfl ?_
           refine gRg (c := q9c62) rfl rfl ?_
           refine wl_v 0 rfl (vAs rfl) gn rfl ?_
           refine w_end 1 rfl ?_
           have h := Out.inr hO1 h
           refine g_retR (c := q9c63) [.bool false] rfl Tryd.func9 rfl (.tmp rfl (.nil)) fun wr hLr => ?_
           have hMr : B.Loc w wr [] [St w []] := hLr.pick0 (sels [1] rfl)
           show tl_JsonBlanks_R w F  r (.returned (packV [.bool false])) wr
           rw [h]
           exact ⟨rfl, hMr⟩
          ·have h := if_neg' hp499 h
           refine gFa (c := q9c59) rfl _ rfl ((bf hp499)) ?_
           refine g_skip (c := q9c61) rfl ?_
           refine gSq (c := q9c57) rfl ?_
           refine gRg (c := q9c64) rfl rfl ?_
           refine wl_v 0 rfl (vMv rfl) gn rfl ?_
           obtain ⟨hb500, h⟩ := h
           refine wl_v 1 rfl (v_idxO slE_22 rfl rfl (Ow.weak hL477.env.size h484) hb500) gn rfl ?_
           refine wl_v 2 rfl (v_fldA fo_31_1 rfl) gn rfl ?_
           obtain ⟨x501, hv502, h⟩ := h
           refine wl_s 3 rfl (s_stF (enc := eJN) (o := 1) (z := ({ (ix r479.1 1) with key := (⟨#[]⟩ : ByteArray) })) (vs := [.string (⟨#[]⟩ : ByteArray)]) (i := 1) 0 hl_api_JNode sz_9 rfl rfl rfl rfl rfl (Ow.weak hL477.env.size h484) hb500 rfl rfl rfl hv502 fun h503 => ?_) gn
           refine w_end 4 rfl ?_
           refine gSq (c := q9c65) rfl ?_
           refine gRg (c := q9c66) rfl rfl ?_
           refine wl_v 0 rfl (vMv rfl) gn rfl ?_
           obtain ⟨hb504, h⟩ := h
           have hv505 : Vw 4 A465 n466 (1 : Int).toNat ((((n466 : Nat) : Int) : Int).toNat - (1 : Int).toNat) (if (((c467 : Nat) : Int) : Int).toNat = (1 : Int).toNat then A465 else A465.map (·.add ((1 : Int).toNat * 4))) := Vw.cut (by have q := hb504; have q1 := (Ow.weak hL461.env.size h468).hq; have q2 := (Ow.weak hL461.env.size h468).hn; omega) (by have q := hb504; have q1 := (Ow.weak hL461.env.size h468).hq; have q2 := (Ow.weak hL461.env.size h468).hn; omega) (by have q := hb504; have q1 := (Ow.weak hL461.env.size h468).hq; have q2 := (Ow.weak hL461.env.size h468).hn; omega)
           refine wl_v 1 rfl (v_cut (sz := 4) (n := n466) (c := c467) 1 ((n466 : Nat) : Int) ((c467 : Nat) : Int) slE_22 rfl (by_ rfl) bn bn (by have q := hb504; have q1 := (Ow.weak hL461.env.size h468).hq; have q2 := (Ow.weak hL461.env.size h468).hn; omega) (by have q := hb504; have q1 := (Ow.weak hL461.env.size h468).hq; have q2 := (Ow.weak hL461.env.size h468).hn; omega) (by have q := hb504; have q1 := (Ow.weak hL461.env.size h468).hq; have q2 := (Ow.weak hL461.env.size h468).hn; omega) (Ow.weak hL461.env.size h468).hn rfl) gn rfl ?_
           refine wl_v 2 rfl (vMv rfl) gn rfl ?_
           obtain ⟨r509, hv510, h⟩ := h
           refine wl_s 3 rfl (sCl [.slice (if (((c467 : Nat) : Int) : Int).toNat = (1 : Int).toNat then A465 else A465.map (·.add ((1 : Int).toNat * 4))) ((((n466 : Nat) : Int) : Int).toNat - (1 : Int).toNat) ((((c467 : Nat) : Int) : Int).toNat - (1 : Int).toNat), .slice A17 n18 c19] rfl Tryd.func27 rfl rfl rfl fun w506 hL507 => ?_) gn
           have hp508 : List.Perm ([.own (.slice A481 n482 c483) 31 4 n482 (x501.flatMap eJN), .own (.slice A465 n466 c467) 31 4 n466 (r463.1.flatMap eJN), .own (.slice A17 n18 c19) 31 4 n18 (r15.1.flatMap eJN)] : List Ent) (([] : List Ent) ++ ([.own (.slice A481 n482 c483) 31 4 n482 (x501.flatMap eJN), .own (.slice A465 n466 c467) 31 4 n466 (r463.1.flatMap eJN), .own (.slice A17 n18 c19) 31 4 n18 (r15.1.flatMap eJN)] : List Ent)) := pIx [] [0, 1, 2] rfl rfl (by kernel_rfl)
           refine Calls.mono (tl_same_calls w506 (Fl ([] : List Snap)) ((r463.1.drop (1 : Int).toNat).take ((r463.1.length : Int).toNat - (1 : Int).toNat)) r15.1 (if (((c467 : Nat) : Int) : Int).toNat = (1 : Int).toNat then A465 else A465.map (·.add ((1 : Int).toNat * 4))) ((((n466 : Nat) : Int) : Int).toNat - (1 : Int).toNat) ((((c467 : Nat) : Int) : Int).toNat - (1 : Int).toNat) A17 n18 c19 (Rw.w (hL507.argV (dk := k_api_JNode) hp508 [] rfl 1 rfl rfl (Ow.weak hL461.env.size h468) (me 0 rfl) (Cells.flat _) hv505 (by have q := hb504; have q1 := (Ow.weak hL461.env.size h468).hq; have q2 := (Ow.weak hL461.env.size h468).hn; omega) (Nat.le_trans (Nat.sub_le _ _) (by have q := (Ow.weak hL461.env.size h468).hm; have q1 := hb504; omega))) (by rw [(Ow.weak hL461.env.size h468).hq])) (hL507.argO (dk := k_api_JNode) hp508 [] rfl 2 rfl rfl (Ow.weak hL13.env.size h20) (me 0 rfl) (Cells.flat _)) (hL507.hFl (Sl := ([] : List Snap)) hp508 (sels [] rfl)) (hL507.into hp508 (Fl ([] : List Snap))) r509 hv510) ?_
           rintro _ w511 ⟨rfl, hM512⟩
           have hL513 := hL507.call hp508 hM512
           refine ⟨_, _, _, rfl, hL513, ?_⟩
           refine wl_v 4 rfl (vMv rfl) gn rfl ?_
           by_cases hp514 : r509 = true
           ·have h := if_pos' hp514 h
            refine w_bool 169 rfl (hp514) ?_
            refine wl_v 5 rfl (vMv rfl) (gy 169 rfl rfl) rfl ?_
            obtain ⟨hb515, h⟩ := h
            have hv516 : Vw 4 A481 n482 (1 : Int).toNat ((((n482 : Nat) : Int) : Int).toNat - (1 : Int).toNat) (if (((c483 : Nat) : Int) : Int).toNat = (1 : Int).toNat then A481 else A481.map (·.add ((1 : Int).toNat * 4))) := Vw.cut (by have q := hb515; have q1 := h503.hq; have q2 := h503.hn; omega) (by have q := hb515; have q1 := h503.hq; have q2 := h503.hn; omega) (by have q := hb515; have q1 := h503.hq; have q2 := h503.hn; omega)
            refine wl_v 6 rfl (v_cut (sz := 4) (n := n482) (c := c483) 1 ((n482 : Nat) : Int) ((c483 : Nat) : Int) slE_22 rfl (by_ rfl) bn bn (by have q := hb515; have q1 := h503.hq; have q2 := h503.hn; omega) (by have q := hb515; have q1 := h503.hq; have q2 := h503.hn; omega) (by have q := hb515; have q1 := h503.hq; have q2 := h503.hn; omega) h503.hn rfl) (gy 169 rfl rfl) rfl ?_
            refine wl_v 7 rfl (vMv rfl) (gy 169 rfl rfl) rfl ?_
            obtain ⟨r520, hv521, h⟩ := h
            refine wl_s 8 rfl (sCl [.slice (if (((c483 : Nat) : Int) : Int).toNat = (1 : Int).toNat then A481 else A481.map (·.add ((1 : Int).toNat * 4))) ((((n482 : Nat) : Int) : Int).toNat - (1 : Int).toNat) ((((c483 : Nat) : Int) : Int).toNat - (1 : Int).toNat), .slice A17 n18 c19] rfl Tryd.func27 rfl rfl rfl fun w517 hL518 => ?_) (gy 169 rfl rfl)
            have hp519 : List.Perm ([.own (.slice A481 n482 c483) 31 4 n482 (x501.flatMap eJN), .own (.slice A465 n466 c467) 31 4 n466 (r463.1.flatMap eJN), .own (.slice A17 n18 c19) 31 4 n18 (r15.1.flatMap eJN)] : List Ent) (([] : List Ent) ++ ([.own (.slice A481 n482 c483) 31 4 n482 (x501.flatMap eJN), .own (.slice A465 n466 c467) 31 4 n466 (r463.1.flatMap eJN), .own (.slice A17 n18 c19) 31 4 n18 (r15.1.flatMap eJN)] : List Ent)) := pIx [] [0, 1, 2] rfl rfl (by kernel_rfl)
            refine Calls.mono (tl_same_calls w517 (Fl ([] : List Snap)) ((x501.drop (1 : Int).toNat).take ((x501.length : Int).toNat - (1 : Int).toNat)) r15.1 (if (((c483 : Nat) : Int) : Int).toNat = (1 : Int).toNat then A481 else A481.map (·.add ((1 : Int).toNat * 4))) ((((n482 : Nat) : Int) : Int).toNat - (1 : Int).toNat) ((((c483 : Nat) : Int) : Int).toNat - (1 : Int).toNat) A17 n18 c19 (Rw.w (hL518.argV (dk := k_api_JNode) hp519 [] rfl 0 rfl rfl h503 (me 0 rfl) (Cells.flat _) hv516 (by have q := hb515; have q1 := h503.hq; have q2 := h503.hn; omega) (Nat.le_trans (Nat.sub_le _ _) (by have q := h503.hm; have q1 := hb515; omega))) (by rw [h503.hq])) (hL518.argO (dk := k_api_JNode) hp519 [] rfl 2 rfl rfl (Ow.weak hL13.env.size h20) (me 0 rfl) (Cells.flat _)) (hL518.hFl (Sl := ([] : List Snap)) hp519 (sels [] rfl)) (hL518.into hp519 (Fl ([] : List Snap))) r520 hv521) ?_
            rintro _ w522 ⟨rfl, hM523⟩
            have hL524 := hL518.call hp519 hM523
            refine ⟨_, _, _, rfl, hL524, ?_⟩
            refine wl_v 9 rfl (v_pick (b := true) rfl rfl) gn rfl ?_
            refine wl_v 10 rfl (vAs rfl) gn rfl ?_
            refine w_end 11 rfl ?_
            have h := Out.inr hO1 h
            refine g_retR (c := q9c67) [.bool r520] rfl Tryd.func9 rfl (.tmp rfl (.nil)) fun wr hLr => ?_
            have hMr : B.Loc w wr [] [St w []] := hLr.pick0 (sels [1] rfl)
            show tl_JsonBlanks_R w F  r (.returned (packV [.bool r520])) wr
            rw [h]
            exact ⟨rfl, hMr⟩
           ·have h := if_neg' hp514 h
            refine w_bool 169 rfl ((bf hp514)) ?_
            refine wl_pass 5 rfl (ps 169 rfl rfl rfl) ?_
            refine wl_pass 6 rfl (ps 169 rfl rfl rfl) ?_
            refine wl_pass 7 rfl (ps 169 rfl rfl rfl) ?_
            refine wl_pass 8 rfl (ps 169 rfl rfl rfl) ?_
            refine wl_v 9 rfl (v_pick (b := false) rfl rfl) gn rfl ?_
            refine wl_v 10 rfl (vAs rfl) gn rfl ?_
            refine w_end 11 rfl ?_
            have h := Out.inr hO1 h
            refine g_retR (c := q9c67) [.bool false] rfl Tryd.func9 rfl (.tmp rfl (.nil)) fun wr hLr => ?_
            have hMr : B.Loc w wr [] [St w []] := hLr.pick0 (sels [1] rfl)
            show tl_JsonBlanks_R w F  r (.returned (packV [.bool false])) wr
            rw [h]
            exact ⟨rfl, hMr⟩
         refine gRg (c := q9c58) rfl rfl ?_
         refine wl_v 0 rfl (vMv rfl) gn rfl ?_
         refine wl_v 1 rfl (vBn rfl rfl rfl) gn rfl ?_
         refine wl_v 2 rfl (vMv rfl) gn rfl ?_
         by_cases hp525 : r479.2.1 = 0
         ·have h := if_pos' hp525 h
          refine w_bool 125 rfl ((eqib hp525)) ?_
          refine wl_v 3 rfl (vMv rfl) (gy 125 rfl rfl) rfl ?_
          refine wl_v 4 rfl (v_lenQ un_22 rfl (Ow.weak hL461.env.size h468).hq) (gy 125 rfl rfl) rfl ?_
          refine wl_v 5 rfl (vMv rfl) (gy 125 rfl rfl) rfl ?_
          refine wl_v 6 rfl (v_lenQ un_22 rfl (Ow.weak hL13.env.size h20).hq) (gy 125 rfl rfl) rfl ?_
          refine wl_v 7 rfl (vBn rfl rfl rfl) (gy 125 rfl rfl) rfl ?_
          refine wl_v 8 rfl (vBn rfl rfl rfl) (gy 125 rfl rfl) rfl ?_
          refine wl_v 9 rfl (v_pick (b := false) rfl rfl) gn rfl ?_
          refine wl_v 10 rfl (vMv rfl) gn rfl ?_
          by_cases hp526 : (r463.1.length : Int) = w64 ((r15.1.length : Int) + 1)
          ·have h := if_pos' hp526 h
           refine w_bool 133 rfl ((eqib hp526)) ?_
           refine wl_v 11 rfl (vMv rfl) (gy 133 rfl rfl) rfl ?_
           refine wl_v 12 rfl (v_lenQ un_22 rfl (Ow.weak hL477.env.size h484).hq) (gy 133 rfl rfl) rfl ?_
           refine wl_v 13 rfl (vMv rfl) (gy 133 rfl rfl) rfl ?_
           refine wl_v 14 rfl (v_lenQ un_22 rfl (Ow.weak hL13.env.size h20).hq) (gy 133 rfl rfl) rfl ?_
           refine wl_v 15 rfl (vBn rfl rfl rfl) (gy 133 rfl rfl) rfl ?_
           refine wl_v 16 rfl (vBn rfl rfl rfl) (gy 133 rfl rfl) rfl ?_
           refine wl_v 17 rfl (v_pick (b := false) rfl rfl) gn rfl ?_
           refine wl_v 18 rfl (vMv rfl) gn rfl ?_
           by_cases hp527 : (r479.1.length : Int) = w64 ((r15.1.length : Int) + 1)
           ·have h := if_pos' hp527 h
            refine w_bool 141 rfl ((eqib hp527)) ?_
            refine wl_v 19 rfl (vMv rfl) (gy 141 rfl rfl) rfl ?_
            obtain ⟨hb528, h⟩ := h
            refine wl_v 20 rfl (v_idxO slE_22 rfl rfl (Ow.weak hL461.env.size h468) hb528) (gy 141 rfl rfl) rfl ?_
            refine wl_v 21 rfl (v_fldA fo_31_3 rfl) (gy 141 rfl rfl) rfl ?_
            refine wl_v 22 rfl (v_ldO1 (.int .i64 ((ix r463.1 0).kids)) 1 ld_3 rfl rfl (fm_get hl_api_JNode hb528 rfl)) (gy 141 rfl rfl) rfl ?_
            refine wl_v 23 rfl (vBn rfl rfl rfl) (gy 141 rfl rfl) rfl ?_
            refine wl_v 24 rfl (v_pick (b := false) rfl rfl) gn rfl ?_
            refine wl_v 25 rfl (vMv rfl) gn rfl ?_
            by_cases hp529 : (ix r463.1 0).kids = 1
            ·have h := if_pos' hp529 h
             refine w_bool 148 rfl ((eqib hp529)) ?_
             refine wl_v 26 rfl (vMv rfl) (gy 148 rfl rfl) rfl ?_
             obtain ⟨hb530, h⟩ := h
             refine wl_v 27 rfl (v_idxO slE_22 rfl rfl (Ow.weak hL477.env.size h484) hb530) (gy 148 rfl rfl) rfl ?_
             refine wl_v 28 rfl (v_fldA fo_31_3 rfl) (gy 148 rfl rfl) rfl ?_
             refine wl_v 29 rfl (v_ldO1 (.int .i64 ((ix r479.1 0).kids)) 0 ld_3 rfl rfl (fm_get hl_api_JNode hb530 rfl)) (gy 148 rfl rfl) rfl ?_
             refine wl_v 30 rfl (vBn rfl rfl rfl) (gy 148 rfl rfl) rfl ?_
             refine wl_v 31 rfl (v_pick (b := false) rfl rfl) gn rfl ?_
             refine wl_v 32 rfl (vMv rfl) gn rfl ?_
             by_cases hp531 : (ix r479.1 0).kids = 1
             ·have h := if_pos' hp531 h
              refine w_bool 155 rfl ((eqib hp531)) ?_
              refine wl_v 33 rfl (vMv rfl) (gy 155 rfl rfl) rfl ?_
              obtain ⟨hb532, h⟩ := h
              refine wl_v 34 rfl (v_idxO slE_22 rfl rfl (Ow.weak hL477.env.size h484) hb532) (gy 155 rfl rfl) rfl ?_
              refine wl_v 35 rfl (v_fldA fo_31_1 rfl) (gy 155 rfl rfl) rfl ?_
              refine wl_v 36 rfl (v_ldO1 (.string ((ix r479.1 1).key)) 0 ld_9 rfl rfl (fm_get hl_api_JNode hb532 rfl)) (gy 155 rfl rfl) rfl ?_
              refine wl_v 37 rfl (v_neS rfl rfl) (gy 155 rfl rfl) rfl ?_
              refine wl_v 38 rfl (v_pick (b := false) rfl rfl) gn rfl ?_
              refine w_end 39 rfl ?_
              exact g_go [0, 1] (j3 (!(seq ((ix r479.1 1).key) (⟨#[107]⟩ : ByteArray))) h) ⟨rfl, rfl, rfl, rfl, trivial⟩ (.cons_cons _ (.cons_cons _ (.cons_cons _ (.slnil)))) rfl
             ·have h := if_neg' hp531 h
              refine w_bool 155 rfl ((neib hp531)) ?_
              refine wl_pass 33 rfl (ps 155 rfl rfl rfl) ?_
              refine wl_pass 34 rfl (ps 155 rfl rfl rfl) ?_
              refine wl_pass 35 rfl (ps 155 rfl rfl rfl) ?_
              refine wl_pass 36 rfl (ps 155 rfl rfl rfl) ?_
              refine wl_pass 37 rfl (ps 155 rfl rfl rfl) ?_
              refine wl_v 38 rfl (v_pick (b := true) rfl rfl) gn rfl ?_
              refine w_end 39 rfl ?_
              exact g_go [0, 1] (j3 true h) ⟨rfl, rfl, rfl, rfl, trivial⟩ (.cons_cons _ (.cons_cons _ (.cons_cons _ (.slnil)))) rfl
            ·have h := if_neg' hp529 h
             refine w_bool 148 rfl ((neib hp529)) ?_
             refine wl_pass 26 rfl (ps 148 rfl rfl rfl) ?_
             refine wl_pass 27 rfl (ps 148 rfl rfl rfl) ?_
             refine wl_pass 28 rfl (ps 148 rfl rfl rfl) ?_
             refine wl_pass 29 rfl (ps 148 rfl rfl rfl) ?_
             refine wl_pass 30 rfl (ps 148 rfl rfl rfl) ?_
             refine wl_v 31 rfl (v_pick (b := true) rfl rfl) gn rfl ?_
             refine wl_v 32 rfl (vMv rfl) gn rfl ?_
             refine wl_pass 33 rfl (ps 155 rfl rfl rfl) ?_
             refine wl_pass 34 rfl (ps 155 rfl rfl rfl) ?_
             refine wl_pass 35 rfl (ps 155 rfl rfl rfl) ?_
             refine wl_pass 36 rfl (ps 155 rfl rfl rfl) ?_
             refine wl_pass 37 rfl (ps 155 rfl rfl rfl) ?_
             refine wl_v 38 rfl (v_pick (b := true) rfl rfl) gn rfl ?_
             refine w_end 39 rfl ?_
             exact g_go [0, 1] (j3 true h) ⟨rfl, rfl, rfl, rfl, trivial⟩ (.cons_cons _ (.cons_cons _ (.cons_cons _ (.slnil)))) rfl
           ·have h := if_neg' hp527 h
            refine w_bool 141 rfl ((neib hp527)) ?_
            refine wl_pass 19 rfl (ps 141 rfl rfl rfl) ?_
            refine wl_pass 20 rfl (ps 141 rfl rfl rfl) ?_
            refine wl_pass 21 rfl (ps 141 rfl rfl rfl) ?_
            refine wl_pass 22 rfl (ps 141 rfl rfl rfl) ?_
            refine wl_pass 23 rfl (ps 141 rfl rfl rfl) ?_
            refine wl_v 24 rfl (v_pick (b := true) rfl rfl) gn rfl ?_
            refine wl_v 25 rfl (vMv rfl) gn rfl ?_
            refine wl_pass 26 rfl (ps 148 rfl rfl rfl) ?_
            refine wl_pass 27 rfl (ps 148 rfl rfl rfl) ?_
            refine wl_pass 28 rfl (ps 148 rfl rfl rfl) ?_
            refine wl_pass 29 rfl (ps 148 rfl rfl rfl) ?_
            refine wl_pass 30 rfl (ps 148 rfl rfl rfl) ?_
            refine wl_v 31 rfl (v_pick (b := true) rfl rfl) gn rfl ?_
            refine wl_v 32 rfl (vMv rfl) gn rfl ?_
            refine wl_pass 33 rfl (ps 155 rfl rfl rfl) ?_
            refine wl_pass 34 rfl (ps 155 rfl rfl rfl) ?_
            refine wl_pass 35 rfl (ps 155 rfl rfl rfl) ?_
            refine wl_pass 36 rfl (ps 155 rfl rfl rfl) ?_
            refine wl_pass 37 rfl (ps 155 rfl rfl rfl) ?_
            refine wl_v 38 rfl (v_pick (b := true) rfl rfl) gn rfl ?_
            refine w_end 39 rfl ?_
            exact g_go [0, 1] (j3 true h) ⟨rfl, rfl, rfl, rfl, trivial⟩ (.cons_cons _ (.cons_cons _ (.cons_cons _ (.slnil)))) rfl
          ·have h := if_neg' hp526 h
           refine w_bool 133 rfl ((neib hp526)) ?_
           refine wl_pass 11 rfl (ps 133 rfl rfl rfl) ?_
           refine wl_pass 12 rfl (ps 133 rfl rfl rfl) ?_
           refine wl_pass 13 rfl (ps 133 rfl rfl rfl) ?_
           refine wl_pass 14 rfl (ps 133 rfl rfl rfl) ?_
           refine wl_pass 15 rfl (ps 133 rfl rfl rfl) ?_
           refine wl_pass 16 rfl (ps 133 rfl rfl rfl) ?_
           refine wl_v 17 rfl (v_pick (b := true) rfl rfl) gn rfl ?_
           refine wl_v 18 rfl (vMv rfl) gn rfl ?_
           refine wl_pass 19 rfl (ps 141 rfl rfl rfl) ?_
           refine wl_pass 20 rfl (ps 141 rfl rfl rfl) ?_
           refine wl_pass 21 rfl (ps 141 rfl rfl rfl) ?_
           refine wl_pass 22 rfl (ps 141 rfl rfl rfl) ?_
           refine wl_pass 23 rfl (ps 141 rfl rfl rfl) ?_
           refine wl_v 24 rfl (v_pick (b := true) rfl rfl) gn rfl ?_
           refine wl_v 25 rfl (vMv rfl) gn rfl ?_
           refine wl_pass 26 rfl (ps 148 rfl rfl rfl) ?_
           refine wl_pass 27 rfl (ps 148 rfl rfl rfl) ?_
           refine wl_pass 28 rfl (ps 148 rfl rfl rfl) ?_
           refine wl_pass 29 rfl (ps 148 rfl rfl rfl) ?_
           refine wl_pass 30 rfl (ps 148 rfl rfl rfl) ?_
           refine wl_v 31 rfl (v_pick (b := true) rfl rfl) gn rfl ?_
           refine wl_v 32 rfl (vMv rfl) gn rfl ?_
           refine wl_pass 33 rfl (ps 155 rfl rfl rfl) ?_
           refine wl_pass 34 rfl (ps 155 rfl rfl rfl) ?_
           refine wl_pass 35 rfl (ps 155 rfl rfl rfl) ?_
           refine wl_pass 36 rfl (ps 155 rfl rfl rfl) ?_
           refine wl_pass 37 rfl (ps 155 rfl rfl rfl) ?_
           refine wl_v 38 rfl (v_pick (b := true) rfl rfl) gn rfl ?_
           refine w_end 39 rfl ?_
           exact g_go [0, 1] (j3 true h) ⟨rfl, rfl, rfl, rfl, trivial⟩ (.cons_cons _ (.cons_cons _ (.cons_cons _ (.slnil)))) rfl
         ·have h := if_neg' hp525 h
          refine w_bool 125 rfl ((neib hp525)) ?_
          refine wl_pass 3 rfl (ps 125 rfl rfl rfl) ?_
          refine wl_pass 4 rfl (ps 125 rfl rfl rfl) ?_
          refine wl_pass 5 rfl (ps 125 rfl rfl rfl) ?_
          refine wl_pass 6 rfl (ps 125 rfl rfl rfl) ?_
          refine wl_pass 7 rfl (ps 125 rfl rfl rfl) ?_
          refine wl_pass 8 rfl (ps 125 rfl rfl rfl) ?_
          refine wl_v 9 rfl (v_pick (b := true) rfl rfl) gn rfl ?_
          refine wl_v 10 rfl (vMv rfl) gn rfl ?_
          refine wl_pass 11 rfl (ps 133 rfl rfl rfl) ?_
          refine wl_pass 12 rfl (ps 133 rfl rfl rfl) ?_
          refine wl_pass 13 rfl (ps 133 rfl rfl rfl) ?_
          refine wl_pass 14 rfl (ps 133 rfl rfl rfl) ?_
          refine wl_pass 15 rfl (ps 133 rfl rfl rfl) ?_
          refine wl_pass 16 rfl (ps 133 rfl rfl rfl) ?_
          refine wl_v 17 rfl (v_pick (b := true) rfl rfl) gn rfl ?_
          refine wl_v 18 rfl (vMv rfl) gn rfl ?_
          refine wl_pass 19 rfl (ps 141 rfl rfl rfl) ?_
          refine wl_pass 20 rfl (ps 141 rfl rfl rfl) ?_
          refine wl_pass 21 rfl (ps 141 rfl rfl rfl) ?_
          refine wl_pass 22 rfl (ps 141 rfl rfl rfl) ?_
          refine wl_pass 23 rfl (ps 141 rfl rfl rfl) ?_
          refine wl_v 24 rfl (v_pick (b := true) rfl rfl) gn rfl ?_
          refine wl_v 25 rfl (vMv rfl) gn rfl ?_
          refine wl_pass 26 rfl (ps 148 rfl rfl rfl) ?_
          refine wl_pass 27 rfl (ps 148 rfl rfl rfl) ?_
          refine wl_pass 28 rfl (ps 148 rfl rfl rfl) ?_
          refine wl_pass 29 rfl (ps 148 rfl rfl rfl) ?_
          refine wl_pass 30 rfl (ps 148 rfl rfl rfl) ?_
          refine wl_v 31 rfl (v_pick (b := true) rfl rfl) gn rfl ?_
          refine wl_v 32 rfl (vMv rfl) gn rfl ?_
          refine wl_pass 33 rfl (ps 155 rfl rfl rfl) ?_
          refine wl_pass 34 rfl (ps 155 rfl rfl rfl) ?_
          refine wl_pass 35 rfl (ps 155 rfl rfl rfl) ?_
          refine wl_pass 36 rfl (ps 155 rfl rfl rfl) ?_
          refine wl_pass 37 rfl (ps 155 rfl rfl rfl) ?_
          refine wl_v 38 rfl (v_pick (b := true) rfl rfl) gn rfl ?_
          refine w_end 39 rfl ?_
          exact g_go [0, 1] (j3 true h) ⟨rfl, rfl, rfl, rfl, trivial⟩ (.cons_cons _ (.cons_cons _ (.cons_cons _ (.slnil)))) rfl
        ·have h := if_neg' hp473 h
         refine gTr (c := q9c51) rfl _ rfl ((neib hp473)) ?_
         refine gSq (c := q9c52) rfl ?_
         have j4 : ∀ (x535 : Bool) (h : tl_JsonBlanks_j4 x535 o1) , G (tl_JsonBlanks_C w F r) [.code q9c69, .code q9c49] [(4, .bool x535)] [] [Sm w.heap.size F w [], St w []] := by
          intro x535 h
          unfold tl_JsonBlanks_j4 at h
          have h := Out.inr hO1 h
          refine g_retR (c := q9c69) [.bool x535] rfl Tryd.func9 rfl (.tmp rfl (.nil)) fun wr hLr => ?_
          have hMr : B.Loc w wr [] [St w []] := hLr.pick0 (sels [1] rfl)
          show tl_JsonBlanks_R w F  r (.returned (packV [.bool x535])) wr
          rw [h]
          exact ⟨rfl, hMr⟩
         refine gRg (c := q9c68) rfl rfl ?_
         refine wl_v 0 rfl (vMv rfl) gn rfl ?_
         refine wl_v 1 rfl (vBn rfl rfl rfl) gn rfl ?_
         refine wl_v 2 rfl (vMv rfl) gn rfl ?_
         by_cases hp536 : r463.2.1 = 251
         ·have h := if_pos' hp536 h
          refine w_bool 111 rfl ((eqi hp536)) ?_
          refine wl_v 3 rfl (vMv rfl) (gy 111 rfl rfl) rfl ?_
          refine wl_v 4 rfl (vBn rfl rfl rfl) (gy 111 rfl rfl) rfl ?_
          refine wl_v 5 rfl (v_pick (b := true) rfl rfl) gn rfl ?_
          refine wl_v 6 rfl (vAs rfl) gn rfl ?_
          refine w_end 7 rfl ?_
          exact g_go [0, 1] (j4 (decide (r463.2.2 > 0)) h) ⟨rfl, trivial⟩ (.cons _ (.cons _ (.slnil))) rfl
         ·have h := if_neg' hp536 h
          refine w_bool 111 rfl ((nei hp536)) ?_
          refine wl_pass 3 rfl (ps 111 rfl rfl rfl) ?_
          refine wl_pass 4 rfl (ps 111 rfl rfl rfl) ?_
          refine wl_v 5 rfl (v_pick (b := false) rfl rfl) gn rfl ?_
          refine wl_v 6 rfl (vAs rfl) gn rfl ?_
          refine w_end 7 rfl ?_
          exact g_go [0, 1] (j4 false h) ⟨rfl, trivial⟩ (.cons _ (.cons _ (.slnil))) rfl
      refine gRg (c := q9c40) rfl rfl ?_
      refine wl_v 0 rfl (vMv rfl) gn rfl ?_
      refine wl_v 1 rfl (vBn rfl rfl rfl) gn rfl ?_
      refine wl_v 2 rfl (vMv rfl) gn rfl ?_
      by_cases hp537 : r435.2.1 = 0
      ·have h := if_pos' hp537 h
       refine w_bool 93 rfl ((eqib hp537)) ?_
       refine wl_v 3 rfl (vMv rfl) (gy 93 rfl rfl) rfl ?_
       refine wl_v 4 rfl (vMv rfl) (gy 93 rfl rfl) rfl ?_
       obtain ⟨r541, hv542, h⟩ := h
       refine wl_s 5 rfl (sCl [.slice A17 n18 c19, .slice A437 n438 c439] rfl Tryd.func27 rfl rfl rfl fun w538 hL539 => ?_) (gy 93 rfl rfl)
       have hp540 : List.Perm ([.own (.slice A437 n438 c439) 31 4 n438 (r435.1.flatMap eJN), .box gb25 42 (encA 4 fun j => [.string (x27 j)]), .own (.slice A17 n18 c19) 31 4 n18 (r15.1.flatMap eJN)] : List Ent) (([] : List Ent) ++ ([.own (.slice A437 n438 c439) 31 4 n438 (r435.1.flatMap eJN), .box gb25 42 (encA 4 fun j => [.string (x27 j)]), .own (.slice A17 n18 c19) 31 4 n18 (r15.1.flatMap eJN)] : List Ent)) := pIx [] [0, 1, 2] rfl rfl (by kernel_rfl)
       refine Calls.mono (tl_same_calls w538 (Fl ([] : List Snap)) r15.1 r435.1 A17 n18 c19 A437 n438 c439 (hL539.argO (dk := k_api_JNode) hp540 [] rfl 2 rfl rfl (Ow.weak hL13.env.size h20) (me 0 rfl) (Cells.flat _)) (hL539.argO (dk := k_api_JNode) hp540 [] rfl 0 rfl rfl (Ow.weak hL433.env.size h440) (me 0 rfl) (Cells.flat _)) (hL539.hFl (Sl := ([] : List Snap)) hp540 (sels [] rfl)) (hL539.into hp540 (Fl ([] : List Snap))) r541 hv542) ?_
       rintro _ w543 ⟨rfl, hM544⟩
       have hL545 := hL539.call hp540 hM544
       refine ⟨_, _, _, rfl, hL545, ?_⟩
       refine wl_v 6 rfl (v_not rfl) (gy 93 rfl rfl) rfl ?_
       refine wl_v 7 rfl (v_pick (b := false) rfl rfl) gn rfl ?_
       refine w_end 8 rfl ?_
       exact g_go [0, 1] (j2 (!r541) h) ⟨rfl, rfl, rfl, trivial⟩ (.cons _ (.cons _ (.cons_cons _ (.slnil)))) rfl
      ·have h := if_neg' hp537 h
       refine w_bool 93 rfl ((neib hp537)) ?_
       refine wl_pass 3 rfl (ps 93 rfl rfl rfl) ?_
       refine wl_pass 4 rfl (ps 93 rfl rfl rfl) ?_
       refine wl_pass 5 rfl (ps 93 rfl rfl rfl) ?_
       refine wl_pass 6 rfl (ps 93 rfl rfl rfl) ?_
       refine wl_v 7 rfl (v_pick (b := true) rfl rfl) gn rfl ?_
       refine w_end 8 rfl ?_
       exact g_go [0, 1] (j2 true h) ⟨rfl, rfl, rfl, trivial⟩ (.cons _ (.cons _ (.cons_cons _ (.slnil)))) rfl
     ·have h := if_neg' hp445 h
      refine gTr (c := q9c35) rfl _ rfl ((neib hp445)) ?_
      refine gSq (c := q9c36) rfl ?_
      refine gSq (c := q9c70) rfl ?_
      refine gRg (c := q9c72) rfl rfl ?_
      refine wl_v 0 rfl (vMv rfl) gn rfl ?_
      refine wl_v 1 rfl (vMv rfl) gn rfl ?_
      refine wl_v 2 rfl (v_lenS un_9 rfl) gn rfl ?_
      refine wl_v 3 rfl (vBn rfl rfl rfl) gn rfl ?_
      refine w_end 4 rfl ?_
      by_cases hp546 : r15.2.2 = (x1.size : Int)
      ·have h := if_pos' hp546 h
       refine gTr (c := q9c73) rfl _ rfl ((eqi hp546)) ?_
       refine gSq (c := q9c74) rfl ?_
       have j5 : ∀ (x550 : Bool) (h : tl_JsonBlanks_j5 x550 o1) , G (tl_JsonBlanks_C w F r) [.code q9c77, .code q9c71, .code q9c33] [(4, .bool x550)] [] [Sm w.heap.size F w [], St w []] := by
        intro x550 h
        unfold tl_JsonBlanks_j5 at h
        have h := Out.inr hO1 h
        refine g_retR (c := q9c77) [.bool x550] rfl Tryd.func9 rfl (.tmp rfl (.nil)) fun wr hLr => ?_
        have hMr : B.Loc w wr [] [St w []] := hLr.pick0 (sels [1] rfl)
        show tl_JsonBlanks_R w F  r (.returned (packV [.bool x550])) wr
        rw [h]
        exact ⟨rfl, hMr⟩
       refine gRg (c := q9c76) rfl rfl ?_
       refine wl_v 0 rfl (vMv rfl) gn rfl ?_
       refine wl_v 1 rfl (vBn rfl rfl rfl) gn rfl ?_
       refine wl_v 2 rfl (vMv rfl) gn rfl ?_
       by_cases hp551 : r435.2.1 = 250
       ·have h := if_pos' hp551 h
        refine w_bool 62 rfl ((eqi hp551)) ?_
        refine wl_v 3 rfl (vMv rfl) (gy 62 rfl rfl) rfl ?_
        refine wl_v 4 rfl (vMv rfl) (gy 62 rfl rfl) rfl ?_
        refine wl_v 5 rfl (v_lenS un_9 rfl) (gy 62 rfl rfl) rfl ?_
        refine wl_v 6 rfl (vMv rfl) (gy 62 rfl rfl) rfl ?_
        refine wl_v 7 rfl (vBn rfl rfl rfl) (gy 62 rfl rfl) rfl ?_
        refine wl_v 8 rfl (vBn rfl rfl rfl) (gy 62 rfl rfl) rfl ?_
        refine wl_v 9 rfl (v_pick (b := true) rfl rfl) gn rfl ?_
        refine wl_v 10 rfl (vMv rfl) gn rfl ?_
        by_cases hp552 : r435.2.2 ≥ w64 ((x162.size : Int) + r15.2.2)
        ·have h := if_pos' hp552 h
         refine w_bool 70 rfl ((decide_eq_true hp552)) ?_
         refine wl_v 11 rfl (vMv rfl) (gy 70 rfl rfl) rfl ?_
         refine wl_v 12 rfl (v_lenQ un_22 rfl (Ow.weak hL433.env.size h440).hq) (gy 70 rfl rfl) rfl ?_
         refine wl_v 13 rfl (vBn rfl rfl rfl) (gy 70 rfl rfl) rfl ?_
         refine wl_v 14 rfl (v_pick (b := true) rfl rfl) gn rfl ?_
         refine wl_v 15 rfl (vAs rfl) gn rfl ?_
         refine w_end 16 rfl ?_
         exact g_go [0, 1] (j5 ((r435.1.length : Int) == 0) h) ⟨rfl, trivial⟩ (.cons _ (.cons _ (.cons _ (.slnil)))) rfl
        ·have h := if_neg' hp552 h
         refine w_bool 70 rfl ((decide_eq_false hp552)) ?_
         refine wl_pass 11 rfl (ps 70 rfl rfl rfl) ?_
         refine wl_pass 12 rfl (ps 70 rfl rfl rfl) ?_
         refine wl_pass 13 rfl (ps 70 rfl rfl rfl) ?_
         refine wl_v 14 rfl (v_pick (b := false) rfl rfl) gn rfl ?_
         refine wl_v 15 rfl (vAs rfl) gn rfl ?_
         refine w_end 16 rfl ?_
         exact g_go [0, 1] (j5 false h) ⟨rfl, trivial⟩ (.cons _ (.cons _ (.cons _ (.slnil)))) rfl
       ·have h := if_neg' hp551 h
        refine w_bool 62 rfl ((nei hp551)) ?_
        refine wl_pass 3 rfl (ps 62 rfl rfl rfl) ?_
        refine wl_pass 4 rfl (ps 62 rfl rfl rfl) ?_
        refine wl_pass 5 rfl (ps 62 rfl rfl rfl) ?_
        refine wl_pass 6 rfl (ps 62 rfl rfl rfl) ?_
        refine wl_pass 7 rfl (ps 62 rfl rfl rfl) ?_
        refine wl_pass 8 rfl (ps 62 rfl rfl rfl) ?_
        refine wl_v 9 rfl (v_pick (b := false) rfl rfl) gn rfl ?_
        refine wl_v 10 rfl (vMv rfl) gn rfl ?_
        refine wl_pass 11 rfl (ps 70 rfl rfl rfl) ?_
        refine wl_pass 12 rfl (ps 70 rfl rfl rfl) ?_
        refine wl_pass 13 rfl (ps 70 rfl rfl rfl) ?_
        refine wl_v 14 rfl (v_pick (b := false) rfl rfl) gn rfl ?_
        refine wl_v 15 rfl (vAs rfl) gn rfl ?_
        refine w_end 16 rfl ?_
        exact g_go [0, 1] (j5 false h) ⟨rfl, trivial⟩ (.cons _ (.cons _ (.cons _ (.slnil)))) rfl
      ·have h := if_neg' hp546 h
       refine gFa (c := q9c73) rfl _ rfl ((nei hp546)) ?_
       refine g_skip (c := q9c75) rfl ?_
       refine gSq (c := q9c71) rfl ?_
       have j6 : ∀ (x556 : Bool) (h : tl_JsonBlanks_j6 x556 o1) , G (tl_JsonBlanks_C w F r) [.code q9c79, .code q9c33] [(4, .bool x556)] [] [Sm w.heap.size F w [], St w []] := by
        intro x556 h
        unfold tl_JsonBlanks_j6 at h
        have h := Out.inr hO1 h
        refine g_retR (c := q9c79) [.bool x556] rfl Tryd.func9 rfl (.tmp rfl (.nil)) fun wr hLr => ?_
        have hMr : B.Loc w wr [] [St w []] := hLr.pick0 (sels [1] rfl)
        show tl_JsonBlanks_R w F  r (.returned (packV [.bool x556])) wr
        rw [h]
        exact ⟨rfl, hMr⟩
       refine gRg (c := q9c78) rfl rfl ?_
       refine wl_v 0 rfl (vMv rfl) gn rfl ?_
       refine wl_v 1 rfl (vMv rfl) gn rfl ?_
       refine wl_v 2 rfl (vBn rfl rfl rfl) gn rfl ?_
       refine wl_v 3 rfl (vMv rfl) gn rfl ?_
       by_cases hp557 : r435.2.1 = r15.2.1
       ·have h := if_pos' hp557 h
        refine w_bool 78 rfl ((eqi hp557)) ?_
        refine wl_v 4 rfl (vMv rfl) (gy 78 rfl rfl) rfl ?_
        refine wl_v 5 rfl (vMv rfl) (gy 78 rfl rfl) rfl ?_
        refine wl_v 6 rfl (vMv rfl) (gy 78 rfl rfl) rfl ?_
        refine wl_v 7 rfl (v_lenS un_9 rfl) (gy 78 rfl rfl) rfl ?_
        refine wl_v 8 rfl (vBn rfl rfl rfl) (gy 78 rfl rfl) rfl ?_
        refine wl_v 9 rfl (vBn rfl rfl rfl) (gy 78 rfl rfl) rfl ?_
        refine wl_v 10 rfl (v_pick (b := true) rfl rfl) gn rfl ?_
        refine wl_v 11 rfl (vMv rfl) gn rfl ?_
        by_cases hp558 : r435.2.2 = w64 (r15.2.2 + (x162.size : Int))
        ·have h := if_pos' hp558 h
         refine w_bool 86 rfl ((eqi hp558)) ?_
         refine wl_v 12 rfl (vMv rfl) (gy 86 rfl rfl) rfl ?_
         refine wl_v 13 rfl (v_lenQ un_22 rfl (Ow.weak hL433.env.size h440).hq) (gy 86 rfl rfl) rfl ?_
         refine wl_v 14 rfl (vBn rfl rfl rfl) (gy 86 rfl rfl) rfl ?_
         refine wl_v 15 rfl (v_pick (b := true) rfl rfl) gn rfl ?_
         refine wl_v 16 rfl (vAs rfl) gn rfl ?_
         refine w_end 17 rfl ?_
         exact g_go [0, 1] (j6 ((r435.1.length : Int) == 0) h) ⟨rfl, trivial⟩ (.cons _ (.cons _ (.cons _ (.slnil)))) rfl
        ·have h := if_neg' hp558 h
         refine w_bool 86 rfl ((nei hp558)) ?_
         refine wl_pass 12 rfl (ps 86 rfl rfl rfl) ?_
         refine wl_pass 13 rfl (ps 86 rfl rfl rfl) ?_
         refine wl_pass 14 rfl (ps 86 rfl rfl rfl) ?_
         refine wl_v 15 rfl (v_pick (b := false) rfl rfl) gn rfl ?_
         refine wl_v 16 rfl (vAs rfl) gn rfl ?_
         refine w_end 17 rfl ?_
         exact g_go [0, 1] (j6 false h) ⟨rfl, trivial⟩ (.cons _ (.cons _ (.cons _ (.slnil)))) rfl
       ·have h := if_neg' hp557 h
        refine w_bool 78 rfl ((nei hp557)) ?_
        refine wl_pass 4 rfl (ps 78 rfl rfl rfl) ?_
        refine wl_pass 5 rfl (ps 78 rfl rfl rfl) ?_
        refine wl_pass 6 rfl (ps 78 rfl rfl rfl) ?_
        refine wl_pass 7 rfl (ps 78 rfl rfl rfl) ?_
        refine wl_pass 8 rfl (ps 78 rfl rfl rfl) ?_
        refine wl_pass 9 rfl (ps 78 rfl rfl rfl) ?_
        refine wl_v 10 rfl (v_pick (b := false) rfl rfl) gn rfl ?_
        refine wl_v 11 rfl (vMv rfl) gn rfl ?_
        refine wl_pass 12 rfl (ps 86 rfl rfl rfl) ?_
        refine wl_pass 13 rfl (ps 86 rfl rfl rfl) ?_
        refine wl_pass 14 rfl (ps 86 rfl rfl rfl) ?_
        refine wl_v 15 rfl (v_pick (b := false) rfl rfl) gn rfl ?_
        refine wl_v 16 rfl (vAs rfl) gn rfl ?_
        refine w_end 17 rfl ?_
        exact g_go [0, 1] (j6 false h) ⟨rfl, trivial⟩ (.cons _ (.cons _ (.cons _ (.slnil)))) rfl
   ·have h := if_neg' hp426 h
    refine w_bool 32 rfl ((decide_eq_false hp426)) ?_
    refine wl_pass 4 rfl (ps 32 rfl rfl rfl) ?_
    refine wl_pass 5 rfl (ps 32 rfl rfl rfl) ?_
    refine wl_v 6 rfl (v_pick (b := false) rfl rfl) gn rfl ?_
    refine w_end 7 rfl ?_
    refine gFa (c := q9c24) rfl _ rfl (rfl) ?_
    refine g_exit (c := q9c26) [.code q9c16] rfl rfl ?_
    refine gSq (c := q9c16) rfl ?_
    refine gRg (c := q9c30) rfl rfl ?_
    refine wl_v 0 rfl (vMv rfl) gn rfl ?_
    refine wl_v 1 rfl (vMv rfl) gn rfl ?_
    obtain ⟨hb559, h⟩ := h
    refine wl_v 2 rfl (v_catS rfl rfl hb559) gn rfl ?_
    refine wl_v 3 rfl (vMv rfl) gn rfl ?_
    obtain ⟨hb560, h⟩ := h
    refine wl_v 4 rfl (v_catS rfl rfl hb560) gn rfl ?_
    obtain ⟨r564, hv565, h⟩ := h
    refine wl_s 5 rfl (sCl [.string ((x162 ++ x1) ++ x162)] rfl Tryd.func25 rfl rfl rfl fun w561 hL562 => ?_) gn
    have hp563 : List.Perm ([.box gb25 42 (encA 4 fun j => [.string (x27 j)]), .own (.slice A17 n18 c19) 31 4 n18 (r15.1.flatMap eJN)] : List Ent) (([] : List Ent) ++ ([.box gb25 42 (encA 4 fun j => [.string (x27 j)]), .own (.slice A17 n18 c19) 31 4 n18 (r15.1.flatMap eJN)] : List Ent)) := pIx [] [0, 1] rfl rfl (by kernel_rfl)
    refine Calls.mono (json_Parse_calls w561 (Fl ([] : List Snap)) ((x162 ++ x1) ++ x162) (hL562.tt hp563 hG3 (me 1 rfl)) (hL562.hFl (Sl := ([] : List Snap)) hp563 (sels [] rfl)) (hL562.into hp563 (Fl ([] : List Snap))) r564 hv565) ?_
    rintro _ w571 ⟨A566, n567, c568, rfl, hM572, h569⟩
    have hL573 := hL562.call hp563 hM572
    refine ⟨_, _, _, rfl, hL573, ?_⟩
    refine wl_v 6 rfl (vMv rfl) gn rfl ?_
    refine wl_v 7 rfl (v_extract rfl rfl) gn rfl ?_
    refine wl_v 8 rfl (v_extract rfl rfl) gn rfl ?_
    refine wl_v 9 rfl (v_extract rfl rfl) gn rfl ?_
    refine wl_v 10 rfl (vAs rfl) gn rfl ?_
    refine wl_v 11 rfl (vAs rfl) gn rfl ?_
    refine wl_v 12 rfl (vAs rfl) gn rfl ?_
    refine w_end 13 rfl ?_
    refine gSq (c := q9c31) rfl ?_
    refine gSq (c := q9c32) rfl ?_
    refine gRg (c := q9c34) rfl rfl ?_
    refine wl_v 0 rfl (vMv rfl) gn rfl ?_
    refine wl_v 1 rfl (vBn rfl rfl rfl) gn rfl ?_
    refine w_end 2 rfl ?_
    by_cases hp574 : r15.2.1 = 0
    ·have h := if_pos' hp574 h
     refine gFa (c := q9c35) rfl _ rfl ((eqib hp574)) ?_
     refine g_skip (c := q9c37) rfl ?_
     refine gSq (c := q9c33) rfl ?_
     refine gSq (c := q9c38) rfl ?_
     have j7 : ∀ (x585 : Bool) (h : tl_JsonBlanks_j7 x1 r15 x585 o1) , G (tl_JsonBlanks_C w F r) [.code q9c41, .code q9c39] [(0, .string x1), (5, .slice A17 n18 c19), (98, .bool x585)] [.own (.slice A17 n18 c19) 31 4 n18 (r15.1.flatMap eJN)] [Sm w.heap.size F w [], St w []] := by
      intro x585 h
      unfold tl_JsonBlanks_j7 at h
      by_cases hp586 : x585 = true
      ·have h := if_pos' hp586 h
       refine gTr (c := q9c41) rfl _ rfl (hp586) ?_
       refine gSq (c := q9c42) rfl ?_
       refine gRg (c := q9c44) rfl rfl ?_
       refine wl_v 0 rfl (vAs rfl) gn rfl ?_
       refine w_end 1 rfl ?_
       have h := Out.inr hO1 h
       refine g_retR (c := q9c45) [.bool false] rfl Tryd.func9 rfl (.tmp rfl (.nil)) fun wr hLr => ?_
       have hMr : B.Loc w wr [] [St w []] := hLr.pick0 (sels [1] rfl)
       show tl_JsonBlanks_R w F  r (.returned (packV [.bool false])) wr
       rw [h]
       exact ⟨rfl, hMr⟩
      ·have h := if_neg' hp586 h
       refine gFa (c := q9c41) rfl _ rfl ((bf hp586)) ?_
       refine g_skip (c := q9c43) rfl ?_
       refine gSq (c := q9c39) rfl ?_
       refine gRg (c := q9c46) rfl rfl ?_
       refine wl_v 0 rfl (vMv rfl) gn rfl ?_
       obtain ⟨hb587, h⟩ := h
       refine wl_v 1 rfl (v_catS rfl rfl hb587) gn rfl ?_
       obtain ⟨hb588, h⟩ := h
       refine wl_v 2 rfl (v_catS rfl rfl hb588) gn rfl ?_
       obtain ⟨r592, hv593, h⟩ := h
       refine wl_s 3 rfl (sCl [.string (((⟨#[91]⟩ : ByteArray) ++ x1) ++ (⟨#[93]⟩ : ByteArray))] rfl Tryd.func25 rfl rfl rfl fun w589 hL590 => ?_) gn
       have hp591 : List.Perm ([.own (.slice A17 n18 c19) 31 4 n18 (r15.1.flatMap eJN)] : List Ent) (([] : List Ent) ++ ([.own (.slice A17 n18 c19) 31 4 n18 (r15.1.flatMap eJN)] : List Ent)) := pIx [] [0] rfl rfl (by kernel_rfl)
       refine Calls.mono (json_Parse_calls w589 (Fl ([] : List Snap)) (((⟨#[91]⟩ : ByteArray) ++ x1) ++ (⟨#[93]⟩ : ByteArray)) (hL590.tt hp591 hG3 (me 1 rfl)) (hL590.hFl (Sl := ([] : List Snap)) hp591 (sels [] rfl)) (hL590.into hp591 (Fl ([] : List Snap))) r592 hv593) ?_
       rintro _ w599 ⟨A594, n595, c596, rfl, hM600, h597⟩
       have hL601 := hL590.call hp591 hM600
       refine ⟨_, _, _, rfl, hL601, ?_⟩
       refine wl_v 4 rfl (vMv rfl) gn rfl ?_
       refine wl_v 5 rfl (v_extract rfl rfl) gn rfl ?_
       refine wl_v 6 rfl (v_extract rfl rfl) gn rfl ?_
       refine wl_v 7 rfl (v_extract rfl rfl) gn rfl ?_
       refine wl_v 8 rfl (vAs rfl) gn rfl ?_
       refine wl_v 9 rfl (vAs rfl) gn rfl ?_
       refine wl_v 10 rfl (vAs rfl) gn rfl ?_
       refine w_end 11 rfl ?_
       refine gSq (c := q9c47) rfl ?_
       refine gSq (c := q9c48) rfl ?_
       refine gRg (c := q9c50) rfl rfl ?_
       refine wl_v 0 rfl (vMv rfl) gn rfl ?_
       refine wl_v 1 rfl (vBn rfl rfl rfl) gn rfl ?_
       refine w_end 2 rfl ?_
       by_cases hp602 : r592.2.1 = 0
       ·have h := if_pos' hp602 h
        refine gFa (c := q9c51) rfl _ rfl ((eqib hp602)) ?_
        refine g_skip (c := q9c53) rfl ?_
        refine gSq (c := q9c49) rfl ?_
        refine gRg (c := q9c54) rfl rfl ?_
        refine wl_v 0 rfl (vMv rfl) gn rfl ?_
        obtain ⟨hb603, h⟩ := h
        refine wl_v 1 rfl (v_catS rfl rfl hb603) gn rfl ?_
        obtain ⟨hb604, h⟩ := h
        refine wl_v 2 rfl (v_catS rfl rfl hb604) gn rfl ?_
        obtain ⟨r608, hv609, h⟩ := h
        refine wl_s 3 rfl (sCl [.string (((⟨#[123, 34, 107, 34, 58]⟩ : ByteArray) ++ x1) ++ (⟨#[125]⟩ : ByteArray))] rfl Tryd.func25 rfl rfl rfl fun w605 hL606 => ?_) gn
        have hp607 : List.Perm ([.own (.slice A594 n595 c596) 31 4 n595 (r592.1.flatMap eJN), .own (.slice A17 n18 c19) 31 4 n18 (r15.1.flatMap eJN)] : List Ent) (([] : List Ent) ++ ([.own (.slice A594 n595 c596) 31 4 n595 (r592.1.flatMap eJN), .own (.slice A17 n18 c19) 31 4 n18 (r15.1.flatMap eJN)] : List Ent)) := pIx [] [0, 1] rfl rfl (by kernel_rfl)
        refine Calls.mono (json_Parse_calls w605 (Fl ([] : List Snap)) (((⟨#[123, 34, 107, 34, 58]⟩ : ByteArray) ++ x1) ++ (⟨#[125]⟩ : ByteArray)) (hL606.tt hp607 hG3 (me 1 rfl)) (hL606.hFl (Sl := ([] : List Snap)) hp607 (sels [] rfl)) (hL606.into hp607 (Fl ([] : List Snap))) r608 hv609) ?_
        rintro _ w615 ⟨A610, n611, c612, rfl, hM616, h613⟩
        have hL617 := hL606.call hp607 hM616
        refine ⟨_, _, _, rfl, hL617, ?_⟩
        refine wl_v 4 rfl (vMv rfl) gn rfl ?_
        refine wl_v 5 rfl (v_extract rfl rfl) gn rfl ?_
        refine wl_v 6 rfl (v_extract rfl rfl) gn rfl ?_
        refine wl_v 7 rfl (v_extract rfl rfl) gn rfl ?_
        refine wl_v 8 rfl (vAs rfl) gn rfl ?_
        refine wl_v 9 rfl (vAs rfl) gn rfl ?_
        refine wl_v 10 rfl (vAs rfl) gn rfl ?_
        refine w_end 11 rfl ?_
        refine gSq (c := q9c55) rfl ?_
        refine gSq (c := q9c56) rfl ?_
        have j8 : ∀ (x627 : Bool) (h : tl_JsonBlanks_j8 r608 r592 r15 x627 o1) , G (tl_JsonBlanks_C w F r) [.code q9c59, .code q9c57] [(5, .slice A17 n18 c19), (14, .slice A594 n595 c596), (17, .slice A610 n611 c612), (161, .bool x627)] [.own (.slice A610 n611 c612) 31 4 n611 (r608.1.flatMap eJN), .own (.slice A594 n595 c596) 31 4 n595 (r592.1.flatMap eJN), .own (.slice A17 n18 c19) 31 4 n18 (r15.1.flatMap eJN)] [Sm w.heap.size F w [], St w []] := by
         intro x627 h
         unfold tl_JsonBlanks_j8 at h
         by_cases hp628 : x627 = true
         ·have h := if_pos' hp628 h
          refine gTr (c := q9c59) rfl _ rfl (hp628) ?_
          refine gSq (c := q9c60) rfl ?_
          refine gRg (c := q9c62) rfl rfl ?_
          refine wl_v 0 rfl (vAs rfl) gn rfl ?_
          refine w_end 1 rfl ?_
          have h := Out.inr hO1 h
          refine g_retR (c := q9c63) [.bool false] rfl Tryd.func9 rfl (.tmp rfl (.nil)) fun wr hLr => ?_
          have hMr : B.Loc w wr [] [St w []] := hLr.pick0 (sels [1] rfl)
          show tl_JsonBlanks_R w F  r (.returned (packV [.bool false])) wr
          rw [h]
          exact ⟨rfl, hMr⟩
         ·have h := if_neg' hp628 h
          refine gFa (c := q9c59) rfl _ rfl ((bf hp628)) ?_
          refine g_skip (c := q9c61) rfl ?_
          refine gSq (c := q9c57) rfl ?_
          refine gRg (c := q9c64) rfl rfl ?_
          refine wl_v 0 rfl (vMv rfl) gn rfl ?_
          obtain ⟨hb629, h⟩ := h
          refine wl_v 1 rfl (v_idxO slE_22 rfl rfl (Ow.weak hL606.env.size h613) hb629) gn rfl ?_
          refine wl_v 2 rfl (v_fldA fo_31_1 rfl) gn rfl ?_
          obtain ⟨x630, hv631, h⟩ := h
          refine wl_s 3 rfl (s_stF (enc := eJN) (o := 1) (z := ({ (ix r608.1 1) with key := (⟨#[]⟩ : ByteArray) })) (vs := [.string (⟨#[]⟩ : ByteArray)]) (i := 1) 0 hl_api_JNode sz_9 rfl rfl rfl rfl rfl (Ow.weak hL606.env.size h613) hb629 rfl rfl rfl hv631 fun h632 => ?_) gn
          refine w_end 4 rfl ?_
          refine gSq (c := q9c65) rfl ?_
          refine gRg (c := q9c66) rfl rfl ?_
          refine wl_v 0 rfl (vMv rfl) gn rfl ?_
          obtain ⟨hb633, h⟩ := h
          have hv634 : Vw 4 A594 n595 (1 : Int).toNat ((((n595 : Nat) : Int) : Int).toNat - (1 : Int).toNat) (if (((c596 : Nat) : Int) : Int).toNat = (1 : Int).toNat then A594 else A594.map (·.add ((1 : Int).toNat * 4))) := Vw.cut (by have q := hb633; have q1 := (Ow.weak hL590.env.size h597).hq; have q2 := (Ow.weak hL590.env.size h597).hn; omega) (by have q := hb633; have q1 := (Ow.weak hL590.env.size h597).hq; have q2 := (Ow.weak hL590.env.size h597).hn; omega) (by have q := hb633; have q1 := (Ow.weak hL590.env.size h597).hq; have q2 := (Ow.weak hL590.env.size h597).hn; omega)
          refine wl_v 1 rfl (v_cut (sz := 4) (n := n595) (c := c596) 1 ((n595 : Nat) : Int) ((c596 : Nat) : Int) slE_22 rfl (by_ rfl) bn bn (by have q := hb633; have q1 := (Ow.weak hL590.env.size h597).hq; have q2 := (Ow.weak hL590.env.size h597).hn; omega) (by have q := hb633; have q1 := (Ow.weak hL590.env.size h597).hq; have q2 := (Ow.weak hL590.env.size h597).hn; omega) (by have q := hb633; have q1 := (Ow.weak hL590.env.size h597).hq; have q2 := (Ow.weak hL590.env.size h597).hn; omega) (Ow.weak hL590.env.size h597).hn rfl) gn rfl ?_
          refine wl_v 2 rfl (vMv rfl) gn rfl ?_
          obtain ⟨r638, hv639, h⟩ := h
          refine wl_s 3 rfl (sCl [.slice (if (((c596 : Nat) : Int) : Int).toNat = (1 : Int).toNat then A594 else A594.map (·.add ((1 : Int).toNat * 4))) ((((n595 : Nat) : Int) : Int).toNat - (1 : Int).toNat) ((((c596 : Nat) : Int) : Int).toNat - (1 : Int).toNat), .slice A17 n18 c19] rfl Tryd.func27 rfl rfl rfl fun w635 hL636 => ?_) gn
          have hp637 : List.Perm ([.own (.slice A610 n611 c612) 31 4 n611 (x630.flatMap eJN), .own (.slice A594 n595 c596) 31 4 n595 (r592.1.flatMap eJN), .own (.slice A17 n18 c19) 31 4 n18 (r15.1.flatMap eJN)] : List Ent) (([] : List Ent) ++ ([.own (.slice A610 n611 c612) 31 4 n611 (x630.flatMap eJN), .own (.slice A594 n595 c596) 31 4 n595 (r592.1.flatMap eJN), .own (.slice A17 n18 c19) 31 4 n18 (r15.1.flatMap eJN)] : List Ent)) := pIx [] [0, 1, 2] rfl rfl (by kernel_rfl)
          refine Calls.mono (tl_same_calls w635 (Fl ([] : List Snap)) ((r592.1.drop (1 : Int).toNat).take ((r592.1.length : Int).toNat - (1 : Int).toNat)) r15.1 (if (((c596 : Nat) : Int) : Int).toNat = (1 : Int).toNat then A594 else A594.map (·.add ((1 : Int).toNat * 4))) ((((n595 : Nat) : Int) : Int).toNat - (1 : Int).toNat) ((((c596 : Nat) : Int) : Int).toNat - (1 : Int).toNat) A17 n18 c19 (Rw.w (hL636.argV (dk := k_api_JNode) hp637 [] rfl 1 rfl rfl (Ow.weak hL590.env.size h597) (me 0 rfl) (Cells.flat _) hv634 (by have q := hb633; have q1 := (Ow.weak hL590.env.size h597).hq; have q2 := (Ow.weak hL590.env.size h597).hn; omega) (Nat.le_trans (Nat.sub_le _ _) (by have q := (Ow.weak hL590.env.size h597).hm; have q1 := hb633; omega))) (by rw [(Ow.weak hL590.env.size h597).hq])) (hL636.argO (dk := k_api_JNode) hp637 [] rfl 2 rfl rfl (Ow.weak hL13.env.size h20) (me 0 rfl) (Cells.flat _)) (hL636.hFl (Sl := ([] : List Snap)) hp637 (sels [] rfl)) (hL636.into hp637 (Fl ([] : List Snap))) r638 hv639) ?_
          rintro _ w640 ⟨rfl, hM641⟩
          have hL642 := hL636.call hp637 hM641
          refine ⟨_, _, _, rfl, hL642, ?_⟩
          refine wl_v 4 rfl (vMv rfl) gn rfl ?_
          by_cases hp643 : r638 = true
          ·have h := if_pos' hp643 h
           refine w_bool 169 rfl (hp643) ?_
           refine wl_v 5 rfl (vMv rfl) (gy 169 rfl rfl) rfl ?_
           obtain ⟨hb644, h⟩ := h
           have hv645 : Vw 4 A610 n611 (1 : Int).toNat ((((n611 : Nat) : Int) : Int).toNat - (1 : Int).toNat) (if (((c612 : Nat) : Int) : Int).toNat = (1 : Int).toNat then A610 else A610.map (·.add ((1 : Int).toNat * 4))) := Vw.cut (by have q := hb644; have q1 := h632.hq; have q2 := h632.hn; omega) (by have q := hb644; have q1 := h632.hq; have q2 := h632.hn; omega) (by have q := hb644; have q1 := h632.hq; have q2 := h632.hn; omega)
           refine wl_v 6 rfl (v_cut (sz := 4) (n := n611) (c := c612) 1 ((n611 : Nat) : Int) ((c612 : Nat) : Int) slE_22 rfl (by_ rfl) bn bn (by have q := hb644; have q1 := h632.hq; have q2 := h632.hn; omega) (by have q := hb644; have q1 := h632.hq; have q2 := h632.hn; omega) (by have q := hb644; have q1 := h632.hq; have q2 := h632.hn; omega) h632.hn rfl) (gy 169 rfl rfl) rfl ?_
           refine wl_v 7 rfl (vMv rfl) (gy 169 rfl rfl) rfl ?_
           obtain ⟨r649, hv650, h⟩ := h
           refine wl_s 8 rfl (sCl [.slice (if (((c612 : Nat) : Int) : Int).toNat = (1 : Int).toNat then A610 else A610.map (·.add ((1 : Int).toNat * 4))) ((((n611 : Nat) : Int) : Int).toNat - (1 : Int).toNat) ((((c612 : Nat) : Int) : Int).toNat - (1 : Int).toNat), .slice A17 n18 c19] rfl Tryd.func27 rfl rfl rfl fun w646 hL647 => ?_) (gy 169 rfl rfl)
           have hp648 : List.Perm ([.own (.slice A610 n611 c612) 31 4 n611 (x630.flatMap eJN), .own (.slice A594 n595 c596) 31 4 n595 (r592.1.flatMap eJN), .own (.slice A17 n18 c19) 31 4 n18 (r15.1.flatMap eJN)] : List Ent) (([] : List Ent) ++ ([.own (.slice A610 n611 c612) 31 4 n611 (x630.flatMap eJN), .own (.slice A594 n595 c596) 31 4 n595 (r592.1.flatMap eJN), .own (.slice A17 n18 c19) 31 4 n18 (r15.1.flatMap eJN)] : List Ent)) := pIx [] [0, 1, 2] rfl rfl (by kernel_rfl)
           refine Calls.mono (tl_same_calls w646 (Fl ([] : List Snap)) ((x630.drop (1 : Int).toNat).take ((x630.length : Int).toNat - (1 : Int).toNat)) r15.1 (if (((c612 : Nat) : Int) : Int).toNat = (1 : Int).toNat then A610 else A610.map (·.add ((1 : Int).toNat * 4))) ((((n611 : Nat) : Int) : Int).toNat - (1 : Int).toNat) ((((c612 : Nat) : Int) : Int).toNat - (1 : Int).toNat) A17 n18 c19 (Rw.w (hL647.argV (dk := k_api_JNode) hp648 [] rfl 0 rfl rfl h632 (me 0 rfl) (Cells.flat _) hv645 (by have q := hb644; have q1 := h632.hq; have q2 := h632.hn; omega) (Nat.le_trans (Nat.sub_le _ _) (by have q := h632.hm; have q1 := hb644; omega))) (by rw [h632.hq])) (hL647.argO (dk := k_api_JNode) hp648 [] rfl 2 rfl rfl (Ow.weak hL13.env.size h20) (me 0 rfl) (Cells.flat _)) (hL647.hFl (Sl := ([] : List Snap)) hp648 (sels [] rfl)) (hL647.into hp648 (Fl ([] : List Snap))) r649 hv650) ?_
           rintro _ w651 ⟨rfl, hM652⟩
           have hL653 := hL647.call hp648 hM652
           refine ⟨_, _, _, rfl, hL653, ?_⟩
           refine wl_v 9 rfl (v_pick (b := true) rfl rfl) gn rfl ?_
           refine wl_v 10 rfl (vAs rfl) gn rfl ?_
           refine w_end 11 rfl ?_
           have h := Out.inr hO1 h
           refine g_retR (c := q9c67) [.bool r649] rfl Tryd.func9 rfl (.tmp rfl (.nil)) fun wr hLr => ?_
           have hMr : B.Loc w wr [] [St w []] := hLr.pick0 (sels [1] rfl)
           show tl_JsonBlanks_R w F  r (.returned (packV [.bool r649])) wr
           rw [h]
           exact ⟨rfl, hMr⟩
          ·have h := if_neg' hp643 h
           refine w_bool 169 rfl ((bf hp643)) ?_
           refine wl_pass 5 rfl (ps 169 rfl rfl rfl) ?_
           refine wl_pass 6 rfl (ps 169 rfl rfl rfl) ?_
           refine wl_pass 7 rfl (ps 169 rfl rfl rfl) ?_
           refine wl_pass 8 rfl (ps 169 rfl rfl rfl) ?_
           refine wl_v 9 rfl (v_pick (b := false) rfl rfl) gn rfl ?_
           refine wl_v 10 rfl (vAs rfl) gn rfl ?_
           refine w_end 11 rfl ?_
           have h := Out.inr hO1 h
           refine g_retR (c := q9c67) [.bool false] rfl Tryd.func9 rfl (.tmp rfl (.nil)) fun wr hLr => ?_
           have hMr : B.Loc w wr [] [St w []] := hLr.pick0 (sels [1] rfl)
           show tl_JsonBlanks_R w F  r (.returned (packV [.bool false])) wr
           rw [h]
           exact ⟨rfl, hMr⟩
        refine gRg (c := q9c58) rfl rfl ?_
        refine wl_v 0 rfl (vMv rfl) gn rfl ?_
        refine wl_v 1 rfl (vBn rfl rfl rfl) gn rfl ?_
        refine wl_v 2 rfl (vMv rfl) gn rfl ?_
        by_cases hp654 : r608.2.1 = 0
        ·have h := if_pos' hp654 h
         refine w_bool 125 rfl ((eqib hp654)) ?_
         refine wl_v 3 rfl (vMv rfl) (gy 125 rfl rfl) rfl ?_
         refine wl_v 4 rfl (v_lenQ un_22 rfl (Ow.weak hL590.env.size h597).hq) (gy 125 rfl rfl) rfl ?_
         refine wl_v 5 rfl (vMv rfl) (gy 125 rfl rfl) rfl ?_
         refine wl_v 6 rfl (v_lenQ un_22 rfl (Ow.weak hL13.env.size h20).hq) (gy 125 rfl rfl) rfl ?_
         refine wl_v 7 rfl (vBn rfl rfl rfl) (gy 125 rfl rfl) rfl ?_
         refine wl_v 8 rfl (vBn rfl rfl rfl) (gy 125 rfl rfl) rfl ?_
         refine wl_v 9 rfl (v_pick (b := false) rfl rfl) gn rfl ?_
         refine wl_v 10 rfl (vMv rfl) gn rfl ?_
         by_cases hp655 : (r592.1.length : Int) = w64 ((r15.1.length : Int) + 1)
         ·have h := if_pos' hp655 h
          refine w_bool 133 rfl ((eqib hp655)) ?_
          refine wl_v 11 rfl (vMv rfl) (gy 133 rfl rfl) rfl ?_
          refine wl_v 12 rfl (v_lenQ un_22 rfl (Ow.weak hL606.env.size h613).hq) (gy 133 rfl rfl) rfl ?_
          refine wl_v 13 rfl (vMv rfl) (gy 133 rfl rfl) rfl ?_
          refine wl_v 14 rfl (v_lenQ un_22 rfl (Ow.weak hL13.env.size h20).hq) (gy 133 rfl rfl) rfl ?_
          refine wl_v 15 rfl (vBn rfl rfl rfl) (gy 133 rfl rfl) rfl ?_
          refine wl_v 16 rfl (vBn rfl rfl rfl) (gy 133 rfl rfl) rfl ?_
          refine wl_v 17 rfl (v_pick (b := false) rfl rfl) gn rfl ?_
          refine wl_v 18 rfl (vMv rfl) gn rfl ?_
          by_cases hp656 : (r608.1.length : Int) = w64 ((r15.1.length : Int) + 1)
          ·have h := if_pos' hp656 h
           refine w_bool 141 rfl ((eqib hp656)) ?_
           refine wl_v 19 rfl (vMv rfl) (gy 141 rfl rfl) rfl ?_
           obtain ⟨hb657, h⟩ := h
           refine wl_v 20 rfl (v_idxO slE_22 rfl rfl (Ow.weak hL590.env.size h597) hb657) (gy 141 rfl rfl) rfl ?_
           refine wl_v 21 rfl (v_fldA fo_31_3 rfl) (gy 141 rfl rfl) rfl ?_
           refine wl_v 22 rfl (v_ldO1 (.int .i64 ((ix r592.1 0).kids)) 1 ld_3 rfl rfl (fm_get hl_api_JNode hb657 rfl)) (gy 141 rfl rfl) rfl ?_
           refine wl_v 23 rfl (vBn rfl rfl rfl) (gy 141 rfl rfl) rfl ?_
           refine wl_v 24 rfl (v_pick (b := false) rfl rfl) gn rfl ?_
           refine wl_v 25 rfl (vMv rfl) gn rfl ?_
           by_cases hp658 : (ix r592.1 0).kids = 1
           ·have h := if_pos' hp658 h
            refine w_bool 148 rfl ((eqib hp658)) ?_
            refine wl_v 26 rfl (vMv rfl) (gy 148 rfl rfl) rfl ?_
            obtain ⟨hb659, h⟩ := h
            refine wl_v 27 rfl (v_idxO slE_22 rfl rfl (Ow.weak hL606.env.size h613) hb659) (gy 148 rfl rfl) rfl ?_
            refine wl_v 28 rfl (v_fldA fo_31_3 rfl) (gy 148 rfl rfl) rfl ?_
            refine wl_v 29 rfl (v_ldO1 (.int .i64 ((ix r608.1 0).kids)) 0 ld_3 rfl rfl (fm_get hl_api_JNode hb659 rfl)) (gy 148 rfl rfl) rfl ?_
            refine wl_v 30 rfl (vBn rfl rfl rfl) (gy 148 rfl rfl) rfl ?_
            refine wl_v 31 rfl (v_pick (b := false) rfl rfl) gn rfl ?_
            refine wl_v 32 rfl (vMv rfl) gn rfl ?_
            by_cases hp660 : (ix r608.1 0).kids = 1
            ·have h := if_pos' hp660 h
             refine w_bool 155 rfl ((eqib hp660)) ?_
             refine wl_v 33 rfl (vMv rfl) (gy 155 rfl rfl) rfl ?_
             obtain ⟨hb661, h⟩ := h
             refine wl_v 34 rfl (v_idxO slE_22 rfl rfl (Ow.weak hL606.env.size h613) hb661) (gy 155 rfl rfl) rfl ?_
             refine wl_v 35 rfl (v_fldA fo_31_1 rfl) (gy 155 rfl rfl) rfl ?_
             refine wl_v 36 rfl (v_ldO1 (.string ((ix r608.1 1).key)) 0 ld_9 rfl rfl (fm_get hl_api_JNode hb661 rfl)) (gy 155 rfl rfl) rfl ?_
             refine wl_v 37 rfl (v_neS rfl rfl) (gy 155 rfl rfl) rfl ?_
             refine wl_v 38 rfl (v_pick (b := false) rfl rfl) gn rfl ?_
             refine w_end 39 rfl ?_
             exact g_go [0, 1] (j8 (!(seq ((ix r608.1 1).key) (⟨#[107]⟩ : ByteArray))) h) ⟨rfl, rfl, rfl, rfl, trivial⟩ (.cons_cons _ (.cons_cons _ (.cons_cons _ (.slnil)))) rfl
            ·have h := if_neg' hp660 h
             refine w_bool 155 rfl ((neib hp660)) ?_
             refine wl_pass 33 rfl (ps 155 rfl rfl rfl) ?_
             refine wl_pass 34 rfl (ps 155 rfl rfl rfl) ?_
             refine wl_pass 35 rfl (ps 155 rfl rfl rfl) ?_
             refine wl_pass 36 rfl (ps 155 rfl rfl rfl) ?_
             refine wl_pass 37 rfl (ps 155 rfl rfl rfl) ?_
             refine wl_v 38 rfl (v_pick (b := true) rfl rfl) gn rfl ?_
             refine w_end 39 rfl ?_
             exact g_go [0, 1] (j8 true h) ⟨rfl, rfl, rfl, rfl, trivial⟩ (.cons_cons _ (.cons_cons _ (.cons_cons _ (.slnil)))) rfl
           ·have h := if_neg' hp658 h
            refine w_bool 148 rfl ((neib hp658)) ?_
            refine wl_pass 26 rfl (ps 148 rfl rfl rfl) ?_
            refine wl_pass 27 rfl (ps 148 rfl rfl rfl) ?_
            refine wl_pass 28 rfl (ps 148 rfl rfl rfl) ?_
            refine wl_pass 29 rfl (ps 148 rfl rfl rfl) ?_
            refine wl_pass 30 rfl (ps 148 rfl rfl rfl) ?_
            refine wl_v 31 rfl (v_pick (b := true) rfl rfl) gn rfl ?_
            refine wl_v 32 rfl (vMv rfl) gn rfl ?_
            refine wl_pass 33 rfl (ps 155 rfl rfl rfl) ?_
            refine wl_pass 34 rfl (ps 155 rfl rfl rfl) ?_
            refine wl_pass 35 rfl (ps 155 rfl rfl rfl) ?_
            refine wl_pass 36 rfl (ps 155 rfl rfl rfl) ?_
            refine wl_pass 37 rfl (ps 155 rfl rfl rfl) ?_
            refine wl_v 38 rfl (v_pick (b := true) rfl rfl) gn rfl ?_
            refine w_end 39 rfl ?_
            exact g_go [0, 1] (j8 true h) ⟨rfl, rfl, rfl, rfl, trivial⟩ (.cons_cons _ (.cons_cons _ (.cons_cons _ (.slnil)))) rfl
          ·have h := if_neg' hp656 h
           refine w_bool 141 rfl ((neib hp656)) ?_
           refine wl_pass 19 rfl (ps 141 rfl rfl rfl) ?_
           refine wl_pass 20 rfl (ps 141 rfl rfl rfl) ?_
           refine wl_pass 21 rfl (ps 141 rfl rfl rfl) ?_
           refine wl_pass 22 rfl (ps 141 rfl rfl rfl) ?_
           refine wl_pass 23 rfl (ps 141 rfl rfl rfl) ?_
           refine wl_v 24 rfl (v_pick (b := true) rfl rfl) gn rfl ?_
           refine wl_v 25 rfl (vMv rfl) gn rfl ?_
           refine wl_pass 26 rfl (ps 148 rfl rfl rfl) ?_
           refine wl_pass 27 rfl (ps 148 rfl rfl rfl) ?_
           refine wl_pass 28 rfl (ps 148 rfl rfl rfl) ?_
           refine wl_pass 29 rfl (ps 148 rfl rfl rfl) ?_
           refine wl_pass 30 rfl (ps 148 rfl rfl rfl) ?_
           refine wl_v 31 rfl (v_pick (b := true) rfl rfl) gn rfl ?_
           refine wl_v 32 rfl (vMv rfl) gn rfl ?_
           refine wl_pass 33 rfl (ps 155 rfl rfl rfl) ?_
           refine wl_pass 34 rfl (ps 155 rfl rfl rfl) ?_
           refine wl_pass 35 rfl (ps 155 rfl rfl rfl) ?_
           refine wl_pass 36 rfl (ps 155 rfl rfl rfl) ?_
           refine wl_pass 37 rfl (ps 155 rfl rfl rfl) ?_
           refine wl_v 38 rfl (v_pick (b := true) rfl rfl) gn rfl ?_
           refine w_end 39 rfl ?_
           exact g_go [0, 1] (j8 true h) ⟨rfl, rfl, rfl, rfl, trivial⟩ (.cons_cons _ (.cons_cons _ (.cons_cons _ (.slnil)))) rfl
         ·have h := if_neg' hp655 h
          refine w_bool 133 rfl ((neib hp655)) ?_
          refine wl_pass 11 rfl (ps 133 rfl rfl rfl) ?_
          refine wl_pass 12 rfl (ps 133 rfl rfl rfl) ?_
          refine wl_pass 13 rfl (ps 133 rfl rfl rfl) ?_
          refine wl_pass 14 rfl (ps 133 rfl rfl rfl) ?_
          refine wl_pass 15 rfl (ps 133 rfl rfl rfl) ?_
          refine wl_pass 16 rfl (ps 133 rfl rfl rfl) ?_
          refine wl_v 17 rfl (v_pick (b := true) rfl rfl) gn rfl ?_
          refine wl_v 18 rfl (vMv rfl) gn rfl ?_
          refine wl_pass 19 rfl (ps 141 rfl rfl rfl) ?_
          refine wl_pass 20 rfl (ps 141 rfl rfl rfl) ?_
          refine wl_pass 21 rfl (ps 141 rfl rfl rfl) ?_
          refine wl_pass 22 rfl (ps 141 rfl rfl rfl) ?_
          refine wl_pass 23 rfl (ps 141 rfl rfl rfl) ?_
          refine wl_v 24 rfl (v_pick (b := true) rfl rfl) gn rfl ?_
          refine wl_v 25 rfl (vMv rfl) gn rfl ?_
          refine wl_pass 26 rfl (ps 148 rfl rfl rfl) ?_
          refine wl_pass 27 rfl (ps 148 rfl rfl rfl) ?_
          refine wl_pass 28 rfl (ps 148 rfl rfl rfl) ?_
          refine wl_pass 29 rfl (ps 148 rfl rfl rfl) ?_
          refine wl_pass 30 rfl (ps 148 rfl rfl rfl) ?_
          refine wl_v 31 rfl (v_pick (b := true) rfl rfl) gn rfl ?_
          refine wl_v 32 rfl (vMv rfl) gn rfl ?_
          refine wl_pass 33 rfl (ps 155 rfl rfl rfl) ?_
          refine wl_pass 34 rfl (ps 155 rfl rfl rfl) ?_
          refine wl_pass 35 rfl (ps 155 rfl rfl rfl) ?_
          refine wl_pass 36 rfl (ps 155 rfl rfl rfl) ?_
          refine wl_pass 37 rfl (ps 155 rfl rfl rfl) ?_
          refine wl_v 38 rfl (v_pick (b := true) rfl rfl) gn rfl ?_
          refine w_end 39 rfl ?_
          exact g_go [0, 1] (j8 true h) ⟨rfl, rfl, rfl, rfl, trivial⟩ (.cons_cons _ (.cons_cons _ (.cons_cons _ (.slnil)))) rfl
        ·have h := if_neg' hp654 h
         refine w_bool 125 rfl ((neib hp654)) ?_
         refine wl_pass 3 rfl (ps 125 rfl rfl rfl) ?_
         refine wl_pass 4 rfl (ps 125 rfl rfl rfl) ?_
         refine wl_pass 5 rfl (ps 125 rfl rfl rfl) ?_
         refine wl_pass 6 rfl (ps 125 rfl rfl rfl) ?_
         refine wl_pass 7 rfl (ps 125 rfl rfl rfl) ?_
         refine wl_pass 8 rfl (ps 125 rfl rfl rfl) ?_
         refine wl_v 9 rfl (v_pick (b := true) rfl rfl) gn rfl ?_
         refine wl_v 10 rfl (vMv rfl) gn rfl ?_
         refine wl_pass 11 rfl (ps 133 rfl rfl rfl) ?_
         refine wl_pass 12 rfl (ps 133 rfl rfl rfl) ?_
         refine wl_pass 13 rfl (ps 133 rfl rfl rfl) ?_
         refine wl_pass 14 rfl (ps 133 rfl rfl rfl) ?_
         refine wl_pass 15 rfl (ps 133 rfl rfl rfl) ?_
         refine wl_pass 16 rfl (ps 133 rfl rfl rfl) ?_
         refine wl_v 17 rfl (v_pick (b := true) rfl rfl) gn rfl ?_
         refine wl_v 18 rfl (vMv rfl) gn rfl ?_
         refine wl_pass 19 rfl (ps 141 rfl rfl rfl) ?_
         refine wl_pass 20 rfl (ps 141 rfl rfl rfl) ?_
         refine wl_pass 21 rfl (ps 141 rfl rfl rfl) ?_
         refine wl_pass 22 rfl (ps 141 rfl rfl rfl) ?_
         refine wl_pass 23 rfl (ps 141 rfl rfl rfl) ?_
         refine wl_v 24 rfl (v_pick (b := true) rfl rfl) gn rfl ?_
         refine wl_v 25 rfl (vMv rfl) gn rfl ?_
         refine wl_pass 26 rfl (ps 148 rfl rfl rfl) ?_
         refine wl_pass 27 rfl (ps 148 rfl rfl rfl) ?_
         refine wl_pass 28 rfl (ps 148 rfl rfl rfl) ?_
         refine wl_pass 29 rfl (ps 148 rfl rfl rfl) ?_
         refine wl_pass 30 rfl (ps 148 rfl rfl rfl) ?_
         refine wl_v 31 rfl (v_pick (b := true) rfl rfl) gn rfl ?_
         refine wl_v 32 rfl (vMv rfl) gn rfl ?_
         refine wl_pass 33 rfl (ps 155 rfl rfl rfl) ?_
         refine wl_pass 34 rfl (ps 155 rfl rfl rfl) ?_
         refine wl_pass 35 rfl (ps 155 rfl rfl rfl) ?_
         refine wl_pass 36 rfl (ps 155 rfl rfl rfl) ?_
         refine wl_pass 37 rfl (ps 155 rfl rfl rfl) ?_
         refine wl_v 38 rfl (v_pick (b := true) rfl rfl) gn rfl ?_
         refine w_end 39 rfl ?_
         exact g_go [0, 1] (j8 true h) ⟨rfl, rfl, rfl, rfl, trivial⟩ (.cons_cons _ (.cons_cons _ (.cons_cons _ (.slnil)))) rfl
       ·have h := if_neg' hp602 h
        refine gTr (c := q9c51) rfl _ rfl ((neib hp602)) ?_
        refine gSq (c := q9c52) rfl ?_
        have j9 : ∀ (x664 : Bool) (h : tl_JsonBlanks_j9 x664 o1) , G (tl_JsonBlanks_C w F r) [.code q9c69, .code q9c49] [(4, .bool x664)] [] [Sm w.heap.size F w [], St w []] := by
         intro x664 h
         unfold tl_JsonBlanks_j9 at h
         have h := Out.inr hO1 h
         refine g_retR (c := q9c69) [.bool x664] rfl Tryd.func9 rfl (.tmp rfl (.nil)) fun wr hLr => ?_
         have hMr : B.Loc w wr [] [St w []] := hLr.pick0 (sels [1] rfl)
         show tl_JsonBlanks_R w F  r (.returned (packV [.bool x664])) wr
         rw [h]
         exact ⟨rfl, hMr⟩
        refine gRg (c := q9c68) rfl rfl ?_
        refine wl_v 0 rfl (vMv rfl) gn rfl ?_
        refine wl_v 1 rfl (vBn rfl rfl rfl) gn rfl ?_
        refine wl_v 2 rfl (vMv rfl) gn rfl ?_
        by_cases hp665 : r592.2.1 = 251
        ·have h := if_pos' hp665 h
         refine w_bool 111 rfl ((eqi hp665)) ?_
         refine wl_v 3 rfl (vMv rfl) (gy 111 rfl rfl) rfl ?_
         refine wl_v 4 rfl (vBn rfl rfl rfl) (gy 111 rfl rfl) rfl ?_
         refine wl_v 5 rfl (v_pick (b := true) rfl rfl) gn rfl ?_
         refine wl_v 6 rfl (vAs rfl) gn rfl ?_
         refine w_end 7 rfl ?_
         exact g_go [0, 1] (j9 (decide (r592.2.2 > 0)) h) ⟨rfl, trivial⟩ (.cons _ (.cons _ (.slnil))) rfl
        ·have h := if_neg' hp665 h
         refine w_bool 111 rfl ((nei hp665)) ?_
         refine wl_pass 3 rfl (ps 111 rfl rfl rfl) ?_
         refine wl_pass 4 rfl (ps 111 rfl rfl rfl) ?_
         refine wl_v 5 rfl (v_pick (b := false) rfl rfl) gn rfl ?_
         refine wl_v 6 rfl (vAs rfl) gn rfl ?_
         refine w_end 7 rfl ?_
         exact g_go [0, 1] (j9 false h) ⟨rfl, trivial⟩ (.cons _ (.cons _ (.slnil))) rfl
     refine gRg (c := q9c40) rfl rfl ?_
     refine wl_v 0 rfl (vMv rfl) gn rfl ?_
     refine wl_v 1 rfl (vBn rfl rfl rfl) gn rfl ?_
     refine wl_v 2 rfl (vMv rfl) gn rfl ?_
     by_cases hp666 : r564.2.1 = 0
     ·have h := if_pos' hp666 h
      refine w_bool 93 rfl ((eqib hp666)) ?_
      refine wl_v 3 rfl (vMv rfl) (gy 93 rfl rfl) rfl ?_
      refine wl_v 4 rfl (vMv rfl) (gy 93 rfl rfl) rfl ?_
      obtain ⟨r670, hv671, h⟩ := h
      refine wl_s 5 rfl (sCl [.slice A17 n18 c19, .slice A566 n567 c568] rfl Tryd.func27 rfl rfl rfl fun w667 hL668 => ?_) (gy 93 rfl rfl)
      have hp669 : List.Perm ([.own (.slice A566 n567 c568) 31 4 n567 (r564.1.flatMap eJN), .box gb25 42 (encA 4 fun j => [.string (x27 j)]), .own (.slice A17 n18 c19) 31 4 n18 (r15.1.flatMap eJN)] : List Ent) (([] : List Ent) ++ ([.own (.slice A566 n567 c568) 31 4 n567 (r564.1.flatMap eJN), .box gb25 42 (encA 4 fun j => [.string (x27 j)]), .own (.slice A17 n18 c19) 31 4 n18 (r15.1.flatMap eJN)] : List Ent)) := pIx [] [0, 1, 2] rfl rfl (by kernel_rfl)
      refine Calls.mono (tl_same_calls w667 (Fl ([] : List Snap)) r15.1 r564.1 A17 n18 c19 A566 n567 c568 (hL668.argO (dk := k_api_JNode) hp669 [] rfl 2 rfl rfl (Ow.weak hL13.env.size h20) (me 0 rfl) (Cells.flat _)) (hL668.argO (dk := k_api_JNode) hp669 [] rfl 0 rfl rfl (Ow.weak hL562.env.size h569) (me 0 rfl) (Cells.flat _)) (hL668.hFl (Sl := ([] : List Snap)) hp669 (sels [] rfl)) (hL668.into hp669 (Fl ([] : List Snap))) r670 hv671) ?_
      rintro _ w672 ⟨rfl, hM673⟩
      have hL674 := hL668.call hp669 hM673
      refine ⟨_, _, _, rfl, hL674, ?_⟩
      refine wl_v 6 rfl (v_not rfl) (gy 93 rfl rfl) rfl ?_
      refine wl_v 7 rfl (v_pick (b := false) rfl rfl) gn rfl ?_
      refine w_end 8 rfl ?_
      exact g_go [0, 1] (j7 (!r670) h) ⟨rfl, rfl, rfl, trivial⟩ (.cons _ (.cons _ (.cons_cons _ (.slnil)))) rfl
     ·have h := if_neg' hp666 h
      refine w_bool 93 rfl ((neib hp666)) ?_
      refine wl_pass 3 rfl (ps 93 rfl rfl rfl) ?_
      refine wl_pass 4 rfl (ps 93 rfl rfl rfl) ?_
      refine wl_pass 5 rfl (ps 93 rfl rfl rfl) ?_
      refine wl_pass 6 rfl (ps 93 rfl rfl rfl) ?_
      refine wl_v 7 rfl (v_pick (b := true) rfl rfl) gn rfl ?_
      refine w_end 8 rfl ?_
      exact g_go [0, 1] (j7 true h) ⟨rfl, rfl, rfl, trivial⟩ (.cons _ (.cons _ (.cons_cons _ (.slnil)))) rfl
    ·have h := if_neg' hp574 h
     refine gTr (c := q9c35) rfl _ rfl ((neib hp574)) ?_
     refine gSq (c := q9c36) rfl ?_
     refine gSq (c := q9c70) rfl ?_
     refine gRg (c := q9c72) rfl rfl ?_
     refine wl_v 0 rfl (vMv rfl) gn rfl ?_
     refine wl_v 1 rfl (vMv rfl) gn rfl ?_
     refine wl_v 2 rfl (v_lenS un_9 rfl) gn rfl ?_
     refine wl_v 3 rfl (vBn rfl rfl rfl) gn rfl ?_
     refine w_end 4 rfl ?_
     by_cases hp675 : r15.2.2 = (x1.size : Int)
     ·have h := if_pos' hp675 h
      refine gTr (c := q9c73) rfl _ rfl ((eqi hp675)) ?_
      refine gSq (c := q9c74) rfl ?_
      have j10 : ∀ (x679 : Bool) (h : tl_JsonBlanks_j10 x679 o1) , G (tl_JsonBlanks_C w F r) [.code q9c77, .code q9c71, .code q9c33] [(4, .bool x679)] [] [Sm w.heap.size F w [], St w []] := by
       intro x679 h
       unfold tl_JsonBlanks_j10 at h
       have h := Out.inr hO1 h
       refine g_retR (c := q9c77) [.bool x679] rfl Tryd.func9 rfl (.tmp rfl (.nil)) fun wr hLr => ?_
       have hMr : B.Loc w wr [] [St w []] := hLr.pick0 (sels [1] rfl)
       show tl_JsonBlanks_R w F  r (.returned (packV [.bool x679])) wr
       rw [h]
       exact ⟨rfl, hMr⟩
      refine gRg (c := q9c76) rfl rfl ?_
      refine wl_v 0 rfl (vMv rfl) gn rfl ?_
      refine wl_v 1 rfl (vBn rfl rfl rfl) gn rfl ?_
      refine wl_v 2 rfl (vMv rfl) gn rfl ?_
      by_cases hp680 : r564.2.1 = 250
      ·have h := if_pos' hp680 h
       refine w_bool 62 rfl ((eqi hp680)) ?_
       refine wl_v 3 rfl (vMv rfl) (gy 62 rfl rfl) rfl ?_
       refine wl_v 4 rfl (vMv rfl) (gy 62 rfl rfl) rfl ?_
       refine wl_v 5 rfl (v_lenS un_9 rfl) (gy 62 rfl rfl) rfl ?_
       refine wl_v 6 rfl (vMv rfl) (gy 62 rfl rfl) rfl ?_
       refine wl_v 7 rfl (vBn rfl rfl rfl) (gy 62 rfl rfl) rfl ?_
       refine wl_v 8 rfl (vBn rfl rfl rfl) (gy 62 rfl rfl) rfl ?_
       refine wl_v 9 rfl (v_pick (b := true) rfl rfl) gn rfl ?_
       refine wl_v 10 rfl (vMv rfl) gn rfl ?_
       by_cases hp681 : r564.2.2 ≥ w64 ((x162.size : Int) + r15.2.2)
       ·have h := if_pos' hp681 h
        refine w_bool 70 rfl ((decide_eq_true hp681)) ?_
        refine wl_v 11 rfl (vMv rfl) (gy 70 rfl rfl) rfl ?_
        refine wl_v 12 rfl (v_lenQ un_22 rfl (Ow.weak hL562.env.size h569).hq) (gy 70 rfl rfl) rfl ?_
        refine wl_v 13 rfl (vBn rfl rfl rfl) (gy 70 rfl rfl) rfl ?_
        refine wl_v 14 rfl (v_pick (b := true) rfl rfl) gn rfl ?_
        refine wl_v 15 rfl (vAs rfl) gn rfl ?_
        refine w_end 16 rfl ?_
        exact g_go [0, 1] (j10 ((r564.1.length : Int) == 0) h) ⟨rfl, trivial⟩ (.cons _ (.cons _ (.cons _ (.slnil)))) rfl
       ·have h := if_neg' hp681 h
        refine w_bool 70 rfl ((decide_eq_false hp681)) ?_
        refine wl_pass 11 rfl (ps 70 rfl rfl rfl) ?_
        refine wl_pass 12 rfl (ps 70 rfl rfl rfl) ?_
        refine wl_pass 13 rfl (ps 70 rfl rfl rfl) ?_
        refine wl_v 14 rfl (v_pick (b := false) rfl rfl) gn rfl ?_
        refine wl_v 15 rfl (vAs rfl) gn rfl ?_
        refine w_end 16 rfl ?_
        exact g_go [0, 1] (j10 false h) ⟨rfl, trivial⟩ (.cons _ (.cons _ (.cons _ (.slnil)))) rfl
      ·have h := if_neg' hp680 h
       refine w_bool 62 rfl ((nei hp680)) ?_
       refine wl_pass 3 rfl (ps 62 rfl rfl rfl) ?_
       refine wl_pass 4 rfl (ps 62 rfl rfl rfl) ?_
       refine wl_pass 5 rfl (ps 62 rfl rfl rfl) ?_
       refine wl_pass 6 rfl (ps 62 rfl rfl rfl) ?_
       refine wl_pass 7 rfl (ps 62 rfl rfl rfl) ?_
       refine wl_pass 8 rfl (ps 62 rfl rfl rfl) ?_
       refine wl_v 9 rfl (v_pick (b := false) rfl rfl) gn rfl ?_
       refine wl_v 10 rfl (vMv rfl) gn rfl ?_
       refine wl_pass 11 rfl (ps 70 rfl rfl rfl) ?_
       refine wl_pass 12 rfl (ps 70 rfl rfl rfl) ?_
       refine wl_pass 13 rfl (ps 70 rfl rfl rfl) ?_
       refine wl_v 14 rfl (v_pick (b := false) rfl rfl) gn rfl ?_
       refine wl_v 15 rfl (vAs rfl) gn rfl ?_
       refine w_end 16 rfl ?_
       exact g_go [0, 1] (j10 false h) ⟨rfl, trivial⟩ (.cons _ (.cons _ (.cons _ (.slnil)))) rfl
     ·have h := if_neg' hp675 h
      refine gFa (c := q9c73) rfl _ rfl ((nei hp675)) ?_
      refine g_skip (c := q9c75) rfl ?_
      refine gSq (c := q9c71) rfl ?_
      have j11 : ∀ (x685 : Bool) (h : tl_JsonBlanks_j11 x685 o1) , G (tl_JsonBlanks_C w F r) [.code q9c79, .code q9c33] [(4, .bool x685)] [] [Sm w.heap.size F w [], St w []] := by
       intro x685 h
       unfold tl_JsonBlanks_j11 at h
       have h := Out.inr hO1 h
       refine g_retR (c := q9c79) [.bool x685] rfl Tryd.func9 rfl (.tmp rfl (.nil)) fun wr hLr => ?_
       have hMr : B.Loc w wr [] [St w []] := hLr.pick0 (sels [1] rfl)
       show tl_JsonBlanks_R w F  r (.returned (packV [.bool x685])) wr
       rw [h]
       exact ⟨rfl, hMr⟩
      refine gRg (c := q9c78) rfl rfl ?_
      refine wl_v 0 rfl (vMv rfl) gn rfl ?_
      refine wl_v 1 rfl (vMv rfl) gn rfl ?_
      refine wl_v 2 rfl (vBn rfl rfl rfl) gn rfl ?_
      refine wl_v 3 rfl (vMv rfl) gn rfl ?_
      by_cases hp686 : r564.2.1 = r15.2.1
      ·have h := if_pos' hp686 h
       refine w_bool 78 rfl ((eqi hp686)) ?_
       refine wl_v 4 rfl (vMv rfl) (gy 78 rfl rfl) rfl ?_
       refine wl_v 5 rfl (vMv rfl) (gy 78 rfl rfl) rfl ?_
       refine wl_v 6 rfl (vMv rfl) (gy 78 rfl rfl) rfl ?_
       refine wl_v 7 rfl (v_lenS un_9 rfl) (gy 78 rfl rfl) rfl ?_
       refine wl_v 8 rfl (vBn rfl rfl rfl) (gy 78 rfl rfl) rfl ?_
       refine wl_v 9 rfl (vBn rfl rfl rfl) (gy 78 rfl rfl) rfl ?_
       refine wl_v 10 rfl (v_pick (b := true) rfl rfl) gn rfl ?_
       refine wl_v 11 rfl (vMv rfl) gn rfl ?_
       by_cases hp687 : r564.2.2 = w64 (r15.2.2 + (x162.size : Int))
       ·have h := if_pos' hp687 h
        refine w_bool 86 rfl ((eqi hp687)) ?_
        refine wl_v 12 rfl (vMv rfl) (gy 86 rfl rfl) rfl ?_
        refine wl_v 13 rfl (v_lenQ un_22 rfl (Ow.weak hL562.env.size h569).hq) (gy 86 rfl rfl) rfl ?_
        refine wl_v 14 rfl (vBn rfl rfl rfl) (gy 86 rfl rfl) rfl ?_
        refine wl_v 15 rfl (v_pick (b := true) rfl rfl) gn rfl ?_
        refine wl_v 16 rfl (vAs rfl) gn rfl ?_
        refine w_end 17 rfl ?_
        exact g_go [0, 1] (j11 ((r564.1.length : Int) == 0) h) ⟨rfl, trivial⟩ (.cons _ (.cons _ (.cons _ (.slnil)))) rfl
       ·have h := if_neg' hp687 h
        refine w_bool 86 rfl ((nei hp687)) ?_
        refine wl_pass 12 rfl (ps 86 rfl rfl rfl) ?_
        refine wl_pass 13 rfl (ps 86 rfl rfl rfl) ?_
        refine wl_pass 14 rfl (ps 86 rfl rfl rfl) ?_
        refine wl_v 15 rfl (v_pick (b := false) rfl rfl) gn rfl ?_
        refine wl_v 16 rfl (vAs rfl) gn rfl ?_
        refine w_end 17 rfl ?_
        exact g_go [0, 1] (j11 false h) ⟨rfl, trivial⟩ (.cons _ (.cons _ (.cons _ (.slnil)))) rfl
      ·have h := if_neg' hp686 h
       refine w_bool 78 rfl ((nei hp686)) ?_
       refine wl_pass 4 rfl (ps 78 rfl rfl rfl) ?_
       refine wl_pass 5 rfl (ps 78 rfl rfl rfl) ?_
       refine wl_pass 6 rfl (ps 78 rfl rfl rfl) ?_
       refine wl_pass 7 rfl (ps 78 rfl rfl rfl) ?_
       refine wl_pass 8 rfl (ps 78 rfl rfl rfl) ?_
       refine wl_pass 9 rfl (ps 78 rfl rfl rfl) ?_
       refine wl_v 10 rfl (v_pick (b := false) rfl rfl) gn rfl ?_
       refine wl_v 11 rfl (vMv rfl) gn rfl ?_
       refine wl_pass 12 rfl (ps 86 rfl rfl rfl) ?_
       refine wl_pass 13 rfl (ps 86 rfl rfl rfl) ?_
       refine wl_pass 14 rfl (ps 86 rfl rfl rfl) ?_
       refine wl_v 15 rfl (v_pick (b := false) rfl rfl) gn rfl ?_
       refine wl_v 16 rfl (vAs rfl) gn rfl ?_
       refine w_end 17 rfl ?_
       exact g_go [0, 1] (j11 false h) ⟨rfl, trivial⟩ (.cons _ (.cons _ (.cons _ (.slnil)))) rfl
  exact g_go [0, 1] (key1 _ h ()) ⟨rfl, rfl, rfl, rfl, rfl, rfl, rfl, rfl, trivial⟩ (.cons_cons _ (.cons_cons _ (.slnil))) rfl
 ·have h := if_neg' hp11 h
  refine gTr (c := q9c6) rfl _ rfl ((nt (bf hp11))) ?_
  refine gSq (c := q9c7) rfl ?_
  refine gRg (c := q9c80) rfl rfl ?_
  refine wl_v 0 rfl (vAs rfl) gn rfl ?_
  refine w_end 1 rfl ?_
  refine g_retR (c := q9c81) [.bool false] rfl Tryd.func9 rfl (.tmp rfl (.nil)) fun wr hLr => ?_
  have hMr : B.Loc w wr [] [St w []] := hLr.pick0 (sels [1] rfl)
  show tl_JsonBlanks_R w F  r (.returned (packV [.bool false])) wr
  rw [h]
  exact ⟨rfl, hMr⟩
end Go.Proofs.YtmfopcbjgbphaaaDoor.K
