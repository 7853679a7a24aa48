/- What the machine's calls do, function by function, printed by my own tool. Condition of each: its relation holds of the answer, and what is handed in lies in memory as told. -/
import Derived.Test.YtbejkaeidnajkaaK2
set_option linter.unusedVariables false
set_option maxRecDepth 100000
set_option maxHeartbeats 4000000
namespace Go.Proofs.Ytbejkaeidnajkaa.K
open Go.Proofs.Ytbejkaeidnajkaa.B Go.Proofs.Ytbejkaeidnajkaa.R Go.RowKit
noncomputable abbrev q3c0 : Code := bodyOf Try.f3
noncomputable abbrev q3c1 : Code := Code.fst q3c0
noncomputable abbrev q3c2 : Code := Code.snd q3c0
noncomputable abbrev q3c3 : Code := Code.fst q3c2
noncomputable abbrev q3c4 : Code := Code.snd q3c2
noncomputable abbrev q3c5 : Code := Code.fst q3c4
noncomputable abbrev q3c6 : Code := Code.snd q3c4
noncomputable abbrev q3c7 : Code := Code.fst q3c5
noncomputable abbrev q3c8 : Code := Code.snd q3c5
noncomputable abbrev q3c9 : Code := Code.fst q3c8
noncomputable abbrev q3c10 : Code := Code.snd q3c8
noncomputable abbrev q3c11 : Code := Code.fst q3c9
noncomputable abbrev q3c12 : Code := Code.snd q3c9
noncomputable abbrev q3c13 : Code := Code.fst q3c6
noncomputable abbrev q3c14 : Code := Code.snd q3c6
noncomputable abbrev q3c15 : Code := Code.fst q3c14
noncomputable abbrev q3c16 : Code := Code.snd q3c14
noncomputable abbrev q3c17 : Code := Code.fst q3c16
noncomputable abbrev q3c18 : Code := Code.snd q3c16
noncomputable abbrev q3c19 : Code := Code.fst q3c18
noncomputable abbrev q3c20 : Code := Code.snd q3c18
noncomputable abbrev q3c21 : Code := Code.fst q3c20
noncomputable abbrev q3c22 : Code := Code.snd q3c20
noncomputable abbrev q3c23 : Code := Code.fst q3c21
noncomputable abbrev q3c24 : Code := Code.snd q3c21
noncomputable abbrev q3c25 : Code := Code.fst q3c24
noncomputable abbrev q3c26 : Code := Code.fst q3c25
noncomputable abbrev q3c27 : Code := Code.fst q3c26
noncomputable abbrev q3c28 : Code := Code.snd q3c26
noncomputable abbrev q3c29 : Code := Code.fst q3c27
noncomputable abbrev q3c30 : Code := Code.snd q3c27
noncomputable abbrev q3c31 : Code := Code.fst q3c30
noncomputable abbrev q3c32 : Code := Code.snd q3c30
noncomputable abbrev q3c33 : Code := Code.fst q3c28
noncomputable abbrev q3c34 : Code := Code.snd q3c28
noncomputable abbrev q3c35 : Code := Code.fst q3c33
noncomputable abbrev q3c36 : Code := Code.fst q3c35
noncomputable abbrev q3c37 : Code := Code.snd q3c35
noncomputable abbrev q3c38 : Code := Code.fst q3c37
noncomputable abbrev q3c39 : Code := Code.snd q3c37
noncomputable abbrev q3c40 : Code := Code.fst q3c38
noncomputable abbrev q3c41 : Code := Code.snd q3c38
noncomputable abbrev q3c42 : Code := Code.fst q3c41
noncomputable abbrev q3c43 : Code := Code.fst q3c42
noncomputable abbrev q3c44 : Code := Code.fst q3c43
noncomputable abbrev q3c45 : Code := Code.snd q3c43
noncomputable abbrev q3c46 : Code := Code.fst q3c44
noncomputable abbrev q3c47 : Code := Code.snd q3c44
noncomputable abbrev q3c48 : Code := Code.fst q3c47
noncomputable abbrev q3c49 : Code := Code.snd q3c47
noncomputable abbrev q3c50 : Code := Code.fst q3c45
noncomputable abbrev q3c51 : Code := Code.snd q3c45
noncomputable abbrev q3c52 : Code := Code.fst q3c50
noncomputable abbrev q3c53 : Code := Code.fst q3c39
noncomputable abbrev q3c54 : Code := Code.snd q3c39
noncomputable abbrev q3c55 : Code := Code.fst q3c54
noncomputable abbrev q3c56 : Code := Code.snd q3c54
noncomputable abbrev q3c57 : Code := Code.fst q3c56
noncomputable abbrev q3c58 : Code := Code.snd q3c56
noncomputable abbrev q3c59 : Code := Code.fst q3c57
noncomputable abbrev q3c60 : Code := Code.snd q3c57
noncomputable abbrev q3c61 : Code := Code.fst q3c60
noncomputable abbrev q3c62 : Code := Code.snd q3c60
noncomputable abbrev q3c63 : Code := Code.fst q3c61
noncomputable abbrev q3c64 : Code := Code.snd q3c61
noncomputable abbrev q3c65 : Code := Code.fst q3c58
noncomputable abbrev q3c66 : Code := Code.snd q3c58
noncomputable abbrev q3c67 : Code := Code.fst q3c65
noncomputable abbrev q3c68 : Code := Code.snd q3c65
noncomputable abbrev q3c69 : Code := Code.fst q3c68
noncomputable abbrev q3c70 : Code := Code.fst q3c69
noncomputable abbrev q3c71 : Code := Code.fst q3c70
noncomputable abbrev q3c72 : Code := Code.snd q3c70
noncomputable abbrev q3c73 : Code := Code.fst q3c71
noncomputable abbrev q3c74 : Code := Code.snd q3c71
noncomputable abbrev q3c75 : Code := Code.fst q3c74
noncomputable abbrev q3c76 : Code := Code.snd q3c74
noncomputable abbrev q3c77 : Code := Code.fst q3c72
noncomputable abbrev q3c78 : Code := Code.snd q3c72
noncomputable abbrev q3c79 : Code := Code.fst q3c77
noncomputable abbrev q3c80 : Code := Code.fst q3c66
noncomputable abbrev q3c81 : Code := Code.snd q3c66
noncomputable abbrev q3c82 : Code := Code.fst q3c81
noncomputable abbrev q3c83 : Code := Code.snd q3c81
noncomputable abbrev q3c84 : Code := Code.fst q3c83
noncomputable abbrev q3c85 : Code := Code.snd q3c83
noncomputable abbrev q3c86 : Code := Code.fst q3c85
noncomputable abbrev q3c87 : Code := Code.fst q3c86
noncomputable abbrev q3c88 : Code := Code.fst q3c87
noncomputable abbrev q3c89 : Code := Code.snd q3c87
noncomputable abbrev q3c90 : Code := Code.fst q3c88
noncomputable abbrev q3c91 : Code := Code.snd q3c88
noncomputable abbrev q3c92 : Code := Code.fst q3c91
noncomputable abbrev q3c93 : Code := Code.snd q3c91
noncomputable abbrev q3c94 : Code := Code.fst q3c89
noncomputable abbrev q3c95 : Code := Code.snd q3c89
noncomputable abbrev q3c96 : Code := Code.fst q3c94
noncomputable abbrev q3c97 : Code := Code.fst q3c96
noncomputable abbrev q3c98 : Code := Code.snd q3c96
noncomputable abbrev q3c99 : Code := Code.fst q3c98
noncomputable abbrev q3c100 : Code := Code.snd q3c98
noncomputable abbrev q3c101 : Code := Code.fst q3c99
noncomputable abbrev q3c102 : Code := Code.snd q3c99
noncomputable abbrev q3c103 : Code := Code.fst q3c22
noncomputable abbrev q3c104 : Code := Code.snd q3c22
noncomputable abbrev q3c105 : Code := Code.fst q3c103
noncomputable abbrev q3c106 : Code := Code.snd q3c103
noncomputable abbrev q3c107 : Code := Code.fst q3c106
noncomputable abbrev q3c108 : Code := Code.fst q3c107
noncomputable abbrev q3c109 : Code := Code.fst q3c108
noncomputable abbrev q3c110 : Code := Code.snd q3c108
noncomputable abbrev q3c111 : Code := Code.fst q3c109
noncomputable abbrev q3c112 : Code := Code.snd q3c109
noncomputable abbrev q3c113 : Code := Code.fst q3c112
noncomputable abbrev q3c114 : Code := Code.snd q3c112
noncomputable abbrev q3c115 : Code := Code.fst q3c104
noncomputable abbrev q3c116 : Code := Code.snd q3c104
noncomputable abbrev q3c117 : Code := Code.fst q3c116
noncomputable abbrev q3c118 : Code := Code.snd q3c116
noncomputable abbrev q3c119 : Code := Code.fst q3c118
noncomputable abbrev q3c120 : Code := Code.snd q3c118
noncomputable abbrev q3c121 : Code := Code.fst q3c110
noncomputable abbrev q3c122 : Code := Code.snd q3c110
noncomputable abbrev q3c123 : Code := Code.fst q3c121
noncomputable abbrev q3c124 : Code := Code.fst q3c123
noncomputable abbrev q3c125 : Code := Code.snd q3c123
noncomputable abbrev q3c126 : Code := Code.fst q3c125
noncomputable abbrev q3c127 : Code := Code.fst q3c126
noncomputable abbrev q3c128 : Code := Code.fst q3c127
noncomputable abbrev q3c129 : Code := Code.snd q3c127
noncomputable abbrev q3c130 : Code := Code.fst q3c128
noncomputable abbrev q3c131 : Code := Code.snd q3c128
noncomputable abbrev q3c132 : Code := Code.fst q3c131
noncomputable abbrev q3c133 : Code := Code.snd q3c131
noncomputable abbrev q3c134 : Code := Code.fst q3c129
noncomputable abbrev q3c135 : Code := Code.snd q3c129
noncomputable abbrev q3c136 : Code := Code.fst q3c134
abbrev trellislaw26_RpcFeeds_R (w : World) (F : Nat → Prop) (r : Bool) : Ending → World → Prop := fun e w' => e = .returned (.bool r) ∧ B.Loc w w' [] [St w []]
noncomputable abbrev trellislaw26_RpcFeeds_C (w : World) (F : Nat → Prop) (r : Bool) : Cx := ⟨Try.prog, 3, Try.f3, 187, trellislaw26_RpcFeeds_R w F  r, w⟩
theorem trellislaw26_RpcFeeds_calls (w : World) (F : Nat → Prop) (x1 : List (List Int)) (A2 : Option Addr) (n3 : Nat) (c4 : Nat) (h5 : Rw (Kd.slice (kInt .u8)) w (St w []).av A2 n3 c4 x1) (hF : ∀ b, F b → b < w.heap.size ∧ ∀ o ∈ ([] : List (List Nat)), b ∉ o) (hL0 : B.Loc w w [] [Sm w.heap.size F w [], St w []]) (r : Bool) (h : trellislaw26_RpcFeeds x1 r) : Calls Try.prog 3 #[.slice A2 n3 c4] w (trellislaw26_RpcFeeds_R w F  r) := by
 unfold trellislaw26_RpcFeeds at h
 refine calls_of_Loc (vs := [.slice A2 n3 c4]) 187 Try.func3 rfl Try.ntmps3 rfl hL0 ?_
 show G (trellislaw26_RpcFeeds_C w F r) _ _ _ _
 refine g_seq (c := q3c0) rfl ?_
 refine g_region (c := q3c1) rfl rfl ?_
 refine wl_v 0 rfl (v_assign rfl) gn rfl ?_
 refine w_end 1 rfl ?_
 refine g_seq (c := q3c2) rfl ?_
 refine g_region (c := q3c3) rfl rfl ?_
 obtain ⟨r9, hv10, h⟩ := h
 refine wl_s 0 rfl (s_call [] rfl Try.func4 rfl rfl rfl fun w6 hL7 => ?_) gn
 have hp8 : List.Perm ([] : List Ent) (([] : List Ent) ++ ([] : List Ent)) := perm_of_idx [] [] rfl rfl (by kernel_rfl)
 refine Calls.mono (rpc_New_calls w6 (Fl ([] : List Snap)) (hL7.hFl (Sl := ([] : List Snap)) hp8 (sels [] rfl)) (hL7.into hp8 (Fl ([] : List Snap))) r9 hv10) ?_
 rintro _ w16 ⟨gb19, A11, n12, c13, rfl, hM17, h14⟩
 have hL18 := hL7.call hp8 hM17
 refine ⟨_, _, _, rfl, hL18, ?_⟩
 refine wl_v 1 rfl (v_assign rfl) gn rfl ?_
 refine w_end 2 rfl ?_
 refine g_seq (c := q3c4) rfl ?_
 refine g_seq (c := q3c5) rfl ?_
 have j1 : ∀ (x48 : Bool) (x49 : List Int) (x56 : Int) (h : trellislaw26_RpcFeeds_j1 x1 x48 x49 x56 r) (A50 : Option Addr) (n51 : Nat) (c52 : Nat) (sw53 : World) (sb54 : List (List Nat)) (h55 : At (kInt .u8) (Sm w.heap.size F sw53 sb54) A50 n51 c52 x49), G (trellislaw26_RpcFeeds_C w F r) [.code q3c8, .code q3c6] [(0, .slice A2 n3 c4), (3, .pointer (some ⟨gb19, 0, none⟩)), (34, .bool x48)] [.box gb19 41 [.slice A50 n51 c52, .int .i64 x56]] [Sm w.heap.size F sw53 sb54, Sm w.heap.size F w [], St w []] := by
  intro x48 x49 x56 h A50 n51 c52 sw53 sb54 h55
  unfold trellislaw26_RpcFeeds_j1 at h
  by_cases hp57 : x48 = true
  ·have h := if_pos' hp57 h
   refine g_true (c := q3c8) rfl _ rfl (hp57) ?_
   refine g_seq (c := q3c9) rfl ?_
   refine g_region (c := q3c11) rfl rfl ?_
   refine wl_v 0 rfl (v_assign rfl) gn rfl ?_
   refine w_end 1 rfl ?_
   refine g_retR (c := q3c12) [.bool false] rfl Try.func3 rfl (.tmp rfl (.nil)) fun wr hLr => ?_
   have hMr : B.Loc w wr [] [St w []] := hLr.pick0 (sels [2] rfl)
   show trellislaw26_RpcFeeds_R w F  r (.returned (packV [.bool false])) wr
   rw [h]
   exact ⟨rfl, hMr⟩
  ·have h := if_neg' hp57 h
   refine g_false (c := q3c8) rfl _ rfl ((bf hp57)) ?_
   refine g_skip (c := q3c10) rfl ?_
   refine g_seq (c := q3c6) rfl ?_
   refine g_region (c := q3c13) rfl rfl ?_
   refine wl_v 0 rfl (v_move rfl) gn rfl ?_
   obtain ⟨r61, hv62, h⟩ := h
   refine wl_s 1 rfl (s_call [.slice A2 n3 c4] rfl Try.func7 rfl rfl rfl fun w58 hL59 => ?_) gn
   have hp60 : List.Perm ([.box gb19 41 [.slice A50 n51 c52, .int .i64 x56]] : List Ent) (([] : List Ent) ++ ([.box gb19 41 [.slice A50 n51 c52, .int .i64 x56]] : List Ent)) := perm_of_idx [] [0] rfl rfl (by kernel_rfl)
   refine Calls.mono (trellislaw26_room_calls w58 (Fl ([] : List Snap)) x1 A2 n3 c4 (Rw.mono h5 (hL59.toSt hp60 (me 2 rfl))) (hL59.hFl (Sl := ([] : List Snap)) hp60 (sels [] rfl)) (hL59.into hp60 (Fl ([] : List Snap))) r61 hv62) ?_
   rintro _ w68 ⟨A63, n64, c65, rfl, hM69, h66⟩
   have hL70 := hL59.call hp60 hM69
   refine ⟨_, _, _, rfl, hL70, ?_⟩
   refine wl_v 2 rfl (v_assign rfl) gn rfl ?_
   refine w_end 3 rfl ?_
   refine g_seq (c := q3c14) rfl ?_
   refine g_region (c := q3c15) rfl rfl ?_
   obtain ⟨r74, hv75, h⟩ := h
   refine wl_s 0 rfl (s_call [] rfl Try.func8 rfl rfl rfl fun w71 hL72 => ?_) gn
   have hp73 : List.Perm ([.own (.slice A63 n64 c65) 5 1 n64 (r61.flatMap (eI .u8)), .box gb19 41 [.slice A50 n51 c52, .int .i64 x56]] : List Ent) (([] : List Ent) ++ ([.own (.slice A63 n64 c65) 5 1 n64 (r61.flatMap (eI .u8)), .box gb19 41 [.slice A50 n51 c52, .int .i64 x56]] : List Ent)) := perm_of_idx [] [0, 1] rfl rfl (by kernel_rfl)
   refine Calls.mono (trellisref26_New_calls w71 (Fl ([] : List Snap)) (hL72.hFl (Sl := ([] : List Snap)) hp73 (sels [] rfl)) (hL72.into hp73 (Fl ([] : List Snap))) r74 hv75) ?_
   rintro _ w81 ⟨gb84, A76, n77, c78, rfl, hM82, h79⟩
   have hL83 := hL72.call hp73 hM82
   refine ⟨_, _, _, rfl, hL83, ?_⟩
   refine wl_v 1 rfl (v_assign rfl) gn rfl ?_
   refine w_end 2 rfl ?_
   refine g_seq (c := q3c16) rfl ?_
   refine g_region (c := q3c17) rfl rfl ?_
   refine wl_v 0 rfl (v_assign rfl) gn rfl ?_
   refine w_end 1 rfl ?_
   refine g_seq (c := q3c18) rfl ?_
   refine g_region (c := q3c19) rfl rfl ?_
   refine wl_v 0 rfl (v_assign rfl) gn rfl ?_
   refine w_end 1 rfl ?_
   refine g_seq (c := q3c20) rfl ?_
   refine g_seq (c := q3c21) rfl ?_
   refine g_region (c := q3c23) rfl rfl ?_
   refine wl_v 0 rfl (v_assign rfl) gn rfl ?_
   refine w_end 1 rfl ?_
   refine g_block (c := q3c24) rfl ?_
   refine g_loop (c := q3c25) rfl ?_
   have key2 : ∀ s, Rounds (fun (s : (List Int) × (List (List ByteArray)) × (List (List ByteArray)) × Int × (List Int) × Int × (List Int) × Int) o => trellislaw26_RpcFeeds_b2 x1 s.1 s.2.1 s.2.2.1 s.2.2.2.1 s.2.2.2.2.1 s.2.2.2.2.2.1 s.2.2.2.2.2.2.1 s.2.2.2.2.2.2.2 o) s r → (fun (s : (List Int) × (List (List ByteArray)) × (List (List ByteArray)) × Int × (List Int) × Int × (List Int) × Int) => ∀ (h3159 : Ow w.heap.size A63 n64 c65 s.1) (A3161 : Option Addr) (n3162 : Nat) (c3163 : Nat) (cs3164 : List Value) (bs3165 : List Nat) (h3166 : Ow w.heap.size A3161 n3162 c3163 s.2.1) (A3168 : Option Addr) (n3169 : Nat) (c3170 : Nat) (cs3171 : List Value) (bs3172 : List Nat) (h3173 : Ow w.heap.size A3168 n3169 c3170 s.2.2.1) (A3176 : Option Addr) (n3177 : Nat) (c3178 : Nat) (sw3179 : World) (sb3180 : List (List Nat)) (h3181 : At (kInt .u8) (Sm w.heap.size F sw3179 sb3180) A3176 n3177 c3178 s.2.2.2.2.1) (A3184 : Option Addr) (n3185 : Nat) (c3186 : Nat) (sw3187 : World) (sb3188 : List (List Nat)) (h3189 : At (kInt .u8) (Sm w.heap.size F sw3187 sb3188) A3184 n3185 c3186 s.2.2.2.2.2.2.1), G (trellislaw26_RpcFeeds_C w F r) [.code q3c26, .inLoop q3c26, .inBlock 0, .code q3c22] [(0, .slice A2 n3 c4), (3, .pointer (some ⟨gb19, 0, none⟩)), (4, .slice A63 n64 c65), (5, .pointer (some ⟨gb84, 0, none⟩)), (6, .slice A3161 n3162 c3163), (7, .slice A3168 n3169 c3170), (8, .int .i64 s.2.2.2.1)] [famE fk_33 (w.heap.size) none s.2.1 cs3164 bs3165, famE fk_33 (w.heap.size) none s.2.2.1 cs3171 bs3172, .own (.slice A3161 n3162 c3163) 33 1 n3162 cs3164, .own (.slice A3168 n3169 c3170) 33 1 n3169 cs3171, .box gb84 45 [.slice A3176 n3177 c3178, .int .i64 s.2.2.2.2.2.1], .own (.slice A63 n64 c65) 5 1 n64 (s.1.flatMap (eI .u8)), .box gb19 41 [.slice A3184 n3185 c3186, .int .i64 s.2.2.2.2.2.2.2]] [Sm w.heap.size F sw3179 sb3180, Sm w.heap.size F sw3187 sb3188, Sm w.heap.size F sw53 sb54, Sm w.heap.size F w [], St w []]) s := by
    intro s hs
    refine Rounds.ind (mot := (fun (s : (List Int) × (List (List ByteArray)) × (List (List ByteArray)) × Int × (List Int) × Int × (List Int) × Int) => ∀ (h3159 : Ow w.heap.size A63 n64 c65 s.1) (A3161 : Option Addr) (n3162 : Nat) (c3163 : Nat) (cs3164 : List Value) (bs3165 : List Nat) (h3166 : Ow w.heap.size A3161 n3162 c3163 s.2.1) (A3168 : Option Addr) (n3169 : Nat) (c3170 : Nat) (cs3171 : List Value) (bs3172 : List Nat) (h3173 : Ow w.heap.size A3168 n3169 c3170 s.2.2.1) (A3176 : Option Addr) (n3177 : Nat) (c3178 : Nat) (sw3179 : World) (sb3180 : List (List Nat)) (h3181 : At (kInt .u8) (Sm w.heap.size F sw3179 sb3180) A3176 n3177 c3178 s.2.2.2.2.1) (A3184 : Option Addr) (n3185 : Nat) (c3186 : Nat) (sw3187 : World) (sb3188 : List (List Nat)) (h3189 : At (kInt .u8) (Sm w.heap.size F sw3187 sb3188) A3184 n3185 c3186 s.2.2.2.2.2.2.1), G (trellislaw26_RpcFeeds_C w F r) [.code q3c26, .inLoop q3c26, .inBlock 0, .code q3c22] [(0, .slice A2 n3 c4), (3, .pointer (some ⟨gb19, 0, none⟩)), (4, .slice A63 n64 c65), (5, .pointer (some ⟨gb84, 0, none⟩)), (6, .slice A3161 n3162 c3163), (7, .slice A3168 n3169 c3170), (8, .int .i64 s.2.2.2.1)] [famE fk_33 (w.heap.size) none s.2.1 cs3164 bs3165, famE fk_33 (w.heap.size) none s.2.2.1 cs3171 bs3172, .own (.slice A3161 n3162 c3163) 33 1 n3162 cs3164, .own (.slice A3168 n3169 c3170) 33 1 n3169 cs3171, .box gb84 45 [.slice A3176 n3177 c3178, .int .i64 s.2.2.2.2.2.1], .own (.slice A63 n64 c65) 5 1 n64 (s.1.flatMap (eI .u8)), .box gb19 41 [.slice A3184 n3185 c3186, .int .i64 s.2.2.2.2.2.2.2]] [Sm w.heap.size F sw3179 sb3180, Sm w.heap.size F sw3187 sb3188, Sm w.heap.size F sw53 sb54, Sm w.heap.size F w [], St w []])) ?_ hs
    clear hs s
    intro s o1 h hO1
    obtain ⟨x3158, x3160, x3167, x3174, x3175, x3182, x3183, x3190⟩ := s
    show ∀ (h3159 : Ow w.heap.size A63 n64 c65 x3158) (A3161 : Option Addr) (n3162 : Nat) (c3163 : Nat) (cs3164 : List Value) (bs3165 : List Nat) (h3166 : Ow w.heap.size A3161 n3162 c3163 x3160) (A3168 : Option Addr) (n3169 : Nat) (c3170 : Nat) (cs3171 : List Value) (bs3172 : List Nat) (h3173 : Ow w.heap.size A3168 n3169 c3170 x3167) (A3176 : Option Addr) (n3177 : Nat) (c3178 : Nat) (sw3179 : World) (sb3180 : List (List Nat)) (h3181 : At (kInt .u8) (Sm w.heap.size F sw3179 sb3180) A3176 n3177 c3178 x3175) (A3184 : Option Addr) (n3185 : Nat) (c3186 : Nat) (sw3187 : World) (sb3188 : List (List Nat)) (h3189 : At (kInt .u8) (Sm w.heap.size F sw3187 sb3188) A3184 n3185 c3186 x3183), G (trellislaw26_RpcFeeds_C w F r) [.code q3c26, .inLoop q3c26, .inBlock 0, .code q3c22] [(0, .slice A2 n3 c4), (3, .pointer (some ⟨gb19, 0, none⟩)), (4, .slice A63 n64 c65), (5, .pointer (some ⟨gb84, 0, none⟩)), (6, .slice A3161 n3162 c3163), (7, .slice A3168 n3169 c3170), (8, .int .i64 x3174)] [famE fk_33 (w.heap.size) none x3160 cs3164 bs3165, famE fk_33 (w.heap.size) none x3167 cs3171 bs3172, .own (.slice A3161 n3162 c3163) 33 1 n3162 cs3164, .own (.slice A3168 n3169 c3170) 33 1 n3169 cs3171, .box gb84 45 [.slice A3176 n3177 c3178, .int .i64 x3182], .own (.slice A63 n64 c65) 5 1 n64 (x3158.flatMap (eI .u8)), .box gb19 41 [.slice A3184 n3185 c3186, .int .i64 x3190]] [Sm w.heap.size F sw3179 sb3180, Sm w.heap.size F sw3187 sb3188, Sm w.heap.size F sw53 sb54, Sm w.heap.size F w [], St w []]
    intro h3159 A3161 n3162 c3163 cs3164 bs3165 h3166 A3168 n3169 c3170 cs3171 bs3172 h3173 A3176 n3177 c3178 sw3179 sb3180 h3181 A3184 n3185 c3186 sw3187 sb3188 h3189
    have h : trellislaw26_RpcFeeds_b2 x1 x3158 x3160 x3167 x3174 x3175 x3182 x3183 x3190 o1 := h
    unfold trellislaw26_RpcFeeds_b2 at h
    refine g_seq (c := q3c26) rfl ?_
    refine g_seq (c := q3c27) rfl ?_
    refine g_region (c := q3c29) rfl rfl ?_
    refine wl_v 0 rfl (v_move rfl) gn rfl ?_
    refine wl_v 1 rfl (v_move rfl) gn rfl ?_
    refine wl_v 2 rfl (v_lenQ un_22 rfl h5.hq) gn rfl ?_
    refine wl_v 3 rfl (v_bin rfl rfl rfl) gn rfl ?_
    refine w_end 4 rfl ?_
    by_cases hp6532 : x3174 < (x1.length : Int)
    ·have h := if_pos' hp6532 h
     refine g_true (c := q3c30) rfl _ rfl ((decide_eq_true hp6532)) ?_
     refine g_skip (c := q3c31) rfl ?_
     refine g_seq (c := q3c28) rfl ?_
     refine g_block (c := q3c33) rfl ?_
     refine g_seq (c := q3c35) rfl ?_
     refine g_region (c := q3c36) rfl rfl ?_
     refine wl_v 0 rfl (v_move rfl) gn rfl ?_
     refine wl_v 1 rfl (v_move rfl) gn rfl ?_
     obtain ⟨hb6533, h⟩ := h
     obtain ⟨ce6535, hK6536, hr6534⟩ := Rw.read (s := St w []) h5 hb6533
     obtain ⟨A6537, n6538, c6539, rfl, h6540⟩ := hK6536
     refine wl_v 2 rfl (v_idxR (s := St w []) slE_22 rfl rfl h5 hb6533) gn rfl ?_
     refine wl_v 3 rfl (v_ldA1 (kk := (x3174 : Int).toNat * 1) (j := 0) (St w []) ld_27 rfl hr6534 rfl (me 4 rfl)) gn rfl ?_
     obtain ⟨r6544, hv6545, h⟩ := h
     refine wl_s 4 rfl (s_call [.slice A6537 n6538 c6539] rfl Try.func9 rfl rfl rfl fun w6541 hL6542 => ?_) gn
     have hp6543 : List.Perm ([famE fk_33 (w.heap.size) none x3160 cs3164 bs3165, famE fk_33 (w.heap.size) none x3167 cs3171 bs3172, .own (.slice A3161 n3162 c3163) 33 1 n3162 cs3164, .own (.slice A3168 n3169 c3170) 33 1 n3169 cs3171, .box gb84 45 [.slice A3176 n3177 c3178, .int .i64 x3182], .own (.slice A63 n64 c65) 5 1 n64 (x3158.flatMap (eI .u8)), .box gb19 41 [.slice A3184 n3185 c3186, .int .i64 x3190]] : List Ent) (([] : List Ent) ++ ([famE fk_33 (w.heap.size) none x3160 cs3164 bs3165, famE fk_33 (w.heap.size) none x3167 cs3171 bs3172, .own (.slice A3161 n3162 c3163) 33 1 n3162 cs3164, .own (.slice A3168 n3169 c3170) 33 1 n3169 cs3171, .box gb84 45 [.slice A3176 n3177 c3178, .int .i64 x3182], .own (.slice A63 n64 c65) 5 1 n64 (x3158.flatMap (eI .u8)), .box gb19 41 [.slice A3184 n3185 c3186, .int .i64 x3190]] : List Ent)) := perm_of_idx [] [0, 1, 2, 3, 4, 5, 6] rfl rfl (by kernel_rfl)
     refine Calls.mono (trellislaw26_marked_calls w6541 (Fl ([] : List Snap)) (ix x1 x3174) A6537 n6538 c6539 (Rw.mono h6540 (hL6542.toSt hp6543 (me 4 rfl))) (hL6542.hFl (Sl := ([] : List Snap)) hp6543 (sels [] rfl)) (hL6542.into hp6543 (Fl ([] : List Snap))) r6544 hv6545) ?_
     rintro _ w6551 ⟨A6546, n6547, c6548, rfl, hM6552, h6549⟩
     have hL6553 := hL6542.call hp6543 hM6552
     refine ⟨_, _, _, rfl, hL6553, ?_⟩
     refine wl_v 5 rfl (v_assign rfl) gn rfl ?_
     refine w_end 6 rfl ?_
     refine g_seq (c := q3c37) rfl ?_
     refine g_seq (c := q3c38) rfl ?_
     refine g_region (c := q3c40) rfl rfl ?_
     refine wl_v 0 rfl (v_assign rfl) gn rfl ?_
     refine w_end 1 rfl ?_
     refine g_block (c := q3c41) rfl ?_
     refine g_loop (c := q3c42) rfl ?_
     have key3 : ∀ s, Rounds (fun (s : (List Int) × Int) o => trellislaw26_RpcFeeds_b3 r6544 x3175 x3182 x1 x3174 x3183 x3190 x3160 x3167 s.1 s.2 o) s o1 → (fun (s : (List Int) × Int) => ∀ (h7503 : Ow w.heap.size A63 n64 c65 s.1), G (trellislaw26_RpcFeeds_C w F r) [.code q3c43, .inLoop q3c43, .inBlock 2, .code q3c39, .inBlock 1, .code q3c34, .inLoop q3c26, .inBlock 0, .code q3c22] [(0, .slice A2 n3 c4), (3, .pointer (some ⟨gb19, 0, none⟩)), (4, .slice A63 n64 c65), (5, .pointer (some ⟨gb84, 0, none⟩)), (6, .slice A3161 n3162 c3163), (7, .slice A3168 n3169 c3170), (8, .int .i64 x3174), (9, .slice A6546 n6547 c6548), (10, .int .i64 s.2)] [famE fk_33 (w.heap.size) none x3160 cs3164 bs3165, famE fk_33 (w.heap.size) none x3167 cs3171 bs3172, .own (.slice A6546 n6547 c6548) 5 1 n6547 (r6544.flatMap (eI .u8)), .own (.slice A3161 n3162 c3163) 33 1 n3162 cs3164, .own (.slice A3168 n3169 c3170) 33 1 n3169 cs3171, .box gb84 45 [.slice A3176 n3177 c3178, .int .i64 x3182], .own (.slice A63 n64 c65) 5 1 n64 (s.1.flatMap (eI .u8)), .box gb19 41 [.slice A3184 n3185 c3186, .int .i64 x3190]] [Sm w.heap.size F sw3179 sb3180, Sm w.heap.size F sw3187 sb3188, Sm w.heap.size F sw53 sb54, Sm w.heap.size F w [], St w []]) s := by
      intro s hs
      refine Rounds.ind (mot := (fun (s : (List Int) × Int) => ∀ (h7503 : Ow w.heap.size A63 n64 c65 s.1), G (trellislaw26_RpcFeeds_C w F r) [.code q3c43, .inLoop q3c43, .inBlock 2, .code q3c39, .inBlock 1, .code q3c34, .inLoop q3c26, .inBlock 0, .code q3c22] [(0, .slice A2 n3 c4), (3, .pointer (some ⟨gb19, 0, none⟩)), (4, .slice A63 n64 c65), (5, .pointer (some ⟨gb84, 0, none⟩)), (6, .slice A3161 n3162 c3163), (7, .slice A3168 n3169 c3170), (8, .int .i64 x3174), (9, .slice A6546 n6547 c6548), (10, .int .i64 s.2)] [famE fk_33 (w.heap.size) none x3160 cs3164 bs3165, famE fk_33 (w.heap.size) none x3167 cs3171 bs3172, .own (.slice A6546 n6547 c6548) 5 1 n6547 (r6544.flatMap (eI .u8)), .own (.slice A3161 n3162 c3163) 33 1 n3162 cs3164, .own (.slice A3168 n3169 c3170) 33 1 n3169 cs3171, .box gb84 45 [.slice A3176 n3177 c3178, .int .i64 x3182], .own (.slice A63 n64 c65) 5 1 n64 (s.1.flatMap (eI .u8)), .box gb19 41 [.slice A3184 n3185 c3186, .int .i64 x3190]] [Sm w.heap.size F sw3179 sb3180, Sm w.heap.size F sw3187 sb3188, Sm w.heap.size F sw53 sb54, Sm w.heap.size F w [], St w []])) ?_ hs
      clear hs s
      intro s o2 h hO2
      obtain ⟨x7502, x7504⟩ := s
      show ∀ (h7503 : Ow w.heap.size A63 n64 c65 x7502), G (trellislaw26_RpcFeeds_C w F r) [.code q3c43, .inLoop q3c43, .inBlock 2, .code q3c39, .inBlock 1, .code q3c34, .inLoop q3c26, .inBlock 0, .code q3c22] [(0, .slice A2 n3 c4), (3, .pointer (some ⟨gb19, 0, none⟩)), (4, .slice A63 n64 c65), (5, .pointer (some ⟨gb84, 0, none⟩)), (6, .slice A3161 n3162 c3163), (7, .slice A3168 n3169 c3170), (8, .int .i64 x3174), (9, .slice A6546 n6547 c6548), (10, .int .i64 x7504)] [famE fk_33 (w.heap.size) none x3160 cs3164 bs3165, famE fk_33 (w.heap.size) none x3167 cs3171 bs3172, .own (.slice A6546 n6547 c6548) 5 1 n6547 (r6544.flatMap (eI .u8)), .own (.slice A3161 n3162 c3163) 33 1 n3162 cs3164, .own (.slice A3168 n3169 c3170) 33 1 n3169 cs3171, .box gb84 45 [.slice A3176 n3177 c3178, .int .i64 x3182], .own (.slice A63 n64 c65) 5 1 n64 (x7502.flatMap (eI .u8)), .box gb19 41 [.slice A3184 n3185 c3186, .int .i64 x3190]] [Sm w.heap.size F sw3179 sb3180, Sm w.heap.size F sw3187 sb3188, Sm w.heap.size F sw53 sb54, Sm w.heap.size F w [], St w []]
      intro h7503
      have h : trellislaw26_RpcFeeds_b3 r6544 x3175 x3182 x1 x3174 x3183 x3190 x3160 x3167 x7502 x7504 o2 := h
      unfold trellislaw26_RpcFeeds_b3 at h
      refine g_seq (c := q3c43) rfl ?_
      refine g_seq (c := q3c44) rfl ?_
      refine g_region (c := q3c46) rfl rfl ?_
      refine wl_v 0 rfl (v_move rfl) gn rfl ?_
      refine wl_v 1 rfl (v_move rfl) gn rfl ?_
      refine wl_v 2 rfl (v_lenQ un_27 rfl (Ow.weak hL6542.env.size h6549).hq) gn rfl ?_
      refine wl_v 3 rfl (v_bin rfl rfl rfl) gn rfl ?_
      refine w_end 4 rfl ?_
      by_cases hp8452 : x7504 < (r6544.length : Int)
      ·have h := if_pos' hp8452 h
       refine g_true (c := q3c47) rfl _ rfl ((decide_eq_true hp8452)) ?_
       refine g_skip (c := q3c48) rfl ?_
       refine g_seq (c := q3c45) rfl ?_
       refine g_block (c := q3c50) rfl ?_
       refine g_region (c := q3c52) rfl rfl ?_
       refine wl_v 0 rfl (v_move rfl) gn rfl ?_
       refine wl_v 1 rfl (v_move rfl) gn rfl ?_
       refine wl_v 2 rfl (v_move rfl) gn rfl ?_
       refine wl_v 3 rfl (v_move rfl) gn rfl ?_
       obtain ⟨hb8453, h⟩ := h
       refine wl_v 4 rfl (v_idxO slE_27 rfl rfl (Ow.weak hL6542.env.size h6549) hb8453) gn rfl ?_
       refine wl_v 5 rfl (v_ldO1 (.int .u8 (ix r6544 x7504)) 2 ld_5 rfl rfl (fm_get0 (hlI .u8) hb8453 rfl)) gn rfl ?_
       obtain ⟨hb8454, h⟩ := h
       refine wl_v 6 rfl (v_idxO slE_27 rfl rfl h7503 hb8454) gn rfl ?_
       obtain ⟨x8455, hv8456, h⟩ := h
       refine wl_s 7 rfl (s_stF (enc := (eI .u8)) (o := 0) (z := (ix r6544 x7504)) (vs := [.int .u8 (ix r6544 x7504)]) (i := x7504) 6 (hlI .u8) sz_5 rfl rfl rfl rfl rfl h7503 hb8454 rfl rfl rfl hv8456 fun h8457 => ?_) gn
       refine w_end 8 rfl ?_
       refine g_inBlock ?_
       refine g_region (c := q3c51) rfl rfl ?_
       refine wl_v 0 rfl (v_move rfl) gn rfl ?_
       refine wl_v 1 rfl (v_bin rfl rfl rfl) gn rfl ?_
       refine wl_v 2 rfl (v_assign rfl) gn rfl ?_
       refine w_end 3 rfl ?_
       refine g_inLoop ?_
       have ih := Out.inl hO2 h
       exact g_go [0, 1, 2, 3, 4] (ih h8457) ⟨rfl, rfl, rfl, rfl, rfl, rfl, rfl, rfl, rfl, trivial⟩ (.cons_cons _ (.cons_cons _ (.cons_cons _ (.cons_cons _ (.cons_cons _ (.cons_cons _ (.cons_cons _ (.cons_cons _ (.slnil))))))))) rfl
      ·have h := if_neg' hp8452 h
       refine g_false (c := q3c47) rfl _ rfl ((decide_eq_false hp8452)) ?_
       refine g_exit (c := q3c49) [.code q3c39, .inBlock 1, .code q3c34, .inLoop q3c26, .inBlock 0, .code q3c22] rfl rfl ?_
       refine g_seq (c := q3c39) rfl ?_
       refine g_region (c := q3c53) rfl rfl ?_
       refine wl_v 0 rfl (v_move rfl) gn rfl ?_
       refine wl_v 1 rfl (v_move rfl) gn rfl ?_
       refine wl_v 2 rfl (v_move rfl) gn rfl ?_
       obtain ⟨ce8459, hK8460, hr8458⟩ := Rw.read (s := St w []) h5 hb6533
       obtain ⟨A8461, n8462, c8463, rfl, h8464⟩ := hK8460
       refine wl_v 3 rfl (v_idxR (s := St w []) slE_22 rfl rfl h5 hb6533) gn rfl ?_
       refine wl_v 4 rfl (v_ldA1 (kk := (x3174 : Int).toNat * 1) (j := 0) (St w []) ld_27 rfl hr8458 rfl (me 4 rfl)) gn rfl ?_
       obtain ⟨r8468, hv8469, h⟩ := h
       refine wl_s 5 rfl (s_call [.pointer (some ⟨gb84, 0, none⟩), .slice A8461 n8462 c8463] rfl Try.func10 rfl rfl rfl fun w8465 hL8466 => ?_) gn
       have hp8467 : List.Perm ([famE fk_33 (w.heap.size) none x3160 cs3164 bs3165, famE fk_33 (w.heap.size) none x3167 cs3171 bs3172, .own (.slice A6546 n6547 c6548) 5 1 n6547 (r6544.flatMap (eI .u8)), .own (.slice A3161 n3162 c3163) 33 1 n3162 cs3164, .own (.slice A3168 n3169 c3170) 33 1 n3169 cs3171, .box gb84 45 [.slice A3176 n3177 c3178, .int .i64 x3182], .own (.slice A63 n64 c65) 5 1 n64 (x7502.flatMap (eI .u8)), .box gb19 41 [.slice A3184 n3185 c3186, .int .i64 x3190]] : List Ent) (([.box gb84 45 [.slice A3176 n3177 c3178, .int .i64 x3182]] : List Ent) ++ ([famE fk_33 (w.heap.size) none x3160 cs3164 bs3165, famE fk_33 (w.heap.size) none x3167 cs3171 bs3172, .own (.slice A6546 n6547 c6548) 5 1 n6547 (r6544.flatMap (eI .u8)), .own (.slice A3161 n3162 c3163) 33 1 n3162 cs3164, .own (.slice A3168 n3169 c3170) 33 1 n3169 cs3171, .own (.slice A63 n64 c65) 5 1 n64 (x7502.flatMap (eI .u8)), .box gb19 41 [.slice A3184 n3185 c3186, .int .i64 x3190]] : List Ent)) := perm_of_idx [5] [0, 1, 2, 3, 4, 6, 7] rfl rfl (by kernel_rfl)
       refine Calls.mono (trellisref26_Model_Feed_calls w8465 (Fl ([Sm w.heap.size F sw3179 sb3180] : List Snap)) (⟨x3175, x3182⟩ : trellisref26_Model) (ix x1 x3174) gb84 45 A3176 n3177 c3178 A8461 n8462 c8463 (Rw.mono h3181 (hL8466.toFl (me 0 rfl) (me 0 rfl))) (Rw.mono h8464 (hL8466.toSt hp8467 (me 4 rfl))) (hL8466.hFl (Sl := ([Sm w.heap.size F sw3179 sb3180] : List Snap)) hp8467 (sels [0] rfl)) (hL8466.into hp8467 (Fl ([Sm w.heap.size F sw3179 sb3180] : List Snap))) r8468 hv8469) ?_
       rintro _ w8479 ⟨A8470, n8471, c8472, A8475, n8476, c8477, rfl, hM8480, h8473, h8478⟩
       obtain ⟨sb8483, hL8481, hv8482⟩ := hL8466.callB (Sl := ([Sm w.heap.size F sw3179 sb3180] : List Snap)) hp8467 hM8480 F (sels [0] rfl) ⟨Sm.ok, trivial⟩
       have h8478 : At (kInt .u8) (Sm w.heap.size F w8479 sb8483) A8475 n8476 c8477 r8468.2.2.b := Rw.mono h8478 hv8482
       refine ⟨_, _, _, rfl, hL8481, ?_⟩
       refine wl_v 6 rfl (v_move rfl) gn rfl ?_
       refine wl_v 7 rfl (v_extract rfl rfl) gn rfl ?_
       refine wl_v 8 rfl (v_extract rfl rfl) gn rfl ?_
       refine wl_v 9 rfl (v_assign rfl) gn rfl ?_
       refine wl_v 10 rfl (v_assign rfl) gn rfl ?_
       refine w_end 11 rfl ?_
       refine g_seq (c := q3c54) rfl ?_
       refine g_region (c := q3c55) rfl rfl ?_
       refine wl_v 0 rfl (v_move rfl) gn rfl ?_
       refine wl_v 1 rfl (v_move rfl) gn rfl ?_
       refine wl_v 2 rfl (v_move rfl) gn rfl ?_
       refine wl_v 3 rfl (v_move rfl) gn rfl ?_
       obtain ⟨ce8485, hK8486, hr8484⟩ := Rw.read (s := St w []) h5 hb6533
       obtain ⟨A8487, n8488, c8489, rfl, h8490⟩ := hK8486
       refine wl_v 4 rfl (v_idxR (s := St w []) slE_22 rfl rfl h5 hb6533) gn rfl ?_
       refine wl_v 5 rfl (v_ldA1 (kk := (x3174 : Int).toNat * 1) (j := 0) (St w []) ld_27 rfl hr8484 rfl (me 5 rfl)) gn rfl ?_
       refine wl_v 6 rfl (v_lenQ un_27 rfl h8490.hq) gn rfl ?_
       obtain ⟨hb8491, h⟩ := h
       obtain ⟨x8493, hv8494, h⟩ := h
       have hle8492 : (((ix x1 x3174).length : Int) : Int).toNat ≤ n64 := by have q := hb8491; have q1 := h7503.hq; omega
       have h8495 : Ow w.heap.size A63 (((ix x1 x3174).length : Int) : Int).toNat c65 x8493 := Ow.w (Ow.cut h7503 hle8492) (by rw [hv8494])
       refine wl_v 7 rfl (v_cutHi (i := ((ix x1 x3174).length : Int)) slE_27 rfl rfl (by have q := hb8491; have q1 := h7503.hq; have q2 := h7503.hn; omega) h7503.hn rfl) gn rfl ?_
       obtain ⟨r8499, hv8500, h⟩ := h
       refine wl_s 8 rfl (s_call [.pointer (some ⟨gb19, 0, none⟩), .slice A63 ((((ix x1 x3174).length : Int) : Int).toNat) c65] rfl Try.func11 rfl rfl rfl fun w8496 hL8497 => ?_) gn
       have hp8498 : List.Perm ([.box gb84 45 [.slice A8475 n8476 c8477, .int .i64 r8468.2.2.code], .own (.slice A8470 n8471 c8472) 9 1 n8471 (r8468.1.flatMap eS), famE fk_33 (w.heap.size) none x3160 cs3164 bs3165, famE fk_33 (w.heap.size) none x3167 cs3171 bs3172, .own (.slice A6546 n6547 c6548) 5 1 n6547 (r6544.flatMap (eI .u8)), .own (.slice A3161 n3162 c3163) 33 1 n3162 cs3164, .own (.slice A3168 n3169 c3170) 33 1 n3169 cs3171, .own (.slice A63 n64 c65) 5 1 n64 (x7502.flatMap (eI .u8)), .box gb19 41 [.slice A3184 n3185 c3186, .int .i64 x3190]] : List Ent) (([.box gb19 41 [.slice A3184 n3185 c3186, .int .i64 x3190]] : List Ent) ++ ([.box gb84 45 [.slice A8475 n8476 c8477, .int .i64 r8468.2.2.code], .own (.slice A8470 n8471 c8472) 9 1 n8471 (r8468.1.flatMap eS), famE fk_33 (w.heap.size) none x3160 cs3164 bs3165, famE fk_33 (w.heap.size) none x3167 cs3171 bs3172, .own (.slice A6546 n6547 c6548) 5 1 n6547 (r6544.flatMap (eI .u8)), .own (.slice A3161 n3162 c3163) 33 1 n3162 cs3164, .own (.slice A3168 n3169 c3170) 33 1 n3169 cs3171, .own (.slice A63 n64 c65) 5 1 n64 (x7502.flatMap (eI .u8))] : List Ent)) := perm_of_idx [8] [0, 1, 2, 3, 4, 5, 6, 7] rfl rfl (by kernel_rfl)
       refine Calls.mono (rpc_Buffer_Feed_calls w8496 (Fl ([Sm w.heap.size F sw3187 sb3188] : List Snap)) (⟨x3183, x3190⟩ : rpc_Buffer) x8493 gb19 41 A3184 n3185 c3186 A63 ((((ix x1 x3174).length : Int) : Int).toNat) c65 (Rw.mono h3189 (hL8497.toFl (me 2 rfl) (me 0 rfl))) (Rw.w (hL8497.argV (dk := (kInt .u8)) hp8498 [8] rfl 7 rfl rfl h7503 (me 4 rfl) (Cells.flat _) (Vw.prefix hle8492) (Nat.le_trans hle8492 h7503.hn) h7503.hm) (by rw [hv8494]; rfl)) (hL8497.hFl (Sl := ([Sm w.heap.size F sw3187 sb3188] : List Snap)) hp8498 (sels [2] rfl)) (hL8497.into hp8498 (Fl ([Sm w.heap.size F sw3187 sb3188] : List Snap))) r8499 hv8500) ?_
       rintro _ w8510 ⟨A8501, n8502, c8503, A8506, n8507, c8508, rfl, hM8511, h8504, h8509⟩
       obtain ⟨sb8514, hL8512, hv8513⟩ := hL8497.callB (Sl := ([Sm w.heap.size F sw3187 sb3188] : List Snap)) hp8498 hM8511 F (sels [2] rfl) ⟨Sm.ok, trivial⟩
       have h8509 : At (kInt .u8) (Sm w.heap.size F w8510 sb8514) A8506 n8507 c8508 r8499.2.2.wait := Rw.mono h8509 hv8513
       refine ⟨_, _, _, rfl, hL8512, ?_⟩
       refine wl_v 9 rfl (v_move rfl) gn rfl ?_
       refine wl_v 10 rfl (v_extract rfl rfl) gn rfl ?_
       refine wl_v 11 rfl (v_extract rfl rfl) gn rfl ?_
       refine wl_v 12 rfl (v_assign rfl) gn rfl ?_
       refine wl_v 13 rfl (v_assign rfl) gn rfl ?_
       refine w_end 14 rfl ?_
       refine g_seq (c := q3c56) rfl ?_
       refine g_seq (c := q3c57) rfl ?_
       have j4 : ∀ (x8570 : Bool) (x8571 : List Int) (x8578 : Int) (x8579 : List Int) (x8586 : Int) (h : trellislaw26_RpcFeeds_j4 x3160 r8499 x3167 r8468 x3174 x7502 x8570 x8571 x8578 x8579 x8586 o2) (A8572 : Option Addr) (n8573 : Nat) (c8574 : Nat) (sw8575 : World) (sb8576 : List (List Nat)) (h8577 : At (kInt .u8) (Sm w.heap.size F sw8575 sb8576) A8572 n8573 c8574 x8571) (A8580 : Option Addr) (n8581 : Nat) (c8582 : Nat) (sw8583 : World) (sb8584 : List (List Nat)) (h8585 : At (kInt .u8) (Sm w.heap.size F sw8583 sb8584) A8580 n8581 c8582 x8579), G (trellislaw26_RpcFeeds_C w F r) [.code q3c60, .code q3c58, .inBlock 1, .code q3c34, .inLoop q3c26, .inBlock 0, .code q3c22] [(0, .slice A2 n3 c4), (3, .pointer (some ⟨gb19, 0, none⟩)), (4, .slice A63 n64 c65), (5, .pointer (some ⟨gb84, 0, none⟩)), (6, .slice A3161 n3162 c3163), (7, .slice A3168 n3169 c3170), (8, .int .i64 x3174), (11, .slice A8470 n8471 c8472), (13, .slice A8501 n8502 c8503), (107, .bool x8570)] [famE fk_33 (w.heap.size) none x3160 cs3164 bs3165, famE fk_33 (w.heap.size) none x3167 cs3171 bs3172, .box gb84 45 [.slice A8572 n8573 c8574, .int .i64 x8578], .box gb19 41 [.slice A8580 n8581 c8582, .int .i64 x8586], .own (.slice A8501 n8502 c8503) 9 1 n8502 (r8499.1.flatMap eS), .own (.slice A8470 n8471 c8472) 9 1 n8471 (r8468.1.flatMap eS), .own (.slice A3161 n3162 c3163) 33 1 n3162 cs3164, .own (.slice A3168 n3169 c3170) 33 1 n3169 cs3171, .own (.slice A63 n64 c65) 5 1 n64 (x7502.flatMap (eI .u8))] [Sm w.heap.size F sw8575 sb8576, Sm w.heap.size F sw8583 sb8584, Sm w.heap.size F w8510 sb8514, Sm w.heap.size F w8479 sb8483, Sm w.heap.size F sw3179 sb3180, Sm w.heap.size F sw3187 sb3188, Sm w.heap.size F sw53 sb54, Sm w.heap.size F w [], St w []] := by
        intro x8570 x8571 x8578 x8579 x8586 h A8572 n8573 c8574 sw8575 sb8576 h8577 A8580 n8581 c8582 sw8583 sb8584 h8585
        unfold trellislaw26_RpcFeeds_j4 at h
        by_cases hp8587 : x8570 = true
        ·have h := if_pos' hp8587 h
         refine g_true (c := q3c60) rfl _ rfl (hp8587) ?_
         refine g_seq (c := q3c61) rfl ?_
         refine g_region (c := q3c63) rfl rfl ?_
         refine wl_v 0 rfl (v_assign rfl) gn rfl ?_
         refine w_end 1 rfl ?_
         have h := Out.inr hO2 h
         have h := Out.inr hO1 h
         refine g_retR (c := q3c64) [.bool false] rfl Try.func3 rfl (.tmp rfl (.nil)) fun wr hLr => ?_
         have hMr : B.Loc w wr [] [St w []] := hLr.pick0 (sels [8] rfl)
         show trellislaw26_RpcFeeds_R w F  r (.returned (packV [.bool false])) wr
         rw [h]
         exact ⟨rfl, hMr⟩
        ·have h := if_neg' hp8587 h
         refine g_false (c := q3c60) rfl _ rfl ((bf hp8587)) ?_
         refine g_skip (c := q3c62) rfl ?_
         refine g_seq (c := q3c58) rfl ?_
         refine g_seq (c := q3c65) rfl ?_
         refine g_region (c := q3c67) rfl rfl ?_
         refine wl_v 0 rfl (v_assign rfl) gn rfl ?_
         refine w_end 1 rfl ?_
         refine g_block (c := q3c68) rfl ?_
         refine g_loop (c := q3c69) rfl ?_
         have key5 : ∀ s, Rounds (fun (s : (List Int) × Int) o => trellislaw26_RpcFeeds_b5 x3160 r8499 x3167 r8468 x3174 x8571 x8578 x8579 x8586 s.1 s.2 o) s o2 → (fun (s : (List Int) × Int) => ∀ (h8841 : Ow w.heap.size A63 n64 c65 s.1), G (trellislaw26_RpcFeeds_C w F r) [.code q3c70, .inLoop q3c70, .inBlock 4, .code q3c66, .inBlock 1, .code q3c34, .inLoop q3c26, .inBlock 0, .code q3c22] [(0, .slice A2 n3 c4), (3, .pointer (some ⟨gb19, 0, none⟩)), (4, .slice A63 n64 c65), (5, .pointer (some ⟨gb84, 0, none⟩)), (6, .slice A3161 n3162 c3163), (7, .slice A3168 n3169 c3170), (8, .int .i64 x3174), (11, .slice A8470 n8471 c8472), (13, .slice A8501 n8502 c8503), (15, .int .i64 s.2)] [famE fk_33 (w.heap.size) none x3160 cs3164 bs3165, famE fk_33 (w.heap.size) none x3167 cs3171 bs3172, .box gb84 45 [.slice A8572 n8573 c8574, .int .i64 x8578], .box gb19 41 [.slice A8580 n8581 c8582, .int .i64 x8586], .own (.slice A8501 n8502 c8503) 9 1 n8502 (r8499.1.flatMap eS), .own (.slice A8470 n8471 c8472) 9 1 n8471 (r8468.1.flatMap eS), .own (.slice A3161 n3162 c3163) 33 1 n3162 cs3164, .own (.slice A3168 n3169 c3170) 33 1 n3169 cs3171, .own (.slice A63 n64 c65) 5 1 n64 (s.1.flatMap (eI .u8))] [Sm w.heap.size F sw8575 sb8576, Sm w.heap.size F sw8583 sb8584, Sm w.heap.size F w8510 sb8514, Sm w.heap.size F w8479 sb8483, Sm w.heap.size F sw3179 sb3180, Sm w.heap.size F sw3187 sb3188, Sm w.heap.size F sw53 sb54, Sm w.heap.size F w [], St w []]) s := by
          intro s hs
          refine Rounds.ind (mot := (fun (s : (List Int) × Int) => ∀ (h8841 : Ow w.heap.size A63 n64 c65 s.1), G (trellislaw26_RpcFeeds_C w F r) [.code q3c70, .inLoop q3c70, .inBlock 4, .code q3c66, .inBlock 1, .code q3c34, .inLoop q3c26, .inBlock 0, .code q3c22] [(0, .slice A2 n3 c4), (3, .pointer (some ⟨gb19, 0, none⟩)), (4, .slice A63 n64 c65), (5, .pointer (some ⟨gb84, 0, none⟩)), (6, .slice A3161 n3162 c3163), (7, .slice A3168 n3169 c3170), (8, .int .i64 x3174), (11, .slice A8470 n8471 c8472), (13, .slice A8501 n8502 c8503), (15, .int .i64 s.2)] [famE fk_33 (w.heap.size) none x3160 cs3164 bs3165, famE fk_33 (w.heap.size) none x3167 cs3171 bs3172, .box gb84 45 [.slice A8572 n8573 c8574, .int .i64 x8578], .box gb19 41 [.slice A8580 n8581 c8582, .int .i64 x8586], .own (.slice A8501 n8502 c8503) 9 1 n8502 (r8499.1.flatMap eS), .own (.slice A8470 n8471 c8472) 9 1 n8471 (r8468.1.flatMap eS), .own (.slice A3161 n3162 c3163) 33 1 n3162 cs3164, .own (.slice A3168 n3169 c3170) 33 1 n3169 cs3171, .own (.slice A63 n64 c65) 5 1 n64 (s.1.flatMap (eI .u8))] [Sm w.heap.size F sw8575 sb8576, Sm w.heap.size F sw8583 sb8584, Sm w.heap.size F w8510 sb8514, Sm w.heap.size F w8479 sb8483, Sm w.heap.size F sw3179 sb3180, Sm w.heap.size F sw3187 sb3188, Sm w.heap.size F sw53 sb54, Sm w.heap.size F w [], St w []])) ?_ hs
          clear hs s
          intro s o3 h hO3
          obtain ⟨x8840, x8842⟩ := s
          show ∀ (h8841 : Ow w.heap.size A63 n64 c65 x8840), G (trellislaw26_RpcFeeds_C w F r) [.code q3c70, .inLoop q3c70, .inBlock 4, .code q3c66, .inBlock 1, .code q3c34, .inLoop q3c26, .inBlock 0, .code q3c22] [(0, .slice A2 n3 c4), (3, .pointer (some ⟨gb19, 0, none⟩)), (4, .slice A63 n64 c65), (5, .pointer (some ⟨gb84, 0, none⟩)), (6, .slice A3161 n3162 c3163), (7, .slice A3168 n3169 c3170), (8, .int .i64 x3174), (11, .slice A8470 n8471 c8472), (13, .slice A8501 n8502 c8503), (15, .int .i64 x8842)] [famE fk_33 (w.heap.size) none x3160 cs3164 bs3165, famE fk_33 (w.heap.size) none x3167 cs3171 bs3172, .box gb84 45 [.slice A8572 n8573 c8574, .int .i64 x8578], .box gb19 41 [.slice A8580 n8581 c8582, .int .i64 x8586], .own (.slice A8501 n8502 c8503) 9 1 n8502 (r8499.1.flatMap eS), .own (.slice A8470 n8471 c8472) 9 1 n8471 (r8468.1.flatMap eS), .own (.slice A3161 n3162 c3163) 33 1 n3162 cs3164, .own (.slice A3168 n3169 c3170) 33 1 n3169 cs3171, .own (.slice A63 n64 c65) 5 1 n64 (x8840.flatMap (eI .u8))] [Sm w.heap.size F sw8575 sb8576, Sm w.heap.size F sw8583 sb8584, Sm w.heap.size F w8510 sb8514, Sm w.heap.size F w8479 sb8483, Sm w.heap.size F sw3179 sb3180, Sm w.heap.size F sw3187 sb3188, Sm w.heap.size F sw53 sb54, Sm w.heap.size F w [], St w []]
          intro h8841
          have h : trellislaw26_RpcFeeds_b5 x3160 r8499 x3167 r8468 x3174 x8571 x8578 x8579 x8586 x8840 x8842 o3 := h
          unfold trellislaw26_RpcFeeds_b5 at h
          refine g_seq (c := q3c70) rfl ?_
          refine g_seq (c := q3c71) rfl ?_
          refine g_region (c := q3c73) rfl rfl ?_
          refine wl_v 0 rfl (v_move rfl) gn rfl ?_
          refine wl_v 1 rfl (v_move rfl) gn rfl ?_
          refine wl_v 2 rfl (v_lenQ un_27 rfl h8841.hq) gn rfl ?_
          refine wl_v 3 rfl (v_bin rfl rfl rfl) gn rfl ?_
          refine w_end 4 rfl ?_
          by_cases hp9094 : x8842 < (x8840.length : Int)
          ·have h := if_pos' hp9094 h
           refine g_true (c := q3c74) rfl _ rfl ((decide_eq_true hp9094)) ?_
           refine g_skip (c := q3c75) rfl ?_
           refine g_seq (c := q3c72) rfl ?_
           refine g_block (c := q3c77) rfl ?_
           refine g_region (c := q3c79) rfl rfl ?_
           refine wl_v 0 rfl (v_move rfl) gn rfl ?_
           refine wl_v 1 rfl (v_move rfl) gn rfl ?_
           obtain ⟨hb9095, h⟩ := h
           refine wl_v 2 rfl (v_idxO slE_27 rfl rfl h8841 hb9095) gn rfl ?_
           obtain ⟨x9096, hv9097, h⟩ := h
           refine wl_s 3 rfl (s_stF (enc := (eI .u8)) (o := 0) (z := 7) (vs := [.int .u8 7]) (i := x8842) 8 (hlI .u8) sz_5 rfl rfl rfl rfl rfl h8841 hb9095 rfl rfl rfl hv9097 fun h9098 => ?_) gn
           refine w_end 4 rfl ?_
           refine g_inBlock ?_
           refine g_region (c := q3c78) rfl rfl ?_
           refine wl_v 0 rfl (v_move rfl) gn rfl ?_
           refine wl_v 1 rfl (v_bin rfl rfl rfl) gn rfl ?_
           refine wl_v 2 rfl (v_assign rfl) gn rfl ?_
           refine w_end 3 rfl ?_
           refine g_inLoop ?_
           have ih := Out.inl hO3 h
           exact g_go [0, 1, 2, 3, 4, 5, 6, 7, 8] (ih h9098) ⟨rfl, rfl, rfl, rfl, rfl, rfl, rfl, rfl, rfl, rfl, trivial⟩ (.cons_cons _ (.cons_cons _ (.cons_cons _ (.cons_cons _ (.cons_cons _ (.cons_cons _ (.cons_cons _ (.cons_cons _ (.cons_cons _ (.slnil)))))))))) rfl
          ·have h := if_neg' hp9094 h
           refine g_false (c := q3c74) rfl _ rfl ((decide_eq_false hp9094)) ?_
           refine g_exit (c := q3c76) [.code q3c66, .inBlock 1, .code q3c34, .inLoop q3c26, .inBlock 0, .code q3c22] rfl rfl ?_
           refine g_seq (c := q3c66) rfl ?_
           refine g_region (c := q3c80) rfl rfl ?_
           refine wl_v 0 rfl (v_move rfl) gn rfl ?_
           refine wl_v 1 rfl (v_move rfl) gn rfl ?_
           refine w_fam1 (z := w.heap.size) (j := 4) fk_33 r8499.1 rfl (Ow.weak hL8497.env.size h8504) rfl fun bs9099 => ?_
           refine wl_s 2 rfl (s_litO (xs := ([r8499.1] : List (List ByteArray))) [.slice A8501 n8502 c8503] bs_31_1 rfl (by kernel_rfl) rfl rfl rfl rfl fun gb9102 h9103 => ?_) gn
           obtain ⟨x9108, hv9109, h⟩ := h
           obtain ⟨hb9110, h⟩ := h
           obtain ⟨cs9111, hc9112⟩ : ∃ x : List Value, x = cs3164 ++ [.slice A8501 n8502 c8503] := ⟨_, rfl⟩
           refine wl_s 3 rfl (s_app (zs := x9108) 7 ap_31 rfl rfl rfl h3166 (Nat.le_refl _) (Src.raw 0 rfl h9103 rfl rfl) hc9112.symm (app_len hv9109 h9103.hq) hb9110 rfl rfl fun A9104 c9105 h9106 => ?_) gn
           refine w_famcat (fk := fk_33) (z := w.heap.size) (j1 := 5) (j := 1) (by decide) rfl rfl hv9109 hc9112 fun bs9107 => ?_
           refine wl_v 4 rfl (v_assign rfl) gn rfl ?_
           refine w_end 5 rfl ?_
           refine g_seq (c := q3c81) rfl ?_
           refine g_region (c := q3c82) rfl rfl ?_
           refine wl_v 0 rfl (v_move rfl) gn rfl ?_
           refine wl_v 1 rfl (v_move rfl) gn rfl ?_
           refine w_fam1 (z := w.heap.size) (j := 5) fk_33 r8468.1 rfl (Ow.weak hL8466.env.size h8473) rfl fun bs9113 => ?_
           refine wl_s 2 rfl (s_litO (xs := ([r8468.1] : List (List ByteArray))) [.slice A8470 n8471 c8472] bs_31_1 rfl (by kernel_rfl) rfl rfl rfl rfl fun gb9116 h9117 => ?_) gn
           obtain ⟨x9122, hv9123, h⟩ := h
           obtain ⟨hb9124, h⟩ := h
           obtain ⟨cs9125, hc9126⟩ : ∃ x : List Value, x = cs3171 ++ [.slice A8470 n8471 c8472] := ⟨_, rfl⟩
           refine wl_s 3 rfl (s_app (zs := x9122) 8 ap_31 rfl rfl rfl h3173 (Nat.le_refl _) (Src.raw 0 rfl h9117 rfl rfl) hc9126.symm (app_len hv9123 h9117.hq) hb9124 rfl rfl fun A9118 c9119 h9120 => ?_) gn
           refine w_famcat (fk := fk_33) (z := w.heap.size) (j1 := 6) (j := 3) (by decide) rfl rfl hv9123 hc9126 fun bs9121 => ?_
           refine wl_v 4 rfl (v_assign rfl) gn rfl ?_
           refine w_end 5 rfl ?_
           refine g_seq (c := q3c83) rfl ?_
           refine g_region (c := q3c84) rfl rfl ?_
           refine wl_v 0 rfl (v_assign rfl) gn rfl ?_
           refine w_end 1 rfl ?_
           refine g_block (c := q3c85) rfl ?_
           refine g_loop (c := q3c86) rfl ?_
           have key6 : ∀ s, Rounds (fun (s : Int) o => trellislaw26_RpcFeeds_b6 x9108 x9122 x8840 x3174 x8571 x8578 x8579 x8586 s o) s o3 → (fun (s : Int) => ∀ (_ : Unit), G (trellislaw26_RpcFeeds_C w F r) [.code q3c87, .inLoop q3c87, .inBlock 6, .inBlock 1, .code q3c34, .inLoop q3c26, .inBlock 0, .code q3c22] [(0, .slice A2 n3 c4), (3, .pointer (some ⟨gb19, 0, none⟩)), (4, .slice A63 n64 c65), (5, .pointer (some ⟨gb84, 0, none⟩)), (6, .slice A9104 (n3162 + 1) c9105), (7, .slice A9118 (n3169 + 1) c9119), (8, .int .i64 x3174), (16, .int .i64 s)] [famE fk_33 (w.heap.size) none x9108 cs9111 bs9107, famE fk_33 (w.heap.size) none x9122 cs9125 bs9121, .box gb84 45 [.slice A8572 n8573 c8574, .int .i64 x8578], .box gb19 41 [.slice A8580 n8581 c8582, .int .i64 x8586], .own (.slice A9104 (n3162 + 1) c9105) 33 1 (n3162 + 1) cs9111, .own (.slice A9118 (n3169 + 1) c9119) 33 1 (n3169 + 1) cs9125, .own (.slice A63 n64 c65) 5 1 n64 (x8840.flatMap (eI .u8))] [Sm w.heap.size F sw8575 sb8576, Sm w.heap.size F sw8583 sb8584, Sm w.heap.size F w8510 sb8514, Sm w.heap.size F w8479 sb8483, Sm w.heap.size F sw3179 sb3180, Sm w.heap.size F sw3187 sb3188, Sm w.heap.size F sw53 sb54, Sm w.heap.size F w [], St w []]) s := by
            intro s hs
            refine Rounds.ind (mot := (fun (s : Int) => ∀ (_ : Unit), G (trellislaw26_RpcFeeds_C w F r) [.code q3c87, .inLoop q3c87, .inBlock 6, .inBlock 1, .code q3c34, .inLoop q3c26, .inBlock 0, .code q3c22] [(0, .slice A2 n3 c4), (3, .pointer (some ⟨gb19, 0, none⟩)), (4, .slice A63 n64 c65), (5, .pointer (some ⟨gb84, 0, none⟩)), (6, .slice A9104 (n3162 + 1) c9105), (7, .slice A9118 (n3169 + 1) c9119), (8, .int .i64 x3174), (16, .int .i64 s)] [famE fk_33 (w.heap.size) none x9108 cs9111 bs9107, famE fk_33 (w.heap.size) none x9122 cs9125 bs9121, .box gb84 45 [.slice A8572 n8573 c8574, .int .i64 x8578], .box gb19 41 [.slice A8580 n8581 c8582, .int .i64 x8586], .own (.slice A9104 (n3162 + 1) c9105) 33 1 (n3162 + 1) cs9111, .own (.slice A9118 (n3169 + 1) c9119) 33 1 (n3169 + 1) cs9125, .own (.slice A63 n64 c65) 5 1 n64 (x8840.flatMap (eI .u8))] [Sm w.heap.size F sw8575 sb8576, Sm w.heap.size F sw8583 sb8584, Sm w.heap.size F w8510 sb8514, Sm w.heap.size F w8479 sb8483, Sm w.heap.size F sw3179 sb3180, Sm w.heap.size F sw3187 sb3188, Sm w.heap.size F sw53 sb54, Sm w.heap.size F w [], St w []])) ?_ hs
            clear hs s
            intro x9200 o4 h hO4
            show ∀ (_ : Unit), G (trellislaw26_RpcFeeds_C w F r) [.code q3c87, .inLoop q3c87, .inBlock 6, .inBlock 1, .code q3c34, .inLoop q3c26, .inBlock 0, .code q3c22] [(0, .slice A2 n3 c4), (3, .pointer (some ⟨gb19, 0, none⟩)), (4, .slice A63 n64 c65), (5, .pointer (some ⟨gb84, 0, none⟩)), (6, .slice A9104 (n3162 + 1) c9105), (7, .slice A9118 (n3169 + 1) c9119), (8, .int .i64 x3174), (16, .int .i64 x9200)] [famE fk_33 (w.heap.size) none x9108 cs9111 bs9107, famE fk_33 (w.heap.size) none x9122 cs9125 bs9121, .box gb84 45 [.slice A8572 n8573 c8574, .int .i64 x8578], .box gb19 41 [.slice A8580 n8581 c8582, .int .i64 x8586], .own (.slice A9104 (n3162 + 1) c9105) 33 1 (n3162 + 1) cs9111, .own (.slice A9118 (n3169 + 1) c9119) 33 1 (n3169 + 1) cs9125, .own (.slice A63 n64 c65) 5 1 n64 (x8840.flatMap (eI .u8))] [Sm w.heap.size F sw8575 sb8576, Sm w.heap.size F sw8583 sb8584, Sm w.heap.size F w8510 sb8514, Sm w.heap.size F w8479 sb8483, Sm w.heap.size F sw3179 sb3180, Sm w.heap.size F sw3187 sb3188, Sm w.heap.size F sw53 sb54, Sm w.heap.size F w [], St w []]
            intro _
            have h : trellislaw26_RpcFeeds_b6 x9108 x9122 x8840 x3174 x8571 x8578 x8579 x8586 x9200 o4 := h
            unfold trellislaw26_RpcFeeds_b6 at h
            refine g_seq (c := q3c87) rfl ?_
            refine g_seq (c := q3c88) rfl ?_
            refine g_region (c := q3c90) rfl rfl ?_
            refine wl_v 0 rfl (v_move rfl) gn rfl ?_
            refine wl_v 1 rfl (v_move rfl) gn rfl ?_
            refine wl_v 2 rfl (v_lenQ un_31 rfl h9106.hq) gn rfl ?_
            refine wl_v 3 rfl (v_bin rfl rfl rfl) gn rfl ?_
            refine w_end 4 rfl ?_
            by_cases hp9273 : x9200 < (x9108.length : Int)
            ·have h := if_pos' hp9273 h
             refine g_true (c := q3c91) rfl _ rfl ((decide_eq_true hp9273)) ?_
             refine g_skip (c := q3c92) rfl ?_
             refine g_seq (c := q3c89) rfl ?_
             refine g_block (c := q3c94) rfl ?_
             refine g_seq (c := q3c96) rfl ?_
             obtain ⟨hb9274, h⟩ := h
             obtain ⟨hb9281, h⟩ := h
             obtain ⟨r9291, hv9292, h⟩ := h
             have hns : Region.noSelect (Code.ops q3c97) = true := by kernel_rfl
             refine g_drawF (c := q3c97) [famE fk_33 (w.heap.size) none x9108 cs9111 bs9107, famE fk_33 (w.heap.size) none x9122 cs9125 bs9121, .box gb84 45 [.slice A8572 n8573 c8574, .int .i64 x8578], .box gb19 41 [.slice A8580 n8581 c8582, .int .i64 x8586], .own (.slice A9104 (n3162 + 1) c9105) 33 1 (n3162 + 1) cs9111, .own (.slice A9118 (n3169 + 1) c9119) 33 1 (n3169 + 1) cs9125, .own (.slice A63 n64 c65) 5 1 n64 (x8840.flatMap (eI .u8))] [Sm w.heap.size F sw8575 sb8576, Sm w.heap.size F sw8583 sb8584, Sm w.heap.size F w8510 sb8514, Sm w.heap.size F w8479 sb8483, Sm w.heap.size F sw3179 sb3180, Sm w.heap.size F sw3187 sb3188, Sm w.heap.size F sw53 sb54, Sm w.heap.size F w [], St w []] [] 10 rfl rfl mix rfl (.cons_cons _ (.cons_cons _ (.cons_cons _ (.cons_cons _ (.cons_cons _ (.cons_cons _ (.cons_cons _ (.slnil)))))))) (sels [0, 1, 2, 3, 4, 5, 6, 7, 8] rfl) ?_
             refine wfv 0 rfl (v_move rfl) gn hns rfl ?_
             refine wfv 1 rfl (v_move rfl) gn hns rfl ?_
             refine wf_famget (fk := fk_33) (z := w.heap.size) (j := 0) rfl hb9274 fun A9320 n9321 c9322 h9323 ht9324 hg9325 => ?_
             refine wfv 2 rfl (v_idxO slE_31 rfl rfl h9106 hb9274) gn hns rfl ?_
             refine wfv 3 rfl (v_ldO1 (.slice A9320 n9321 c9322) 4 ld_33 rfl rfl (hg9325 0 _ rfl)) gn hns rfl ?_
             refine wfv 4 rfl (v_move rfl) gn hns rfl ?_
             refine wfv 5 rfl (v_move rfl) gn hns rfl ?_
             refine wf_famget (fk := fk_33) (z := w.heap.size) (j := 1) rfl hb9281 fun A9326 n9327 c9328 h9329 ht9330 hg9331 => ?_
             refine wfv 6 rfl (v_idxO slE_31 rfl rfl h9120 hb9281) gn hns rfl ?_
             refine wfv 7 rfl (v_ldO1 (.slice A9326 n9327 c9328) 5 ld_33 rfl rfl (hg9331 0 _ rfl)) gn hns rfl ?_
             refine wf_all [8] (by kernel_rfl) rfl ⟨on_s 8 rfl gn rfl (s_call [.slice A9320 n9321 c9322, .slice A9326 n9327 c9328] rfl Try.func12 rfl rfl rfl fun w9338 hL9339 => ?_), trivial⟩
             have hp9340 : List.Perm ([famE fk_33 (w.heap.size) none x9108 cs9111 bs9107, famE fk_33 (w.heap.size) none x9122 cs9125 bs9121, .box gb84 45 [.slice A8572 n8573 c8574, .int .i64 x8578], .box gb19 41 [.slice A8580 n8581 c8582, .int .i64 x8586], .own (.slice A9104 (n3162 + 1) c9105) 33 1 (n3162 + 1) cs9111, .own (.slice A9118 (n3169 + 1) c9119) 33 1 (n3169 + 1) cs9125, .own (.slice A63 n64 c65) 5 1 n64 (x8840.flatMap (eI .u8))] : List Ent) (([] : List Ent) ++ ([famE fk_33 (w.heap.size) none x9108 cs9111 bs9107, famE fk_33 (w.heap.size) none x9122 cs9125 bs9121, .box gb84 45 [.slice A8572 n8573 c8574, .int .i64 x8578], .box gb19 41 [.slice A8580 n8581 c8582, .int .i64 x8586], .own (.slice A9104 (n3162 + 1) c9105) 33 1 (n3162 + 1) cs9111, .own (.slice A9118 (n3169 + 1) c9119) 33 1 (n3169 + 1) cs9125, .own (.slice A63 n64 c65) 5 1 n64 (x8840.flatMap (eI .u8))] : List Ent)) := perm_of_idx [] [0, 1, 2, 3, 4, 5, 6] rfl rfl (by kernel_rfl)
             refine Calls.mono (trellislaw26_sameTexts_calls w9338 (Fl ([] : List Snap)) (ix x9108 x9200) (ix x9122 x9200) A9320 n9321 c9322 A9326 n9327 c9328 (hL9339.argF (fk := fk_33) (z := w.heap.size) hp9340 [] rfl 0 rfl rfl hb9274 ht9324 h9323) (hL9339.argF (fk := fk_33) (z := w.heap.size) hp9340 [] rfl 1 rfl rfl hb9281 ht9330 h9329) (hL9339.hFl (Sl := ([] : List Snap)) hp9340 (sels [] rfl)) (hL9339.into hp9340 (Fl ([] : List Snap))) r9291 hv9292) ?_
             rintro _ w9341 ⟨rfl, hM9342⟩
             have hL9343 := hL9339.call hp9340 hM9342
             refine ⟨_, _, _, rfl, hL9343, ?_⟩
             refine ⟨sels [0, 1, 2, 3, 4, 5, 6] rfl, sels [0, 1, 2, 3, 4, 5, 6, 7, 8] rfl, ?_⟩
             refine wfv 9 rfl (v_not rfl) gn hns rfl ?_
             refine wf_end (by kernel_rfl) ?_
             by_cases hp9344 : r9291 = true
             ·have h := if_pos' hp9344 h
              refine g_false (c := q3c98) rfl _ rfl ((nf hp9344)) ?_
              refine g_skip (c := q3c100) rfl ?_
              refine g_inBlock ?_
              refine g_region (c := q3c95) rfl rfl ?_
              refine wl_v 0 rfl (v_move rfl) gn rfl ?_
              refine wl_v 1 rfl (v_bin rfl rfl rfl) gn rfl ?_
              refine wl_v 2 rfl (v_assign rfl) gn rfl ?_
              refine w_end 3 rfl ?_
              refine g_inLoop ?_
              have ih := Out.inl hO4 h
              exact g_go [0, 1, 2, 3, 4, 5, 6, 7, 8] (ih ()) ⟨rfl, rfl, rfl, rfl, rfl, rfl, rfl, rfl, trivial⟩ (.cons_cons _ (.cons_cons _ (.cons_cons _ (.cons_cons _ (.cons_cons _ (.cons_cons _ (.cons_cons _ (.slnil)))))))) rfl
             ·have h := if_neg' hp9344 h
              refine g_true (c := q3c98) rfl _ rfl ((nt (bf hp9344))) ?_
              refine g_seq (c := q3c99) rfl ?_
              refine g_region (c := q3c101) rfl rfl ?_
              refine wl_v 0 rfl (v_assign rfl) gn rfl ?_
              refine w_end 1 rfl ?_
              have h := Out.inr hO4 h
              have h := Out.inr hO3 h
              have h := Out.inr hO2 h
              have h := Out.inr hO1 h
              refine g_retR (c := q3c102) [.bool false] rfl Try.func3 rfl (.tmp rfl (.nil)) fun wr hLr => ?_
              have hMr : B.Loc w wr [] [St w []] := hLr.pick0 (sels [8] rfl)
              show trellislaw26_RpcFeeds_R w F  r (.returned (packV [.bool false])) wr
              rw [h]
              exact ⟨rfl, hMr⟩
            ·have h := if_neg' hp9273 h
             refine g_false (c := q3c91) rfl _ rfl ((decide_eq_false hp9273)) ?_
             refine g_exit (c := q3c93) [.inBlock 1, .code q3c34, .inLoop q3c26, .inBlock 0, .code q3c22] rfl rfl ?_
             refine g_inBlock ?_
             refine g_region (c := q3c34) rfl rfl ?_
             refine wl_v 0 rfl (v_move rfl) gn rfl ?_
             refine wl_v 1 rfl (v_bin rfl rfl rfl) gn rfl ?_
             refine wl_v 2 rfl (v_assign rfl) gn rfl ?_
             refine w_end 3 rfl ?_
             refine g_inLoop ?_
             refine g_front 3 rfl ?_
             refine g_front 6 rfl ?_
             refine g_front 4 rfl ?_
             refine g_front 6 rfl ?_
             refine g_front 6 rfl ?_
             refine g_front 6 rfl ?_
             refine g_front 6 rfl ?_
             have h := Out.inr hO4 h
             have h := Out.inr hO3 h
             have h := Out.inr hO2 h
             have ih := Out.inl hO1 h
             exact g_go [0, 1, 6, 7, 8] (ih h8841 A9104 (n3162 + 1) c9105 cs9111 bs9107 h9106 A9118 (n3169 + 1) c9119 cs9125 bs9121 h9120 A8572 n8573 c8574 sw8575 sb8576 h8577 A8580 n8581 c8582 sw8583 sb8584 h8585) ⟨rfl, rfl, rfl, rfl, rfl, rfl, rfl, trivial⟩ (.cons_cons _ (.cons_cons _ (.cons_cons _ (.cons_cons _ (.cons_cons _ (.cons_cons _ (.cons_cons _ (.slnil)))))))) rfl
           exact g_go [0, 1, 2, 3, 4, 5, 6, 7, 8] (key6 _ h ()) ⟨rfl, rfl, rfl, rfl, rfl, rfl, rfl, rfl, trivial⟩ (.cons _ (.cons _ (.cons_cons _ (.cons_cons _ (.cons_cons _ (.cons_cons _ (.cons_cons _ (.cons_cons _ (.cons_cons _ (.slnil)))))))))) rfl
         exact g_go [0, 1, 2, 3, 4, 5, 6, 7, 8] (key5 _ h h7503) ⟨rfl, rfl, rfl, rfl, rfl, rfl, rfl, rfl, rfl, rfl, trivial⟩ (.cons_cons _ (.cons_cons _ (.cons_cons _ (.cons_cons _ (.cons_cons _ (.cons_cons _ (.cons_cons _ (.cons_cons _ (.cons_cons _ (.slnil)))))))))) rfl
       refine g_region (c := q3c59) rfl rfl ?_
       refine wl_v 0 rfl (v_move rfl) gn rfl ?_
       refine wl_v 1 rfl (v_move rfl) gn rfl ?_
       obtain ⟨r9348, hv9349, h⟩ := h
       refine wl_s 2 rfl (s_call [.slice A8501 n8502 c8503, .slice A8470 n8471 c8472] rfl Try.func12 rfl rfl rfl fun w9345 hL9346 => ?_) gn
       have hp9347 : List.Perm ([.box gb19 41 [.slice A8506 n8507 c8508, .int .i64 r8499.2.2.code], .own (.slice A8501 n8502 c8503) 9 1 n8502 (r8499.1.flatMap eS), .box gb84 45 [.slice A8475 n8476 c8477, .int .i64 r8468.2.2.code], .own (.slice A8470 n8471 c8472) 9 1 n8471 (r8468.1.flatMap eS), famE fk_33 (w.heap.size) none x3160 cs3164 bs3165, famE fk_33 (w.heap.size) none x3167 cs3171 bs3172, .own (.slice A6546 n6547 c6548) 5 1 n6547 (r6544.flatMap (eI .u8)), .own (.slice A3161 n3162 c3163) 33 1 n3162 cs3164, .own (.slice A3168 n3169 c3170) 33 1 n3169 cs3171, .own (.slice A63 n64 c65) 5 1 n64 (x7502.flatMap (eI .u8))] : List Ent) (([] : List Ent) ++ ([.box gb19 41 [.slice A8506 n8507 c8508, .int .i64 r8499.2.2.code], .own (.slice A8501 n8502 c8503) 9 1 n8502 (r8499.1.flatMap eS), .box gb84 45 [.slice A8475 n8476 c8477, .int .i64 r8468.2.2.code], .own (.slice A8470 n8471 c8472) 9 1 n8471 (r8468.1.flatMap eS), famE fk_33 (w.heap.size) none x3160 cs3164 bs3165, famE fk_33 (w.heap.size) none x3167 cs3171 bs3172, .own (.slice A6546 n6547 c6548) 5 1 n6547 (r6544.flatMap (eI .u8)), .own (.slice A3161 n3162 c3163) 33 1 n3162 cs3164, .own (.slice A3168 n3169 c3170) 33 1 n3169 cs3171, .own (.slice A63 n64 c65) 5 1 n64 (x7502.flatMap (eI .u8))] : List Ent)) := perm_of_idx [] [0, 1, 2, 3, 4, 5, 6, 7, 8, 9] rfl rfl (by kernel_rfl)
       refine Calls.mono (trellislaw26_sameTexts_calls w9345 (Fl ([] : List Snap)) r8499.1 r8468.1 A8501 n8502 c8503 A8470 n8471 c8472 (hL9346.argO (dk := kStr) hp9347 [] rfl 1 rfl rfl (Ow.weak hL8497.env.size h8504) (me 5 rfl) (Cells.flat _)) (hL9346.argO (dk := kStr) hp9347 [] rfl 3 rfl rfl (Ow.weak hL8466.env.size h8473) (me 5 rfl) (Cells.flat _)) (hL9346.hFl (Sl := ([] : List Snap)) hp9347 (sels [] rfl)) (hL9346.into hp9347 (Fl ([] : List Snap))) r9348 hv9349) ?_
       rintro _ w9350 ⟨rfl, hM9351⟩
       have hL9352 := hL9346.call hp9347 hM9351
       refine ⟨_, _, _, rfl, hL9352, ?_⟩
       refine wl_v 3 rfl (v_not rfl) gn rfl ?_
       refine wl_v 4 rfl (v_move rfl) gn rfl ?_
       by_cases hp9353 : r9348 = true
       ·have h := if_pos' hp9353 h
        refine w_bool 87 rfl ((nf hp9353)) ?_
        refine wl_v 5 rfl (v_move rfl) (gy 87 rfl rfl) rfl ?_
        refine wl_v 6 rfl (v_move rfl) (gy 87 rfl rfl) rfl ?_
        refine wl_v 7 rfl (v_bin rfl rfl rfl) (gy 87 rfl rfl) rfl ?_
        refine wl_v 8 rfl (v_pick (b := false) rfl rfl) gn rfl ?_
        refine wl_v 9 rfl (v_move rfl) gn rfl ?_
        by_cases hp9354 : r8499.2.1 = r8468.2.1
        ·have h := if_pos' hp9354 h
         refine w_bool 92 rfl ((eqib hp9354)) ?_
         refine wl_v 10 rfl (v_move rfl) (gy 92 rfl rfl) rfl ?_
         obtain ⟨r9358, hv9359, h⟩ := h
         refine wl_s 11 rfl (s_call [.pointer (some ⟨gb19, 0, none⟩)] rfl Try.func5 rfl rfl rfl fun w9355 hL9356 => ?_) (gy 92 rfl rfl)
         have hp9357 : List.Perm ([.box gb19 41 [.slice A8506 n8507 c8508, .int .i64 r8499.2.2.code], .own (.slice A8501 n8502 c8503) 9 1 n8502 (r8499.1.flatMap eS), .box gb84 45 [.slice A8475 n8476 c8477, .int .i64 r8468.2.2.code], .own (.slice A8470 n8471 c8472) 9 1 n8471 (r8468.1.flatMap eS), famE fk_33 (w.heap.size) none x3160 cs3164 bs3165, famE fk_33 (w.heap.size) none x3167 cs3171 bs3172, .own (.slice A6546 n6547 c6548) 5 1 n6547 (r6544.flatMap (eI .u8)), .own (.slice A3161 n3162 c3163) 33 1 n3162 cs3164, .own (.slice A3168 n3169 c3170) 33 1 n3169 cs3171, .own (.slice A63 n64 c65) 5 1 n64 (x7502.flatMap (eI .u8))] : List Ent) (([.box gb19 41 [.slice A8506 n8507 c8508, .int .i64 r8499.2.2.code]] : List Ent) ++ ([.own (.slice A8501 n8502 c8503) 9 1 n8502 (r8499.1.flatMap eS), .box gb84 45 [.slice A8475 n8476 c8477, .int .i64 r8468.2.2.code], .own (.slice A8470 n8471 c8472) 9 1 n8471 (r8468.1.flatMap eS), famE fk_33 (w.heap.size) none x3160 cs3164 bs3165, famE fk_33 (w.heap.size) none x3167 cs3171 bs3172, .own (.slice A6546 n6547 c6548) 5 1 n6547 (r6544.flatMap (eI .u8)), .own (.slice A3161 n3162 c3163) 33 1 n3162 cs3164, .own (.slice A3168 n3169 c3170) 33 1 n3169 cs3171, .own (.slice A63 n64 c65) 5 1 n64 (x7502.flatMap (eI .u8))] : List Ent)) := perm_of_idx [0] [1, 2, 3, 4, 5, 6, 7, 8, 9] rfl rfl (by kernel_rfl)
         refine Calls.mono (rpc_Buffer_Waiting_calls w9355 (Fl ([Sm w.heap.size F w8510 sb8514] : List Snap)) r8499.2.2 gb19 41 A8506 n8507 c8508 (Rw.mono h8509 (hL9356.toFl (me 0 rfl) (me 0 rfl))) (hL9356.hFl (Sl := ([Sm w.heap.size F w8510 sb8514] : List Snap)) hp9357 (sels [0] rfl)) (hL9356.into hp9357 (Fl ([Sm w.heap.size F w8510 sb8514] : List Snap))) r9358 hv9359) ?_
         rintro _ w9364 ⟨A9360, n9361, c9362, rfl, hM9365, h9363⟩
         obtain ⟨sb9368, hL9366, hv9367⟩ := hL9356.callB (Sl := ([Sm w.heap.size F w8510 sb8514] : List Snap)) hp9357 hM9365 F (sels [0] rfl) ⟨Sm.ok, trivial⟩
         have h9363 : At (kInt .u8) (Sm w.heap.size F w9364 sb9368) A9360 n9361 c9362 r9358.2.wait := Rw.mono h9363 hv9367
         refine ⟨_, _, _, rfl, hL9366, ?_⟩
         refine wl_v 12 rfl (v_move rfl) (gy 92 rfl rfl) rfl ?_
         obtain ⟨r9372, hv9373, h⟩ := h
         refine wl_s 13 rfl (s_call [.pointer (some ⟨gb84, 0, none⟩)] rfl Try.func13 rfl rfl rfl fun w9369 hL9370 => ?_) (gy 92 rfl rfl)
         have hp9371 : List.Perm ([.box gb19 41 [.slice A9360 n9361 c9362, .int .i64 r9358.2.code], .own (.slice A8501 n8502 c8503) 9 1 n8502 (r8499.1.flatMap eS), .box gb84 45 [.slice A8475 n8476 c8477, .int .i64 r8468.2.2.code], .own (.slice A8470 n8471 c8472) 9 1 n8471 (r8468.1.flatMap eS), famE fk_33 (w.heap.size) none x3160 cs3164 bs3165, famE fk_33 (w.heap.size) none x3167 cs3171 bs3172, .own (.slice A6546 n6547 c6548) 5 1 n6547 (r6544.flatMap (eI .u8)), .own (.slice A3161 n3162 c3163) 33 1 n3162 cs3164, .own (.slice A3168 n3169 c3170) 33 1 n3169 cs3171, .own (.slice A63 n64 c65) 5 1 n64 (x7502.flatMap (eI .u8))] : List Ent) (([.box gb84 45 [.slice A8475 n8476 c8477, .int .i64 r8468.2.2.code]] : List Ent) ++ ([.box gb19 41 [.slice A9360 n9361 c9362, .int .i64 r9358.2.code], .own (.slice A8501 n8502 c8503) 9 1 n8502 (r8499.1.flatMap eS), .own (.slice A8470 n8471 c8472) 9 1 n8471 (r8468.1.flatMap eS), famE fk_33 (w.heap.size) none x3160 cs3164 bs3165, famE fk_33 (w.heap.size) none x3167 cs3171 bs3172, .own (.slice A6546 n6547 c6548) 5 1 n6547 (r6544.flatMap (eI .u8)), .own (.slice A3161 n3162 c3163) 33 1 n3162 cs3164, .own (.slice A3168 n3169 c3170) 33 1 n3169 cs3171, .own (.slice A63 n64 c65) 5 1 n64 (x7502.flatMap (eI .u8))] : List Ent)) := perm_of_idx [2] [0, 1, 3, 4, 5, 6, 7, 8, 9] rfl rfl (by kernel_rfl)
         refine Calls.mono (trellisref26_Model_Waiting_calls w9369 (Fl ([Sm w.heap.size F w8479 sb8483] : List Snap)) r8468.2.2 gb84 45 A8475 n8476 c8477 (Rw.mono h8478 (hL9370.toFl (me 2 rfl) (me 0 rfl))) (hL9370.hFl (Sl := ([Sm w.heap.size F w8479 sb8483] : List Snap)) hp9371 (sels [2] rfl)) (hL9370.into hp9371 (Fl ([Sm w.heap.size F w8479 sb8483] : List Snap))) r9372 hv9373) ?_
         rintro _ w9378 ⟨A9374, n9375, c9376, rfl, hM9379, h9377⟩
         obtain ⟨sb9382, hL9380, hv9381⟩ := hL9370.callB (Sl := ([Sm w.heap.size F w8479 sb8483] : List Snap)) hp9371 hM9379 F (sels [2] rfl) ⟨Sm.ok, trivial⟩
         have h9377 : At (kInt .u8) (Sm w.heap.size F w9378 sb9382) A9374 n9375 c9376 r9372.2.b := Rw.mono h9377 hv9381
         refine ⟨_, _, _, rfl, hL9380, ?_⟩
         refine wl_v 14 rfl (v_bin rfl rfl rfl) (gy 92 rfl rfl) rfl ?_
         refine wl_v 15 rfl (v_pick (b := false) rfl rfl) gn rfl ?_
         refine wl_v 16 rfl (v_move rfl) gn rfl ?_
         by_cases hp9383 : r9358.1 = r9372.1
         ·have h := if_pos' hp9383 h
          refine w_bool 99 rfl ((eqib hp9383)) ?_
          refine wl_v 17 rfl (v_move rfl) (gy 99 rfl rfl) rfl ?_
          refine wl_v 18 rfl (v_move rfl) (gy 99 rfl rfl) rfl ?_
          refine wl_v 19 rfl (v_move rfl) (gy 99 rfl rfl) rfl ?_
          obtain ⟨ce9385, hK9386, hr9384⟩ := Rw.read (s := St w []) h5 hb6533
          obtain ⟨A9387, n9388, c9389, rfl, h9390⟩ := hK9386
          refine wl_v 20 rfl (v_idxR (s := St w []) slE_22 rfl rfl h5 hb6533) (gy 99 rfl rfl) rfl ?_
          refine wl_v 21 rfl (v_ldA1 (kk := (x3174 : Int).toNat * 1) (j := 0) (St w []) ld_27 rfl hr9384 rfl (me 8 rfl)) (gy 99 rfl rfl) rfl ?_
          obtain ⟨r9394, hv9395, h⟩ := h
          refine wl_s 22 rfl (s_call [.slice A63 n64 c65, .slice A9387 n9388 c9389] rfl Try.func14 rfl rfl rfl fun w9391 hL9392 => ?_) (gy 99 rfl rfl)
          have hp9393 : List.Perm ([.box gb84 45 [.slice A9374 n9375 c9376, .int .i64 r9372.2.code], .box gb19 41 [.slice A9360 n9361 c9362, .int .i64 r9358.2.code], .own (.slice A8501 n8502 c8503) 9 1 n8502 (r8499.1.flatMap eS), .own (.slice A8470 n8471 c8472) 9 1 n8471 (r8468.1.flatMap eS), famE fk_33 (w.heap.size) none x3160 cs3164 bs3165, famE fk_33 (w.heap.size) none x3167 cs3171 bs3172, .own (.slice A6546 n6547 c6548) 5 1 n6547 (r6544.flatMap (eI .u8)), .own (.slice A3161 n3162 c3163) 33 1 n3162 cs3164, .own (.slice A3168 n3169 c3170) 33 1 n3169 cs3171, .own (.slice A63 n64 c65) 5 1 n64 (x7502.flatMap (eI .u8))] : List Ent) (([] : List Ent) ++ ([.box gb84 45 [.slice A9374 n9375 c9376, .int .i64 r9372.2.code], .box gb19 41 [.slice A9360 n9361 c9362, .int .i64 r9358.2.code], .own (.slice A8501 n8502 c8503) 9 1 n8502 (r8499.1.flatMap eS), .own (.slice A8470 n8471 c8472) 9 1 n8471 (r8468.1.flatMap eS), famE fk_33 (w.heap.size) none x3160 cs3164 bs3165, famE fk_33 (w.heap.size) none x3167 cs3171 bs3172, .own (.slice A6546 n6547 c6548) 5 1 n6547 (r6544.flatMap (eI .u8)), .own (.slice A3161 n3162 c3163) 33 1 n3162 cs3164, .own (.slice A3168 n3169 c3170) 33 1 n3169 cs3171, .own (.slice A63 n64 c65) 5 1 n64 (x7502.flatMap (eI .u8))] : List Ent)) := perm_of_idx [] [0, 1, 2, 3, 4, 5, 6, 7, 8, 9] rfl rfl (by kernel_rfl)
          refine Calls.mono (trellislaw26_whole_calls w9391 (Fl ([] : List Snap)) x7502 (ix x1 x3174) A63 n64 c65 A9387 n9388 c9389 (hL9392.argO (dk := (kInt .u8)) hp9393 [] rfl 9 rfl rfl h7503 (me 7 rfl) (Cells.flat _)) (Rw.mono h9390 (hL9392.toSt hp9393 (me 8 rfl))) (hL9392.hFl (Sl := ([] : List Snap)) hp9393 (sels [] rfl)) (hL9392.into hp9393 (Fl ([] : List Snap))) r9394 hv9395) ?_
          rintro _ w9396 ⟨rfl, hM9397⟩
          have hL9398 := hL9392.call hp9393 hM9397
          refine ⟨_, _, _, rfl, hL9398, ?_⟩
          refine wl_v 23 rfl (v_not rfl) (gy 99 rfl rfl) rfl ?_
          refine wl_v 24 rfl (v_pick (b := false) rfl rfl) gn rfl ?_
          refine w_end 25 rfl ?_
          refine g_front 9 rfl ?_
          refine g_front 9 rfl ?_
          refine g_front 9 rfl ?_
          refine g_front 6 rfl ?_
          refine g_front 6 rfl ?_
          refine g_front 6 rfl ?_
          refine g_front 6 rfl ?_
          refine g_front 8 rfl ?_
          refine g_front 8 rfl ?_
          exact g_go [0, 1, 2, 3, 4, 5, 6, 7, 8] (j4 (!r9394) r9372.2.b r9372.2.code r9358.2.wait r9358.2.code h A9374 n9375 c9376 w9378 sb9382 h9377 A9360 n9361 c9362 w9364 sb9368 h9363) ⟨rfl, rfl, rfl, rfl, rfl, rfl, rfl, rfl, rfl, rfl, trivial⟩ (.cons_cons _ (.cons_cons _ (.cons_cons _ (.cons_cons _ (.cons_cons _ (.cons_cons _ (.cons_cons _ (.cons_cons _ (.cons_cons _ (.cons _ (.slnil))))))))))) rfl
         ·have h := if_neg' hp9383 h
          refine w_bool 99 rfl ((neib hp9383)) ?_
          refine wl_pass 17 rfl (ps 99 rfl rfl rfl) ?_
          refine wl_pass 18 rfl (ps 99 rfl rfl rfl) ?_
          refine wl_pass 19 rfl (ps 99 rfl rfl rfl) ?_
          refine wl_pass 20 rfl (ps 99 rfl rfl rfl) ?_
          refine wl_pass 21 rfl (ps 99 rfl rfl rfl) ?_
          refine wl_pass 22 rfl (ps 99 rfl rfl rfl) ?_
          refine wl_pass 23 rfl (ps 99 rfl rfl rfl) ?_
          refine wl_v 24 rfl (v_pick (b := true) rfl rfl) gn rfl ?_
          refine w_end 25 rfl ?_
          refine g_front 9 rfl ?_
          refine g_front 9 rfl ?_
          refine g_front 9 rfl ?_
          refine g_front 6 rfl ?_
          refine g_front 6 rfl ?_
          refine g_front 6 rfl ?_
          refine g_front 6 rfl ?_
          refine g_front 8 rfl ?_
          refine g_front 8 rfl ?_
          exact g_go [0, 1, 2, 3, 4, 5, 6, 7, 8] (j4 true r9372.2.b r9372.2.code r9358.2.wait r9358.2.code h A9374 n9375 c9376 w9378 sb9382 h9377 A9360 n9361 c9362 w9364 sb9368 h9363) ⟨rfl, rfl, rfl, rfl, rfl, rfl, rfl, rfl, rfl, rfl, trivial⟩ (.cons_cons _ (.cons_cons _ (.cons_cons _ (.cons_cons _ (.cons_cons _ (.cons_cons _ (.cons_cons _ (.cons_cons _ (.cons_cons _ (.cons _ (.slnil))))))))))) rfl
        ·have h := if_neg' hp9354 h
         refine w_bool 92 rfl ((neib hp9354)) ?_
         refine wl_pass 10 rfl (ps 92 rfl rfl rfl) ?_
         refine wl_pass 11 rfl (ps 92 rfl rfl rfl) ?_
         refine wl_pass 12 rfl (ps 92 rfl rfl rfl) ?_
         refine wl_pass 13 rfl (ps 92 rfl rfl rfl) ?_
         refine wl_pass 14 rfl (ps 92 rfl rfl rfl) ?_
         refine wl_v 15 rfl (v_pick (b := true) rfl rfl) gn rfl ?_
         refine wl_v 16 rfl (v_move rfl) gn rfl ?_
         refine wl_pass 17 rfl (ps 99 rfl rfl rfl) ?_
         refine wl_pass 18 rfl (ps 99 rfl rfl rfl) ?_
         refine wl_pass 19 rfl (ps 99 rfl rfl rfl) ?_
         refine wl_pass 20 rfl (ps 99 rfl rfl rfl) ?_
         refine wl_pass 21 rfl (ps 99 rfl rfl rfl) ?_
         refine wl_pass 22 rfl (ps 99 rfl rfl rfl) ?_
         refine wl_pass 23 rfl (ps 99 rfl rfl rfl) ?_
         refine wl_v 24 rfl (v_pick (b := true) rfl rfl) gn rfl ?_
         refine w_end 25 rfl ?_
         refine g_front 9 rfl ?_
         refine g_front 9 rfl ?_
         refine g_front 9 rfl ?_
         refine g_front 6 rfl ?_
         refine g_front 5 rfl ?_
         refine g_front 5 rfl ?_
         refine g_front 6 rfl ?_
         refine g_front 8 rfl ?_
         refine g_front 8 rfl ?_
         exact g_go [1, 0, 0, 1, 2, 3, 4, 5, 6] (j4 true r8468.2.2.b r8468.2.2.code r8499.2.2.wait r8499.2.2.code h A8475 n8476 c8477 w8479 sb8483 h8478 A8506 n8507 c8508 w8510 sb8514 h8509) ⟨rfl, rfl, rfl, rfl, rfl, rfl, rfl, rfl, rfl, rfl, trivial⟩ (.cons_cons _ (.cons_cons _ (.cons_cons _ (.cons_cons _ (.cons_cons _ (.cons_cons _ (.cons_cons _ (.cons_cons _ (.cons_cons _ (.cons _ (.slnil))))))))))) rfl
       ·have h := if_neg' hp9353 h
        refine w_bool 87 rfl ((nt (bf hp9353))) ?_
        refine wl_pass 5 rfl (ps 87 rfl rfl rfl) ?_
        refine wl_pass 6 rfl (ps 87 rfl rfl rfl) ?_
        refine wl_pass 7 rfl (ps 87 rfl rfl rfl) ?_
        refine wl_v 8 rfl (v_pick (b := true) rfl rfl) gn rfl ?_
        refine wl_v 9 rfl (v_move rfl) gn rfl ?_
        refine wl_pass 10 rfl (ps 92 rfl rfl rfl) ?_
        refine wl_pass 11 rfl (ps 92 rfl rfl rfl) ?_
        refine wl_pass 12 rfl (ps 92 rfl rfl rfl) ?_
        refine wl_pass 13 rfl (ps 92 rfl rfl rfl) ?_
        refine wl_pass 14 rfl (ps 92 rfl rfl rfl) ?_
        refine wl_v 15 rfl (v_pick (b := true) rfl rfl) gn rfl ?_
        refine wl_v 16 rfl (v_move rfl) gn rfl ?_
        refine wl_pass 17 rfl (ps 99 rfl rfl rfl) ?_
        refine wl_pass 18 rfl (ps 99 rfl rfl rfl) ?_
        refine wl_pass 19 rfl (ps 99 rfl rfl rfl) ?_
        refine wl_pass 20 rfl (ps 99 rfl rfl rfl) ?_
        refine wl_pass 21 rfl (ps 99 rfl rfl rfl) ?_
        refine wl_pass 22 rfl (ps 99 rfl rfl rfl) ?_
        refine wl_pass 23 rfl (ps 99 rfl rfl rfl) ?_
        refine wl_v 24 rfl (v_pick (b := true) rfl rfl) gn rfl ?_
        refine w_end 25 rfl ?_
        refine g_front 9 rfl ?_
        refine g_front 9 rfl ?_
        refine g_front 9 rfl ?_
        refine g_front 6 rfl ?_
        refine g_front 5 rfl ?_
        refine g_front 5 rfl ?_
        refine g_front 6 rfl ?_
        refine g_front 8 rfl ?_
        refine g_front 8 rfl ?_
        exact g_go [1, 0, 0, 1, 2, 3, 4, 5, 6] (j4 true r8468.2.2.b r8468.2.2.code r8499.2.2.wait r8499.2.2.code h A8475 n8476 c8477 w8479 sb8483 h8478 A8506 n8507 c8508 w8510 sb8514 h8509) ⟨rfl, rfl, rfl, rfl, rfl, rfl, rfl, rfl, rfl, rfl, trivial⟩ (.cons_cons _ (.cons_cons _ (.cons_cons _ (.cons_cons _ (.cons_cons _ (.cons_cons _ (.cons_cons _ (.cons_cons _ (.cons_cons _ (.cons _ (.slnil))))))))))) rfl
     refine g_front 7 rfl ?_
     refine g_front 7 rfl ?_
     refine g_front 7 rfl ?_
     refine g_front 7 rfl ?_
     refine g_front 7 rfl ?_
     refine g_front 5 rfl ?_
     refine g_front 7 rfl ?_
     refine g_front 7 rfl ?_
     exact g_go [0, 1, 2, 3, 4] (key3 _ h h3159) ⟨rfl, rfl, rfl, rfl, rfl, rfl, rfl, rfl, rfl, trivial⟩ (.cons_cons _ (.cons_cons _ (.cons_cons _ (.cons_cons _ (.cons_cons _ (.cons_cons _ (.cons_cons _ (.cons_cons _ (.slnil))))))))) rfl
    ·have h := if_neg' hp6532 h
     refine g_false (c := q3c30) rfl _ rfl ((decide_eq_false hp6532)) ?_
     refine g_exit (c := q3c32) [.code q3c22] rfl rfl ?_
     refine g_seq (c := q3c22) rfl ?_
     refine g_seq (c := q3c103) rfl ?_
     refine g_region (c := q3c105) rfl rfl ?_
     refine wl_v 0 rfl (v_assign rfl) gn rfl ?_
     refine w_end 1 rfl ?_
     refine g_block (c := q3c106) rfl ?_
     refine g_loop (c := q3c107) rfl ?_
     have key7 : ∀ s, Rounds (fun (s : (List (List ByteArray)) × Int) o => trellislaw26_RpcFeeds_b7 x3183 x3190 x3175 x3182 s.1 s.2 o) s o1 → (fun (s : (List (List ByteArray)) × Int) => ∀ (A9556 : Option Addr) (n9557 : Nat) (c9558 : Nat) (cs9559 : List Value) (bs9560 : List Nat) (h9561 : Ow w.heap.size A9556 n9557 c9558 s.1), G (trellislaw26_RpcFeeds_C w F r) [.code q3c108, .inLoop q3c108, .inBlock 8, .code q3c104] [(3, .pointer (some ⟨gb19, 0, none⟩)), (5, .pointer (some ⟨gb84, 0, none⟩)), (6, .slice A9556 n9557 c9558), (17, .int .i64 s.2)] [famE fk_33 (w.heap.size) none s.1 cs9559 bs9560, .own (.slice A9556 n9557 c9558) 33 1 n9557 cs9559, .box gb84 45 [.slice A3176 n3177 c3178, .int .i64 x3182], .box gb19 41 [.slice A3184 n3185 c3186, .int .i64 x3190]] [Sm w.heap.size F sw3179 sb3180, Sm w.heap.size F sw3187 sb3188, Sm w.heap.size F sw53 sb54, Sm w.heap.size F w [], St w []]) s := by
      intro s hs
      refine Rounds.ind (mot := (fun (s : (List (List ByteArray)) × Int) => ∀ (A9556 : Option Addr) (n9557 : Nat) (c9558 : Nat) (cs9559 : List Value) (bs9560 : List Nat) (h9561 : Ow w.heap.size A9556 n9557 c9558 s.1), G (trellislaw26_RpcFeeds_C w F r) [.code q3c108, .inLoop q3c108, .inBlock 8, .code q3c104] [(3, .pointer (some ⟨gb19, 0, none⟩)), (5, .pointer (some ⟨gb84, 0, none⟩)), (6, .slice A9556 n9557 c9558), (17, .int .i64 s.2)] [famE fk_33 (w.heap.size) none s.1 cs9559 bs9560, .own (.slice A9556 n9557 c9558) 33 1 n9557 cs9559, .box gb84 45 [.slice A3176 n3177 c3178, .int .i64 x3182], .box gb19 41 [.slice A3184 n3185 c3186, .int .i64 x3190]] [Sm w.heap.size F sw3179 sb3180, Sm w.heap.size F sw3187 sb3188, Sm w.heap.size F sw53 sb54, Sm w.heap.size F w [], St w []])) ?_ hs
      clear hs s
      intro s o2 h hO2
      obtain ⟨x9555, x9562⟩ := s
      show ∀ (A9556 : Option Addr) (n9557 : Nat) (c9558 : Nat) (cs9559 : List Value) (bs9560 : List Nat) (h9561 : Ow w.heap.size A9556 n9557 c9558 x9555), G (trellislaw26_RpcFeeds_C w F r) [.code q3c108, .inLoop q3c108, .inBlock 8, .code q3c104] [(3, .pointer (some ⟨gb19, 0, none⟩)), (5, .pointer (some ⟨gb84, 0, none⟩)), (6, .slice A9556 n9557 c9558), (17, .int .i64 x9562)] [famE fk_33 (w.heap.size) none x9555 cs9559 bs9560, .own (.slice A9556 n9557 c9558) 33 1 n9557 cs9559, .box gb84 45 [.slice A3176 n3177 c3178, .int .i64 x3182], .box gb19 41 [.slice A3184 n3185 c3186, .int .i64 x3190]] [Sm w.heap.size F sw3179 sb3180, Sm w.heap.size F sw3187 sb3188, Sm w.heap.size F sw53 sb54, Sm w.heap.size F w [], St w []]
      intro A9556 n9557 c9558 cs9559 bs9560 h9561
      have h : trellislaw26_RpcFeeds_b7 x3183 x3190 x3175 x3182 x9555 x9562 o2 := h
      unfold trellislaw26_RpcFeeds_b7 at h
      refine g_seq (c := q3c108) rfl ?_
      refine g_seq (c := q3c109) rfl ?_
      refine g_region (c := q3c111) rfl rfl ?_
      refine wl_v 0 rfl (v_move rfl) gn rfl ?_
      refine wl_v 1 rfl (v_move rfl) gn rfl ?_
      refine wl_v 2 rfl (v_lenQ un_31 rfl h9561.hq) gn rfl ?_
      refine wl_v 3 rfl (v_bin rfl rfl rfl) gn rfl ?_
      refine w_end 4 rfl ?_
      by_cases hp9718 : x9562 < (x9555.length : Int)
      ·have h := if_pos' hp9718 h
       refine g_true (c := q3c112) rfl _ rfl ((decide_eq_true hp9718)) ?_
       refine g_skip (c := q3c113) rfl ?_
       refine g_seq (c := q3c110) rfl ?_
       refine g_block (c := q3c121) rfl ?_
       refine g_seq (c := q3c123) rfl ?_
       refine g_region (c := q3c124) rfl rfl ?_
       refine wl_v 0 rfl (v_assign rfl) gn rfl ?_
       refine w_end 1 rfl ?_
       refine g_block (c := q3c125) rfl ?_
       refine g_loop (c := q3c126) rfl ?_
       have key8 : ∀ s, Rounds (fun (s : (List (List ByteArray)) × Int) o => trellislaw26_RpcFeeds_b8 x9562 s.1 s.2 o) s o2 → (fun (s : (List (List ByteArray)) × Int) => ∀ (A9744 : Option Addr) (n9745 : Nat) (c9746 : Nat) (cs9747 : List Value) (bs9748 : List Nat) (h9749 : Ow w.heap.size A9744 n9745 c9746 s.1), G (trellislaw26_RpcFeeds_C w F r) [.code q3c127, .inLoop q3c127, .inBlock 10, .inBlock 9, .code q3c122, .inLoop q3c108, .inBlock 8, .code q3c104] [(3, .pointer (some ⟨gb19, 0, none⟩)), (5, .pointer (some ⟨gb84, 0, none⟩)), (6, .slice A9744 n9745 c9746), (17, .int .i64 x9562), (18, .int .i64 s.2)] [famE fk_33 (w.heap.size) none s.1 cs9747 bs9748, .own (.slice A9744 n9745 c9746) 33 1 n9745 cs9747, .box gb84 45 [.slice A3176 n3177 c3178, .int .i64 x3182], .box gb19 41 [.slice A3184 n3185 c3186, .int .i64 x3190]] [Sm w.heap.size F sw3179 sb3180, Sm w.heap.size F sw3187 sb3188, Sm w.heap.size F sw53 sb54, Sm w.heap.size F w [], St w []]) s := by
        intro s hs
        refine Rounds.ind (mot := (fun (s : (List (List ByteArray)) × Int) => ∀ (A9744 : Option Addr) (n9745 : Nat) (c9746 : Nat) (cs9747 : List Value) (bs9748 : List Nat) (h9749 : Ow w.heap.size A9744 n9745 c9746 s.1), G (trellislaw26_RpcFeeds_C w F r) [.code q3c127, .inLoop q3c127, .inBlock 10, .inBlock 9, .code q3c122, .inLoop q3c108, .inBlock 8, .code q3c104] [(3, .pointer (some ⟨gb19, 0, none⟩)), (5, .pointer (some ⟨gb84, 0, none⟩)), (6, .slice A9744 n9745 c9746), (17, .int .i64 x9562), (18, .int .i64 s.2)] [famE fk_33 (w.heap.size) none s.1 cs9747 bs9748, .own (.slice A9744 n9745 c9746) 33 1 n9745 cs9747, .box gb84 45 [.slice A3176 n3177 c3178, .int .i64 x3182], .box gb19 41 [.slice A3184 n3185 c3186, .int .i64 x3190]] [Sm w.heap.size F sw3179 sb3180, Sm w.heap.size F sw3187 sb3188, Sm w.heap.size F sw53 sb54, Sm w.heap.size F w [], St w []])) ?_ hs
        clear hs s
        intro s o3 h hO3
        obtain ⟨x9743, x9750⟩ := s
        show ∀ (A9744 : Option Addr) (n9745 : Nat) (c9746 : Nat) (cs9747 : List Value) (bs9748 : List Nat) (h9749 : Ow w.heap.size A9744 n9745 c9746 x9743), G (trellislaw26_RpcFeeds_C w F r) [.code q3c127, .inLoop q3c127, .inBlock 10, .inBlock 9, .code q3c122, .inLoop q3c108, .inBlock 8, .code q3c104] [(3, .pointer (some ⟨gb19, 0, none⟩)), (5, .pointer (some ⟨gb84, 0, none⟩)), (6, .slice A9744 n9745 c9746), (17, .int .i64 x9562), (18, .int .i64 x9750)] [famE fk_33 (w.heap.size) none x9743 cs9747 bs9748, .own (.slice A9744 n9745 c9746) 33 1 n9745 cs9747, .box gb84 45 [.slice A3176 n3177 c3178, .int .i64 x3182], .box gb19 41 [.slice A3184 n3185 c3186, .int .i64 x3190]] [Sm w.heap.size F sw3179 sb3180, Sm w.heap.size F sw3187 sb3188, Sm w.heap.size F sw53 sb54, Sm w.heap.size F w [], St w []]
        intro A9744 n9745 c9746 cs9747 bs9748 h9749
        have h : trellislaw26_RpcFeeds_b8 x9562 x9743 x9750 o3 := h
        unfold trellislaw26_RpcFeeds_b8 at h
        refine g_seq (c := q3c127) rfl ?_
        refine g_seq (c := q3c128) rfl ?_
        refine g_region (c := q3c130) rfl rfl ?_
        refine wl_v 0 rfl (v_move rfl) gn rfl ?_
        refine wl_v 1 rfl (v_move rfl) gn rfl ?_
        refine wl_v 2 rfl (v_move rfl) gn rfl ?_
        obtain ⟨hb9774, h⟩ := h
        refine w_famget (fk := fk_33) (z := w.heap.size) (j := 0) rfl hb9774 fun A9775 n9776 c9777 h9778 ht9779 hg9780 => ?_
        refine wl_v 3 rfl (v_idxO slE_31 rfl rfl h9749 hb9774) gn rfl ?_
        refine wl_v 4 rfl (v_ldO1 (.slice A9775 n9776 c9777) 1 ld_33 rfl rfl (hg9780 0 _ rfl)) gn rfl ?_
        refine wl_v 5 rfl (v_lenQ un_33 rfl h9778.hq) gn rfl ?_
        refine wl_v 6 rfl (v_bin rfl rfl rfl) gn rfl ?_
        refine w_end 7 rfl ?_
        by_cases hp9781 : x9750 < ((ix x9743 x9562).length : Int)
        ·have h := if_pos' hp9781 h
         refine g_true (c := q3c131) rfl _ rfl ((decide_eq_true hp9781)) ?_
         refine g_skip (c := q3c132) rfl ?_
         refine g_seq (c := q3c129) rfl ?_
         refine g_block (c := q3c134) rfl ?_
         refine g_region (c := q3c136) rfl rfl ?_
         refine wl_v 0 rfl (v_move rfl) gn rfl ?_
         refine wl_v 1 rfl (v_move rfl) gn rfl ?_
         refine w_famget (fk := fk_33) (z := w.heap.size) (j := 0) rfl hb9774 fun A9782 n9783 c9784 h9785 ht9786 hg9787 => ?_
         refine wl_v 2 rfl (v_idxO slE_31 rfl rfl h9749 hb9774) gn rfl ?_
         refine wl_v 3 rfl (v_ldO1 (.slice A9782 n9783 c9784) 1 ld_33 rfl rfl (hg9787 0 _ rfl)) gn rfl ?_
         refine wl_v 4 rfl (v_move rfl) gn rfl ?_
         obtain ⟨hb9788, h⟩ := h
         refine wl_v 5 rfl (v_idxO slE_33 rfl rfl h9785 hb9788) gn rfl ?_
         obtain ⟨x9789, hv9790, h⟩ := h
         obtain ⟨x9791, hv9792, h⟩ := h
         refine w_take (fk := fk_33) (z := w.heap.size) (j := 0) rfl hb9774 ht9786 fun bs9793 => ?_
         refine wl_s 6 rfl (s_stF (enc := eS) (o := 0) (z := (⟨#[115, 112, 111, 105, 108, 116]⟩ : ByteArray)) (vs := [.string (⟨#[115, 112, 111, 105, 108, 116]⟩ : ByteArray)]) (i := x9750) 0 hlS sz_9 rfl rfl rfl rfl rfl h9785 hb9788 rfl rfl rfl hv9790 fun h9795 => ?_) gn
         refine w_put (fk := fk_33) (z := w.heap.size) (j0 := 0) (j := 1) (q := x9562) (by decide) rfl hb9774 rfl ht9786 x9789 h9795 rfl rfl hv9792 fun bs9794 => ?_
         have h9796 : Ow w.heap.size A9744 n9745 c9746 x9791 := Ow.w h9749 (by rw [hv9792, List.length_set])
         refine w_end 7 rfl ?_
         refine g_inBlock ?_
         refine g_region (c := q3c135) rfl rfl ?_
         refine wl_v 0 rfl (v_move rfl) gn rfl ?_
         refine wl_v 1 rfl (v_bin rfl rfl rfl) gn rfl ?_
         refine wl_v 2 rfl (v_assign rfl) gn rfl ?_
         refine w_end 3 rfl ?_
         refine g_inLoop ?_
         have ih := Out.inl hO3 h
         exact g_go [0, 1, 2, 3, 4] (ih A9744 n9745 c9746 cs9747 bs9794 h9796) ⟨rfl, rfl, rfl, rfl, rfl, trivial⟩ (.cons_cons _ (.cons_cons _ (.cons_cons _ (.cons_cons _ (.slnil))))) rfl
        ·have h := if_neg' hp9781 h
         refine g_false (c := q3c131) rfl _ rfl ((decide_eq_false hp9781)) ?_
         refine g_exit (c := q3c133) [.inBlock 9, .code q3c122, .inLoop q3c108, .inBlock 8, .code q3c104] rfl rfl ?_
         refine g_inBlock ?_
         refine g_region (c := q3c122) rfl rfl ?_
         refine wl_v 0 rfl (v_move rfl) gn rfl ?_
         refine wl_v 1 rfl (v_bin rfl rfl rfl) gn rfl ?_
         refine wl_v 2 rfl (v_assign rfl) gn rfl ?_
         refine w_end 3 rfl ?_
         refine g_inLoop ?_
         have h := Out.inr hO3 h
         have ih := Out.inl hO2 h
         exact g_go [0, 1, 2, 3, 4] (ih A9744 n9745 c9746 cs9747 bs9748 h9749) ⟨rfl, rfl, rfl, rfl, trivial⟩ (.cons_cons _ (.cons_cons _ (.cons_cons _ (.cons_cons _ (.slnil))))) rfl
       exact g_go [0, 1, 2, 3, 4] (key8 _ h A9556 n9557 c9558 cs9559 bs9560 h9561) ⟨rfl, rfl, rfl, rfl, rfl, trivial⟩ (.cons_cons _ (.cons_cons _ (.cons_cons _ (.cons_cons _ (.slnil))))) rfl
      ·have h := if_neg' hp9718 h
       refine g_false (c := q3c112) rfl _ rfl ((decide_eq_false hp9718)) ?_
       refine g_exit (c := q3c114) [.code q3c104] rfl rfl ?_
       refine g_seq (c := q3c104) rfl ?_
       refine g_region (c := q3c115) rfl rfl ?_
       refine wl_v 0 rfl (v_move rfl) gn rfl ?_
       obtain ⟨r9800, hv9801, h⟩ := h
       refine wl_s 1 rfl (s_call [.pointer (some ⟨gb19, 0, none⟩), .slice none 0 0] rfl Try.func11 rfl rfl rfl fun w9797 hL9798 => ?_) gn
       have hp9799 : List.Perm ([famE fk_33 (w.heap.size) none x9555 cs9559 bs9560, .own (.slice A9556 n9557 c9558) 33 1 n9557 cs9559, .box gb84 45 [.slice A3176 n3177 c3178, .int .i64 x3182], .box gb19 41 [.slice A3184 n3185 c3186, .int .i64 x3190]] : List Ent) (([.box gb19 41 [.slice A3184 n3185 c3186, .int .i64 x3190]] : List Ent) ++ ([famE fk_33 (w.heap.size) none x9555 cs9559 bs9560, .own (.slice A9556 n9557 c9558) 33 1 n9557 cs9559, .box gb84 45 [.slice A3176 n3177 c3178, .int .i64 x3182]] : List Ent)) := perm_of_idx [3] [0, 1, 2] rfl rfl (by kernel_rfl)
       refine Calls.mono (rpc_Buffer_Feed_calls w9797 (Fl ([Sm w.heap.size F sw3187 sb3188] : List Snap)) (⟨x3183, x3190⟩ : rpc_Buffer) ([] : List Int) gb19 41 A3184 n3185 c3186 none 0 0 (Rw.mono h3189 (hL9798.toFl (me 1 rfl) (me 0 rfl))) Rw.nil (hL9798.hFl (Sl := ([Sm w.heap.size F sw3187 sb3188] : List Snap)) hp9799 (sels [1] rfl)) (hL9798.into hp9799 (Fl ([Sm w.heap.size F sw3187 sb3188] : List Snap))) r9800 hv9801) ?_
       rintro _ w9811 ⟨A9802, n9803, c9804, A9807, n9808, c9809, rfl, hM9812, h9805, h9810⟩
       obtain ⟨sb9815, hL9813, hv9814⟩ := hL9798.callB (Sl := ([Sm w.heap.size F sw3187 sb3188] : List Snap)) hp9799 hM9812 F (sels [1] rfl) ⟨Sm.ok, trivial⟩
       have h9810 : At (kInt .u8) (Sm w.heap.size F w9811 sb9815) A9807 n9808 c9809 r9800.2.2.wait := Rw.mono h9810 hv9814
       refine ⟨_, _, _, rfl, hL9813, ?_⟩
       refine wl_v 2 rfl (v_move rfl) gn rfl ?_
       refine wl_v 3 rfl (v_extract rfl rfl) gn rfl ?_
       refine wl_v 4 rfl (v_extract rfl rfl) gn rfl ?_
       refine wl_v 5 rfl (v_assign rfl) gn rfl ?_
       refine wl_v 6 rfl (v_assign rfl) gn rfl ?_
       refine w_end 7 rfl ?_
       refine g_seq (c := q3c116) rfl ?_
       refine g_region (c := q3c117) rfl rfl ?_
       refine wl_v 0 rfl (v_move rfl) gn rfl ?_
       obtain ⟨r9819, hv9820, h⟩ := h
       refine wl_s 1 rfl (s_call [.pointer (some ⟨gb84, 0, none⟩), .slice none 0 0] rfl Try.func10 rfl rfl rfl fun w9816 hL9817 => ?_) gn
       have hp9818 : List.Perm ([.box gb19 41 [.slice A9807 n9808 c9809, .int .i64 r9800.2.2.code], .own (.slice A9802 n9803 c9804) 9 1 n9803 (r9800.1.flatMap eS), famE fk_33 (w.heap.size) none x9555 cs9559 bs9560, .own (.slice A9556 n9557 c9558) 33 1 n9557 cs9559, .box gb84 45 [.slice A3176 n3177 c3178, .int .i64 x3182]] : List Ent) (([.box gb84 45 [.slice A3176 n3177 c3178, .int .i64 x3182]] : List Ent) ++ ([.box gb19 41 [.slice A9807 n9808 c9809, .int .i64 r9800.2.2.code], .own (.slice A9802 n9803 c9804) 9 1 n9803 (r9800.1.flatMap eS), famE fk_33 (w.heap.size) none x9555 cs9559 bs9560, .own (.slice A9556 n9557 c9558) 33 1 n9557 cs9559] : List Ent)) := perm_of_idx [4] [0, 1, 2, 3] rfl rfl (by kernel_rfl)
       refine Calls.mono (trellisref26_Model_Feed_calls w9816 (Fl ([Sm w.heap.size F sw3179 sb3180] : List Snap)) (⟨x3175, x3182⟩ : trellisref26_Model) ([] : List Int) gb84 45 A3176 n3177 c3178 none 0 0 (Rw.mono h3181 (hL9817.toFl (me 1 rfl) (me 0 rfl))) Rw.nil (hL9817.hFl (Sl := ([Sm w.heap.size F sw3179 sb3180] : List Snap)) hp9818 (sels [1] rfl)) (hL9817.into hp9818 (Fl ([Sm w.heap.size F sw3179 sb3180] : List Snap))) r9819 hv9820) ?_
       rintro _ w9830 ⟨A9821, n9822, c9823, A9826, n9827, c9828, rfl, hM9831, h9824, h9829⟩
       obtain ⟨sb9834, hL9832, hv9833⟩ := hL9817.callB (Sl := ([Sm w.heap.size F sw3179 sb3180] : List Snap)) hp9818 hM9831 F (sels [1] rfl) ⟨Sm.ok, trivial⟩
       have h9829 : At (kInt .u8) (Sm w.heap.size F w9830 sb9834) A9826 n9827 c9828 r9819.2.2.b := Rw.mono h9829 hv9833
       refine ⟨_, _, _, rfl, hL9832, ?_⟩
       refine wl_v 2 rfl (v_move rfl) gn rfl ?_
       refine wl_v 3 rfl (v_extract rfl rfl) gn rfl ?_
       refine wl_v 4 rfl (v_extract rfl rfl) gn rfl ?_
       refine wl_v 5 rfl (v_assign rfl) gn rfl ?_
       refine wl_v 6 rfl (v_assign rfl) gn rfl ?_
       refine w_end 7 rfl ?_
       refine g_seq (c := q3c118) rfl ?_
       refine g_region (c := q3c119) rfl rfl ?_
       refine wl_v 0 rfl (v_move rfl) gn rfl ?_
       refine wl_v 1 rfl (v_move rfl) gn rfl ?_
       obtain ⟨r9838, hv9839, h⟩ := h
       refine wl_s 2 rfl (s_call [.slice A9802 n9803 c9804, .slice A9821 n9822 c9823] rfl Try.func12 rfl rfl rfl fun w9835 hL9836 => ?_) gn
       have hp9837 : List.Perm ([.box gb84 45 [.slice A9826 n9827 c9828, .int .i64 r9819.2.2.code], .own (.slice A9821 n9822 c9823) 9 1 n9822 (r9819.1.flatMap eS), .box gb19 41 [.slice A9807 n9808 c9809, .int .i64 r9800.2.2.code], .own (.slice A9802 n9803 c9804) 9 1 n9803 (r9800.1.flatMap eS), famE fk_33 (w.heap.size) none x9555 cs9559 bs9560, .own (.slice A9556 n9557 c9558) 33 1 n9557 cs9559] : List Ent) (([] : List Ent) ++ ([.box gb84 45 [.slice A9826 n9827 c9828, .int .i64 r9819.2.2.code], .own (.slice A9821 n9822 c9823) 9 1 n9822 (r9819.1.flatMap eS), .box gb19 41 [.slice A9807 n9808 c9809, .int .i64 r9800.2.2.code], .own (.slice A9802 n9803 c9804) 9 1 n9803 (r9800.1.flatMap eS), famE fk_33 (w.heap.size) none x9555 cs9559 bs9560, .own (.slice A9556 n9557 c9558) 33 1 n9557 cs9559] : List Ent)) := perm_of_idx [] [0, 1, 2, 3, 4, 5] rfl rfl (by kernel_rfl)
       refine Calls.mono (trellislaw26_sameTexts_calls w9835 (Fl ([] : List Snap)) r9800.1 r9819.1 A9802 n9803 c9804 A9821 n9822 c9823 (hL9836.argO (dk := kStr) hp9837 [] rfl 3 rfl rfl (Ow.weak hL9798.env.size h9805) (me 5 rfl) (Cells.flat _)) (hL9836.argO (dk := kStr) hp9837 [] rfl 1 rfl rfl (Ow.weak hL9817.env.size h9824) (me 5 rfl) (Cells.flat _)) (hL9836.hFl (Sl := ([] : List Snap)) hp9837 (sels [] rfl)) (hL9836.into hp9837 (Fl ([] : List Snap))) r9838 hv9839) ?_
       rintro _ w9840 ⟨rfl, hM9841⟩
       have hL9842 := hL9836.call hp9837 hM9841
       refine ⟨_, _, _, rfl, hL9842, ?_⟩
       refine wl_v 3 rfl (v_move rfl) gn rfl ?_
       by_cases hp9843 : r9838 = true
       ·have h := if_pos' hp9843 h
        refine w_bool 175 rfl (hp9843) ?_
        refine wl_v 4 rfl (v_move rfl) (gy 175 rfl rfl) rfl ?_
        refine wl_v 5 rfl (v_move rfl) (gy 175 rfl rfl) rfl ?_
        refine wl_v 6 rfl (v_bin rfl rfl rfl) (gy 175 rfl rfl) rfl ?_
        refine wl_v 7 rfl (v_pick (b := true) rfl rfl) gn rfl ?_
        refine wl_v 8 rfl (v_move rfl) gn rfl ?_
        by_cases hp9844 : r9800.2.1 = r9819.2.1
        ·have h := if_pos' hp9844 h
         refine w_bool 180 rfl ((eqi hp9844)) ?_
         refine wl_v 9 rfl (v_move rfl) (gy 180 rfl rfl) rfl ?_
         obtain ⟨r9848, hv9849, h⟩ := h
         refine wl_s 10 rfl (s_call [.pointer (some ⟨gb19, 0, none⟩)] rfl Try.func5 rfl rfl rfl fun w9845 hL9846 => ?_) (gy 180 rfl rfl)
         have hp9847 : List.Perm ([.box gb84 45 [.slice A9826 n9827 c9828, .int .i64 r9819.2.2.code], .own (.slice A9821 n9822 c9823) 9 1 n9822 (r9819.1.flatMap eS), .box gb19 41 [.slice A9807 n9808 c9809, .int .i64 r9800.2.2.code], .own (.slice A9802 n9803 c9804) 9 1 n9803 (r9800.1.flatMap eS), famE fk_33 (w.heap.size) none x9555 cs9559 bs9560, .own (.slice A9556 n9557 c9558) 33 1 n9557 cs9559] : List Ent) (([.box gb19 41 [.slice A9807 n9808 c9809, .int .i64 r9800.2.2.code]] : List Ent) ++ ([.box gb84 45 [.slice A9826 n9827 c9828, .int .i64 r9819.2.2.code], .own (.slice A9821 n9822 c9823) 9 1 n9822 (r9819.1.flatMap eS), .own (.slice A9802 n9803 c9804) 9 1 n9803 (r9800.1.flatMap eS), famE fk_33 (w.heap.size) none x9555 cs9559 bs9560, .own (.slice A9556 n9557 c9558) 33 1 n9557 cs9559] : List Ent)) := perm_of_idx [2] [0, 1, 3, 4, 5] rfl rfl (by kernel_rfl)
         refine Calls.mono (rpc_Buffer_Waiting_calls w9845 (Fl ([Sm w.heap.size F w9811 sb9815] : List Snap)) r9800.2.2 gb19 41 A9807 n9808 c9809 (Rw.mono h9810 (hL9846.toFl (me 1 rfl) (me 0 rfl))) (hL9846.hFl (Sl := ([Sm w.heap.size F w9811 sb9815] : List Snap)) hp9847 (sels [1] rfl)) (hL9846.into hp9847 (Fl ([Sm w.heap.size F w9811 sb9815] : List Snap))) r9848 hv9849) ?_
         rintro _ w9854 ⟨A9850, n9851, c9852, rfl, hM9855, h9853⟩
         obtain ⟨sb9858, hL9856, hv9857⟩ := hL9846.callB (Sl := ([Sm w.heap.size F w9811 sb9815] : List Snap)) hp9847 hM9855 F (sels [1] rfl) ⟨Sm.ok, trivial⟩
         have h9853 : At (kInt .u8) (Sm w.heap.size F w9854 sb9858) A9850 n9851 c9852 r9848.2.wait := Rw.mono h9853 hv9857
         refine ⟨_, _, _, rfl, hL9856, ?_⟩
         refine wl_v 11 rfl (v_move rfl) (gy 180 rfl rfl) rfl ?_
         obtain ⟨r9862, hv9863, h⟩ := h
         refine wl_s 12 rfl (s_call [.pointer (some ⟨gb84, 0, none⟩)] rfl Try.func13 rfl rfl rfl fun w9859 hL9860 => ?_) (gy 180 rfl rfl)
         have hp9861 : List.Perm ([.box gb19 41 [.slice A9850 n9851 c9852, .int .i64 r9848.2.code], .box gb84 45 [.slice A9826 n9827 c9828, .int .i64 r9819.2.2.code], .own (.slice A9821 n9822 c9823) 9 1 n9822 (r9819.1.flatMap eS), .own (.slice A9802 n9803 c9804) 9 1 n9803 (r9800.1.flatMap eS), famE fk_33 (w.heap.size) none x9555 cs9559 bs9560, .own (.slice A9556 n9557 c9558) 33 1 n9557 cs9559] : List Ent) (([.box gb84 45 [.slice A9826 n9827 c9828, .int .i64 r9819.2.2.code]] : List Ent) ++ ([.box gb19 41 [.slice A9850 n9851 c9852, .int .i64 r9848.2.code], .own (.slice A9821 n9822 c9823) 9 1 n9822 (r9819.1.flatMap eS), .own (.slice A9802 n9803 c9804) 9 1 n9803 (r9800.1.flatMap eS), famE fk_33 (w.heap.size) none x9555 cs9559 bs9560, .own (.slice A9556 n9557 c9558) 33 1 n9557 cs9559] : List Ent)) := perm_of_idx [1] [0, 2, 3, 4, 5] rfl rfl (by kernel_rfl)
         refine Calls.mono (trellisref26_Model_Waiting_calls w9859 (Fl ([Sm w.heap.size F w9830 sb9834] : List Snap)) r9819.2.2 gb84 45 A9826 n9827 c9828 (Rw.mono h9829 (hL9860.toFl (me 1 rfl) (me 0 rfl))) (hL9860.hFl (Sl := ([Sm w.heap.size F w9830 sb9834] : List Snap)) hp9861 (sels [1] rfl)) (hL9860.into hp9861 (Fl ([Sm w.heap.size F w9830 sb9834] : List Snap))) r9862 hv9863) ?_
         rintro _ w9868 ⟨A9864, n9865, c9866, rfl, hM9869, h9867⟩
         obtain ⟨sb9872, hL9870, hv9871⟩ := hL9860.callB (Sl := ([Sm w.heap.size F w9830 sb9834] : List Snap)) hp9861 hM9869 F (sels [1] rfl) ⟨Sm.ok, trivial⟩
         have h9867 : At (kInt .u8) (Sm w.heap.size F w9868 sb9872) A9864 n9865 c9866 r9862.2.b := Rw.mono h9867 hv9871
         refine ⟨_, _, _, rfl, hL9870, ?_⟩
         refine wl_v 13 rfl (v_bin rfl rfl rfl) (gy 180 rfl rfl) rfl ?_
         refine wl_v 14 rfl (v_pick (b := true) rfl rfl) gn rfl ?_
         refine wl_v 15 rfl (v_assign rfl) gn rfl ?_
         refine w_end 16 rfl ?_
         have h := Out.inr hO2 h
         have h := Out.inr hO1 h
         refine g_retR (c := q3c120) [.bool (r9848.1 == r9862.1)] rfl Try.func3 rfl (.tmp rfl (.nil)) fun wr hLr => ?_
         have hMr : B.Loc w wr [] [St w []] := hLr.pick0 (sels [8] rfl)
         show trellislaw26_RpcFeeds_R w F  r (.returned (packV [.bool (r9848.1 == r9862.1)])) wr
         rw [h]
         exact ⟨rfl, hMr⟩
        ·have h := if_neg' hp9844 h
         refine w_bool 180 rfl ((nei hp9844)) ?_
         refine wl_pass 9 rfl (ps 180 rfl rfl rfl) ?_
         refine wl_pass 10 rfl (ps 180 rfl rfl rfl) ?_
         refine wl_pass 11 rfl (ps 180 rfl rfl rfl) ?_
         refine wl_pass 12 rfl (ps 180 rfl rfl rfl) ?_
         refine wl_pass 13 rfl (ps 180 rfl rfl rfl) ?_
         refine wl_v 14 rfl (v_pick (b := false) rfl rfl) gn rfl ?_
         refine wl_v 15 rfl (v_assign rfl) gn rfl ?_
         refine w_end 16 rfl ?_
         have h := Out.inr hO2 h
         have h := Out.inr hO1 h
         refine g_retR (c := q3c120) [.bool false] rfl Try.func3 rfl (.tmp rfl (.nil)) fun wr hLr => ?_
         have hMr : B.Loc w wr [] [St w []] := hLr.pick0 (sels [6] rfl)
         show trellislaw26_RpcFeeds_R w F  r (.returned (packV [.bool false])) wr
         rw [h]
         exact ⟨rfl, hMr⟩
       ·have h := if_neg' hp9843 h
        refine w_bool 175 rfl ((bf hp9843)) ?_
        refine wl_pass 4 rfl (ps 175 rfl rfl rfl) ?_
        refine wl_pass 5 rfl (ps 175 rfl rfl rfl) ?_
        refine wl_pass 6 rfl (ps 175 rfl rfl rfl) ?_
        refine wl_v 7 rfl (v_pick (b := false) rfl rfl) gn rfl ?_
        refine wl_v 8 rfl (v_move rfl) gn rfl ?_
        refine wl_pass 9 rfl (ps 180 rfl rfl rfl) ?_
        refine wl_pass 10 rfl (ps 180 rfl rfl rfl) ?_
        refine wl_pass 11 rfl (ps 180 rfl rfl rfl) ?_
        refine wl_pass 12 rfl (ps 180 rfl rfl rfl) ?_
        refine wl_pass 13 rfl (ps 180 rfl rfl rfl) ?_
        refine wl_v 14 rfl (v_pick (b := false) rfl rfl) gn rfl ?_
        refine wl_v 15 rfl (v_assign rfl) gn rfl ?_
        refine w_end 16 rfl ?_
        have h := Out.inr hO2 h
        have h := Out.inr hO1 h
        refine g_retR (c := q3c120) [.bool false] rfl Try.func3 rfl (.tmp rfl (.nil)) fun wr hLr => ?_
        have hMr : B.Loc w wr [] [St w []] := hLr.pick0 (sels [6] rfl)
        show trellislaw26_RpcFeeds_R w F  r (.returned (packV [.bool false])) wr
        rw [h]
        exact ⟨rfl, hMr⟩
     exact g_go [0, 1, 2, 3, 4] (key7 _ h A3161 n3162 c3163 cs3164 bs3165 h3166) ⟨rfl, rfl, rfl, rfl, trivial⟩ (.cons_cons _ (.cons _ (.cons_cons _ (.cons _ (.cons_cons _ (.cons _ (.cons_cons _ (.slnil)))))))) rfl
   refine g_freeze (F := F) (dk := (kInt .u8)) (Sm w.heap.size F w []) 1 rfl (Ow.weak hL72.env.size h79) (me 1 rfl) Sm.ok (Cells.flat _) fun sw9874 sb9875 h9873 => ?_
   refine g_nil 33 1 ?_
   refine g_fam0 fk_33 w.heap.size ?_
   refine g_nil 33 1 ?_
   refine g_fam0 fk_33 w.heap.size ?_
   refine g_front 6 rfl ?_
   refine g_front 6 rfl ?_
   refine g_front 6 rfl ?_
   refine g_front 6 rfl ?_
   refine g_front 5 rfl ?_
   refine g_front 6 rfl ?_
   refine g_front 6 rfl ?_
   exact g_go [0, 1, 1, 2, 3] (key2 _ h (Ow.weak hL59.env.size h66) none 0 0 [] [] (Ow.nil (z := w.heap.size)) none 0 0 [] [] (Ow.nil (z := w.heap.size)) A76 n77 c78 sw9874 sb9875 h9873 A50 n51 c52 sw53 sb54 h55) ⟨rfl, rfl, rfl, rfl, rfl, rfl, rfl, trivial⟩ (.cons_cons _ (.cons_cons _ (.cons_cons _ (.cons_cons _ (.cons_cons _ (.cons_cons _ (.cons_cons _ (.slnil)))))))) rfl
 refine g_region (c := q3c7) rfl rfl ?_
 refine wl_v 0 rfl (v_move rfl) gn rfl ?_
 refine wl_v 1 rfl (v_eqNP un_23 rfl rfl) gn rfl ?_
 refine wl_v 2 rfl (v_move rfl) gn rfl ?_
 refine wl_v 3 rfl (v_move rfl) (gy 26 rfl rfl) rfl ?_
 obtain ⟨r9882, hv9883, h⟩ := h
 refine w_freeze (F := F) (dk := (kInt .u8)) (Sm w.heap.size F w []) 1 rfl (Ow.weak hL7.env.size h14) (me 0 rfl) Sm.ok (Cells.flat _) fun sw9880 sb9881 h9879 => ?_
 refine wl_s 4 rfl (s_call [.pointer (some ⟨gb19, 0, none⟩)] rfl Try.func5 rfl rfl rfl fun w9876 hL9877 => ?_) (gy 26 rfl rfl)
 have hp9878 : List.Perm ([.box gb19 41 [.slice A11 n12 c13, .int .i64 r9.code]] : List Ent) (([.box gb19 41 [.slice A11 n12 c13, .int .i64 r9.code]] : List Ent) ++ ([] : List Ent)) := perm_of_idx [0] [] rfl rfl (by kernel_rfl)
 refine Calls.mono (rpc_Buffer_Waiting_calls w9876 (Fl ([Sm w.heap.size F sw9880 sb9881] : List Snap)) r9 gb19 41 A11 n12 c13 (Rw.mono h9879 (hL9877.toFl (me 0 rfl) (me 0 rfl))) (hL9877.hFl (Sl := ([Sm w.heap.size F sw9880 sb9881] : List Snap)) hp9878 (sels [0] rfl)) (hL9877.into hp9878 (Fl ([Sm w.heap.size F sw9880 sb9881] : List Snap))) r9882 hv9883) ?_
 rintro _ w9888 ⟨A9884, n9885, c9886, rfl, hM9889, h9887⟩
 obtain ⟨sb9892, hL9890, hv9891⟩ := hL9877.callB (Sl := ([Sm w.heap.size F sw9880 sb9881] : List Snap)) hp9878 hM9889 F (sels [0] rfl) ⟨Sm.ok, trivial⟩
 have h9887 : At (kInt .u8) (Sm w.heap.size F w9888 sb9892) A9884 n9885 c9886 r9882.2.wait := Rw.mono h9887 hv9891
 refine ⟨_, _, _, rfl, hL9890, ?_⟩
 refine wl_v 5 rfl (v_bin rfl rfl rfl) (gy 26 rfl rfl) rfl ?_
 refine wl_v 6 rfl (v_pick (b := false) rfl rfl) gn rfl ?_
 refine wl_v 7 rfl (v_move rfl) gn rfl ?_
 by_cases hp9893 : r9882.1 = 0
 ·have h := if_pos' hp9893 h
  refine w_bool 31 rfl ((eqib hp9893)) ?_
  obtain ⟨r9897, hv9898, h⟩ := h
  refine wl_s 8 rfl (s_call [] rfl Try.func6 rfl rfl rfl fun w9894 hL9895 => ?_) (gy 31 rfl rfl)
  have hp9896 : List.Perm ([.box gb19 41 [.slice A9884 n9885 c9886, .int .i64 r9882.2.code]] : List Ent) (([] : List Ent) ++ ([.box gb19 41 [.slice A9884 n9885 c9886, .int .i64 r9882.2.code]] : List Ent)) := perm_of_idx [] [0] rfl rfl (by kernel_rfl)
  refine Calls.mono (trellislaw26_apart_calls w9894 (Fl ([] : List Snap)) (hL9895.hFl (Sl := ([] : List Snap)) hp9896 (sels [] rfl)) (hL9895.into hp9896 (Fl ([] : List Snap))) r9897 hv9898) ?_
  rintro _ w9899 ⟨rfl, hM9900⟩
  have hL9901 := hL9895.call hp9896 hM9900
  refine ⟨_, _, _, rfl, hL9901, ?_⟩
  refine wl_v 9 rfl (v_not rfl) (gy 31 rfl rfl) rfl ?_
  refine wl_v 10 rfl (v_pick (b := false) rfl rfl) gn rfl ?_
  refine w_end 11 rfl ?_
  exact g_go [0, 2, 3] (j1 (!r9897) r9882.2.wait r9882.2.code h A9884 n9885 c9886 w9888 sb9892 h9887) ⟨rfl, rfl, rfl, trivial⟩ (.cons_cons _ (.slnil)) rfl
 ·have h := if_neg' hp9893 h
  refine w_bool 31 rfl ((neib hp9893)) ?_
  refine wl_pass 8 rfl (ps 31 rfl rfl rfl) ?_
  refine wl_pass 9 rfl (ps 31 rfl rfl rfl) ?_
  refine wl_v 10 rfl (v_pick (b := true) rfl rfl) gn rfl ?_
  refine w_end 11 rfl ?_
  exact g_go [0, 2, 3] (j1 true r9882.2.wait r9882.2.code h A9884 n9885 c9886 w9888 sb9892 h9887) ⟨rfl, rfl, rfl, trivial⟩ (.cons_cons _ (.slnil)) rfl
end Go.Proofs.Ytbejkaeidnajkaa.K
