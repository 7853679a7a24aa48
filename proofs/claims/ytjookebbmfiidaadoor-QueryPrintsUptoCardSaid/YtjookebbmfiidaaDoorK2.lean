/- What the machine's calls do, function by function, printed by my own tool. Condition of each: its relation holds of the answer, and what is handed in lies in memory as told. -/
import Derived.Test.YtjookebbmfiidaaDoorK1
set_option linter.unusedVariables false
set_option maxRecDepth 100000
set_option maxHeartbeats 4000000
namespace Go.Proofs.YtjookebbmfiidaaDoor.K
open Go.Proofs.YtjookebbmfiidaaDoor.B Go.Proofs.YtjookebbmfiidaaDoor.R Go.RowKit
noncomputable abbrev q15c6 := Code.snd (Code.snd (Code.snd (bodyOf Tryd.f15)))
noncomputable abbrev q15c10 := Code.fst (Code.fst (Code.snd (Code.fst (Code.snd (Code.snd (bodyOf Tryd.f15))))))
abbrev trellislaw20_lent_R (w : World) (F : Nat → Prop) (r : api_Query × Nat × Nat) : Ending → World → Prop := fun e w' => ∃ A0 : Option Addr, ∃ n0 : Nat, ∃ c0 : Nat, ∃ A1 : Option Addr, ∃ n1 : Nat, ∃ c1 : Nat, e = .returned (.agg #[.slice A0 r.2.1 c0, .slice A1 r.2.2 c1]) ∧ B.Loc w w' [.own (.slice A0 n0 c0) 45 5 n0 (r.1.nodes.flatMap enc_api_PatNode), .own (.slice A1 n1 c1) 47 4 n1 (r.1.conds.flatMap enc_api_Cond)] [St w []] ∧ Ow w.heap.size A0 n0 c0 r.1.nodes ∧ r.2.1 ≤ n0 ∧ Ow w.heap.size A1 n1 c1 r.1.conds ∧ r.2.2 ≤ n1
noncomputable abbrev trellislaw20_lent_C (w : World) (F : Nat → Prop) (r : api_Query × Nat × Nat) : Cx := ⟨Tryd.prog, 15, Tryd.f15, 40, trellislaw20_lent_R w F  r, w⟩
theorem trellislaw20_lent_calls (w : World) (F : Nat → Prop) (x1 : api_Query) (A2 : Option Addr) (n3 : Nat) (c4 : Nat) (A6 : Option Addr) (n7 : Nat) (c8 : Nat) (h5 : Rw k_api_PatNode w (St w []).av A2 n3 c4 x1.nodes) (h9 : Rw k_api_Cond w (St w []).av A6 n7 c8 x1.conds) (hF : ∀ b, F b → b < w.heap.size ∧ ∀ o ∈ ([] : List (List Nat)), b ∉ o) (hL0 : B.Loc w w [] [Sm w.heap.size F w [], St w []]) (r : api_Query × Nat × Nat) (h : trellislaw20_lent x1 r) : Calls Tryd.prog 15 #[.agg #[.slice A2 n3 c4, .slice A6 n7 c8]] w (trellislaw20_lent_R w F  r) := by
 unfold trellislaw20_lent at h
 refine calls_of_Loc (vs := [.agg #[.slice A2 n3 c4, .slice A6 n7 c8]]) 40 Tryd.func15 rfl Tryd.ntmps15 rfl hL0 ?_
 show G (trellislaw20_lent_C w F r) _ _ _ _
 refine g_seq rfl <| g_region rfl rfl ?_
 refine wl_s 0 rfl (s_box [.slice A2 n3 c4, .slice A6 n7 c8] rfl rfl rfl fun gb10 => ?_) gn
 refine wl_s 1 rfl (s_alloc [.slice none 0 0, .slice none 0 0] zr_25 rfl fun gb12 => ?_) gn
 refine w_end 2 rfl <| g_seq rfl <| g_region rfl rfl <| wl_v 0 rfl (v_ldB [.slice A2 n3 c4, .slice A6 n7 c8] 1 ld_25 rfl rfl rfl rfl) gn rfl ?_
 obtain ⟨r17, hv18, h⟩ := h
 refine wl_s 1 rfl (s_call [.agg #[.slice A2 n3 c4, .slice A6 n7 c8]] rfl Tryd.func12 rfl rfl rfl fun w14 hL15 => ?_) gn
 have hp16 := pmI hL15 .n (.c 0 rfl (.c 1 rfl .n)) (by kernel_rfl)
 refine Calls.mono (trellislaw20_twin_calls w14 (Fl ([] : List Snap)) x1 A2 n3 c4 A6 n7 c8 (Rw.mono h5 (hL15.toSt hp16 (me 1 rfl))) (Rw.mono h9 (hL15.toSt hp16 (me 1 rfl))) (hL15.hFl hp16 (sels [] rfl)) (hL15.into hp16 _) r17 hv18) ?_
 rintro _ w29 ⟨A19, n20, c21, A24, n25, c26, rfl, hM30, h22, h27⟩
 have hL31 := hL15.call hp16 hM30
 refine ⟨_, _, _, rfl, hL31, ?_⟩
 refine wl_s 2 rfl (s_alloc [.slice none 0 0, .slice none 0 0] zr_25 rfl fun gb32 => ?_) gn
 refine wl_s 3 rfl (s_stB (vs := [.slice A19 n20 c21, .slice A24 n25 c26]) (cs' := [.slice A19 n20 c21, .slice A24 n25 c26]) (M' := [.box gb32 25 [.slice A19 n20 c21, .slice A24 n25 c26], .own (.slice A19 n20 c21) 45 5 n20 (r17.nodes.flatMap enc_api_PatNode), .own (.slice A24 n25 c26) 47 4 n25 (r17.conds.flatMap enc_api_Cond), .box gb12 25 [.slice none 0 0, .slice none 0 0], .box gb10 25 [.slice A2 n3 c4, .slice A6 n7 c8]]) 0 sz_25 rfl rfl rfl rfl rfl rfl rfl rfl rfl ?_) gn
 refine w_end 4 rfl <| g_seq rfl <| g_seq rfl <| g_region rfl rfl <| wl_v 0 rfl (v_assign rfl) gn rfl <| w_end 1 rfl <| g_block rfl <| g_loop rfl ?_
 have key1 : ∀ s, Rounds (fun (s : Int × (List api_PatNode) × (List api_Cond)) o => trellislaw20_lent_b1 x1 s.1 s.2.1 s.2.2 o) s r → (fun (s : Int × (List api_PatNode) × (List api_Cond)) => ∀ (A55 : Option Addr) (n56 : Nat) (c57 : Nat) (h58 : Ow w.heap.size A55 n56 c57 s.2.1) (A60 : Option Addr) (n61 : Nat) (c62 : Nat) (h63 : Ow w.heap.size A60 n61 c62 s.2.2), G (trellislaw20_lent_C w F r) [.code q15c10, .inLoop q15c10, .inBlock 0, .code q15c6] [(1, .pointer (some ⟨gb10, 0, none⟩)), (2, .pointer (some ⟨gb12, 0, none⟩)), (3, .pointer (some ⟨gb32, 0, none⟩)), (4, .int .i64 s.1)] [.box gb32 25 [.slice A55 n56 c57, .slice A60 n61 c62], .own (.slice A55 n56 c57) 45 5 n56 (s.2.1.flatMap enc_api_PatNode), .own (.slice A60 n61 c62) 47 4 n61 (s.2.2.flatMap enc_api_Cond), .box gb12 25 [.slice none 0 0, .slice none 0 0], .box gb10 25 [.slice A2 n3 c4, .slice A6 n7 c8]] [Sm w.heap.size F w [], St w []]) s := by
  intro s hs
  refine Rounds.ind (mot := (fun (s : Int × (List api_PatNode) × (List api_Cond)) => ∀ (A55 : Option Addr) (n56 : Nat) (c57 : Nat) (h58 : Ow w.heap.size A55 n56 c57 s.2.1) (A60 : Option Addr) (n61 : Nat) (c62 : Nat) (h63 : Ow w.heap.size A60 n61 c62 s.2.2), G (trellislaw20_lent_C w F r) [.code q15c10, .inLoop q15c10, .inBlock 0, .code q15c6] [(1, .pointer (some ⟨gb10, 0, none⟩)), (2, .pointer (some ⟨gb12, 0, none⟩)), (3, .pointer (some ⟨gb32, 0, none⟩)), (4, .int .i64 s.1)] [.box gb32 25 [.slice A55 n56 c57, .slice A60 n61 c62], .own (.slice A55 n56 c57) 45 5 n56 (s.2.1.flatMap enc_api_PatNode), .own (.slice A60 n61 c62) 47 4 n61 (s.2.2.flatMap enc_api_Cond), .box gb12 25 [.slice none 0 0, .slice none 0 0], .box gb10 25 [.slice A2 n3 c4, .slice A6 n7 c8]] [Sm w.heap.size F w [], St w []])) ?_ hs
  clear hs s
  intro s o1 h hO1
  obtain ⟨x53, x54, x59⟩ := s
  show ∀ (A55 : Option Addr) (n56 : Nat) (c57 : Nat) (h58 : Ow w.heap.size A55 n56 c57 x54) (A60 : Option Addr) (n61 : Nat) (c62 : Nat) (h63 : Ow w.heap.size A60 n61 c62 x59), G (trellislaw20_lent_C w F r) [.code q15c10, .inLoop q15c10, .inBlock 0, .code q15c6] [(1, .pointer (some ⟨gb10, 0, none⟩)), (2, .pointer (some ⟨gb12, 0, none⟩)), (3, .pointer (some ⟨gb32, 0, none⟩)), (4, .int .i64 x53)] [.box gb32 25 [.slice A55 n56 c57, .slice A60 n61 c62], .own (.slice A55 n56 c57) 45 5 n56 (x54.flatMap enc_api_PatNode), .own (.slice A60 n61 c62) 47 4 n61 (x59.flatMap enc_api_Cond), .box gb12 25 [.slice none 0 0, .slice none 0 0], .box gb10 25 [.slice A2 n3 c4, .slice A6 n7 c8]] [Sm w.heap.size F w [], St w []]
  intro A55 n56 c57 h58 A60 n61 c62 h63
  have h : trellislaw20_lent_b1 x1 x53 x54 x59 o1 := h
  unfold trellislaw20_lent_b1 at h
  refine g_seq rfl <| g_seq rfl <| g_region rfl rfl <| wl_v 0 rfl (v_move rfl) gn rfl <| wl_v 1 rfl (v_bin rfl rfl rfl) gn rfl <| w_end 2 rfl ?_
  by_cases hp87 : x53 < 20
  ·have h := if_pos' hp87 h
   refine g_true rfl _ rfl ((decide_eq_true hp87)) <| g_skip rfl <| g_seq rfl <| g_block rfl <| g_seq rfl <| g_region rfl rfl <| wl_v 0 rfl (v_fldB fo_25_0 rfl) gn rfl <| wl_v 1 rfl (v_ldB1 0 ld_22 rfl rfl rfl) gn rfl <| wl_v 2 rfl (v_move rfl) gn rfl <| wl_v 3 rfl (v_bin rfl rfl rfl) gn rfl <| wl_v 4 rfl (v_build #[.string (⟨#[]⟩ : ByteArray), .bool false, .string (⟨#[]⟩ : ByteArray), .string (⟨#[]⟩ : ByteArray), .int .i64 (w64 (900 + x53))] bd_45 rfl (by kernel_rfl)) gn rfl ?_
   refine wl_s 5 rfl (s_litO (xs := ([(⟨(⟨#[]⟩ : ByteArray), false, (⟨#[]⟩ : ByteArray), (⟨#[]⟩ : ByteArray), w64 (900 + x53)⟩ : api_PatNode)] : List api_PatNode)) [.string (⟨#[]⟩ : ByteArray), .bool false, .string (⟨#[]⟩ : ByteArray), .string (⟨#[]⟩ : ByteArray), .int .i64 (w64 (900 + x53))] bs_22_1 rfl (by kernel_rfl) rfl rfl rfl rfl fun gb89 h90 => ?_) gn
   obtain ⟨x94, hv95, h⟩ := h
   obtain ⟨hb96, h⟩ := h
   refine wl_s 6 rfl (s_app (zs := x94) (cells' := x94.flatMap enc_api_PatNode) 2 ap_22 rfl rfl rfl h58 (Nat.le_refl _) (Src.ownF (hl := hl_api_PatNode) (h1 := h1_api_PatNode) 0 rfl h90) (by rw [hv95, List.flatMap_append] <;> rfl) (app_len hv95 h90.hq) hb96 rfl rfl fun A91 c92 h93 => ?_) gn
   refine wl_v 7 rfl (v_fldB fo_25_0 rfl) gn rfl ?_
   refine wl_s 8 rfl (s_stB (vs := [.slice A91 (n56 + 1) c92]) (cs' := [.slice A91 (n56 + 1) c92, .slice A60 n61 c62]) (M' := [.own (.slice (some ⟨gb89, 0, none⟩) 1 1) 45 5 1 (([(⟨(⟨#[]⟩ : ByteArray), false, (⟨#[]⟩ : ByteArray), (⟨#[]⟩ : ByteArray), w64 (900 + x53)⟩ : api_PatNode)] : List api_PatNode).flatMap enc_api_PatNode), .box gb32 25 [.slice A91 (n56 + 1) c92, .slice A60 n61 c62], .own (.slice A91 (n56 + 1) c92) 45 5 (n56 + 1) (x94.flatMap enc_api_PatNode), .own (.slice A60 n61 c62) 47 4 n61 (x59.flatMap enc_api_Cond), .box gb12 25 [.slice none 0 0, .slice none 0 0], .box gb10 25 [.slice A2 n3 c4, .slice A6 n7 c8]]) 1 sz_22 rfl rfl rfl rfl rfl rfl rfl rfl rfl ?_) gn
   refine w_end 9 rfl <| g_region rfl rfl <| wl_v 0 rfl (v_fldB fo_25_1 rfl) gn rfl <| wl_v 1 rfl (v_ldB1 1 ld_23 rfl rfl rfl) gn rfl <| wl_v 2 rfl (v_build #[.bool false, .string (⟨#[]⟩ : ByteArray), .string (⟨#[]⟩ : ByteArray), .string (⟨#[109, 97, 114, 107]⟩ : ByteArray)] bd_47 rfl (by kernel_rfl)) gn rfl ?_
   refine wl_s 3 rfl (s_litO (xs := ([(⟨false, (⟨#[]⟩ : ByteArray), (⟨#[]⟩ : ByteArray), (⟨#[109, 97, 114, 107]⟩ : ByteArray)⟩ : api_Cond)] : List api_Cond)) [.bool false, .string (⟨#[]⟩ : ByteArray), .string (⟨#[]⟩ : ByteArray), .string (⟨#[109, 97, 114, 107]⟩ : ByteArray)] bs_23_1 rfl (by kernel_rfl) rfl rfl rfl rfl fun gb98 h99 => ?_) gn
   obtain ⟨x103, hv104, h⟩ := h
   obtain ⟨hb105, h⟩ := h
   refine wl_s 4 rfl (s_app (zs := x103) (cells' := x103.flatMap enc_api_Cond) 4 ap_23 rfl rfl rfl h63 (Nat.le_refl _) (Src.ownF (hl := hl_api_Cond) (h1 := h1_api_Cond) 0 rfl h99) (by rw [hv104, List.flatMap_append] <;> rfl) (app_len hv104 h99.hq) hb105 rfl rfl fun A100 c101 h102 => ?_) gn
   refine wl_v 5 rfl (v_fldB fo_25_1 rfl) gn rfl ?_
   refine wl_s 6 rfl (s_stB (vs := [.slice A100 (n61 + 1) c101]) (cs' := [.slice A91 (n56 + 1) c92, .slice A100 (n61 + 1) c101]) (M' := [.own (.slice (some ⟨gb98, 0, none⟩) 1 1) 47 4 1 (([(⟨false, (⟨#[]⟩ : ByteArray), (⟨#[]⟩ : ByteArray), (⟨#[109, 97, 114, 107]⟩ : ByteArray)⟩ : api_Cond)] : List api_Cond).flatMap enc_api_Cond), .own (.slice (some ⟨gb89, 0, none⟩) 1 1) 45 5 1 (([(⟨(⟨#[]⟩ : ByteArray), false, (⟨#[]⟩ : ByteArray), (⟨#[]⟩ : ByteArray), w64 (900 + x53)⟩ : api_PatNode)] : List api_PatNode).flatMap enc_api_PatNode), .box gb32 25 [.slice A91 (n56 + 1) c92, .slice A100 (n61 + 1) c101], .own (.slice A91 (n56 + 1) c92) 45 5 (n56 + 1) (x94.flatMap enc_api_PatNode), .own (.slice A100 (n61 + 1) c101) 47 4 (n61 + 1) (x103.flatMap enc_api_Cond), .box gb12 25 [.slice none 0 0, .slice none 0 0], .box gb10 25 [.slice A2 n3 c4, .slice A6 n7 c8]]) 2 sz_23 rfl rfl rfl rfl rfl rfl rfl rfl rfl ?_) gn
   refine w_end 7 rfl <| g_inBlock <| g_region rfl rfl <| wl_v 0 rfl (v_move rfl) gn rfl <| wl_v 1 rfl (v_bin rfl rfl rfl) gn rfl <| wl_v 2 rfl (v_assign rfl) gn rfl <| w_end 3 rfl <| g_inLoop ?_
   have ih := Out.inl hO1 h
   exact g_go [0, 1] (ih A91 (n56 + 1) c92 h93 A100 (n61 + 1) c101 h102) ⟨rfl, rfl, rfl, rfl, trivial⟩ (.cons _ (.cons _ (.cons_cons _ (.cons_cons _ (.cons_cons _ (.cons_cons _ (.cons_cons _ (.slnil)))))))) rfl
  ·have h := if_neg' hp87 h
   refine g_false rfl _ rfl ((decide_eq_false hp87)) <| g_exit [.code q15c6] rfl rfl <| g_seq rfl <| g_region rfl rfl <| wl_v 0 rfl (v_fldB fo_25_0 rfl) gn rfl <| wl_v 1 rfl (v_ldB1 0 ld_22 rfl rfl rfl) gn rfl <| wl_v 2 rfl (v_fldB fo_25_0 rfl) gn rfl <| wl_v 3 rfl (v_ldB1 4 ld_22 rfl rfl rfl) gn rfl <| wl_v 4 rfl (v_lenQ un_22 rfl h5.hq) gn rfl ?_
   obtain ⟨hb106, h⟩ := h
   have hle107 : ((x1.nodes.length : Int) : Int).toNat ≤ n56 := by have q := hb106; have q1 := h58.hq; omega
   refine wl_v 5 rfl (v_cutHi (i := (x1.nodes.length : Int)) slE_22 rfl rfl (by have q := hb106; have q1 := h58.hq; have q2 := h58.hn; omega) h58.hn rfl) gn rfl <| wl_v 6 rfl (v_fldB fo_25_0 rfl) gn rfl ?_
   refine wl_s 7 rfl (s_stB (vs := [.slice A55 (((x1.nodes.length : Int) : Int).toNat) c57]) (cs' := [.slice A55 (((x1.nodes.length : Int) : Int).toNat) c57, .slice A60 n61 c62]) (M' := [.box gb32 25 [.slice A55 (((x1.nodes.length : Int) : Int).toNat) c57, .slice A60 n61 c62], .own (.slice A55 n56 c57) 45 5 n56 (x54.flatMap enc_api_PatNode), .own (.slice A60 n61 c62) 47 4 n61 (x59.flatMap enc_api_Cond), .box gb12 25 [.slice none 0 0, .slice none 0 0], .box gb10 25 [.slice A2 n3 c4, .slice A6 n7 c8]]) 0 sz_22 rfl rfl rfl rfl rfl rfl rfl rfl rfl ?_) gn
   refine w_end 8 rfl <| g_seq rfl <| g_region rfl rfl <| wl_v 0 rfl (v_fldB fo_25_1 rfl) gn rfl <| wl_v 1 rfl (v_ldB1 0 ld_23 rfl rfl rfl) gn rfl <| wl_v 2 rfl (v_fldB fo_25_1 rfl) gn rfl <| wl_v 3 rfl (v_ldB1 4 ld_23 rfl rfl rfl) gn rfl <| wl_v 4 rfl (v_lenQ un_23 rfl h9.hq) gn rfl ?_
   obtain ⟨hb108, h⟩ := h
   have hle109 : ((x1.conds.length : Int) : Int).toNat ≤ n61 := by have q := hb108; have q1 := h63.hq; omega
   refine wl_v 5 rfl (v_cutHi (i := (x1.conds.length : Int)) slE_23 rfl rfl (by have q := hb108; have q1 := h63.hq; have q2 := h63.hn; omega) h63.hn rfl) gn rfl <| wl_v 6 rfl (v_fldB fo_25_1 rfl) gn rfl ?_
   refine wl_s 7 rfl (s_stB (vs := [.slice A60 (((x1.conds.length : Int) : Int).toNat) c62]) (cs' := [.slice A55 (((x1.nodes.length : Int) : Int).toNat) c57, .slice A60 (((x1.conds.length : Int) : Int).toNat) c62]) (M' := [.box gb32 25 [.slice A55 (((x1.nodes.length : Int) : Int).toNat) c57, .slice A60 (((x1.conds.length : Int) : Int).toNat) c62], .own (.slice A55 n56 c57) 45 5 n56 (x54.flatMap enc_api_PatNode), .own (.slice A60 n61 c62) 47 4 n61 (x59.flatMap enc_api_Cond), .box gb12 25 [.slice none 0 0, .slice none 0 0], .box gb10 25 [.slice A2 n3 c4, .slice A6 n7 c8]]) 0 sz_23 rfl rfl rfl rfl rfl rfl rfl rfl rfl ?_) gn
   refine w_end 8 rfl <| g_seq rfl <| g_region rfl rfl <| wl_v 0 rfl (v_ldB [.slice A55 (((x1.nodes.length : Int) : Int).toNat) c57, .slice A60 (((x1.conds.length : Int) : Int).toNat) c62] 0 ld_25 rfl rfl rfl rfl) gn rfl ?_
   refine wl_s 1 rfl (s_stB (vs := [.slice A55 (((x1.nodes.length : Int) : Int).toNat) c57, .slice A60 (((x1.conds.length : Int) : Int).toNat) c62]) (cs' := [.slice A55 (((x1.nodes.length : Int) : Int).toNat) c57, .slice A60 (((x1.conds.length : Int) : Int).toNat) c62]) (M' := [.box gb32 25 [.slice A55 (((x1.nodes.length : Int) : Int).toNat) c57, .slice A60 (((x1.conds.length : Int) : Int).toNat) c62], .own (.slice A55 n56 c57) 45 5 n56 (x54.flatMap enc_api_PatNode), .own (.slice A60 n61 c62) 47 4 n61 (x59.flatMap enc_api_Cond), .box gb12 25 [.slice A55 (((x1.nodes.length : Int) : Int).toNat) c57, .slice A60 (((x1.conds.length : Int) : Int).toNat) c62], .box gb10 25 [.slice A2 n3 c4, .slice A6 n7 c8]]) 3 sz_25 rfl rfl rfl rfl rfl rfl rfl rfl rfl ?_) gn
   refine w_end 2 rfl ?_
   have h := Out.inr hO1 h
   refine g_retR [.agg #[.slice A55 (((x1.nodes.length : Int) : Int).toNat) c57, .slice A60 (((x1.conds.length : Int) : Int).toNat) c62]] rfl Tryd.func15 rfl (.cell (cs := [.slice A55 (((x1.nodes.length : Int) : Int).toNat) c57, .slice A60 (((x1.conds.length : Int) : Int).toNat) c62]) (us := [.slice A55 (((x1.nodes.length : Int) : Int).toNat) c57, .slice A60 (((x1.conds.length : Int) : Int).toNat) c62]) 3 rfl ld_25 rfl rfl rfl (.nil)) fun wr hLr => ?_
   have hMr := hLr.pkI (.c 1 rfl (.c 2 rfl .n)) (.c 0 rfl (.c 3 rfl (.c 4 rfl .n))) (by kernel_rfl) (.c 1 rfl .n)
   show trellislaw20_lent_R w F  r (.returned (packV [.agg #[.slice A55 (((x1.nodes.length : Int) : Int).toNat) c57, .slice A60 (((x1.conds.length : Int) : Int).toNat) c62]])) wr
   rw [h]
   exact ⟨A55, n56, c57, A60, n61, c62, rfl, hMr, h58, hle107, h63, hle109⟩
 exact g_go [0, 1] (key1 _ h A19 n20 c21 (Ow.weak hL15.env.size h22) A24 n25 c26 (Ow.weak hL15.env.size h27)) ⟨rfl, rfl, rfl, rfl, trivial⟩ (.cons_cons _ (.cons_cons _ (.cons_cons _ (.cons_cons _ (.cons_cons _ (.slnil)))))) rfl
noncomputable abbrev q54c4 := Code.snd (Code.snd (bodyOf Tryd.f54))
noncomputable abbrev q54c6 := Code.snd (Code.fst (Code.snd (bodyOf Tryd.f54)))
noncomputable abbrev q54c14 := Code.snd (Code.snd q54c4)
noncomputable abbrev q54c18 := Code.fst (Code.fst (Code.snd (Code.fst (Code.snd q54c4))))
abbrev query_subtree_R (w : World) (F : Nat → Prop) (r : Int) : Ending → World → Prop := fun e w' => e = .returned (.int .i64 r) ∧ B.Loc w w' [] [St w []]
noncomputable abbrev query_subtree_C (w : World) (F : Nat → Prop) (r : Int) : Cx := ⟨Tryd.prog, 54, Tryd.f54, 34, query_subtree_R w F  r, w⟩
def query_subtree_st (rl : (List api_PatNode) → Int → Int → Prop) : Prop := ∀ (w : World) (F : Nat → Prop) (x1 : List api_PatNode) (x6 : Int) (A2 : Option Addr) (n3 : Nat) (c4 : Nat) (h5 : Rw k_api_PatNode w (St w []).av A2 n3 c4 x1) (hF : ∀ b, F b → b < w.heap.size ∧ ∀ o ∈ ([] : List (List Nat)), b ∉ o) (hL0 : B.Loc w w [] [Sm w.heap.size F w [], St w []]) (r : Int) (h : rl x1 x6 r), Calls Tryd.prog 54 #[.slice A2 n3 c4, .int .i64 x6] w (query_subtree_R w F  r)
theorem query_subtree_step (rc_query_subtree : (List api_PatNode) → Int → Int → Prop) (ih_query_subtree : query_subtree_st rc_query_subtree) : query_subtree_st (query_subtree_body rc_query_subtree) := by
 intro w F x1 x6 A2 n3 c4 h5 hF hL0 r h
 unfold query_subtree_body at h
 refine calls_of_Loc (vs := [.slice A2 n3 c4, .int .i64 x6]) 34 Tryd.func54 rfl Tryd.ntmps54 rfl hL0 ?_
 show G (query_subtree_C w F r) _ _ _ _
 refine g_seq rfl <| g_region rfl rfl <| wl_v 0 rfl (v_assign rfl) gn rfl <| w_end 1 rfl <| g_seq rfl <| g_seq rfl ?_
 have j1 : ∀ (x11 : Bool) (h : query_subtree_j1 x6 x1 rc_query_subtree x11 r) , G (query_subtree_C w F r) [.code q54c6, .code q54c4] [(0, .slice A2 n3 c4), (1, .int .i64 x6), (17, .bool x11)] [] [Sm w.heap.size F w [], St w []] := by
  intro x11 h
  unfold query_subtree_j1 at h
  by_cases hp12 : x11 = true
  ·have h := if_pos' hp12 h
   refine g_true rfl _ rfl (hp12) <| g_seq rfl <| g_region rfl rfl <| wl_v 0 rfl (v_assign rfl) gn rfl <| w_end 1 rfl ?_
   refine g_retR [.int .i64 (-1)] rfl Tryd.func54 rfl (.tmp rfl (.nil)) fun wr hLr => ?_
   have hMr := hLr.pk0 (.c 1 rfl .n)
   show query_subtree_R w F  r (.returned (packV [.int .i64 (-1)])) wr
   rw [h]
   exact ⟨rfl, hMr⟩
  ·have h := if_neg' hp12 h
   refine g_false rfl _ rfl ((bf hp12)) <| g_skip rfl <| g_seq rfl <| g_region rfl rfl <| wl_v 0 rfl (v_move rfl) gn rfl <| wl_v 1 rfl (v_bin rfl rfl rfl) gn rfl <| wl_v 2 rfl (v_assign rfl) gn rfl <| w_end 3 rfl <| g_seq rfl <| g_seq rfl <| g_region rfl rfl <| wl_v 0 rfl (v_move rfl) gn rfl ?_
   refine wl_v 1 rfl (v_move rfl) gn rfl ?_
   obtain ⟨hb13, h⟩ := h
   have hr14 := Rw.readF (s := St w []) (hl := hl_api_PatNode) (h1 := h1_api_PatNode) h5 hb13
   refine wl_v 2 rfl (v_idxR (s := St w []) slE_22 rfl rfl h5 hb13) gn rfl <| wl_v 3 rfl (v_fldA fo_45_4 rfl) gn rfl <| wl_v 4 rfl (v_ldA1 (kk := (x6 : Int).toNat * 5) (j := 4) (St w []) ld_3 rfl hr14 rfl (me 1 rfl)) gn rfl <| wl_v 5 rfl (v_move rfl) gn rfl <| w_end 6 rfl <| g_block rfl <| g_loop rfl ?_
   have key2 : ∀ s, Rounds (fun (s : Int × Int) o => query_subtree_b2 x1 x6 rc_query_subtree s.1 s.2 o) s r → (fun (s : Int × Int) => ∀ (_ : Unit), G (query_subtree_C w F r) [.code q54c18, .inLoop q54c18, .inBlock 0, .code q54c14] [(0, .slice A2 n3 c4), (5, .int .i64 s.1), (24, .int .i64 ((ix x1 x6).kids)), (25, .int .i64 s.2)] [] [Sm w.heap.size F w [], St w []]) s := by
    intro s hs
    refine Rounds.ind (mot := (fun (s : Int × Int) => ∀ (_ : Unit), G (query_subtree_C w F r) [.code q54c18, .inLoop q54c18, .inBlock 0, .code q54c14] [(0, .slice A2 n3 c4), (5, .int .i64 s.1), (24, .int .i64 ((ix x1 x6).kids)), (25, .int .i64 s.2)] [] [Sm w.heap.size F w [], St w []])) ?_ hs
    clear hs s
    intro s o1 h hO1
    obtain ⟨x26, x27⟩ := s
    show ∀ (_ : Unit), G (query_subtree_C w F r) [.code q54c18, .inLoop q54c18, .inBlock 0, .code q54c14] [(0, .slice A2 n3 c4), (5, .int .i64 x26), (24, .int .i64 ((ix x1 x6).kids)), (25, .int .i64 x27)] [] [Sm w.heap.size F w [], St w []]
    intro _
    have h : query_subtree_b2 x1 x6 rc_query_subtree x26 x27 o1 := h
    unfold query_subtree_b2 at h
    refine g_seq rfl <| g_region rfl rfl <| wl_v 0 rfl (v_bin rfl rfl rfl) gn rfl <| w_end 1 rfl <| g_seq rfl ?_
    by_cases hp38 : x27 < (ix x1 x6).kids
    ·have h := if_pos' hp38 h
     refine g_true rfl _ rfl ((decide_eq_true hp38)) <| g_skip rfl <| g_seq rfl <| g_block rfl <| g_seq rfl <| g_region rfl rfl <| wl_v 0 rfl (v_move rfl) gn rfl <| wl_v 1 rfl (v_move rfl) gn rfl ?_
     obtain ⟨r42, hv43, h⟩ := h
     refine wl_s 2 rfl (s_call [.slice A2 n3 c4, .int .i64 x26] rfl Tryd.func54 rfl rfl rfl fun w39 hL40 => ?_) gn
     have hp41 := pmI hL40 .n .n (by kernel_rfl)
     refine Calls.mono (ih_query_subtree w39 (Fl ([] : List Snap)) x1 x26 A2 n3 c4 (Rw.mono h5 (hL40.toSt hp41 (me 1 rfl))) (hL40.hFl hp41 (sels [] rfl)) (hL40.into hp41 _) r42 hv43) ?_
     rintro _ w44 ⟨rfl, hM45⟩
     have hL46 := hL40.call hp41 hM45
     refine ⟨_, _, _, rfl, hL46, ?_⟩
     refine wl_v 3 rfl (v_assign rfl) gn rfl <| w_end 4 rfl <| g_seq rfl <| g_region rfl rfl <| wl_v 0 rfl (v_move rfl) gn rfl <| wl_v 1 rfl (v_bin rfl rfl rfl) gn rfl <| w_end 2 rfl ?_
     by_cases hp47 : r42 < 0
     ·have h := if_pos' hp47 h
      refine g_true rfl _ rfl ((decide_eq_true hp47)) <| g_seq rfl <| g_region rfl rfl <| wl_v 0 rfl (v_assign rfl) gn rfl <| w_end 1 rfl ?_
      have h := Out.inr hO1 h
      refine g_retR [.int .i64 (-1)] rfl Tryd.func54 rfl (.tmp rfl (.nil)) fun wr hLr => ?_
      have hMr := hLr.pk0 (.c 1 rfl .n)
      show query_subtree_R w F  r (.returned (packV [.int .i64 (-1)])) wr
      rw [h]
      exact ⟨rfl, hMr⟩
     ·have h := if_neg' hp47 h
      refine g_false rfl _ rfl ((decide_eq_false hp47)) <| g_skip rfl <| g_inBlock <| g_region rfl rfl <| wl_v 0 rfl (v_bin rfl rfl rfl) gn rfl <| wl_v 1 rfl (v_move rfl) gn rfl <| w_end 2 rfl <| g_inLoop ?_
      have ih := Out.inl hO1 h
      exact g_go [0, 1] (ih ()) ⟨rfl, rfl, rfl, rfl, trivial⟩ (.slnil) rfl
    ·have h := if_neg' hp38 h
     refine g_false rfl _ rfl ((decide_eq_false hp38)) <| g_exit [.code q54c14] rfl rfl <| g_seq rfl <| g_region rfl rfl <| wl_v 0 rfl (v_move rfl) gn rfl <| wl_v 1 rfl (v_assign rfl) gn rfl <| w_end 2 rfl ?_
     have h := Out.inr hO1 h
     refine g_retR [.int .i64 x26] rfl Tryd.func54 rfl (.tmp rfl (.nil)) fun wr hLr => ?_
     have hMr := hLr.pk0 (.c 1 rfl .n)
     show query_subtree_R w F  r (.returned (packV [.int .i64 x26])) wr
     rw [h]
     exact ⟨rfl, hMr⟩
   exact g_go [0, 1] (key2 _ h ()) ⟨rfl, rfl, rfl, rfl, trivial⟩ (.slnil) rfl
 refine g_region rfl rfl <| wl_v 0 rfl (v_move rfl) gn rfl <| wl_v 1 rfl (v_move rfl) gn rfl <| wl_v 2 rfl (v_lenQ un_22 rfl h5.hq) gn rfl <| wl_v 3 rfl (v_bin rfl rfl rfl) gn rfl <| wl_v 4 rfl (v_move rfl) gn rfl ?_
 by_cases hp48 : x6 ≥ (x1.length : Int)
 ·have h := if_pos' hp48 h
  refine w_bool 10 rfl ((decide_eq_true hp48)) <| wl_pass 5 rfl (ps 10 rfl rfl rfl) <| wl_pass 6 rfl (ps 10 rfl rfl rfl) <| wl_pass 7 rfl (ps 10 rfl rfl rfl) <| wl_pass 8 rfl (ps 10 rfl rfl rfl) <| wl_pass 9 rfl (ps 10 rfl rfl rfl) <| wl_pass 10 rfl (ps 10 rfl rfl rfl) <| wl_v 11 rfl (v_pick (b := true) rfl rfl) gn rfl <| w_end 12 rfl ?_
  exact g_go [0, 1] (j1 true h) ⟨rfl, rfl, rfl, trivial⟩ (.slnil) rfl
 ·have h := if_neg' hp48 h
  refine w_bool 10 rfl ((decide_eq_false hp48)) <| wl_v 5 rfl (v_move rfl) (gy 10 rfl rfl) rfl <| wl_v 6 rfl (v_move rfl) (gy 10 rfl rfl) rfl ?_
  obtain ⟨hb49, h⟩ := h
  have hr50 := Rw.readF (s := St w []) (hl := hl_api_PatNode) (h1 := h1_api_PatNode) h5 hb49
  refine wl_v 7 rfl (v_idxR (s := St w []) slE_22 rfl rfl h5 hb49) (gy 10 rfl rfl) rfl <| wl_v 8 rfl (v_fldA fo_45_4 rfl) (gy 10 rfl rfl) rfl <| wl_v 9 rfl (v_ldA1 (kk := (x6 : Int).toNat * 5) (j := 4) (St w []) ld_3 rfl hr50 rfl (me 1 rfl)) (gy 10 rfl rfl) rfl <| wl_v 10 rfl (v_bin rfl rfl rfl) (gy 10 rfl rfl) rfl <| wl_v 11 rfl (v_pick (b := false) rfl rfl) gn rfl <| w_end 12 rfl ?_
  exact g_go [0, 1] (j1 (decide ((ix x1 x6).kids < 0)) h) ⟨rfl, rfl, rfl, trivial⟩ (.slnil) rfl
theorem query_subtree_ind : ∀ n, query_subtree_st (query_subtree_n n)
 | 0 => fun w F x1 x6 A2 n3 c4 h5 hF hL0 r h => h.elim
 | n + 1 => by
  have ih := query_subtree_ind n
  exact query_subtree_step _ ih
theorem query_subtree_calls (w : World) (F : Nat → Prop) (x1 : List api_PatNode) (x6 : Int) (A2 : Option Addr) (n3 : Nat) (c4 : Nat) (h5 : Rw k_api_PatNode w (St w []).av A2 n3 c4 x1) (hF : ∀ b, F b → b < w.heap.size ∧ ∀ o ∈ ([] : List (List Nat)), b ∉ o) (hL0 : B.Loc w w [] [Sm w.heap.size F w [], St w []]) (r : Int) (h : query_subtree x1 x6 r) : Calls Tryd.prog 54 #[.slice A2 n3 c4, .int .i64 x6] w (query_subtree_R w F  r) := by
 obtain ⟨n, h⟩ := h
 exact (query_subtree_ind n) w F x1 x6 A2 n3 c4 h5 hF hL0 r h
abbrev words_digit_R (w : World) (F : Nat → Prop) (r : Bool) : Ending → World → Prop := fun e w' => e = .returned (.bool r) ∧ B.Loc w w' [] [St w []]
noncomputable abbrev words_digit_C (w : World) (F : Nat → Prop) (r : Bool) : Cx := ⟨Tryd.prog, 83, Tryd.f83, 9, words_digit_R w F  r, w⟩
theorem words_digit_calls (w : World) (F : Nat → Prop) (x1 : Int) (hF : ∀ b, F b → b < w.heap.size ∧ ∀ o ∈ ([] : List (List Nat)), b ∉ o) (hL0 : B.Loc w w [] [Sm w.heap.size F w [], St w []]) (r : Bool) (h : words_digit x1 r) : Calls Tryd.prog 83 #[.int .u8 x1] w (words_digit_R w F  r) := by
 unfold words_digit at h
 refine calls_of_Loc (vs := [.int .u8 x1]) 9 Tryd.func83 rfl Tryd.ntmps83 rfl hL0 ?_
 show G (words_digit_C w F r) _ _ _ _
 refine g_seq rfl <| g_region rfl rfl <| wl_v 0 rfl (v_assign rfl) gn rfl <| w_end 1 rfl <| g_seq rfl <| g_region rfl rfl <| wl_v 0 rfl (v_move rfl) gn rfl <| wl_v 1 rfl (v_bin rfl rfl rfl) gn rfl <| wl_v 2 rfl (v_move rfl) gn rfl ?_
 by_cases hp2 : x1 ≥ 48
 ·have h := if_pos' hp2 h
  refine w_bool 5 rfl ((decide_eq_true hp2)) <| wl_v 3 rfl (v_move rfl) (gy 5 rfl rfl) rfl <| wl_v 4 rfl (v_bin rfl rfl rfl) (gy 5 rfl rfl) rfl <| wl_v 5 rfl (v_pick (b := true) rfl rfl) gn rfl <| wl_v 6 rfl (v_assign rfl) gn rfl <| w_end 7 rfl ?_
  refine g_retR [.bool (decide (x1 ≤ 57))] rfl Tryd.func83 rfl (.tmp rfl (.nil)) fun wr hLr => ?_
  have hMr := hLr.pk0 (.c 1 rfl .n)
  show words_digit_R w F  r (.returned (packV [.bool (decide (x1 ≤ 57))])) wr
  rw [h]
  exact ⟨rfl, hMr⟩
 ·have h := if_neg' hp2 h
  refine w_bool 5 rfl ((decide_eq_false hp2)) <| wl_pass 3 rfl (ps 5 rfl rfl rfl) <| wl_pass 4 rfl (ps 5 rfl rfl rfl) <| wl_v 5 rfl (v_pick (b := false) rfl rfl) gn rfl <| wl_v 6 rfl (v_assign rfl) gn rfl <| w_end 7 rfl ?_
  refine g_retR [.bool false] rfl Tryd.func83 rfl (.tmp rfl (.nil)) fun wr hLr => ?_
  have hMr := hLr.pk0 (.c 1 rfl .n)
  show words_digit_R w F  r (.returned (packV [.bool false])) wr
  rw [h]
  exact ⟨rfl, hMr⟩
abbrev words_letter_R (w : World) (F : Nat → Prop) (r : Bool) : Ending → World → Prop := fun e w' => e = .returned (.bool r) ∧ B.Loc w w' [] [St w []]
noncomputable abbrev words_letter_C (w : World) (F : Nat → Prop) (r : Bool) : Cx := ⟨Tryd.prog, 82, Tryd.f82, 21, words_letter_R w F  r, w⟩
theorem words_letter_calls (w : World) (F : Nat → Prop) (x1 : Int) (hF : ∀ b, F b → b < w.heap.size ∧ ∀ o ∈ ([] : List (List Nat)), b ∉ o) (hL0 : B.Loc w w [] [Sm w.heap.size F w [], St w []]) (r : Bool) (h : words_letter x1 r) : Calls Tryd.prog 82 #[.int .u8 x1] w (words_letter_R w F  r) := by
 unfold words_letter at h
 refine calls_of_Loc (vs := [.int .u8 x1]) 21 Tryd.func82 rfl Tryd.ntmps82 rfl hL0 ?_
 show G (words_letter_C w F r) _ _ _ _
 refine g_seq rfl <| g_region rfl rfl <| wl_v 0 rfl (v_assign rfl) gn rfl <| w_end 1 rfl <| g_seq rfl <| g_region rfl rfl <| wl_v 0 rfl (v_move rfl) gn rfl <| wl_v 1 rfl (v_bin rfl rfl rfl) gn rfl <| wl_v 2 rfl (v_move rfl) gn rfl ?_
 by_cases hp2 : x1 ≥ 97
 ·have h := if_pos' hp2 h
  refine w_bool 5 rfl ((decide_eq_true hp2)) <| wl_v 3 rfl (v_move rfl) (gy 5 rfl rfl) rfl <| wl_v 4 rfl (v_bin rfl rfl rfl) (gy 5 rfl rfl) rfl <| wl_v 5 rfl (v_pick (b := true) rfl rfl) gn rfl <| wl_v 6 rfl (v_move rfl) gn rfl ?_
  by_cases hp3 : x1 ≤ 122
  ·have h := if_pos' hp3 h
   refine w_bool 9 rfl ((decide_eq_true hp3)) <| wl_pass 7 rfl (ps 9 rfl rfl rfl) <| wl_pass 8 rfl (ps 9 rfl rfl rfl) <| wl_pass 9 rfl (ps 9 rfl rfl rfl) <| wl_pass 10 rfl (pu 12 rfl rfl) <| wl_pass 11 rfl (pu 12 rfl rfl) <| wl_pass 12 rfl (ps 9 rfl rfl rfl) <| wl_v 13 rfl (v_pick (b := true) rfl rfl) gn rfl <| wl_v 14 rfl (v_move rfl) gn rfl <| wl_pass 15 rfl (ps 17 rfl rfl rfl) <| wl_pass 16 rfl (ps 17 rfl rfl rfl) <| wl_v 17 rfl (v_pick (b := true) rfl rfl) gn rfl ?_
   refine wl_v 18 rfl (v_assign rfl) gn rfl <| w_end 19 rfl ?_
   refine g_retR [.bool true] rfl Tryd.func82 rfl (.tmp rfl (.nil)) fun wr hLr => ?_
   have hMr := hLr.pk0 (.c 1 rfl .n)
   show words_letter_R w F  r (.returned (packV [.bool true])) wr
   rw [h]
   exact ⟨rfl, hMr⟩
  ·have h := if_neg' hp3 h
   refine w_bool 9 rfl ((decide_eq_false hp3)) <| wl_v 7 rfl (v_move rfl) (gy 9 rfl rfl) rfl <| wl_v 8 rfl (v_bin rfl rfl rfl) (gy 9 rfl rfl) rfl <| wl_v 9 rfl (v_move rfl) (gy 9 rfl rfl) rfl ?_
   by_cases hp4 : x1 ≥ 65
   ·have h := if_pos' hp4 h
    refine w_bool 12 rfl ((decide_eq_true hp4)) <| wl_v 10 rfl (v_move rfl) (gy 12 rfl rfl) rfl <| wl_v 11 rfl (v_bin rfl rfl rfl) (gy 12 rfl rfl) rfl <| wl_v 12 rfl (v_pick (b := true) rfl rfl) (gy 9 rfl rfl) rfl <| wl_v 13 rfl (v_pick (b := false) rfl rfl) gn rfl <| wl_v 14 rfl (v_move rfl) gn rfl ?_
    by_cases hp5 : x1 ≤ 90
    ·have h := if_pos' hp5 h
     refine w_bool 17 rfl ((decide_eq_true hp5)) <| wl_pass 15 rfl (ps 17 rfl rfl rfl) <| wl_pass 16 rfl (ps 17 rfl rfl rfl) <| wl_v 17 rfl (v_pick (b := true) rfl rfl) gn rfl <| wl_v 18 rfl (v_assign rfl) gn rfl <| w_end 19 rfl ?_
     refine g_retR [.bool true] rfl Tryd.func82 rfl (.tmp rfl (.nil)) fun wr hLr => ?_
     have hMr := hLr.pk0 (.c 1 rfl .n)
     show words_letter_R w F  r (.returned (packV [.bool true])) wr
     rw [h]
     exact ⟨rfl, hMr⟩
    ·have h := if_neg' hp5 h
     refine w_bool 17 rfl ((decide_eq_false hp5)) <| wl_v 15 rfl (v_move rfl) (gy 17 rfl rfl) rfl <| wl_v 16 rfl (v_bin rfl rfl rfl) (gy 17 rfl rfl) rfl <| wl_v 17 rfl (v_pick (b := false) rfl rfl) gn rfl <| wl_v 18 rfl (v_assign rfl) gn rfl <| w_end 19 rfl ?_
     refine g_retR [.bool (x1 == 95)] rfl Tryd.func82 rfl (.tmp rfl (.nil)) fun wr hLr => ?_
     have hMr := hLr.pk0 (.c 1 rfl .n)
     show words_letter_R w F  r (.returned (packV [.bool (x1 == 95)])) wr
     rw [h]
     exact ⟨rfl, hMr⟩
   ·have h := if_neg' hp4 h
    refine w_bool 12 rfl ((decide_eq_false hp4)) <| wl_pass 10 rfl (ps 12 rfl rfl rfl) <| wl_pass 11 rfl (ps 12 rfl rfl rfl) <| wl_v 12 rfl (v_pick (b := false) rfl rfl) (gy 9 rfl rfl) rfl <| wl_v 13 rfl (v_pick (b := false) rfl rfl) gn rfl <| wl_v 14 rfl (v_move rfl) gn rfl <| wl_v 15 rfl (v_move rfl) (gy 17 rfl rfl) rfl <| wl_v 16 rfl (v_bin rfl rfl rfl) (gy 17 rfl rfl) rfl <| wl_v 17 rfl (v_pick (b := false) rfl rfl) gn rfl <| wl_v 18 rfl (v_assign rfl) gn rfl <| w_end 19 rfl ?_
    refine g_retR [.bool (x1 == 95)] rfl Tryd.func82 rfl (.tmp rfl (.nil)) fun wr hLr => ?_
    have hMr := hLr.pk0 (.c 1 rfl .n)
    show words_letter_R w F  r (.returned (packV [.bool (x1 == 95)])) wr
    rw [h]
    exact ⟨rfl, hMr⟩
 ·have h := if_neg' hp2 h
  refine w_bool 5 rfl ((decide_eq_false hp2)) <| wl_pass 3 rfl (ps 5 rfl rfl rfl) <| wl_pass 4 rfl (ps 5 rfl rfl rfl) <| wl_v 5 rfl (v_pick (b := false) rfl rfl) gn rfl <| wl_v 6 rfl (v_move rfl) gn rfl <| wl_v 7 rfl (v_move rfl) (gy 9 rfl rfl) rfl <| wl_v 8 rfl (v_bin rfl rfl rfl) (gy 9 rfl rfl) rfl <| wl_v 9 rfl (v_move rfl) (gy 9 rfl rfl) rfl ?_
  by_cases hp6 : x1 ≥ 65
  ·have h := if_pos' hp6 h
   refine w_bool 12 rfl ((decide_eq_true hp6)) <| wl_v 10 rfl (v_move rfl) (gy 12 rfl rfl) rfl <| wl_v 11 rfl (v_bin rfl rfl rfl) (gy 12 rfl rfl) rfl <| wl_v 12 rfl (v_pick (b := true) rfl rfl) (gy 9 rfl rfl) rfl <| wl_v 13 rfl (v_pick (b := false) rfl rfl) gn rfl <| wl_v 14 rfl (v_move rfl) gn rfl ?_
   by_cases hp7 : x1 ≤ 90
   ·have h := if_pos' hp7 h
    refine w_bool 17 rfl ((decide_eq_true hp7)) <| wl_pass 15 rfl (ps 17 rfl rfl rfl) <| wl_pass 16 rfl (ps 17 rfl rfl rfl) <| wl_v 17 rfl (v_pick (b := true) rfl rfl) gn rfl <| wl_v 18 rfl (v_assign rfl) gn rfl <| w_end 19 rfl ?_
    refine g_retR [.bool true] rfl Tryd.func82 rfl (.tmp rfl (.nil)) fun wr hLr => ?_
    have hMr := hLr.pk0 (.c 1 rfl .n)
    show words_letter_R w F  r (.returned (packV [.bool true])) wr
    rw [h]
    exact ⟨rfl, hMr⟩
   ·have h := if_neg' hp7 h
    refine w_bool 17 rfl ((decide_eq_false hp7)) <| wl_v 15 rfl (v_move rfl) (gy 17 rfl rfl) rfl <| wl_v 16 rfl (v_bin rfl rfl rfl) (gy 17 rfl rfl) rfl <| wl_v 17 rfl (v_pick (b := false) rfl rfl) gn rfl <| wl_v 18 rfl (v_assign rfl) gn rfl <| w_end 19 rfl ?_
    refine g_retR [.bool (x1 == 95)] rfl Tryd.func82 rfl (.tmp rfl (.nil)) fun wr hLr => ?_
    have hMr := hLr.pk0 (.c 1 rfl .n)
    show words_letter_R w F  r (.returned (packV [.bool (x1 == 95)])) wr
    rw [h]
    exact ⟨rfl, hMr⟩
  ·have h := if_neg' hp6 h
   refine w_bool 12 rfl ((decide_eq_false hp6)) <| wl_pass 10 rfl (ps 12 rfl rfl rfl) <| wl_pass 11 rfl (ps 12 rfl rfl rfl) <| wl_v 12 rfl (v_pick (b := false) rfl rfl) (gy 9 rfl rfl) rfl <| wl_v 13 rfl (v_pick (b := false) rfl rfl) gn rfl <| wl_v 14 rfl (v_move rfl) gn rfl <| wl_v 15 rfl (v_move rfl) (gy 17 rfl rfl) rfl <| wl_v 16 rfl (v_bin rfl rfl rfl) (gy 17 rfl rfl) rfl <| wl_v 17 rfl (v_pick (b := false) rfl rfl) gn rfl <| wl_v 18 rfl (v_assign rfl) gn rfl <| w_end 19 rfl ?_
   refine g_retR [.bool (x1 == 95)] rfl Tryd.func82 rfl (.tmp rfl (.nil)) fun wr hLr => ?_
   have hMr := hLr.pk0 (.c 1 rfl .n)
   show words_letter_R w F  r (.returned (packV [.bool (x1 == 95)])) wr
   rw [h]
   exact ⟨rfl, hMr⟩
abbrev strings_Contains_R (w : World) (F : Nat → Prop) (r : Bool) : Ending → World → Prop := fun e w' => e = .returned (.bool r) ∧ B.Loc w w' [] [St w []]
theorem strings_Contains_calls (w : World) (F : Nat → Prop) (x1 : ByteArray) (x2 : ByteArray) (hF : ∀ b, F b → b < w.heap.size ∧ ∀ o ∈ ([] : List (List Nat)), b ∉ o) (hL0 : B.Loc w w [] [Sm w.heap.size F w [], St w []]) (r : Bool) (h : strings_Contains x1 x2 r) : Calls Tryd.prog 100 #[.string x1, .string x2] w (strings_Contains_R w F  r) := by
 unfold strings_Contains at h
 obtain ⟨h1, rfl⟩ := h
 rw [one_byte h1]
 refine Calls.mono (Tryd.strings_Contains_one x1 _ w) ?_
 rintro e w' ⟨rfl, rfl⟩
 exact ⟨rfl, Loc.of_below (Below.refl _ _)⟩
noncomputable abbrev q78c4 := Code.snd (Code.snd (bodyOf Tryd.f78))
noncomputable abbrev q78c13 := Code.snd (Code.fst (Code.snd (Code.fst (Code.snd (Code.fst (Code.snd (bodyOf Tryd.f78)))))))
noncomputable abbrev q78c15 := Code.snd (Code.fst (Code.fst (Code.snd (Code.fst (Code.snd (Code.fst (Code.snd (bodyOf Tryd.f78))))))))
noncomputable abbrev q78c21 := Code.snd q78c13
noncomputable abbrev q78c25 := Code.fst (Code.fst (Code.snd (Code.fst q78c13)))
noncomputable abbrev q78c54 := Code.snd (Code.fst (Code.snd (Code.snd (Code.snd (Code.snd (Code.snd (Code.fst (Code.snd (Code.fst (Code.snd (bodyOf Tryd.f78)))))))))))
noncomputable abbrev q78c58 := Code.fst (Code.fst (Code.snd (Code.fst (Code.fst (Code.snd (Code.snd (Code.snd (Code.snd (Code.snd (Code.fst (Code.snd (Code.fst (Code.snd (bodyOf Tryd.f78))))))))))))))
noncomputable abbrev q78c66 := Code.snd (Code.snd q78c58)
noncomputable abbrev q78c72 := Code.snd (Code.fst (Code.snd (Code.fst (Code.fst (Code.snd q78c58)))))
abbrev words_sound_R (w : World) (F : Nat → Prop) (r : Bool) : Ending → World → Prop := fun e w' => e = .returned (.bool r) ∧ B.Loc w w' [] [St w []]
noncomputable abbrev words_sound_C (w : World) (F : Nat → Prop) (r : Bool) : Cx := ⟨Tryd.prog, 78, Tryd.f78, 100, words_sound_R w F  r, w⟩
theorem words_sound_calls (w : World) (F : Nat → Prop) (x1 : api_Word) (hF : ∀ b, F b → b < w.heap.size ∧ ∀ o ∈ ([] : List (List Nat)), b ∉ o) (hL0 : B.Loc w w [] [Sm w.heap.size F w [], St w []]) (r : Bool) (h : words_sound x1 r) : Calls Tryd.prog 78 #[.agg #[.int .i64 x1.kind, .string x1.text, .int .i64 x1.n, .int .i64 x1.at_]] w (words_sound_R w F  r) := by
 unfold words_sound at h
 refine calls_of_Loc (vs := [.agg #[.int .i64 x1.kind, .string x1.text, .int .i64 x1.n, .int .i64 x1.at_]]) 100 Tryd.func78 rfl Tryd.ntmps78 rfl hL0 ?_
 show G (words_sound_C w F r) _ _ _ _
 refine g_seq rfl <| g_region rfl rfl ?_
 refine wl_s 0 rfl (s_box [.int .i64 x1.kind, .string x1.text, .int .i64 x1.n, .int .i64 x1.at_] rfl rfl rfl fun gb2 => ?_) gn
 refine wl_v 1 rfl (v_assign rfl) gn rfl <| w_end 2 rfl <| g_seq rfl <| g_seq rfl <| g_region rfl rfl <| wl_v 0 rfl (v_fldB fo_84_0 rfl) gn rfl <| wl_v 1 rfl (v_ldB1 0 ld_79 rfl rfl rfl) gn rfl <| w_end 2 rfl <| g_block rfl <| g_seq rfl <| g_region rfl rfl <| wl_v 0 rfl (v_bin rfl rfl rfl) gn rfl ?_
 refine wl_v 1 rfl (v_assign rfl) gn rfl <| w_end 2 rfl ?_
 by_cases hp4 : x1.kind = 1
 ·have h := if_pos' hp4 h
  refine g_true rfl _ rfl ((eqi hp4)) <| g_seq rfl <| g_seq rfl ?_
  have j1 : ∀ (x17 : Bool) (h : words_sound_j1 x1 x17 r) , G (words_sound_C w F r) [.code q78c15, .code q78c13, .inBlock 0, .code q78c4] [(1, .pointer (some ⟨gb2, 0, none⟩)), (23, .bool x17)] [.box gb2 84 [.int .i64 x1.kind, .string x1.text, .int .i64 x1.n, .int .i64 x1.at_]] [Sm w.heap.size F w [], St w []] := by
   intro x17 h
   unfold words_sound_j1 at h
   by_cases hp18 : x17 = true
   ·have h := if_pos' hp18 h
    refine g_true rfl _ rfl (hp18) <| g_seq rfl <| g_region rfl rfl <| wl_v 0 rfl (v_assign rfl) gn rfl <| w_end 1 rfl ?_
    refine g_retR [.bool false] rfl Tryd.func78 rfl (.tmp rfl (.nil)) fun wr hLr => ?_
    have hMr := hLr.pk0 (.c 1 rfl .n)
    show words_sound_R w F  r (.returned (packV [.bool false])) wr
    rw [h]
    exact ⟨rfl, hMr⟩
   ·have h := if_neg' hp18 h
    refine g_false rfl _ rfl ((bf hp18)) <| g_skip rfl <| g_seq rfl <| g_seq rfl <| g_region rfl rfl <| wl_v 0 rfl (v_assign rfl) gn rfl <| w_end 1 rfl <| g_block rfl <| g_loop rfl ?_
    have key2 : ∀ s, Rounds (fun (s : Int) o => words_sound_b2 x1 s o) s r → (fun (s : Int) => ∀ (_ : Unit), G (words_sound_C w F r) [.code q78c25, .inLoop q78c25, .inBlock 1, .code q78c21, .inBlock 0, .code q78c4] [(1, .pointer (some ⟨gb2, 0, none⟩)), (3, .int .i64 s)] [.box gb2 84 [.int .i64 x1.kind, .string x1.text, .int .i64 x1.n, .int .i64 x1.at_]] [Sm w.heap.size F w [], St w []]) s := by
     intro s hs
     refine Rounds.ind (mot := (fun (s : Int) => ∀ (_ : Unit), G (words_sound_C w F r) [.code q78c25, .inLoop q78c25, .inBlock 1, .code q78c21, .inBlock 0, .code q78c4] [(1, .pointer (some ⟨gb2, 0, none⟩)), (3, .int .i64 s)] [.box gb2 84 [.int .i64 x1.kind, .string x1.text, .int .i64 x1.n, .int .i64 x1.at_]] [Sm w.heap.size F w [], St w []])) ?_ hs
     clear hs s
     intro x40 o1 h hO1
     show ∀ (_ : Unit), G (words_sound_C w F r) [.code q78c25, .inLoop q78c25, .inBlock 1, .code q78c21, .inBlock 0, .code q78c4] [(1, .pointer (some ⟨gb2, 0, none⟩)), (3, .int .i64 x40)] [.box gb2 84 [.int .i64 x1.kind, .string x1.text, .int .i64 x1.n, .int .i64 x1.at_]] [Sm w.heap.size F w [], St w []]
     intro _
     have h : words_sound_b2 x1 x40 o1 := h
     unfold words_sound_b2 at h
     refine g_seq rfl <| g_seq rfl <| g_region rfl rfl <| wl_v 0 rfl (v_move rfl) gn rfl <| wl_v 1 rfl (v_fldB fo_84_1 rfl) gn rfl <| wl_v 2 rfl (v_ldB1 0 ld_9 rfl rfl rfl) gn rfl <| wl_v 3 rfl (v_lenS un_9 rfl) gn rfl <| wl_v 4 rfl (v_bin rfl rfl rfl) gn rfl <| w_end 5 rfl ?_
     by_cases hp61 : x40 < (x1.text.size : Int)
     ·have h := if_pos' hp61 h
      refine g_true rfl _ rfl ((decide_eq_true hp61)) <| g_skip rfl <| g_seq rfl <| g_block rfl <| g_seq rfl <| g_region rfl rfl <| wl_v 0 rfl (v_fldB fo_84_1 rfl) gn rfl <| wl_v 1 rfl (v_ldB1 0 ld_9 rfl rfl rfl) gn rfl <| wl_v 2 rfl (v_move rfl) gn rfl ?_
      obtain ⟨hb62, h⟩ := h
      refine wl_v 3 rfl (v_indexS un_9 rfl rfl hb62) gn rfl ?_
      obtain ⟨r66, hv67, h⟩ := h
      refine wl_s 4 rfl (s_call [.int .u8 (bt x1.text x40)] rfl Tryd.func82 rfl rfl rfl fun w63 hL64 => ?_) gn
      have hp65 := pmI hL64 .n (.c 0 rfl .n) (by kernel_rfl)
      refine Calls.mono (words_letter_calls w63 (Fl ([] : List Snap)) (bt x1.text x40) (hL64.hFl hp65 (sels [] rfl)) (hL64.into hp65 _) r66 hv67) ?_
      rintro _ w68 ⟨rfl, hM69⟩
      have hL70 := hL64.call hp65 hM69
      refine ⟨_, _, _, rfl, hL70, ?_⟩
      refine wl_v 5 rfl (v_not rfl) gn rfl <| wl_v 6 rfl (v_move rfl) gn rfl ?_
      by_cases hp71 : r66 = true
      ·have h := if_pos' hp71 h
       refine w_bool 37 rfl ((nf hp71)) <| wl_pass 7 rfl (ps 37 rfl rfl rfl) <| wl_pass 8 rfl (ps 37 rfl rfl rfl) <| wl_pass 9 rfl (ps 37 rfl rfl rfl) <| wl_pass 10 rfl (ps 37 rfl rfl rfl) <| wl_pass 11 rfl (ps 37 rfl rfl rfl) <| wl_pass 12 rfl (ps 37 rfl rfl rfl) <| wl_v 13 rfl (v_pick (b := false) rfl rfl) gn rfl <| w_end 14 rfl <| g_false rfl _ rfl (rfl) <| g_skip rfl <| g_inBlock ?_
       refine g_region rfl rfl <| wl_v 0 rfl (v_move rfl) gn rfl <| wl_v 1 rfl (v_bin rfl rfl rfl) gn rfl <| wl_v 2 rfl (v_assign rfl) gn rfl <| w_end 3 rfl <| g_inLoop ?_
       have ih := Out.inl hO1 h
       exact g_go [0, 1] (ih ()) ⟨rfl, rfl, trivial⟩ (.cons_cons _ (.slnil)) rfl
      ·have h := if_neg' hp71 h
       refine w_bool 37 rfl ((nt (bf hp71))) <| wl_v 7 rfl (v_fldB fo_84_1 rfl) (gy 37 rfl rfl) rfl <| wl_v 8 rfl (v_ldB1 0 ld_9 rfl rfl rfl) (gy 37 rfl rfl) rfl <| wl_v 9 rfl (v_move rfl) (gy 37 rfl rfl) rfl <| wl_v 10 rfl (v_indexS un_9 rfl rfl hb62) (gy 37 rfl rfl) rfl ?_
       obtain ⟨r75, hv76, h⟩ := h
       refine wl_s 11 rfl (s_call [.int .u8 (bt x1.text x40)] rfl Tryd.func83 rfl rfl rfl fun w72 hL73 => ?_) (gy 37 rfl rfl)
       have hp74 := pmI hL73 .n (.c 0 rfl .n) (by kernel_rfl)
       refine Calls.mono (words_digit_calls w72 (Fl ([] : List Snap)) (bt x1.text x40) (hL73.hFl hp74 (sels [] rfl)) (hL73.into hp74 _) r75 hv76) ?_
       rintro _ w77 ⟨rfl, hM78⟩
       have hL79 := hL73.call hp74 hM78
       refine ⟨_, _, _, rfl, hL79, ?_⟩
       refine wl_v 12 rfl (v_not rfl) (gy 37 rfl rfl) rfl <| wl_v 13 rfl (v_pick (b := true) rfl rfl) gn rfl <| w_end 14 rfl ?_
       by_cases hp80 : r75 = true
       ·have h := if_pos' hp80 h
        refine g_false rfl _ rfl ((nf hp80)) <| g_skip rfl <| g_inBlock <| g_region rfl rfl <| wl_v 0 rfl (v_move rfl) gn rfl <| wl_v 1 rfl (v_bin rfl rfl rfl) gn rfl <| wl_v 2 rfl (v_assign rfl) gn rfl <| w_end 3 rfl <| g_inLoop ?_
        have ih := Out.inl hO1 h
        exact g_go [0, 1] (ih ()) ⟨rfl, rfl, trivial⟩ (.cons_cons _ (.slnil)) rfl
       ·have h := if_neg' hp80 h
        refine g_true rfl _ rfl ((nt (bf hp80))) <| g_seq rfl <| g_region rfl rfl <| wl_v 0 rfl (v_assign rfl) gn rfl <| w_end 1 rfl ?_
        have h := Out.inr hO1 h
        refine g_retR [.bool false] rfl Tryd.func78 rfl (.tmp rfl (.nil)) fun wr hLr => ?_
        have hMr := hLr.pk0 (.c 1 rfl .n)
        show words_sound_R w F  r (.returned (packV [.bool false])) wr
        rw [h]
        exact ⟨rfl, hMr⟩
     ·have h := if_neg' hp61 h
      refine g_false rfl _ rfl ((decide_eq_false hp61)) <| g_exit [.code q78c21, .inBlock 0, .code q78c4] rfl rfl <| g_seq rfl <| g_region rfl rfl <| wl_v 0 rfl (v_assign rfl) gn rfl <| w_end 1 rfl ?_
      have h := Out.inr hO1 h
      refine g_retR [.bool true] rfl Tryd.func78 rfl (.tmp rfl (.nil)) fun wr hLr => ?_
      have hMr := hLr.pk0 (.c 1 rfl .n)
      show words_sound_R w F  r (.returned (packV [.bool true])) wr
      rw [h]
      exact ⟨rfl, hMr⟩
    exact g_go [0, 1] (key2 _ h ()) ⟨rfl, rfl, trivial⟩ (.cons_cons _ (.slnil)) rfl
  refine g_region rfl rfl <| wl_v 0 rfl (v_fldB fo_84_1 rfl) gn rfl <| wl_v 1 rfl (v_ldB1 0 ld_9 rfl rfl rfl) gn rfl <| wl_v 2 rfl (v_eqS rfl rfl) gn rfl <| wl_v 3 rfl (v_move rfl) gn rfl ?_
  by_cases hp81 : x1.text = (⟨#[]⟩ : ByteArray)
  ·have h := if_pos' hp81 h
   refine w_bool 12 rfl ((seq_t hp81)) <| wl_pass 4 rfl (ps 12 rfl rfl rfl) <| wl_pass 5 rfl (ps 12 rfl rfl rfl) <| wl_pass 6 rfl (ps 12 rfl rfl rfl) <| wl_pass 7 rfl (ps 12 rfl rfl rfl) <| wl_v 8 rfl (v_pick (b := true) rfl rfl) gn rfl <| wl_v 9 rfl (v_move rfl) gn rfl <| wl_pass 10 rfl (ps 18 rfl rfl rfl) <| wl_pass 11 rfl (ps 18 rfl rfl rfl) <| wl_pass 12 rfl (ps 18 rfl rfl rfl) <| wl_pass 13 rfl (ps 18 rfl rfl rfl) <| wl_v 14 rfl (v_pick (b := true) rfl rfl) gn rfl ?_
   refine w_end 15 rfl ?_
   exact g_go [0, 1] (j1 true h) ⟨rfl, rfl, trivial⟩ (.cons_cons _ (.slnil)) rfl
  ·have h := if_neg' hp81 h
   refine w_bool 12 rfl ((seq_f hp81)) <| wl_v 4 rfl (v_fldB fo_84_1 rfl) (gy 12 rfl rfl) rfl <| wl_v 5 rfl (v_ldB1 0 ld_9 rfl rfl rfl) (gy 12 rfl rfl) rfl <| wl_v 6 rfl (v_lenS un_9 rfl) (gy 12 rfl rfl) rfl <| wl_v 7 rfl (v_bin rfl rfl rfl) (gy 12 rfl rfl) rfl <| wl_v 8 rfl (v_pick (b := false) rfl rfl) gn rfl <| wl_v 9 rfl (v_move rfl) gn rfl ?_
   by_cases hp82 : (x1.text.size : Int) > 24
   ·have h := if_pos' hp82 h
    refine w_bool 18 rfl ((decide_eq_true hp82)) <| wl_pass 10 rfl (ps 18 rfl rfl rfl) <| wl_pass 11 rfl (ps 18 rfl rfl rfl) <| wl_pass 12 rfl (ps 18 rfl rfl rfl) <| wl_pass 13 rfl (ps 18 rfl rfl rfl) <| wl_v 14 rfl (v_pick (b := true) rfl rfl) gn rfl <| w_end 15 rfl ?_
    exact g_go [0, 1] (j1 true h) ⟨rfl, rfl, trivial⟩ (.cons_cons _ (.slnil)) rfl
   ·have h := if_neg' hp82 h
    refine w_bool 18 rfl ((decide_eq_false hp82)) <| wl_v 10 rfl (v_fldB fo_84_1 rfl) (gy 18 rfl rfl) rfl <| wl_v 11 rfl (v_ldB1 0 ld_9 rfl rfl rfl) (gy 18 rfl rfl) rfl ?_
    obtain ⟨hb83, h⟩ := h
    refine wl_v 12 rfl (v_indexS un_9 rfl rfl hb83) (gy 18 rfl rfl) rfl ?_
    obtain ⟨r87, hv88, h⟩ := h
    refine wl_s 13 rfl (s_call [.int .u8 (bt x1.text 0)] rfl Tryd.func83 rfl rfl rfl fun w84 hL85 => ?_) (gy 18 rfl rfl)
    have hp86 := pmI hL85 .n (.c 0 rfl .n) (by kernel_rfl)
    refine Calls.mono (words_digit_calls w84 (Fl ([] : List Snap)) (bt x1.text 0) (hL85.hFl hp86 (sels [] rfl)) (hL85.into hp86 _) r87 hv88) ?_
    rintro _ w89 ⟨rfl, hM90⟩
    have hL91 := hL85.call hp86 hM90
    refine ⟨_, _, _, rfl, hL91, ?_⟩
    refine wl_v 14 rfl (v_pick (b := false) rfl rfl) gn rfl <| w_end 15 rfl ?_
    exact g_go [0, 1] (j1 r87 h) ⟨rfl, rfl, trivial⟩ (.cons_cons _ (.slnil)) rfl
 ·have h := if_neg' hp4 h
  refine g_false rfl _ rfl ((nei hp4)) <| g_seq rfl <| g_region rfl rfl <| wl_v 0 rfl (v_bin rfl rfl rfl) gn rfl <| wl_v 1 rfl (v_assign rfl) gn rfl <| w_end 2 rfl ?_
  by_cases hp92 : x1.kind = 2
  ·have h := if_pos' hp92 h
   refine g_true rfl _ rfl ((eqi hp92)) <| g_seq rfl <| g_region rfl rfl <| wl_v 0 rfl (v_assign rfl) gn rfl <| w_end 1 rfl ?_
   refine g_retR [.bool true] rfl Tryd.func78 rfl (.tmp rfl (.nil)) fun wr hLr => ?_
   have hMr := hLr.pk0 (.c 1 rfl .n)
   show words_sound_R w F  r (.returned (packV [.bool true])) wr
   rw [h]
   exact ⟨rfl, hMr⟩
  ·have h := if_neg' hp92 h
   refine g_false rfl _ rfl ((nei hp92)) <| g_seq rfl <| g_region rfl rfl <| wl_v 0 rfl (v_bin rfl rfl rfl) gn rfl <| wl_v 1 rfl (v_assign rfl) gn rfl <| w_end 2 rfl ?_
   by_cases hp93 : x1.kind = 3
   ·have h := if_pos' hp93 h
    refine g_true rfl _ rfl ((eqi hp93)) <| g_seq rfl <| g_seq rfl <| g_region rfl rfl <| wl_v 0 rfl (v_assign rfl) gn rfl <| w_end 1 rfl <| g_block rfl <| g_loop rfl ?_
    have key3 : ∀ s, Rounds (fun (s : Int) o => words_sound_b3 x1 s o) s r → (fun (s : Int) => ∀ (_ : Unit), G (words_sound_C w F r) [.code q78c58, .inLoop q78c58, .inBlock 3, .code q78c54, .inBlock 0, .code q78c4] [(1, .pointer (some ⟨gb2, 0, none⟩)), (4, .int .i64 s)] [.box gb2 84 [.int .i64 x1.kind, .string x1.text, .int .i64 x1.n, .int .i64 x1.at_]] [Sm w.heap.size F w [], St w []]) s := by
     intro s hs
     refine Rounds.ind (mot := (fun (s : Int) => ∀ (_ : Unit), G (words_sound_C w F r) [.code q78c58, .inLoop q78c58, .inBlock 3, .code q78c54, .inBlock 0, .code q78c4] [(1, .pointer (some ⟨gb2, 0, none⟩)), (4, .int .i64 s)] [.box gb2 84 [.int .i64 x1.kind, .string x1.text, .int .i64 x1.n, .int .i64 x1.at_]] [Sm w.heap.size F w [], St w []])) ?_ hs
     clear hs s
     intro x105 o1 h hO1
     show ∀ (_ : Unit), G (words_sound_C w F r) [.code q78c58, .inLoop q78c58, .inBlock 3, .code q78c54, .inBlock 0, .code q78c4] [(1, .pointer (some ⟨gb2, 0, none⟩)), (4, .int .i64 x105)] [.box gb2 84 [.int .i64 x1.kind, .string x1.text, .int .i64 x1.n, .int .i64 x1.at_]] [Sm w.heap.size F w [], St w []]
     intro _
     have h : words_sound_b3 x1 x105 o1 := h
     unfold words_sound_b3 at h
     refine g_seq rfl <| g_seq rfl <| g_region rfl rfl <| wl_v 0 rfl (v_move rfl) gn rfl <| wl_v 1 rfl (v_fldB fo_84_1 rfl) gn rfl <| wl_v 2 rfl (v_ldB1 0 ld_9 rfl rfl rfl) gn rfl <| wl_v 3 rfl (v_lenS un_9 rfl) gn rfl <| wl_v 4 rfl (v_bin rfl rfl rfl) gn rfl <| w_end 5 rfl ?_
     by_cases hp116 : x105 < (x1.text.size : Int)
     ·have h := if_pos' hp116 h
      refine g_true rfl _ rfl ((decide_eq_true hp116)) <| g_skip rfl <| g_seq rfl <| g_block rfl <| g_seq rfl <| g_region rfl rfl <| wl_v 0 rfl (v_fldB fo_84_1 rfl) gn rfl <| wl_v 1 rfl (v_ldB1 0 ld_9 rfl rfl rfl) gn rfl <| wl_v 2 rfl (v_move rfl) gn rfl ?_
      obtain ⟨hb117, h⟩ := h
      refine wl_v 3 rfl (v_indexS un_9 rfl rfl hb117) gn rfl <| w_end 4 rfl <| g_block rfl <| g_seq rfl <| g_seq rfl <| g_region rfl rfl <| wl_v 0 rfl (v_bin rfl rfl rfl) gn rfl <| wl_v 1 rfl (v_assign rfl) gn rfl <| w_end 2 rfl ?_
      have j4 : ∀ (x120 : Bool) (h : words_sound_j4 x1 x105 x120 o1) , G (words_sound_C w F r) [.code q78c72, .inBlock 5, .inBlock 4, .code q78c66, .inLoop q78c58, .inBlock 3, .code q78c54, .inBlock 0, .code q78c4] [(1, .pointer (some ⟨gb2, 0, none⟩)), (4, .int .i64 x105), (59, .int .u8 (bt x1.text x105)), (60, .bool x120)] [.box gb2 84 [.int .i64 x1.kind, .string x1.text, .int .i64 x1.n, .int .i64 x1.at_]] [Sm w.heap.size F w [], St w []] := by
       intro x120 h
       unfold words_sound_j4 at h
       by_cases hp121 : x120 = true
       ·have h := if_pos' hp121 h
        refine g_true rfl _ rfl (hp121) <| g_seq rfl <| g_region rfl rfl <| wl_v 0 rfl (v_assign rfl) gn rfl <| w_end 1 rfl ?_
        have h := Out.inr hO1 h
        refine g_retR [.bool false] rfl Tryd.func78 rfl (.tmp rfl (.nil)) fun wr hLr => ?_
        have hMr := hLr.pk0 (.c 1 rfl .n)
        show words_sound_R w F  r (.returned (packV [.bool false])) wr
        rw [h]
        exact ⟨rfl, hMr⟩
       ·have h := if_neg' hp121 h
        refine g_false rfl _ rfl ((bf hp121)) <| g_seq rfl <| g_region rfl rfl <| wl_v 0 rfl (v_bin rfl rfl rfl) gn rfl <| wl_v 1 rfl (v_assign rfl) gn rfl <| w_end 2 rfl ?_
        by_cases hp122 : bt x1.text x105 = 92
        ·have h := if_pos' hp122 h
         refine g_true rfl _ rfl ((eqi hp122)) <| g_seq rfl <| g_region rfl rfl <| wl_v 0 rfl (v_move rfl) gn rfl <| wl_v 1 rfl (v_bin rfl rfl rfl) gn rfl <| wl_v 2 rfl (v_assign rfl) gn rfl <| w_end 3 rfl <| g_seq rfl <| g_region rfl rfl <| wl_v 0 rfl (v_move rfl) gn rfl <| wl_v 1 rfl (v_fldB fo_84_1 rfl) gn rfl <| wl_v 2 rfl (v_ldB1 0 ld_9 rfl rfl rfl) gn rfl ?_
         refine wl_v 3 rfl (v_lenS un_9 rfl) gn rfl <| wl_v 4 rfl (v_bin rfl rfl rfl) gn rfl <| wl_v 5 rfl (v_move rfl) gn rfl ?_
         by_cases hp123 : w64 (x105 + 1) = (x1.text.size : Int)
         ·have h := if_pos' hp123 h
          refine w_bool 72 rfl ((eqi hp123)) <| wl_pass 6 rfl (ps 72 rfl rfl rfl) <| wl_pass 7 rfl (ps 72 rfl rfl rfl) <| wl_pass 8 rfl (ps 72 rfl rfl rfl) <| wl_pass 9 rfl (ps 72 rfl rfl rfl) <| wl_pass 10 rfl (ps 72 rfl rfl rfl) <| wl_v 11 rfl (v_pick (b := true) rfl rfl) gn rfl <| w_end 12 rfl <| g_true rfl _ rfl (rfl) <| g_seq rfl <| g_region rfl rfl <| wl_v 0 rfl (v_assign rfl) gn rfl ?_
          refine w_end 1 rfl ?_
          have h := Out.inr hO1 h
          refine g_retR [.bool false] rfl Tryd.func78 rfl (.tmp rfl (.nil)) fun wr hLr => ?_
          have hMr := hLr.pk0 (.c 1 rfl .n)
          show words_sound_R w F  r (.returned (packV [.bool false])) wr
          rw [h]
          exact ⟨rfl, hMr⟩
         ·have h := if_neg' hp123 h
          refine w_bool 72 rfl ((nei hp123)) <| wl_v 6 rfl (v_fldB fo_84_1 rfl) (gy 72 rfl rfl) rfl <| wl_v 7 rfl (v_ldB1 0 ld_9 rfl rfl rfl) (gy 72 rfl rfl) rfl <| wl_v 8 rfl (v_move rfl) (gy 72 rfl rfl) rfl ?_
          obtain ⟨hb124, h⟩ := h
          refine wl_v 9 rfl (v_indexS un_9 rfl rfl hb124) (gy 72 rfl rfl) rfl <| wl_v 10 rfl (v_bin rfl rfl rfl) (gy 72 rfl rfl) rfl <| wl_v 11 rfl (v_pick (b := false) rfl rfl) gn rfl <| w_end 12 rfl ?_
          by_cases hp125 : bt x1.text (w64 (x105 + 1)) = 10
          ·have h := if_pos' hp125 h
           refine g_true rfl _ rfl ((eqi hp125)) <| g_seq rfl <| g_region rfl rfl <| wl_v 0 rfl (v_assign rfl) gn rfl <| w_end 1 rfl ?_
           have h := Out.inr hO1 h
           refine g_retR [.bool false] rfl Tryd.func78 rfl (.tmp rfl (.nil)) fun wr hLr => ?_
           have hMr := hLr.pk0 (.c 1 rfl .n)
           show words_sound_R w F  r (.returned (packV [.bool false])) wr
           rw [h]
           exact ⟨rfl, hMr⟩
          ·have h := if_neg' hp125 h
           refine g_false rfl _ rfl ((nei hp125)) <| g_skip rfl <| g_inBlock <| g_inBlock <| g_region rfl rfl <| wl_v 0 rfl (v_move rfl) gn rfl <| wl_v 1 rfl (v_bin rfl rfl rfl) gn rfl <| wl_v 2 rfl (v_assign rfl) gn rfl <| w_end 3 rfl <| g_inLoop ?_
           have ih := Out.inl hO1 h
           exact g_go [0, 1] (ih ()) ⟨rfl, rfl, trivial⟩ (.cons_cons _ (.slnil)) rfl
        ·have h := if_neg' hp122 h
         refine g_false rfl _ rfl ((nei hp122)) <| g_skip rfl <| g_inBlock <| g_inBlock <| g_region rfl rfl <| wl_v 0 rfl (v_move rfl) gn rfl <| wl_v 1 rfl (v_bin rfl rfl rfl) gn rfl <| wl_v 2 rfl (v_assign rfl) gn rfl <| w_end 3 rfl <| g_inLoop ?_
         have ih := Out.inl hO1 h
         exact g_go [0, 1] (ih ()) ⟨rfl, rfl, trivial⟩ (.cons_cons _ (.slnil)) rfl
      by_cases hp118 : bt x1.text x105 = 47
      ·have h := if_pos' hp118 h
       refine g_true rfl _ rfl ((eqi hp118)) <| g_skip rfl ?_
       exact g_go [0, 1] (j4 ((bt x1.text x105) == 47) h) ⟨rfl, rfl, rfl, rfl, trivial⟩ (.cons_cons _ (.slnil)) rfl
      ·have h := if_neg' hp118 h
       refine g_false rfl _ rfl ((nei hp118)) <| g_region rfl rfl <| wl_v 0 rfl (v_bin rfl rfl rfl) gn rfl <| wl_v 1 rfl (v_assign rfl) gn rfl <| w_end 2 rfl ?_
       exact g_go [0, 1] (j4 ((bt x1.text x105) == 10) h) ⟨rfl, rfl, rfl, rfl, trivial⟩ (.cons_cons _ (.slnil)) rfl
     ·have h := if_neg' hp116 h
      refine g_false rfl _ rfl ((decide_eq_false hp116)) <| g_exit [.code q78c54, .inBlock 0, .code q78c4] rfl rfl <| g_seq rfl <| g_region rfl rfl <| wl_v 0 rfl (v_assign rfl) gn rfl <| w_end 1 rfl ?_
      have h := Out.inr hO1 h
      refine g_retR [.bool true] rfl Tryd.func78 rfl (.tmp rfl (.nil)) fun wr hLr => ?_
      have hMr := hLr.pk0 (.c 1 rfl .n)
      show words_sound_R w F  r (.returned (packV [.bool true])) wr
      rw [h]
      exact ⟨rfl, hMr⟩
    exact g_go [0, 1] (key3 _ h ()) ⟨rfl, rfl, trivial⟩ (.cons_cons _ (.slnil)) rfl
   ·have h := if_neg' hp93 h
    refine g_false rfl _ rfl ((nei hp93)) <| g_seq rfl <| g_region rfl rfl <| wl_v 0 rfl (v_bin rfl rfl rfl) gn rfl <| wl_v 1 rfl (v_assign rfl) gn rfl <| w_end 2 rfl ?_
    by_cases hp126 : x1.kind = 4
    ·have h := if_pos' hp126 h
     refine g_true rfl _ rfl ((eqi hp126)) <| g_seq rfl <| g_region rfl rfl <| wl_v 0 rfl (v_fldB fo_84_2 rfl) gn rfl <| wl_v 1 rfl (v_ldB1 0 ld_3 rfl rfl rfl) gn rfl <| wl_v 2 rfl (v_bin rfl rfl rfl) gn rfl <| wl_v 3 rfl (v_move rfl) gn rfl ?_
     by_cases hp127 : x1.n ≥ 0
     ·have h := if_pos' hp127 h
      refine w_bool 84 rfl ((decide_eq_true hp127)) <| wl_v 4 rfl (v_fldB fo_84_2 rfl) (gy 84 rfl rfl) rfl <| wl_v 5 rfl (v_ldB1 0 ld_3 rfl rfl rfl) (gy 84 rfl rfl) rfl <| wl_v 6 rfl (v_bin rfl rfl rfl) (gy 84 rfl rfl) rfl <| wl_v 7 rfl (v_pick (b := true) rfl rfl) gn rfl <| wl_v 8 rfl (v_assign rfl) gn rfl <| w_end 9 rfl ?_
      refine g_retR [.bool (decide (x1.n ≤ 65535))] rfl Tryd.func78 rfl (.tmp rfl (.nil)) fun wr hLr => ?_
      have hMr := hLr.pk0 (.c 1 rfl .n)
      show words_sound_R w F  r (.returned (packV [.bool (decide (x1.n ≤ 65535))])) wr
      rw [h]
      exact ⟨rfl, hMr⟩
     ·have h := if_neg' hp127 h
      refine w_bool 84 rfl ((decide_eq_false hp127)) <| wl_pass 4 rfl (ps 84 rfl rfl rfl) <| wl_pass 5 rfl (ps 84 rfl rfl rfl) <| wl_pass 6 rfl (ps 84 rfl rfl rfl) <| wl_v 7 rfl (v_pick (b := false) rfl rfl) gn rfl <| wl_v 8 rfl (v_assign rfl) gn rfl <| w_end 9 rfl ?_
      refine g_retR [.bool false] rfl Tryd.func78 rfl (.tmp rfl (.nil)) fun wr hLr => ?_
      have hMr := hLr.pk0 (.c 1 rfl .n)
      show words_sound_R w F  r (.returned (packV [.bool false])) wr
      rw [h]
      exact ⟨rfl, hMr⟩
    ·have h := if_neg' hp126 h
     refine g_false rfl _ rfl ((nei hp126)) <| g_seq rfl <| g_region rfl rfl <| wl_v 0 rfl (v_bin rfl rfl rfl) gn rfl <| wl_v 1 rfl (v_assign rfl) gn rfl <| w_end 2 rfl ?_
     by_cases hp128 : x1.kind = 5
     ·have h := if_pos' hp128 h
      refine g_true rfl _ rfl ((eqi hp128)) <| g_seq rfl <| g_region rfl rfl <| wl_v 0 rfl (v_fldB fo_84_1 rfl) gn rfl <| wl_v 1 rfl (v_ldB1 0 ld_9 rfl rfl rfl) gn rfl <| wl_v 2 rfl (v_lenS un_9 rfl) gn rfl <| wl_v 3 rfl (v_bin rfl rfl rfl) gn rfl <| wl_v 4 rfl (v_move rfl) gn rfl ?_
      by_cases hp129 : (x1.text.size : Int) = 1
      ·have h := if_pos' hp129 h
       refine w_bool 95 rfl ((eqi hp129)) <| wl_v 5 rfl (v_fldB fo_84_1 rfl) (gy 95 rfl rfl) rfl <| wl_v 6 rfl (v_ldB1 0 ld_9 rfl rfl rfl) (gy 95 rfl rfl) rfl ?_
       obtain ⟨r133, hv134, h⟩ := h
       refine wl_s 7 rfl (s_call [.string (⟨#[123, 125, 40, 41, 124, 42, 43, 63, 58, 59, 44, 61, 64]⟩ : ByteArray), .string x1.text] rfl Tryd.func100 rfl rfl rfl fun w130 hL131 => ?_) (gy 95 rfl rfl)
       have hp132 := pmI hL131 .n (.c 0 rfl .n) (by kernel_rfl)
       refine Calls.mono (strings_Contains_calls w130 (Fl ([] : List Snap)) (⟨#[123, 125, 40, 41, 124, 42, 43, 63, 58, 59, 44, 61, 64]⟩ : ByteArray) x1.text (hL131.hFl hp132 (sels [] rfl)) (hL131.into hp132 _) r133 hv134) ?_
       rintro _ w135 ⟨rfl, hM136⟩
       have hL137 := hL131.call hp132 hM136
       refine ⟨_, _, _, rfl, hL137, ?_⟩
       refine wl_v 8 rfl (v_pick (b := true) rfl rfl) gn rfl <| wl_v 9 rfl (v_assign rfl) gn rfl <| w_end 10 rfl ?_
       refine g_retR [.bool r133] rfl Tryd.func78 rfl (.tmp rfl (.nil)) fun wr hLr => ?_
       have hMr := hLr.pk0 (.c 1 rfl .n)
       show words_sound_R w F  r (.returned (packV [.bool r133])) wr
       rw [h]
       exact ⟨rfl, hMr⟩
      ·have h := if_neg' hp129 h
       refine w_bool 95 rfl ((nei hp129)) <| wl_pass 5 rfl (ps 95 rfl rfl rfl) <| wl_pass 6 rfl (ps 95 rfl rfl rfl) <| wl_pass 7 rfl (ps 95 rfl rfl rfl) <| wl_v 8 rfl (v_pick (b := false) rfl rfl) gn rfl <| wl_v 9 rfl (v_assign rfl) gn rfl <| w_end 10 rfl ?_
       refine g_retR [.bool false] rfl Tryd.func78 rfl (.tmp rfl (.nil)) fun wr hLr => ?_
       have hMr := hLr.pk0 (.c 1 rfl .n)
       show words_sound_R w F  r (.returned (packV [.bool false])) wr
       rw [h]
       exact ⟨rfl, hMr⟩
     ·have h := if_neg' hp128 h
      refine g_false rfl _ rfl ((nei hp128)) <| g_skip rfl <| g_inBlock <| g_seq rfl <| g_region rfl rfl <| wl_v 0 rfl (v_assign rfl) gn rfl <| w_end 1 rfl ?_
      refine g_retR [.bool false] rfl Tryd.func78 rfl (.tmp rfl (.nil)) fun wr hLr => ?_
      have hMr := hLr.pk0 (.c 1 rfl .n)
      show words_sound_R w F  r (.returned (packV [.bool false])) wr
      rw [h]
      exact ⟨rfl, hMr⟩
noncomputable abbrev q101c6 := Code.snd (Code.snd (Code.snd (bodyOf Tryd.f101)))
noncomputable abbrev q101c10 := Code.fst (Code.fst (Code.snd (Code.fst (Code.snd (Code.snd (bodyOf Tryd.f101))))))
noncomputable abbrev q101c18 := Code.snd (Code.snd q101c10)
noncomputable abbrev q101c24 := Code.snd (Code.fst (Code.snd (Code.fst (Code.fst (Code.snd q101c10)))))
noncomputable abbrev q101c40 := Code.snd (Code.snd (Code.snd (Code.snd (Code.snd (Code.snd (Code.snd (Code.snd q101c24)))))))
noncomputable abbrev q101c41 := Code.fst q101c40
abbrev words_quote_R (w : World) (F : Nat → Prop) (r : ByteArray) : Ending → World → Prop := fun e w' => e = .returned (.string r) ∧ B.Loc w w' [] [St w []]
noncomputable abbrev words_quote_C (w : World) (F : Nat → Prop) (r : ByteArray) : Cx := ⟨Tryd.prog, 101, Tryd.f101, 69, words_quote_R w F  r, w⟩
theorem words_quote_calls (w : World) (F : Nat → Prop) (x1 : ByteArray) (hF : ∀ b, F b → b < w.heap.size ∧ ∀ o ∈ ([] : List (List Nat)), b ∉ o) (hL0 : B.Loc w w [] [Sm w.heap.size F w [], St w []]) (r : ByteArray) (h : words_quote x1 r) : Calls Tryd.prog 101 #[.string x1] w (words_quote_R w F  r) := by
 unfold words_quote at h
 refine calls_of_Loc (vs := [.string x1]) 69 Tryd.func101 rfl Tryd.ntmps101 rfl hL0 ?_
 show G (words_quote_C w F r) _ _ _ _
 refine g_seq rfl <| g_region rfl rfl <| wl_v 0 rfl (v_assign rfl) gn rfl <| w_end 1 rfl <| g_seq rfl <| g_region rfl rfl ?_
 refine wl_s 0 rfl (s_litO (xs := ([34] : List Int)) [.int .u8 34] bs_108_1 rfl (by kernel_rfl) rfl rfl rfl rfl fun gb3 h4 => ?_) gn
 refine wl_v 1 rfl (v_assign rfl) gn rfl <| w_end 2 rfl <| g_seq rfl <| g_seq rfl <| g_region rfl rfl <| wl_v 0 rfl (v_assign rfl) gn rfl <| w_end 1 rfl <| g_block rfl <| g_loop rfl ?_
 have key1 : ∀ s, Rounds (fun (s : (List Int) × Int) o => words_quote_b1 x1 s.1 s.2 o) s r → (fun (s : (List Int) × Int) => ∀ (A101 : Option Addr) (n102 : Nat) (c103 : Nat) (h104 : Ow w.heap.size A101 n102 c103 s.1), G (words_quote_C w F r) [.code q101c10, .inLoop q101c10, .inBlock 0, .code q101c6] [(0, .string x1), (3, .slice A101 n102 c103), (4, .int .i64 s.2)] [.own (.slice A101 n102 c103) 5 1 n102 (s.1.flatMap (eI .u8))] [Sm w.heap.size F w [], St w []]) s := by
  intro s hs
  refine Rounds.ind (mot := (fun (s : (List Int) × Int) => ∀ (A101 : Option Addr) (n102 : Nat) (c103 : Nat) (h104 : Ow w.heap.size A101 n102 c103 s.1), G (words_quote_C w F r) [.code q101c10, .inLoop q101c10, .inBlock 0, .code q101c6] [(0, .string x1), (3, .slice A101 n102 c103), (4, .int .i64 s.2)] [.own (.slice A101 n102 c103) 5 1 n102 (s.1.flatMap (eI .u8))] [Sm w.heap.size F w [], St w []])) ?_ hs
  clear hs s
  intro s o1 h hO1
  obtain ⟨x100, x105⟩ := s
  show ∀ (A101 : Option Addr) (n102 : Nat) (c103 : Nat) (h104 : Ow w.heap.size A101 n102 c103 x100), G (words_quote_C w F r) [.code q101c10, .inLoop q101c10, .inBlock 0, .code q101c6] [(0, .string x1), (3, .slice A101 n102 c103), (4, .int .i64 x105)] [.own (.slice A101 n102 c103) 5 1 n102 (x100.flatMap (eI .u8))] [Sm w.heap.size F w [], St w []]
  intro A101 n102 c103 h104
  have h : words_quote_b1 x1 x100 x105 o1 := h
  unfold words_quote_b1 at h
  refine g_seq rfl <| g_seq rfl <| g_region rfl rfl <| wl_v 0 rfl (v_move rfl) gn rfl <| wl_v 1 rfl (v_move rfl) gn rfl <| wl_v 2 rfl (v_lenS un_9 rfl) gn rfl <| wl_v 3 rfl (v_bin rfl rfl rfl) gn rfl <| w_end 4 rfl ?_
  by_cases hp200 : x105 < (x1.size : Int)
  ·have h := if_pos' hp200 h
   refine g_true rfl _ rfl ((decide_eq_true hp200)) <| g_skip rfl <| g_seq rfl <| g_block rfl <| g_seq rfl <| g_region rfl rfl <| wl_v 0 rfl (v_move rfl) gn rfl <| wl_v 1 rfl (v_move rfl) gn rfl ?_
   obtain ⟨hb201, h⟩ := h
   refine wl_v 2 rfl (v_indexS un_9 rfl rfl hb201) gn rfl <| wl_v 3 rfl (v_assign rfl) gn rfl <| w_end 4 rfl <| g_block rfl <| g_seq rfl ?_
   have j2 : ∀ (x204 : Bool) (h : words_quote_j2 x100 x1 x105 x204 o1) , G (words_quote_C w F r) [.code q101c24, .inBlock 2, .inBlock 1, .code q101c18, .inLoop q101c10, .inBlock 0, .code q101c6] [(0, .string x1), (3, .slice A101 n102 c103), (4, .int .i64 x105), (5, .int .u8 (bt x1 x105)), (20, .bool x204)] [.own (.slice A101 n102 c103) 5 1 n102 (x100.flatMap (eI .u8))] [Sm w.heap.size F w [], St w []] := by
    intro x204 h
    unfold words_quote_j2 at h
    by_cases hp205 : x204 = true
    ·have h := if_pos' hp205 h
     refine g_true rfl _ rfl (hp205) <| g_region rfl rfl <| wl_v 0 rfl (v_move rfl) gn rfl <| wl_v 1 rfl (v_move rfl) gn rfl ?_
     refine wl_s 2 rfl (s_litO (xs := ([92, bt x1 x105] : List Int)) [.int .u8 92, .int .u8 (bt x1 x105)] bs_108_2 rfl (by kernel_rfl) rfl rfl rfl rfl fun gb207 h208 => ?_) gn
     obtain ⟨x212, hv213, h⟩ := h
     obtain ⟨hb214, h⟩ := h
     refine wl_s 3 rfl (s_app (zs := x212) (cells' := x212.flatMap (eI .u8)) 1 ap_108 rfl rfl rfl h104 (Nat.le_refl _) (Src.ownF (hl := (hlI .u8)) (h1 := (hone_int .u8)) 0 rfl h208) (by rw [hv213, List.flatMap_append] <;> rfl) (app_len hv213 h208.hq) hb214 rfl rfl fun A209 c210 h211 => ?_) gn
     refine wl_v 4 rfl (v_assign rfl) gn rfl <| w_end 5 rfl <| g_inBlock <| g_inBlock <| g_region rfl rfl <| wl_v 0 rfl (v_move rfl) gn rfl <| wl_v 1 rfl (v_bin rfl rfl rfl) gn rfl <| wl_v 2 rfl (v_assign rfl) gn rfl <| w_end 3 rfl <| g_inLoop ?_
     have ih := Out.inl hO1 h
     exact g_go [0, 1] (ih A209 (n102 + 2) c210 h211) ⟨rfl, rfl, rfl, trivial⟩ (.cons _ (.cons_cons _ (.slnil))) rfl
    ·have h := if_neg' hp205 h
     refine g_false rfl _ rfl ((bf hp205)) <| g_seq rfl <| g_region rfl rfl <| wl_v 0 rfl (v_move rfl) gn rfl <| wl_v 1 rfl (v_bin rfl rfl rfl) gn rfl <| wl_v 2 rfl (v_assign rfl) gn rfl <| w_end 3 rfl ?_
     by_cases hp215 : bt x1 x105 = 10
     ·have h := if_pos' hp215 h
      refine g_true rfl _ rfl ((eqi hp215)) <| g_region rfl rfl <| wl_v 0 rfl (v_move rfl) gn rfl ?_
      refine wl_s 1 rfl (s_litO (xs := ([92, 110] : List Int)) [.int .u8 92, .int .u8 110] bs_108_2 rfl (by kernel_rfl) rfl rfl rfl rfl fun gb217 h218 => ?_) gn
      obtain ⟨x222, hv223, h⟩ := h
      obtain ⟨hb224, h⟩ := h
      refine wl_s 2 rfl (s_app (zs := x222) (cells' := x222.flatMap (eI .u8)) 1 ap_108 rfl rfl rfl h104 (Nat.le_refl _) (Src.ownF (hl := (hlI .u8)) (h1 := (hone_int .u8)) 0 rfl h218) (by rw [hv223, List.flatMap_append] <;> rfl) (app_len hv223 h218.hq) hb224 rfl rfl fun A219 c220 h221 => ?_) gn
      refine wl_v 3 rfl (v_assign rfl) gn rfl <| w_end 4 rfl <| g_inBlock <| g_inBlock <| g_region rfl rfl <| wl_v 0 rfl (v_move rfl) gn rfl <| wl_v 1 rfl (v_bin rfl rfl rfl) gn rfl <| wl_v 2 rfl (v_assign rfl) gn rfl <| w_end 3 rfl <| g_inLoop ?_
      have ih := Out.inl hO1 h
      exact g_go [0, 1] (ih A219 (n102 + 2) c220 h221) ⟨rfl, rfl, rfl, trivial⟩ (.cons _ (.cons_cons _ (.slnil))) rfl
     ·have h := if_neg' hp215 h
      refine g_false rfl _ rfl ((nei hp215)) <| g_seq rfl <| g_region rfl rfl <| wl_v 0 rfl (v_move rfl) gn rfl <| wl_v 1 rfl (v_bin rfl rfl rfl) gn rfl <| wl_v 2 rfl (v_assign rfl) gn rfl <| w_end 3 rfl ?_
      by_cases hp225 : bt x1 x105 = 9
      ·have h := if_pos' hp225 h
       refine g_true rfl _ rfl ((eqi hp225)) <| g_region rfl rfl <| wl_v 0 rfl (v_move rfl) gn rfl ?_
       refine wl_s 1 rfl (s_litO (xs := ([92, 116] : List Int)) [.int .u8 92, .int .u8 116] bs_108_2 rfl (by kernel_rfl) rfl rfl rfl rfl fun gb227 h228 => ?_) gn
       obtain ⟨x232, hv233, h⟩ := h
       obtain ⟨hb234, h⟩ := h
       refine wl_s 2 rfl (s_app (zs := x232) (cells' := x232.flatMap (eI .u8)) 1 ap_108 rfl rfl rfl h104 (Nat.le_refl _) (Src.ownF (hl := (hlI .u8)) (h1 := (hone_int .u8)) 0 rfl h228) (by rw [hv233, List.flatMap_append] <;> rfl) (app_len hv233 h228.hq) hb234 rfl rfl fun A229 c230 h231 => ?_) gn
       refine wl_v 3 rfl (v_assign rfl) gn rfl <| w_end 4 rfl <| g_inBlock <| g_inBlock <| g_region rfl rfl <| wl_v 0 rfl (v_move rfl) gn rfl <| wl_v 1 rfl (v_bin rfl rfl rfl) gn rfl <| wl_v 2 rfl (v_assign rfl) gn rfl <| w_end 3 rfl <| g_inLoop ?_
       have ih := Out.inl hO1 h
       exact g_go [0, 1] (ih A229 (n102 + 2) c230 h231) ⟨rfl, rfl, rfl, trivial⟩ (.cons _ (.cons_cons _ (.slnil))) rfl
      ·have h := if_neg' hp225 h
       refine g_false rfl _ rfl ((nei hp225)) <| g_seq rfl <| g_region rfl rfl <| wl_v 0 rfl (v_move rfl) gn rfl <| wl_v 1 rfl (v_bin rfl rfl rfl) gn rfl <| wl_v 2 rfl (v_assign rfl) gn rfl <| w_end 3 rfl ?_
       by_cases hp235 : bt x1 x105 = 13
       ·have h := if_pos' hp235 h
        refine g_true rfl _ rfl ((eqi hp235)) <| g_region rfl rfl <| wl_v 0 rfl (v_move rfl) gn rfl ?_
        refine wl_s 1 rfl (s_litO (xs := ([92, 114] : List Int)) [.int .u8 92, .int .u8 114] bs_108_2 rfl (by kernel_rfl) rfl rfl rfl rfl fun gb237 h238 => ?_) gn
        obtain ⟨x242, hv243, h⟩ := h
        obtain ⟨hb244, h⟩ := h
        refine wl_s 2 rfl (s_app (zs := x242) (cells' := x242.flatMap (eI .u8)) 1 ap_108 rfl rfl rfl h104 (Nat.le_refl _) (Src.ownF (hl := (hlI .u8)) (h1 := (hone_int .u8)) 0 rfl h238) (by rw [hv243, List.flatMap_append] <;> rfl) (app_len hv243 h238.hq) hb244 rfl rfl fun A239 c240 h241 => ?_) gn
        refine wl_v 3 rfl (v_assign rfl) gn rfl <| w_end 4 rfl <| g_inBlock <| g_inBlock <| g_region rfl rfl <| wl_v 0 rfl (v_move rfl) gn rfl <| wl_v 1 rfl (v_bin rfl rfl rfl) gn rfl <| wl_v 2 rfl (v_assign rfl) gn rfl <| w_end 3 rfl <| g_inLoop ?_
        have ih := Out.inl hO1 h
        exact g_go [0, 1] (ih A239 (n102 + 2) c240 h241) ⟨rfl, rfl, rfl, trivial⟩ (.cons _ (.cons_cons _ (.slnil))) rfl
       ·have h := if_neg' hp235 h
        refine g_false rfl _ rfl ((nei hp235)) <| g_seq rfl ?_
        have j3 : ∀ (x247 : Bool) (h : words_quote_j3 x1 x105 x100 x247 o1) , G (words_quote_C w F r) [.code q101c40, .inBlock 2, .inBlock 1, .code q101c18, .inLoop q101c10, .inBlock 0, .code q101c6] [(0, .string x1), (3, .slice A101 n102 c103), (4, .int .i64 x105), (5, .int .u8 (bt x1 x105)), (49, .bool x247)] [.own (.slice A101 n102 c103) 5 1 n102 (x100.flatMap (eI .u8))] [Sm w.heap.size F w [], St w []] := by
         intro x247 h
         unfold words_quote_j3 at h
         by_cases hp248 : x247 = true
         ·have h := if_pos' hp248 h
          refine g_true rfl _ rfl (hp248) ?_
          obtain ⟨hb249, h⟩ := h
          obtain ⟨hb250, h⟩ := h
          obtain ⟨x257, hv258, h⟩ := h
          obtain ⟨hb259, h⟩ := h
          have hns : Region.noSelect (Code.ops q101c41) = true := by kernel_rfl
          refine g_drawG [8, 9] 10 rfl rfl mix rfl (.c 0 rfl (.c 1 rfl .n)) <| wfv 0 rfl (v_move rfl) gn hns (by kernel_rfl) <| wfv 1 rfl (v_move rfl) gn hns (by kernel_rfl) <| wfv 2 rfl (v_quo rfl rfl (by decide)) gn hns (by kernel_rfl) <| wfv 3 rfl (v_indexS un_9 rfl rfl hb249) gn hns (by kernel_rfl) <| wfv 4 rfl (v_move rfl) gn hns (by kernel_rfl) <| wfv 5 rfl (v_rem rfl rfl (by decide)) gn hns (by kernel_rfl) <| wfv 6 rfl (v_indexS un_9 rfl rfl hb250) gn hns (by kernel_rfl) ?_
          refine wf_all [7] (by kernel_rfl) rfl ⟨on_s 7 rfl gn rfl (s_litO (xs := ([92, 120, bt (⟨#[48, 49, 50, 51, 52, 53, 54, 55, 56, 57, 97, 98, 99, 100, 101, 102]⟩ : ByteArray) (IntKind.u8.wrap (Int.tdiv (bt x1 x105) 16)), bt (⟨#[48, 49, 50, 51, 52, 53, 54, 55, 56, 57, 97, 98, 99, 100, 101, 102]⟩ : ByteArray) (Int.tmod (bt x1 x105) 16)] : List Int)) [.int .u8 92, .int .u8 120, .int .u8 (bt (⟨#[48, 49, 50, 51, 52, 53, 54, 55, 56, 57, 97, 98, 99, 100, 101, 102]⟩ : ByteArray) (IntKind.u8.wrap (Int.tdiv (bt x1 x105) 16))), .int .u8 (bt (⟨#[48, 49, 50, 51, 52, 53, 54, 55, 56, 57, 97, 98, 99, 100, 101, 102]⟩ : ByteArray) (Int.tmod (bt x1 x105) 16))] bs_108_4 rfl (by kernel_rfl) rfl rfl rfl rfl fun gb269 h270 => ?_), trivial⟩
          refine ⟨sels [1] rfl, sels [0, 1] rfl, ?_⟩
          refine wf_all [8] (by kernel_rfl) rfl ⟨on_l 8 rfl gn rfl (s_app (zs := x257) (cells' := x257.flatMap (eI .u8)) 1 ap_108 rfl rfl rfl h104 (Nat.le_refl _) (Src.ownF (hl := (hlI .u8)) (h1 := (hone_int .u8)) 0 rfl h270) (by rw [hv258, List.flatMap_append] <;> rfl) (app_len hv258 h270.hq) hb259 rfl rfl fun A271 c272 h273 => ?_), trivial⟩
          unfold NxL
          refine wf_all [9] (by kernel_rfl) rfl ⟨on_l 9 rfl gn rfl (s_val (v_assign rfl) rfl ?_), trivial⟩
          unfold NxL
          refine wf_end (by kernel_rfl) <| g_inBlock <| g_inBlock <| g_region rfl rfl <| wl_v 0 rfl (v_move rfl) gn rfl <| wl_v 1 rfl (v_bin rfl rfl rfl) gn rfl <| wl_v 2 rfl (v_assign rfl) gn rfl <| w_end 3 rfl <| g_inLoop ?_
          have ih := Out.inl hO1 h
          exact g_go [0, 1] (ih A271 (n102 + 4) c272 h273) ⟨rfl, rfl, rfl, trivial⟩ (.cons _ (.cons_cons _ (.slnil))) rfl
         ·have h := if_neg' hp248 h
          refine g_false rfl _ rfl ((bf hp248)) <| g_region rfl rfl <| wl_v 0 rfl (v_move rfl) gn rfl <| wl_v 1 rfl (v_move rfl) gn rfl ?_
          refine wl_s 2 rfl (s_litO (xs := ([bt x1 x105] : List Int)) [.int .u8 (bt x1 x105)] bs_108_1 rfl (by kernel_rfl) rfl rfl rfl rfl fun gb275 h276 => ?_) gn
          obtain ⟨x280, hv281, h⟩ := h
          obtain ⟨hb282, h⟩ := h
          refine wl_s 3 rfl (s_app (zs := x280) (cells' := x280.flatMap (eI .u8)) 1 ap_108 rfl rfl rfl h104 (Nat.le_refl _) (Src.ownF (hl := (hlI .u8)) (h1 := (hone_int .u8)) 0 rfl h276) (by rw [hv281, List.flatMap_append] <;> rfl) (app_len hv281 h276.hq) hb282 rfl rfl fun A277 c278 h279 => ?_) gn
          refine wl_v 4 rfl (v_assign rfl) gn rfl <| w_end 5 rfl <| g_inBlock <| g_inBlock <| g_region rfl rfl <| wl_v 0 rfl (v_move rfl) gn rfl <| wl_v 1 rfl (v_bin rfl rfl rfl) gn rfl <| wl_v 2 rfl (v_assign rfl) gn rfl <| w_end 3 rfl <| g_inLoop ?_
          have ih := Out.inl hO1 h
          exact g_go [0, 1] (ih A277 (n102 + 1) c278 h279) ⟨rfl, rfl, rfl, trivial⟩ (.cons _ (.cons_cons _ (.slnil))) rfl
        refine g_region rfl rfl <| wl_v 0 rfl (v_move rfl) gn rfl <| wl_v 1 rfl (v_bin rfl rfl rfl) gn rfl <| wl_v 2 rfl (v_move rfl) gn rfl ?_
        by_cases hp283 : bt x1 x105 < 32
        ·have h := if_pos' hp283 h
         refine w_bool 52 rfl ((decide_eq_true hp283)) <| wl_pass 3 rfl (ps 52 rfl rfl rfl) <| wl_pass 4 rfl (ps 52 rfl rfl rfl) <| wl_v 5 rfl (v_pick (b := true) rfl rfl) gn rfl <| wl_v 6 rfl (v_assign rfl) gn rfl <| w_end 7 rfl ?_
         exact g_go [0, 1] (j3 true h) ⟨rfl, rfl, rfl, rfl, rfl, trivial⟩ (.cons_cons _ (.slnil)) rfl
        ·have h := if_neg' hp283 h
         refine w_bool 52 rfl ((decide_eq_false hp283)) <| wl_v 3 rfl (v_move rfl) (gy 52 rfl rfl) rfl <| wl_v 4 rfl (v_bin rfl rfl rfl) (gy 52 rfl rfl) rfl <| wl_v 5 rfl (v_pick (b := false) rfl rfl) gn rfl <| wl_v 6 rfl (v_assign rfl) gn rfl <| w_end 7 rfl ?_
         exact g_go [0, 1] (j3 (decide (bt x1 x105 > 126)) h) ⟨rfl, rfl, rfl, rfl, rfl, trivial⟩ (.cons_cons _ (.slnil)) rfl
   refine g_region rfl rfl <| wl_v 0 rfl (v_move rfl) gn rfl <| wl_v 1 rfl (v_bin rfl rfl rfl) gn rfl <| wl_v 2 rfl (v_move rfl) gn rfl ?_
   by_cases hp284 : bt x1 x105 = 34
   ·have h := if_pos' hp284 h
    refine w_bool 23 rfl ((eqi hp284)) <| wl_pass 3 rfl (ps 23 rfl rfl rfl) <| wl_pass 4 rfl (ps 23 rfl rfl rfl) <| wl_v 5 rfl (v_pick (b := true) rfl rfl) gn rfl <| wl_v 6 rfl (v_assign rfl) gn rfl <| w_end 7 rfl ?_
    exact g_go [0, 1] (j2 true h) ⟨rfl, rfl, rfl, rfl, rfl, trivial⟩ (.cons_cons _ (.slnil)) rfl
   ·have h := if_neg' hp284 h
    refine w_bool 23 rfl ((nei hp284)) <| wl_v 3 rfl (v_move rfl) (gy 23 rfl rfl) rfl <| wl_v 4 rfl (v_bin rfl rfl rfl) (gy 23 rfl rfl) rfl <| wl_v 5 rfl (v_pick (b := false) rfl rfl) gn rfl <| wl_v 6 rfl (v_assign rfl) gn rfl <| w_end 7 rfl ?_
    exact g_go [0, 1] (j2 ((bt x1 x105) == 92) h) ⟨rfl, rfl, rfl, rfl, rfl, trivial⟩ (.cons_cons _ (.slnil)) rfl
  ·have h := if_neg' hp200 h
   refine g_false rfl _ rfl ((decide_eq_false hp200)) <| g_exit [.code q101c6] rfl rfl <| g_seq rfl <| g_region rfl rfl <| wl_v 0 rfl (v_move rfl) gn rfl ?_
   refine wl_s 1 rfl (s_litO (xs := ([34] : List Int)) [.int .u8 34] bs_108_1 rfl (by kernel_rfl) rfl rfl rfl rfl fun gb286 h287 => ?_) gn
   obtain ⟨x291, hv292, h⟩ := h
   obtain ⟨hb293, h⟩ := h
   refine wl_s 2 rfl (s_app (zs := x291) (cells' := x291.flatMap (eI .u8)) 1 ap_108 rfl rfl rfl h104 (Nat.le_refl _) (Src.ownF (hl := (hlI .u8)) (h1 := (hone_int .u8)) 0 rfl h287) (by rw [hv292, List.flatMap_append] <;> rfl) (app_len hv292 h287.hq) hb293 rfl rfl fun A288 c289 h290 => ?_) gn
   refine wl_v 3 rfl (v_b2s u8_108 un_9 rfl (Src.ownF (hl := (hlI .u8)) (h1 := (hone_int .u8)) 1 rfl h290) h290.hq) gn rfl <| wl_v 4 rfl (v_assign rfl) gn rfl <| w_end 5 rfl ?_
   have h := Out.inr hO1 h
   refine g_retR [.string (ofBs x291)] rfl Tryd.func101 rfl (.tmp rfl (.nil)) fun wr hLr => ?_
   have hMr := hLr.pk0 (.c 1 rfl .n)
   show words_quote_R w F  r (.returned (packV [.string (ofBs x291)])) wr
   rw [h]
   exact ⟨rfl, hMr⟩
 exact g_go [0, 1] (key1 _ h (some ⟨gb3, 0, none⟩) 1 1 h4) ⟨rfl, rfl, rfl, trivial⟩ (.cons_cons _ (.slnil)) rfl
abbrev strconv_Itoa_R (w : World) (F : Nat → Prop) (r : ByteArray) : Ending → World → Prop := fun e w' => e = .returned (.string r) ∧ B.Loc w w' [] [St w []]
theorem strconv_Itoa_calls (w : World) (F : Nat → Prop) (x1 : Int) (hG : Tb Tryd.prog (St w [])) (hF : ∀ b, F b → b < w.heap.size ∧ ∀ o ∈ ([] : List (List Nat)), b ∉ o) (hL0 : B.Loc w w [] [Sm w.heap.size F w [], St w []]) (r : ByteArray) (h : strconv_Itoa x1 r) : Calls Tryd.prog 99 #[.int .i64 x1] w (strconv_Itoa_R w F  r) := by
 unfold strconv_Itoa at h
 obtain ⟨h1, rfl⟩ := h
 refine Calls.mono (Tryd.strconv_Itoa x1 h1.1 h1.2 w hG.2) ?_
 rintro e w' ⟨rfl, k, os, rfl⟩
 exact ⟨rfl, Loc.of_below (Lib.below_grow _ _ (Nat.le_refl _) _ _)⟩
abbrev words_Spell_R (w : World) (F : Nat → Prop) (r : ByteArray) : Ending → World → Prop := fun e w' => e = .returned (.string r) ∧ B.Loc w w' [] [St w []]
noncomputable abbrev words_Spell_C (w : World) (F : Nat → Prop) (r : ByteArray) : Cx := ⟨Tryd.prog, 79, Tryd.f79, 26, words_Spell_R w F  r, w⟩
theorem words_Spell_calls (w : World) (F : Nat → Prop) (x1 : api_Word) (hG : Tb Tryd.prog (St w [])) (hF : ∀ b, F b → b < w.heap.size ∧ ∀ o ∈ ([] : List (List Nat)), b ∉ o) (hL0 : B.Loc w w [] [Sm w.heap.size F w [], St w []]) (r : ByteArray) (h : words_Spell x1 r) : Calls Tryd.prog 79 #[.agg #[.int .i64 x1.kind, .string x1.text, .int .i64 x1.n, .int .i64 x1.at_]] w (words_Spell_R w F  r) := by
 unfold words_Spell at h
 refine calls_of_Loc (vs := [.agg #[.int .i64 x1.kind, .string x1.text, .int .i64 x1.n, .int .i64 x1.at_]]) 26 Tryd.func79 rfl Tryd.ntmps79 rfl hL0 ?_
 show G (words_Spell_C w F r) _ _ _ _
 refine g_seq rfl <| g_region rfl rfl ?_
 refine wl_s 0 rfl (s_box [.int .i64 x1.kind, .string x1.text, .int .i64 x1.n, .int .i64 x1.at_] rfl rfl rfl fun gb2 => ?_) gn
 refine wl_v 1 rfl (v_assign rfl) gn rfl <| w_end 2 rfl <| g_seq rfl <| g_seq rfl <| g_region rfl rfl <| wl_v 0 rfl (v_ldB [.int .i64 x1.kind, .string x1.text, .int .i64 x1.n, .int .i64 x1.at_] 0 ld_84 rfl rfl rfl rfl) gn rfl ?_
 obtain ⟨r7, hv8, h⟩ := h
 refine wl_s 1 rfl (s_call [.agg #[.int .i64 x1.kind, .string x1.text, .int .i64 x1.n, .int .i64 x1.at_]] rfl Tryd.func78 rfl rfl rfl fun w4 hL5 => ?_) gn
 have hp6 := pmI hL5 .n (.c 0 rfl .n) (by kernel_rfl)
 refine Calls.mono (words_sound_calls w4 (Fl ([] : List Snap)) x1 (hL5.hFl hp6 (sels [] rfl)) (hL5.into hp6 _) r7 hv8) ?_
 rintro _ w9 ⟨rfl, hM10⟩
 have hL11 := hL5.call hp6 hM10
 refine ⟨_, _, _, rfl, hL11, ?_⟩
 refine wl_v 2 rfl (v_not rfl) gn rfl <| w_end 3 rfl ?_
 by_cases hp12 : r7 = true
 ·have h := if_pos' hp12 h
  refine g_false rfl _ rfl ((nf hp12)) <| g_skip rfl <| g_seq rfl <| g_seq rfl <| g_region rfl rfl <| wl_v 0 rfl (v_fldB fo_84_0 rfl) gn rfl <| wl_v 1 rfl (v_ldB1 0 ld_79 rfl rfl rfl) gn rfl <| w_end 2 rfl <| g_block rfl <| g_seq rfl <| g_region rfl rfl <| wl_v 0 rfl (v_bin rfl rfl rfl) gn rfl ?_
  refine wl_v 1 rfl (v_assign rfl) gn rfl <| w_end 2 rfl ?_
  by_cases hp13 : x1.kind = 2
  ·have h := if_pos' hp13 h
   refine g_true rfl _ rfl ((eqi hp13)) <| g_seq rfl <| g_region rfl rfl <| wl_v 0 rfl (v_fldB fo_84_1 rfl) gn rfl <| wl_v 1 rfl (v_ldB1 0 ld_9 rfl rfl rfl) gn rfl ?_
   obtain ⟨r17, hv18, h⟩ := h
   refine wl_s 2 rfl (s_call [.string x1.text] rfl Tryd.func101 rfl rfl rfl fun w14 hL15 => ?_) gn
   have hp16 := pmI hL15 .n (.c 0 rfl .n) (by kernel_rfl)
   refine Calls.mono (words_quote_calls w14 (Fl ([] : List Snap)) x1.text (hL15.hFl hp16 (sels [] rfl)) (hL15.into hp16 _) r17 hv18) ?_
   rintro _ w19 ⟨rfl, hM20⟩
   have hL21 := hL15.call hp16 hM20
   refine ⟨_, _, _, rfl, hL21, ?_⟩
   refine wl_v 3 rfl (v_assign rfl) gn rfl <| w_end 4 rfl ?_
   refine g_retR [.string r17] rfl Tryd.func79 rfl (.tmp rfl (.nil)) fun wr hLr => ?_
   have hMr := hLr.pk0 (.c 1 rfl .n)
   show words_Spell_R w F  r (.returned (packV [.string r17])) wr
   rw [h]
   exact ⟨rfl, hMr⟩
  ·have h := if_neg' hp13 h
   refine g_false rfl _ rfl ((nei hp13)) <| g_seq rfl <| g_region rfl rfl <| wl_v 0 rfl (v_bin rfl rfl rfl) gn rfl <| wl_v 1 rfl (v_assign rfl) gn rfl <| w_end 2 rfl ?_
   by_cases hp22 : x1.kind = 3
   ·have h := if_pos' hp22 h
    refine g_true rfl _ rfl ((eqi hp22)) <| g_seq rfl <| g_region rfl rfl <| wl_v 0 rfl (v_fldB fo_84_1 rfl) gn rfl <| wl_v 1 rfl (v_ldB1 0 ld_9 rfl rfl rfl) gn rfl ?_
    obtain ⟨hb23, h⟩ := h
    refine wl_v 2 rfl (v_catS rfl rfl hb23) gn rfl ?_
    obtain ⟨hb24, h⟩ := h
    refine wl_v 3 rfl (v_catS rfl rfl hb24) gn rfl <| wl_v 4 rfl (v_assign rfl) gn rfl <| w_end 5 rfl ?_
    refine g_retR [.string (((⟨#[47]⟩ : ByteArray) ++ x1.text) ++ (⟨#[47]⟩ : ByteArray))] rfl Tryd.func79 rfl (.tmp rfl (.nil)) fun wr hLr => ?_
    have hMr := hLr.pk0 (.c 1 rfl .n)
    show words_Spell_R w F  r (.returned (packV [.string (((⟨#[47]⟩ : ByteArray) ++ x1.text) ++ (⟨#[47]⟩ : ByteArray))])) wr
    rw [h]
    exact ⟨rfl, hMr⟩
   ·have h := if_neg' hp22 h
    refine g_false rfl _ rfl ((nei hp22)) <| g_seq rfl <| g_region rfl rfl <| wl_v 0 rfl (v_bin rfl rfl rfl) gn rfl <| wl_v 1 rfl (v_assign rfl) gn rfl <| w_end 2 rfl ?_
    by_cases hp25 : x1.kind = 4
    ·have h := if_pos' hp25 h
     refine g_true rfl _ rfl ((eqi hp25)) <| g_seq rfl <| g_region rfl rfl <| wl_v 0 rfl (v_fldB fo_84_2 rfl) gn rfl <| wl_v 1 rfl (v_ldB1 0 ld_3 rfl rfl rfl) gn rfl ?_
     obtain ⟨r29, hv30, h⟩ := h
     refine wl_s 2 rfl (s_call [.int .i64 x1.n] rfl Tryd.func99 rfl rfl rfl fun w26 hL27 => ?_) gn
     have hp28 := pmI hL27 .n (.c 0 rfl .n) (by kernel_rfl)
     refine Calls.mono (strconv_Itoa_calls w26 (Fl ([] : List Snap)) x1.n (hL27.tb hp28 hG (me 1 rfl)) (hL27.hFl hp28 (sels [] rfl)) (hL27.into hp28 _) r29 hv30) ?_
     rintro _ w31 ⟨rfl, hM32⟩
     have hL33 := hL27.call hp28 hM32
     refine ⟨_, _, _, rfl, hL33, ?_⟩
     refine wl_v 3 rfl (v_assign rfl) gn rfl <| w_end 4 rfl ?_
     refine g_retR [.string r29] rfl Tryd.func79 rfl (.tmp rfl (.nil)) fun wr hLr => ?_
     have hMr := hLr.pk0 (.c 1 rfl .n)
     show words_Spell_R w F  r (.returned (packV [.string r29])) wr
     rw [h]
     exact ⟨rfl, hMr⟩
    ·have h := if_neg' hp25 h
     refine g_false rfl _ rfl ((nei hp25)) <| g_skip rfl <| g_inBlock <| g_seq rfl <| g_region rfl rfl <| wl_v 0 rfl (v_fldB fo_84_1 rfl) gn rfl <| wl_v 1 rfl (v_ldB1 0 ld_9 rfl rfl rfl) gn rfl <| wl_v 2 rfl (v_assign rfl) gn rfl <| w_end 3 rfl ?_
     refine g_retR [.string x1.text] rfl Tryd.func79 rfl (.tmp rfl (.nil)) fun wr hLr => ?_
     have hMr := hLr.pk0 (.c 1 rfl .n)
     show words_Spell_R w F  r (.returned (packV [.string x1.text])) wr
     rw [h]
     exact ⟨rfl, hMr⟩
 ·have h := if_neg' hp12 h
  refine g_true rfl _ rfl ((nt (bf hp12))) <| g_seq rfl <| g_region rfl rfl <| wl_v 0 rfl (v_assign rfl) gn rfl <| w_end 1 rfl ?_
  refine g_retR [.string (⟨#[]⟩ : ByteArray)] rfl Tryd.func79 rfl (.tmp rfl (.nil)) fun wr hLr => ?_
  have hMr := hLr.pk0 (.c 1 rfl .n)
  show words_Spell_R w F  r (.returned (packV [.string (⟨#[]⟩ : ByteArray)])) wr
  rw [h]
  exact ⟨rfl, hMr⟩
abbrev query_name_R (w : World) (F : Nat → Prop) (r : Bool) : Ending → World → Prop := fun e w' => e = .returned (.bool r) ∧ B.Loc w w' [] [St w []]
noncomputable abbrev query_name_C (w : World) (F : Nat → Prop) (r : Bool) : Cx := ⟨Tryd.prog, 77, Tryd.f77, 11, query_name_R w F  r, w⟩
theorem query_name_calls (w : World) (F : Nat → Prop) (x1 : ByteArray) (hG : Tb Tryd.prog (St w [])) (hF : ∀ b, F b → b < w.heap.size ∧ ∀ o ∈ ([] : List (List Nat)), b ∉ o) (hL0 : B.Loc w w [] [Sm w.heap.size F w [], St w []]) (r : Bool) (h : query_name x1 r) : Calls Tryd.prog 77 #[.string x1] w (query_name_R w F  r) := by
 unfold query_name at h
 refine calls_of_Loc (vs := [.string x1]) 11 Tryd.func77 rfl Tryd.ntmps77 rfl hL0 ?_
 show G (query_name_C w F r) _ _ _ _
 refine g_seq rfl <| g_region rfl rfl <| wl_v 0 rfl (v_assign rfl) gn rfl <| w_end 1 rfl <| g_seq rfl <| g_region rfl rfl <| wl_v 0 rfl (v_move rfl) gn rfl <| wl_v 1 rfl (v_neS rfl rfl) gn rfl <| wl_v 2 rfl (v_move rfl) gn rfl ?_
 by_cases hp2 : x1 = (⟨#[95]⟩ : ByteArray)
 ·have h := if_pos' hp2 h
  refine w_bool 5 rfl ((nf (seq_t hp2))) <| wl_pass 3 rfl (ps 5 rfl rfl rfl) <| wl_pass 4 rfl (ps 5 rfl rfl rfl) <| wl_pass 5 rfl (ps 5 rfl rfl rfl) <| wl_pass 6 rfl (ps 5 rfl rfl rfl) <| wl_v 7 rfl (v_pick (b := false) rfl rfl) gn rfl <| wl_v 8 rfl (v_assign rfl) gn rfl <| w_end 9 rfl ?_
  refine g_retR [.bool false] rfl Tryd.func77 rfl (.tmp rfl (.nil)) fun wr hLr => ?_
  have hMr := hLr.pk0 (.c 1 rfl .n)
  show query_name_R w F  r (.returned (packV [.bool false])) wr
  rw [h]
  exact ⟨rfl, hMr⟩
 ·have h := if_neg' hp2 h
  refine w_bool 5 rfl ((nt (seq_f hp2))) <| wl_v 3 rfl (v_move rfl) (gy 5 rfl rfl) rfl <| wl_v 4 rfl (v_build #[.int .i64 1, .string x1, .int .i64 0, .int .i64 0] bd_84 rfl (by kernel_rfl)) (gy 5 rfl rfl) rfl ?_
  obtain ⟨r6, hv7, h⟩ := h
  refine wl_s 5 rfl (s_call [.agg #[.int .i64 1, .string x1, .int .i64 0, .int .i64 0]] rfl Tryd.func79 rfl rfl rfl fun w3 hL4 => ?_) (gy 5 rfl rfl)
  have hp5 := pmI hL4 .n .n (by kernel_rfl)
  refine Calls.mono (words_Spell_calls w3 (Fl ([] : List Snap)) (⟨1, x1, 0, 0⟩ : api_Word) (hL4.tb hp5 hG (me 1 rfl)) (hL4.hFl hp5 (sels [] rfl)) (hL4.into hp5 _) r6 hv7) ?_
  rintro _ w8 ⟨rfl, hM9⟩
  have hL10 := hL4.call hp5 hM9
  refine ⟨_, _, _, rfl, hL10, ?_⟩
  refine wl_v 6 rfl (v_neS rfl rfl) (gy 5 rfl rfl) rfl <| wl_v 7 rfl (v_pick (b := true) rfl rfl) gn rfl <| wl_v 8 rfl (v_assign rfl) gn rfl <| w_end 9 rfl ?_
  refine g_retR [.bool (!(seq r6 (⟨#[]⟩ : ByteArray)))] rfl Tryd.func77 rfl (.tmp rfl (.nil)) fun wr hLr => ?_
  have hMr := hLr.pk0 (.c 1 rfl .n)
  show query_name_R w F  r (.returned (packV [.bool (!(seq r6 (⟨#[]⟩ : ByteArray)))])) wr
  rw [h]
  exact ⟨rfl, hMr⟩
noncomputable abbrev q55c4 := Code.snd (Code.snd (bodyOf Tryd.f55))
noncomputable abbrev q55c6 := Code.snd (Code.fst (Code.snd (bodyOf Tryd.f55)))
abbrev query_sound_R (w : World) (F : Nat → Prop) (r : Bool) : Ending → World → Prop := fun e w' => e = .returned (.bool r) ∧ B.Loc w w' [] [St w []]
noncomputable abbrev query_sound_C (w : World) (F : Nat → Prop) (r : Bool) : Cx := ⟨Tryd.prog, 55, Tryd.f55, 49, query_sound_R w F  r, w⟩
theorem query_sound_calls (w : World) (F : Nat → Prop) (x1 : api_PatNode) (hG : Tb Tryd.prog (St w [])) (hF : ∀ b, F b → b < w.heap.size ∧ ∀ o ∈ ([] : List (List Nat)), b ∉ o) (hL0 : B.Loc w w [] [Sm w.heap.size F w [], St w []]) (r : Bool) (h : query_sound x1 r) : Calls Tryd.prog 55 #[.agg #[.string x1.name, .bool x1.lit, .string x1.field, .string x1.capture, .int .i64 x1.kids]] w (query_sound_R w F  r) := by
 unfold query_sound at h
 refine calls_of_Loc (vs := [.agg #[.string x1.name, .bool x1.lit, .string x1.field, .string x1.capture, .int .i64 x1.kids]]) 49 Tryd.func55 rfl Tryd.ntmps55 rfl hL0 ?_
 show G (query_sound_C w F r) _ _ _ _
 refine g_seq rfl <| g_region rfl rfl ?_
 refine wl_s 0 rfl (s_box [.string x1.name, .bool x1.lit, .string x1.field, .string x1.capture, .int .i64 x1.kids] rfl rfl rfl fun gb2 => ?_) gn
 refine wl_v 1 rfl (v_assign rfl) gn rfl <| w_end 2 rfl <| g_seq rfl <| g_seq rfl ?_
 have j1 : ∀ (x17 : Bool) (h : query_sound_j1 x1 x17 r) , G (query_sound_C w F r) [.code q55c6, .code q55c4] [(1, .pointer (some ⟨gb2, 0, none⟩)), (30, .bool x17)] [.box gb2 45 [.string x1.name, .bool x1.lit, .string x1.field, .string x1.capture, .int .i64 x1.kids]] [Sm w.heap.size F w [], St w []] := by
  intro x17 h
  unfold query_sound_j1 at h
  by_cases hp18 : x17 = true
  ·have h := if_pos' hp18 h
   refine g_true rfl _ rfl (hp18) <| g_seq rfl <| g_region rfl rfl <| wl_v 0 rfl (v_assign rfl) gn rfl <| w_end 1 rfl ?_
   refine g_retR [.bool false] rfl Tryd.func55 rfl (.tmp rfl (.nil)) fun wr hLr => ?_
   have hMr := hLr.pk0 (.c 1 rfl .n)
   show query_sound_R w F  r (.returned (packV [.bool false])) wr
   rw [h]
   exact ⟨rfl, hMr⟩
  ·have h := if_neg' hp18 h
   refine g_false rfl _ rfl ((bf hp18)) <| g_skip rfl <| g_seq rfl <| g_region rfl rfl <| wl_v 0 rfl (v_fldB fo_45_2 rfl) gn rfl <| wl_v 1 rfl (v_ldB1 0 ld_9 rfl rfl rfl) gn rfl <| wl_v 2 rfl (v_eqS rfl rfl) gn rfl <| wl_v 3 rfl (v_move rfl) gn rfl ?_
   by_cases hp19 : x1.field = (⟨#[]⟩ : ByteArray)
   ·have h := if_pos' hp19 h
    refine w_bool 34 rfl ((seq_t hp19)) <| wl_pass 4 rfl (ps 34 rfl rfl rfl) <| wl_pass 5 rfl (ps 34 rfl rfl rfl) <| wl_pass 6 rfl (ps 34 rfl rfl rfl) <| wl_v 7 rfl (v_pick (b := true) rfl rfl) gn rfl <| wl_v 8 rfl (v_move rfl) gn rfl <| wl_v 9 rfl (v_fldB fo_45_3 rfl) (gy 39 rfl rfl) rfl <| wl_v 10 rfl (v_ldB1 0 ld_9 rfl rfl rfl) (gy 39 rfl rfl) rfl <| wl_v 11 rfl (v_eqS rfl rfl) (gy 39 rfl rfl) rfl <| wl_v 12 rfl (v_move rfl) (gy 39 rfl rfl) rfl ?_
    by_cases hp20 : x1.capture = (⟨#[]⟩ : ByteArray)
    ·have h := if_pos' hp20 h
     refine w_bool 43 rfl ((seq_t hp20)) <| wl_pass 13 rfl (ps 43 rfl rfl rfl) <| wl_pass 14 rfl (ps 43 rfl rfl rfl) <| wl_pass 15 rfl (ps 43 rfl rfl rfl) <| wl_v 16 rfl (v_pick (b := true) rfl rfl) (gy 39 rfl rfl) rfl <| wl_v 17 rfl (v_pick (b := true) rfl rfl) gn rfl <| wl_v 18 rfl (v_assign rfl) gn rfl <| w_end 19 rfl ?_
     refine g_retR [.bool true] rfl Tryd.func55 rfl (.tmp rfl (.nil)) fun wr hLr => ?_
     have hMr := hLr.pk0 (.c 1 rfl .n)
     show query_sound_R w F  r (.returned (packV [.bool true])) wr
     rw [h]
     exact ⟨rfl, hMr⟩
    ·have h := if_neg' hp20 h
     refine w_bool 43 rfl ((seq_f hp20)) <| wl_v 13 rfl (v_fldB fo_45_3 rfl) (gy 43 rfl rfl) rfl <| wl_v 14 rfl (v_ldB1 0 ld_9 rfl rfl rfl) (gy 43 rfl rfl) rfl ?_
     obtain ⟨r24, hv25, h⟩ := h
     refine wl_s 15 rfl (s_call [.string x1.capture] rfl Tryd.func77 rfl rfl rfl fun w21 hL22 => ?_) (gy 43 rfl rfl)
     have hp23 := pmI hL22 .n (.c 0 rfl .n) (by kernel_rfl)
     refine Calls.mono (query_name_calls w21 (Fl ([] : List Snap)) x1.capture (hL22.tb hp23 hG (me 1 rfl)) (hL22.hFl hp23 (sels [] rfl)) (hL22.into hp23 _) r24 hv25) ?_
     rintro _ w26 ⟨rfl, hM27⟩
     have hL28 := hL22.call hp23 hM27
     refine ⟨_, _, _, rfl, hL28, ?_⟩
     refine wl_v 16 rfl (v_pick (b := false) rfl rfl) (gy 39 rfl rfl) rfl <| wl_v 17 rfl (v_pick (b := true) rfl rfl) gn rfl <| wl_v 18 rfl (v_assign rfl) gn rfl <| w_end 19 rfl ?_
     refine g_retR [.bool r24] rfl Tryd.func55 rfl (.tmp rfl (.nil)) fun wr hLr => ?_
     have hMr := hLr.pk0 (.c 1 rfl .n)
     show query_sound_R w F  r (.returned (packV [.bool r24])) wr
     rw [h]
     exact ⟨rfl, hMr⟩
   ·have h := if_neg' hp19 h
    refine w_bool 34 rfl ((seq_f hp19)) <| wl_v 4 rfl (v_fldB fo_45_2 rfl) (gy 34 rfl rfl) rfl <| wl_v 5 rfl (v_ldB1 0 ld_9 rfl rfl rfl) (gy 34 rfl rfl) rfl ?_
    obtain ⟨r32, hv33, h⟩ := h
    refine wl_s 6 rfl (s_call [.string x1.field] rfl Tryd.func77 rfl rfl rfl fun w29 hL30 => ?_) (gy 34 rfl rfl)
    have hp31 := pmI hL30 .n (.c 0 rfl .n) (by kernel_rfl)
    refine Calls.mono (query_name_calls w29 (Fl ([] : List Snap)) x1.field (hL30.tb hp31 hG (me 1 rfl)) (hL30.hFl hp31 (sels [] rfl)) (hL30.into hp31 _) r32 hv33) ?_
    rintro _ w34 ⟨rfl, hM35⟩
    have hL36 := hL30.call hp31 hM35
    refine ⟨_, _, _, rfl, hL36, ?_⟩
    refine wl_v 7 rfl (v_pick (b := false) rfl rfl) gn rfl <| wl_v 8 rfl (v_move rfl) gn rfl ?_
    by_cases hp37 : r32 = true
    ·have h := if_pos' hp37 h
     refine w_bool 39 rfl (hp37) <| wl_v 9 rfl (v_fldB fo_45_3 rfl) (gy 39 rfl rfl) rfl <| wl_v 10 rfl (v_ldB1 0 ld_9 rfl rfl rfl) (gy 39 rfl rfl) rfl <| wl_v 11 rfl (v_eqS rfl rfl) (gy 39 rfl rfl) rfl <| wl_v 12 rfl (v_move rfl) (gy 39 rfl rfl) rfl ?_
     by_cases hp38 : x1.capture = (⟨#[]⟩ : ByteArray)
     ·have h := if_pos' hp38 h
      refine w_bool 43 rfl ((seq_t hp38)) <| wl_pass 13 rfl (ps 43 rfl rfl rfl) <| wl_pass 14 rfl (ps 43 rfl rfl rfl) <| wl_pass 15 rfl (ps 43 rfl rfl rfl) <| wl_v 16 rfl (v_pick (b := true) rfl rfl) (gy 39 rfl rfl) rfl <| wl_v 17 rfl (v_pick (b := true) rfl rfl) gn rfl <| wl_v 18 rfl (v_assign rfl) gn rfl <| w_end 19 rfl ?_
      refine g_retR [.bool true] rfl Tryd.func55 rfl (.tmp rfl (.nil)) fun wr hLr => ?_
      have hMr := hLr.pk0 (.c 1 rfl .n)
      show query_sound_R w F  r (.returned (packV [.bool true])) wr
      rw [h]
      exact ⟨rfl, hMr⟩
     ·have h := if_neg' hp38 h
      refine w_bool 43 rfl ((seq_f hp38)) <| wl_v 13 rfl (v_fldB fo_45_3 rfl) (gy 43 rfl rfl) rfl <| wl_v 14 rfl (v_ldB1 0 ld_9 rfl rfl rfl) (gy 43 rfl rfl) rfl ?_
      obtain ⟨r42, hv43, h⟩ := h
      refine wl_s 15 rfl (s_call [.string x1.capture] rfl Tryd.func77 rfl rfl rfl fun w39 hL40 => ?_) (gy 43 rfl rfl)
      have hp41 := pmI hL40 .n (.c 0 rfl .n) (by kernel_rfl)
      refine Calls.mono (query_name_calls w39 (Fl ([] : List Snap)) x1.capture (hL40.tb hp41 hG (me 1 rfl)) (hL40.hFl hp41 (sels [] rfl)) (hL40.into hp41 _) r42 hv43) ?_
      rintro _ w44 ⟨rfl, hM45⟩
      have hL46 := hL40.call hp41 hM45
      refine ⟨_, _, _, rfl, hL46, ?_⟩
      refine wl_v 16 rfl (v_pick (b := false) rfl rfl) (gy 39 rfl rfl) rfl <| wl_v 17 rfl (v_pick (b := true) rfl rfl) gn rfl <| wl_v 18 rfl (v_assign rfl) gn rfl <| w_end 19 rfl ?_
      refine g_retR [.bool r42] rfl Tryd.func55 rfl (.tmp rfl (.nil)) fun wr hLr => ?_
      have hMr := hLr.pk0 (.c 1 rfl .n)
      show query_sound_R w F  r (.returned (packV [.bool r42])) wr
      rw [h]
      exact ⟨rfl, hMr⟩
    ·have h := if_neg' hp37 h
     refine w_bool 39 rfl ((bf hp37)) <| wl_pass 9 rfl (ps 39 rfl rfl rfl) <| wl_pass 10 rfl (ps 39 rfl rfl rfl) <| wl_pass 11 rfl (ps 39 rfl rfl rfl) <| wl_pass 12 rfl (ps 39 rfl rfl rfl) <| wl_pass 13 rfl (pu 43 rfl rfl) <| wl_pass 14 rfl (pu 43 rfl rfl) <| wl_pass 15 rfl (pu 43 rfl rfl) <| wl_pass 16 rfl (ps 39 rfl rfl rfl) <| wl_v 17 rfl (v_pick (b := false) rfl rfl) gn rfl <| wl_v 18 rfl (v_assign rfl) gn rfl <| w_end 19 rfl ?_
     refine g_retR [.bool false] rfl Tryd.func55 rfl (.tmp rfl (.nil)) fun wr hLr => ?_
     have hMr := hLr.pk0 (.c 1 rfl .n)
     show query_sound_R w F  r (.returned (packV [.bool false])) wr
     rw [h]
     exact ⟨rfl, hMr⟩
 refine g_region rfl rfl <| wl_v 0 rfl (v_fldB fo_45_1 rfl) gn rfl <| wl_v 1 rfl (v_ldB1 0 ld_4 rfl rfl rfl) gn rfl <| wl_v 2 rfl (v_move rfl) gn rfl ?_
 by_cases hp47 : x1.lit = true
 ·have h := if_pos' hp47 h
  refine w_bool 5 rfl (hp47) <| wl_v 3 rfl (v_fldB fo_45_0 rfl) (gy 5 rfl rfl) rfl <| wl_v 4 rfl (v_ldB1 0 ld_9 rfl rfl rfl) (gy 5 rfl rfl) rfl <| wl_v 5 rfl (v_eqS rfl rfl) (gy 5 rfl rfl) rfl <| wl_v 6 rfl (v_move rfl) (gy 5 rfl rfl) rfl ?_
  by_cases hp48 : x1.name = (⟨#[]⟩ : ByteArray)
  ·have h := if_pos' hp48 h
   refine w_bool 9 rfl ((seq_t hp48)) <| wl_pass 7 rfl (ps 9 rfl rfl rfl) <| wl_pass 8 rfl (ps 9 rfl rfl rfl) <| wl_pass 9 rfl (ps 9 rfl rfl rfl) <| wl_v 10 rfl (v_pick (b := true) rfl rfl) (gy 5 rfl rfl) rfl <| wl_v 11 rfl (v_pick (b := true) rfl rfl) gn rfl <| wl_v 12 rfl (v_move rfl) gn rfl <| wl_pass 13 rfl (ps 15 rfl rfl rfl) <| wl_pass 14 rfl (ps 15 rfl rfl rfl) <| wl_pass 15 rfl (ps 15 rfl rfl rfl) <| wl_pass 16 rfl (ps 15 rfl rfl rfl) <| wl_pass 17 rfl (pu 19 rfl rfl) ?_
   refine wl_pass 18 rfl (pu 19 rfl rfl) <| wl_pass 19 rfl (pu 19 rfl rfl) <| wl_pass 20 rfl (ps 15 rfl rfl rfl) <| wl_pass 21 rfl (ps 15 rfl rfl rfl) <| wl_pass 22 rfl (pu 24 rfl rfl) <| wl_pass 23 rfl (pu 24 rfl rfl) <| wl_pass 24 rfl (pu 24 rfl rfl) <| wl_pass 25 rfl (pu 24 rfl rfl) <| wl_pass 26 rfl (ps 15 rfl rfl rfl) <| wl_v 27 rfl (v_pick (b := true) rfl rfl) gn rfl <| w_end 28 rfl ?_
   exact g_go [0, 1] (j1 true h) ⟨rfl, rfl, trivial⟩ (.cons_cons _ (.slnil)) rfl
  ·have h := if_neg' hp48 h
   refine w_bool 9 rfl ((seq_f hp48)) <| wl_v 7 rfl (v_fldB fo_45_4 rfl) (gy 9 rfl rfl) rfl <| wl_v 8 rfl (v_ldB1 0 ld_3 rfl rfl rfl) (gy 9 rfl rfl) rfl <| wl_v 9 rfl (v_bin rfl rfl rfl) (gy 9 rfl rfl) rfl <| wl_v 10 rfl (v_pick (b := false) rfl rfl) (gy 5 rfl rfl) rfl <| wl_v 11 rfl (v_pick (b := true) rfl rfl) gn rfl <| wl_v 12 rfl (v_move rfl) gn rfl ?_
   by_cases hp49 : x1.kids = 0
   ·have h := if_pos' hp49 h
    refine w_bool 15 rfl ((eqib hp49)) <| wl_v 13 rfl (v_fldB fo_45_1 rfl) (gy 15 rfl rfl) rfl <| wl_v 14 rfl (v_ldB1 0 ld_4 rfl rfl rfl) (gy 15 rfl rfl) rfl <| wl_v 15 rfl (v_not rfl) (gy 15 rfl rfl) rfl <| wl_v 16 rfl (v_move rfl) (gy 15 rfl rfl) rfl <| w_bool 19 rfl ((nf hp47)) <| wl_pass 17 rfl (ps 19 rfl rfl rfl) <| wl_pass 18 rfl (ps 19 rfl rfl rfl) <| wl_pass 19 rfl (ps 19 rfl rfl rfl) <| wl_v 20 rfl (v_pick (b := false) rfl rfl) (gy 15 rfl rfl) rfl <| wl_v 21 rfl (v_move rfl) (gy 15 rfl rfl) rfl <| wl_pass 22 rfl (ps 24 rfl rfl rfl) ?_
    refine wl_pass 23 rfl (ps 24 rfl rfl rfl) <| wl_pass 24 rfl (ps 24 rfl rfl rfl) <| wl_pass 25 rfl (ps 24 rfl rfl rfl) <| wl_v 26 rfl (v_pick (b := false) rfl rfl) (gy 15 rfl rfl) rfl <| wl_v 27 rfl (v_pick (b := false) rfl rfl) gn rfl <| w_end 28 rfl ?_
    exact g_go [0, 1] (j1 false h) ⟨rfl, rfl, trivial⟩ (.cons_cons _ (.slnil)) rfl
   ·have h := if_neg' hp49 h
    refine w_bool 15 rfl ((neib hp49)) <| wl_pass 13 rfl (ps 15 rfl rfl rfl) <| wl_pass 14 rfl (ps 15 rfl rfl rfl) <| wl_pass 15 rfl (ps 15 rfl rfl rfl) <| wl_pass 16 rfl (ps 15 rfl rfl rfl) <| wl_pass 17 rfl (pu 19 rfl rfl) <| wl_pass 18 rfl (pu 19 rfl rfl) <| wl_pass 19 rfl (pu 19 rfl rfl) <| wl_pass 20 rfl (ps 15 rfl rfl rfl) <| wl_pass 21 rfl (ps 15 rfl rfl rfl) <| wl_pass 22 rfl (pu 24 rfl rfl) <| wl_pass 23 rfl (pu 24 rfl rfl) ?_
    refine wl_pass 24 rfl (pu 24 rfl rfl) <| wl_pass 25 rfl (pu 24 rfl rfl) <| wl_pass 26 rfl (ps 15 rfl rfl rfl) <| wl_v 27 rfl (v_pick (b := true) rfl rfl) gn rfl <| w_end 28 rfl ?_
    exact g_go [0, 1] (j1 true h) ⟨rfl, rfl, trivial⟩ (.cons_cons _ (.slnil)) rfl
 ·have h := if_neg' hp47 h
  refine w_bool 5 rfl ((bf hp47)) <| wl_pass 3 rfl (ps 5 rfl rfl rfl) <| wl_pass 4 rfl (ps 5 rfl rfl rfl) <| wl_pass 5 rfl (ps 5 rfl rfl rfl) <| wl_pass 6 rfl (ps 5 rfl rfl rfl) <| wl_pass 7 rfl (pu 9 rfl rfl) <| wl_pass 8 rfl (pu 9 rfl rfl) <| wl_pass 9 rfl (pu 9 rfl rfl) <| wl_pass 10 rfl (ps 5 rfl rfl rfl) <| wl_v 11 rfl (v_pick (b := false) rfl rfl) gn rfl <| wl_v 12 rfl (v_move rfl) gn rfl <| wl_v 13 rfl (v_fldB fo_45_1 rfl) (gy 15 rfl rfl) rfl ?_
  refine wl_v 14 rfl (v_ldB1 0 ld_4 rfl rfl rfl) (gy 15 rfl rfl) rfl <| wl_v 15 rfl (v_not rfl) (gy 15 rfl rfl) rfl <| wl_v 16 rfl (v_move rfl) (gy 15 rfl rfl) rfl <| w_bool 19 rfl ((nt (bf hp47))) <| wl_v 17 rfl (v_fldB fo_45_0 rfl) (gy 19 rfl rfl) rfl <| wl_v 18 rfl (v_ldB1 0 ld_9 rfl rfl rfl) (gy 19 rfl rfl) rfl <| wl_v 19 rfl (v_neS rfl rfl) (gy 19 rfl rfl) rfl <| wl_v 20 rfl (v_pick (b := true) rfl rfl) (gy 15 rfl rfl) rfl <| wl_v 21 rfl (v_move rfl) (gy 15 rfl rfl) rfl ?_
  by_cases hp50 : x1.name = (⟨#[]⟩ : ByteArray)
  ·have h := if_pos' hp50 h
   refine w_bool 24 rfl ((nf (seq_t hp50))) <| wl_pass 22 rfl (ps 24 rfl rfl rfl) <| wl_pass 23 rfl (ps 24 rfl rfl rfl) <| wl_pass 24 rfl (ps 24 rfl rfl rfl) <| wl_pass 25 rfl (ps 24 rfl rfl rfl) <| wl_v 26 rfl (v_pick (b := false) rfl rfl) (gy 15 rfl rfl) rfl <| wl_v 27 rfl (v_pick (b := false) rfl rfl) gn rfl <| w_end 28 rfl ?_
   exact g_go [0, 1] (j1 false h) ⟨rfl, rfl, trivial⟩ (.cons_cons _ (.slnil)) rfl
  ·have h := if_neg' hp50 h
   refine w_bool 24 rfl ((nt (seq_f hp50))) <| wl_v 22 rfl (v_fldB fo_45_0 rfl) (gy 24 rfl rfl) rfl <| wl_v 23 rfl (v_ldB1 0 ld_9 rfl rfl rfl) (gy 24 rfl rfl) rfl ?_
   obtain ⟨r54, hv55, h⟩ := h
   refine wl_s 24 rfl (s_call [.string x1.name] rfl Tryd.func77 rfl rfl rfl fun w51 hL52 => ?_) (gy 24 rfl rfl)
   have hp53 := pmI hL52 .n (.c 0 rfl .n) (by kernel_rfl)
   refine Calls.mono (query_name_calls w51 (Fl ([] : List Snap)) x1.name (hL52.tb hp53 hG (me 1 rfl)) (hL52.hFl hp53 (sels [] rfl)) (hL52.into hp53 _) r54 hv55) ?_
   rintro _ w56 ⟨rfl, hM57⟩
   have hL58 := hL52.call hp53 hM57
   refine ⟨_, _, _, rfl, hL58, ?_⟩
   refine wl_v 25 rfl (v_not rfl) (gy 24 rfl rfl) rfl <| wl_v 26 rfl (v_pick (b := true) rfl rfl) (gy 15 rfl rfl) rfl <| wl_v 27 rfl (v_pick (b := false) rfl rfl) gn rfl <| w_end 28 rfl ?_
   exact g_go [0, 1] (j1 (!r54) h) ⟨rfl, rfl, trivial⟩ (.cons_cons _ (.slnil)) rfl
abbrev query_captured_1_R (w : World) (F : Nat → Prop) (g3 : Nat) (Tb4 : Nat) (r : Bool × ByteArray) : Ending → World → Prop := fun e w' => e = .returned (.bool r.1) ∧ B.Loc w w' [.box g3 Tb4 [.string r.2]] [St w [[g3]]]
noncomputable abbrev query_captured_1_C (w : World) (F : Nat → Prop) (g3 : Nat) (Tb4 : Nat) (r : Bool × ByteArray) : Cx := ⟨Tryd.prog, 73, Tryd.f73, 8, query_captured_1_R w F g3 Tb4 r, w⟩
theorem query_captured_1_calls (w : World) (F : Nat → Prop) (x1 : api_PatNode) (x2 : ByteArray) (g3 : Nat) (Tb4 : Nat) (hF : ∀ b, F b → b < w.heap.size ∧ ∀ o ∈ ([[g3]] : List (List Nat)), b ∉ o) (hL0 : B.Loc w w [.box g3 Tb4 [.string x2]] [Sm w.heap.size F w [[g3]], St w [[g3]]]) (r : Bool × ByteArray) (h : query_captured_1 x1 x2 r) : Calls Tryd.prog 73 #[.agg #[.string x1.name, .bool x1.lit, .string x1.field, .string x1.capture, .int .i64 x1.kids], .pointer (some ⟨g3, 0, none⟩)] w (query_captured_1_R w F g3 Tb4 r) := by
 unfold query_captured_1 at h
 refine calls_of_Loc (vs := [.agg #[.string x1.name, .bool x1.lit, .string x1.field, .string x1.capture, .int .i64 x1.kids], .pointer (some ⟨g3, 0, none⟩)]) 8 Tryd.func73 rfl Tryd.ntmps73 rfl hL0 ?_
 show G (query_captured_1_C w F g3 Tb4 r) _ _ _ _
 refine g_seq rfl <| g_region rfl rfl ?_
 refine wl_s 0 rfl (s_box [.string x1.name, .bool x1.lit, .string x1.field, .string x1.capture, .int .i64 x1.kids] rfl rfl rfl fun gb5 => ?_) gn
 refine wl_v 1 rfl (v_assign rfl) gn rfl <| w_end 2 rfl <| g_seq rfl <| g_region rfl rfl <| wl_v 0 rfl (v_fldB fo_45_3 rfl) gn rfl <| wl_v 1 rfl (v_ldB1 0 ld_9 rfl rfl rfl) gn rfl <| wl_v 2 rfl (v_ldB1 1 ld_9 rfl rfl rfl) gn rfl <| wl_v 3 rfl (v_eqS rfl rfl) gn rfl <| wl_v 4 rfl (v_assign rfl) gn rfl <| w_end 5 rfl ?_
 refine g_retR [.bool (seq x1.capture x2)] rfl Tryd.func73 rfl (.tmp rfl (.nil)) fun wr hLr => ?_
 have hMr := hLr.pkI (.c 1 rfl .n) (.c 0 rfl .n) (by kernel_rfl) (.c 1 rfl .n)
 show query_captured_1_R w F g3 Tb4 r (.returned (packV [.bool (seq x1.capture x2)])) wr
 rw [h]
 exact ⟨rfl, hMr⟩
noncomputable abbrev q72c4 := Code.snd (Code.snd (bodyOf Tryd.f72))
noncomputable abbrev q72c8 := Code.fst (Code.fst (Code.snd (Code.fst (Code.snd (bodyOf Tryd.f72)))))
abbrev slices_IndexFunc_api_PatNode_api_PatNode_R (w : World) (F : Nat → Prop) (g7 : Nat) (Tb8 : Nat) (r : Int × ByteArray) : Ending → World → Prop := fun e w' => e = .returned (.int .i64 r.1) ∧ B.Loc w w' [.box g7 Tb8 [.string r.2]] [St w [[g7]]]
noncomputable abbrev slices_IndexFunc_api_PatNode_api_PatNode_C (w : World) (F : Nat → Prop) (g7 : Nat) (Tb8 : Nat) (r : Int × ByteArray) : Cx := ⟨Tryd.prog, 72, Tryd.f72, 19, slices_IndexFunc_api_PatNode_api_PatNode_R w F g7 Tb8 r, w⟩
theorem slices_IndexFunc_api_PatNode_api_PatNode_calls (w : World) (F : Nat → Prop) (x1 : List api_PatNode) (x6 : ByteArray) (A2 : Option Addr) (n3 : Nat) (c4 : Nat) (g7 : Nat) (Tb8 : Nat) (h5 : Rw k_api_PatNode w (St w [[g7]]).av A2 n3 c4 x1) (hF : ∀ b, F b → b < w.heap.size ∧ ∀ o ∈ ([[g7]] : List (List Nat)), b ∉ o) (hL0 : B.Loc w w [.box g7 Tb8 [.string x6]] [Sm w.heap.size F w [[g7]], St w [[g7]]]) (r : Int × ByteArray) (h : slices_IndexFunc_api_PatNode_api_PatNode x1 x6 r) : Calls Tryd.prog 72 #[.slice A2 n3 c4, .func (.func 73) #[] #[.pointer (some ⟨g7, 0, none⟩)]] w (slices_IndexFunc_api_PatNode_api_PatNode_R w F g7 Tb8 r) := by
 unfold slices_IndexFunc_api_PatNode_api_PatNode at h
 refine calls_of_Loc (vs := [.slice A2 n3 c4, .func (.func 73) #[] #[.pointer (some ⟨g7, 0, none⟩)]]) 19 Tryd.func72 rfl Tryd.ntmps72 rfl hL0 ?_
 show G (slices_IndexFunc_api_PatNode_api_PatNode_C w F g7 Tb8 r) _ _ _ _
 refine g_seq rfl <| g_region rfl rfl <| wl_v 0 rfl (v_assign rfl) gn rfl <| w_end 1 rfl <| g_seq rfl <| g_seq rfl <| g_region rfl rfl <| wl_v 0 rfl (v_move rfl) gn rfl <| wl_v 1 rfl (v_lenQ un_22 rfl h5.hq) gn rfl <| wl_v 2 rfl (v_move rfl) gn rfl <| w_end 3 rfl <| g_block rfl ?_
 refine g_loop rfl ?_
 have key1 : ∀ s, Rounds (fun (s : Int × ByteArray) o => slices_IndexFunc_api_PatNode_api_PatNode_b1 x1 s.1 s.2 o) s r → (fun (s : Int × ByteArray) => ∀ (_ : Unit), G (slices_IndexFunc_api_PatNode_api_PatNode_C w F g7 Tb8 r) [.code q72c8, .inLoop q72c8, .inBlock 0, .code q72c4] [(0, .slice A2 n3 c4), (1, .func (.func 73) #[] #[.pointer (some ⟨g7, 0, none⟩)]), (7, .int .i64 (x1.length : Int)), (8, .int .i64 s.1)] [.box g7 Tb8 [.string s.2]] [Sm w.heap.size F w [[g7]], St w [[g7]]]) s := by
  intro s hs
  refine Rounds.ind (mot := (fun (s : Int × ByteArray) => ∀ (_ : Unit), G (slices_IndexFunc_api_PatNode_api_PatNode_C w F g7 Tb8 r) [.code q72c8, .inLoop q72c8, .inBlock 0, .code q72c4] [(0, .slice A2 n3 c4), (1, .func (.func 73) #[] #[.pointer (some ⟨g7, 0, none⟩)]), (7, .int .i64 (x1.length : Int)), (8, .int .i64 s.1)] [.box g7 Tb8 [.string s.2]] [Sm w.heap.size F w [[g7]], St w [[g7]]])) ?_ hs
  clear hs s
  intro s o1 h hO1
  obtain ⟨x22, x23⟩ := s
  show ∀ (_ : Unit), G (slices_IndexFunc_api_PatNode_api_PatNode_C w F g7 Tb8 r) [.code q72c8, .inLoop q72c8, .inBlock 0, .code q72c4] [(0, .slice A2 n3 c4), (1, .func (.func 73) #[] #[.pointer (some ⟨g7, 0, none⟩)]), (7, .int .i64 (x1.length : Int)), (8, .int .i64 x22)] [.box g7 Tb8 [.string x23]] [Sm w.heap.size F w [[g7]], St w [[g7]]]
  intro _
  have h : slices_IndexFunc_api_PatNode_api_PatNode_b1 x1 x22 x23 o1 := h
  unfold slices_IndexFunc_api_PatNode_api_PatNode_b1 at h
  refine g_seq rfl <| g_region rfl rfl <| wl_v 0 rfl (v_bin rfl rfl rfl) gn rfl <| w_end 1 rfl <| g_seq rfl ?_
  by_cases hp36 : x22 < (x1.length : Int)
  ·have h := if_pos' hp36 h
   refine g_true rfl _ rfl ((decide_eq_true hp36)) <| g_skip rfl <| g_seq rfl <| g_block rfl <| g_seq rfl <| g_region rfl rfl <| wl_v 0 rfl (v_move rfl) gn rfl <| wl_v 1 rfl (v_assign rfl) gn rfl <| w_end 2 rfl <| g_seq rfl <| g_region rfl rfl <| wl_v 0 rfl (v_move rfl) gn rfl ?_
   refine wl_v 1 rfl (v_move rfl) gn rfl <| wl_v 2 rfl (v_move rfl) gn rfl ?_
   obtain ⟨hb37, h⟩ := h
   have hr38 := Rw.readF (s := St w [[g7]]) (hl := hl_api_PatNode) (h1 := h1_api_PatNode) h5 hb37
   refine wl_v 3 rfl (v_idxR (s := St w [[g7]]) slE_22 rfl rfl h5 hb37) gn rfl <| wl_v 4 rfl (v_ldA (St w [[g7]]) ld_45 rfl hr38 rfl (me 1 rfl)) gn rfl ?_
   obtain ⟨r42, hv43, h⟩ := h
   refine wl_s 5 rfl (s_callC [.agg #[.string ((ix x1 x22).name), .bool ((ix x1 x22).lit), .string ((ix x1 x22).field), .string ((ix x1 x22).capture), .int .i64 ((ix x1 x22).kids)]] [.pointer (some ⟨g7, 0, none⟩)] rfl rfl Tryd.func73 rfl rfl rfl fun w39 hL40 => ?_) gn
   have hp41 := pmI hL40 (.c 0 rfl .n) .n (by kernel_rfl)
   refine Calls.mono (query_captured_1_calls w39 (Fl ([] : List Snap)) (ix x1 x22) x23 g7 Tb8 (hL40.hFl hp41 (sels [] rfl)) (hL40.into hp41 _) r42 hv43) ?_
   rintro _ w44 ⟨rfl, hM45⟩
   have hL46 := hL40.call hp41 hM45
   refine ⟨_, _, _, rfl, hL46, ?_⟩
   refine w_end 6 rfl ?_
   by_cases hp47 : r42.1 = true
   ·have h := if_pos' hp47 h
    refine g_true rfl _ rfl (hp47) <| g_seq rfl <| g_region rfl rfl <| wl_v 0 rfl (v_move rfl) gn rfl <| wl_v 1 rfl (v_assign rfl) gn rfl <| w_end 2 rfl ?_
    have h := Out.inr hO1 h
    refine g_retR [.int .i64 x22] rfl Tryd.func72 rfl (.tmp rfl (.nil)) fun wr hLr => ?_
    have hMr := hLr.pkI (.c 0 rfl .n) .n (by kernel_rfl) (.c 1 rfl .n)
    show slices_IndexFunc_api_PatNode_api_PatNode_R w F g7 Tb8 r (.returned (packV [.int .i64 x22])) wr
    rw [h]
    exact ⟨rfl, hMr⟩
   ·have h := if_neg' hp47 h
    refine g_false rfl _ rfl ((bf hp47)) <| g_skip rfl <| g_inBlock <| g_region rfl rfl <| wl_v 0 rfl (v_bin rfl rfl rfl) gn rfl <| wl_v 1 rfl (v_move rfl) gn rfl <| w_end 2 rfl <| g_inLoop ?_
    have ih := Out.inl hO1 h
    exact g_go [0, 1] (ih ()) ⟨rfl, rfl, rfl, rfl, trivial⟩ (.cons_cons _ (.slnil)) rfl
  ·have h := if_neg' hp36 h
   refine g_false rfl _ rfl ((decide_eq_false hp36)) <| g_exit [.code q72c4] rfl rfl <| g_seq rfl <| g_region rfl rfl <| wl_v 0 rfl (v_assign rfl) gn rfl <| w_end 1 rfl ?_
   have h := Out.inr hO1 h
   refine g_retR [.int .i64 (-1)] rfl Tryd.func72 rfl (.tmp rfl (.nil)) fun wr hLr => ?_
   have hMr := hLr.pkI (.c 0 rfl .n) .n (by kernel_rfl) (.c 1 rfl .n)
   show slices_IndexFunc_api_PatNode_api_PatNode_R w F g7 Tb8 r (.returned (packV [.int .i64 (-1)])) wr
   rw [h]
   exact ⟨rfl, hMr⟩
 exact g_go [0, 1] (key1 _ h ()) ⟨rfl, rfl, rfl, rfl, trivial⟩ (.cons_cons _ (.slnil)) rfl
abbrev query_captured_R (w : World) (F : Nat → Prop) (r : Int) : Ending → World → Prop := fun e w' => e = .returned (.int .i64 r) ∧ B.Loc w w' [] [St w []]
noncomputable abbrev query_captured_C (w : World) (F : Nat → Prop) (r : Int) : Cx := ⟨Tryd.prog, 43, Tryd.f43, 11, query_captured_R w F  r, w⟩
theorem query_captured_calls (w : World) (F : Nat → Prop) (x1 : api_Query) (x10 : ByteArray) (A2 : Option Addr) (n3 : Nat) (c4 : Nat) (A6 : Option Addr) (n7 : Nat) (c8 : Nat) (h5 : Rw k_api_PatNode w (St w []).av A2 n3 c4 x1.nodes) (h9 : Rw k_api_Cond w (St w []).av A6 n7 c8 x1.conds) (hF : ∀ b, F b → b < w.heap.size ∧ ∀ o ∈ ([] : List (List Nat)), b ∉ o) (hL0 : B.Loc w w [] [Sm w.heap.size F w [], St w []]) (r : Int) (h : query_captured x1 x10 r) : Calls Tryd.prog 43 #[.agg #[.slice A2 n3 c4, .slice A6 n7 c8], .string x10] w (query_captured_R w F  r) := by
 unfold query_captured at h
 refine calls_of_Loc (vs := [.agg #[.slice A2 n3 c4, .slice A6 n7 c8], .string x10]) 11 Tryd.func43 rfl Tryd.ntmps43 rfl hL0 ?_
 show G (query_captured_C w F r) _ _ _ _
 refine g_seq rfl <| g_region rfl rfl ?_
 refine wl_s 0 rfl (s_box [.slice A2 n3 c4, .slice A6 n7 c8] rfl rfl rfl fun gb11 => ?_) gn
 refine wl_s 1 rfl (s_box [.string x10] rfl rfl rfl fun gb13 => ?_) gn
 refine wl_v 2 rfl (v_assign rfl) gn rfl <| w_end 3 rfl <| g_seq rfl <| g_seq rfl <| g_region rfl rfl <| wl_v 0 rfl (v_ldB1 0 ld_9 rfl rfl rfl) gn rfl <| wl_v 1 rfl (v_eqS rfl rfl) gn rfl <| w_end 2 rfl ?_
 by_cases hp15 : x10 = (⟨#[]⟩ : ByteArray)
 ·have h := if_pos' hp15 h
  refine g_true rfl _ rfl ((seq_t hp15)) <| g_seq rfl <| g_region rfl rfl <| wl_v 0 rfl (v_assign rfl) gn rfl <| w_end 1 rfl ?_
  refine g_retR [.int .i64 (-1)] rfl Tryd.func43 rfl (.tmp rfl (.nil)) fun wr hLr => ?_
  have hMr := hLr.pk0 (.c 1 rfl .n)
  show query_captured_R w F  r (.returned (packV [.int .i64 (-1)])) wr
  rw [h]
  exact ⟨rfl, hMr⟩
 ·have h := if_neg' hp15 h
  refine g_false rfl _ rfl ((seq_f hp15)) <| g_skip rfl <| g_seq rfl <| g_region rfl rfl <| wl_v 0 rfl (v_fldB fo_25_0 rfl) gn rfl <| wl_v 1 rfl (v_ldB1 1 ld_22 rfl rfl rfl) gn rfl <| wl_v 2 rfl (v_makeFunc [.pointer (some ⟨gb13, 0, none⟩)] rfl) gn rfl ?_
  obtain ⟨r19, hv20, h⟩ := h
  refine wl_s 3 rfl (s_call [.slice A2 n3 c4, .func (.func 73) #[] #[.pointer (some ⟨gb13, 0, none⟩)]] rfl Tryd.func72 rfl rfl rfl fun w16 hL17 => ?_) gn
  have hp18 := pmI hL17 (.c 0 rfl .n) (.c 1 rfl .n) (by kernel_rfl)
  refine Calls.mono (slices_IndexFunc_api_PatNode_api_PatNode_calls w16 (Fl ([] : List Snap)) x1.nodes x10 A2 n3 c4 gb13 9 (Rw.mono h5 (hL17.toSt hp18 (me 1 rfl))) (hL17.hFl hp18 (sels [] rfl)) (hL17.into hp18 _) r19 hv20) ?_
  rintro _ w21 ⟨rfl, hM22⟩
  have hL23 := hL17.call hp18 hM22
  refine ⟨_, _, _, rfl, hL23, ?_⟩
  refine wl_v 4 rfl (v_assign rfl) gn rfl <| w_end 5 rfl ?_
  refine g_retR [.int .i64 r19.1] rfl Tryd.func43 rfl (.tmp rfl (.nil)) fun wr hLr => ?_
  have hMr := hLr.pk0 (.c 1 rfl .n)
  show query_captured_R w F  r (.returned (packV [.int .i64 r19.1])) wr
  rw [h]
  exact ⟨rfl, hMr⟩
end Go.Proofs.YtjookebbmfiidaaDoor.K
