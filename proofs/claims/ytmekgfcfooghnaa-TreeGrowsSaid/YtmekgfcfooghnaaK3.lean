/- What the machine's calls do, function by function, printed by my own tool. Condition of each: its relation holds of the answer, and what is handed in lies in memory as told. -/
import Derived.Test.YtmekgfcfooghnaaK2
set_option linter.unusedVariables false
set_option maxRecDepth 100000
set_option maxHeartbeats 4000000
namespace Go.Proofs.Ytmekgfcfooghnaa.K
open Go.Proofs.Ytmekgfcfooghnaa.B Go.Proofs.Ytmekgfcfooghnaa.R Go.RowKit
noncomputable abbrev q31c0 : Code := bodyOf Try.f31
noncomputable abbrev q31c1 : Code := Code.fst q31c0
noncomputable abbrev q31c2 : Code := Code.snd q31c0
noncomputable abbrev q31c3 : Code := Code.fst q31c2
noncomputable abbrev q31c4 : Code := Code.snd q31c2
noncomputable abbrev q31c5 : Code := Code.fst q31c4
noncomputable abbrev q31c6 : Code := Code.snd q31c4
noncomputable abbrev q31c7 : Code := Code.fst q31c6
noncomputable abbrev q31c8 : Code := Code.snd q31c6
noncomputable abbrev q31c9 : Code := Code.fst q31c8
noncomputable abbrev q31c10 : Code := Code.snd q31c8
noncomputable abbrev q31c11 : Code := Code.fst q31c10
noncomputable abbrev q31c12 : Code := Code.snd q31c10
noncomputable abbrev q31c13 : Code := Code.fst q31c12
noncomputable abbrev q31c14 : Code := Code.snd q31c12
abbrev trellislaw15_alive_R (w : World) (F : Nat → Prop) (r : Bool) : Ending → World → Prop := fun e w' => e = .returned (.bool r) ∧ B.Loc w w' [] [St w []]
noncomputable abbrev trellislaw15_alive_C (w : World) (F : Nat → Prop) (r : Bool) : Cx := ⟨Try.prog, 31, Try.f31, 87, trellislaw15_alive_R w F  r, w⟩
theorem trellislaw15_alive_calls (w : World) (F : Nat → Prop)  (hF : ∀ b, F b → b < w.heap.size ∧ ∀ o ∈ ([] : List (List Nat)), b ∉ o) (hL0 : B.Loc w w [] [Sm w.heap.size F w [], St w []]) (r : Bool) (h : trellislaw15_alive  r) : Calls Try.prog 31 #[] w (trellislaw15_alive_R w F  r) := by
 unfold trellislaw15_alive at h
 refine calls_of_Loc (vs := []) 87 Try.func31 rfl Try.ntmps31 rfl hL0 ?_
 show G (trellislaw15_alive_C w F r) _ _ _ _
 refine g_seq (c := q31c0) rfl ?_
 refine g_region (c := q31c1) rfl rfl ?_
 refine wl_v 0 rfl (v_assign rfl) gn rfl ?_
 refine w_end 1 rfl ?_
 refine g_seq (c := q31c2) rfl ?_
 refine g_region (c := q31c3) rfl rfl ?_
 refine wl_v 0 rfl (v_build #[.string (⟨#[]⟩ : ByteArray), .bool false] bd_100 rfl (by kernel_rfl)) gn rfl ?_
 refine wl_v 1 rfl (v_build #[.string (⟨#[97]⟩ : ByteArray), .bool false] bd_100 rfl (by kernel_rfl)) gn rfl ?_
 refine wl_s 2 rfl (s_litO (xs := ([(⟨(⟨#[]⟩ : ByteArray), false⟩ : api_TermDef), (⟨(⟨#[97]⟩ : ByteArray), false⟩ : api_TermDef)] : List api_TermDef)) [.string (⟨#[]⟩ : ByteArray), .bool false, .string (⟨#[97]⟩ : ByteArray), .bool false] bs_43_2 rfl (by kernel_rfl) rfl rfl rfl rfl fun gb2 h3 => ?_) gn
 refine wl_v 3 rfl (v_build #[.string (⟨#[115]⟩ : ByteArray), .int .i64 1] bd_74 rfl (by kernel_rfl)) gn rfl ?_
 refine wl_s 4 rfl (s_litO (xs := ([(⟨(⟨#[115]⟩ : ByteArray), 1⟩ : api_Sym)] : List api_Sym)) [.string (⟨#[115]⟩ : ByteArray), .int .i64 1] bs_44_1 rfl (by kernel_rfl) rfl rfl rfl rfl fun gb5 h6 => ?_) gn
 refine wl_v 5 rfl (v_build #[.int .i64 2, .string (⟨#[]⟩ : ByteArray), .string (⟨#[]⟩ : ByteArray)] bd_104 rfl (by kernel_rfl)) gn rfl ?_
 refine wl_s 6 rfl (s_litO (xs := ([(⟨2, (⟨#[]⟩ : ByteArray), (⟨#[]⟩ : ByteArray)⟩ : api_Ref)] : List api_Ref)) [.int .i64 2, .string (⟨#[]⟩ : ByteArray), .string (⟨#[]⟩ : ByteArray)] bs_105_1 rfl (by kernel_rfl) rfl rfl rfl rfl fun gb8 h9 => ?_) gn
 refine wl_v 7 rfl (v_build #[.int .i64 (-1), .slice (some ⟨gb8, 0, none⟩) 1 1] bd_107 rfl (by kernel_rfl)) gn rfl ?_
 refine wl_v 8 rfl (v_build #[.int .i64 1, .string (⟨#[102]⟩ : ByteArray), .string (⟨#[]⟩ : ByteArray)] bd_104 rfl (by kernel_rfl)) gn rfl ?_
 refine wl_s 9 rfl (s_litO (xs := ([(⟨1, (⟨#[102]⟩ : ByteArray), (⟨#[]⟩ : ByteArray)⟩ : api_Ref)] : List api_Ref)) [.int .i64 1, .string (⟨#[102]⟩ : ByteArray), .string (⟨#[]⟩ : ByteArray)] bs_105_1 rfl (by kernel_rfl) rfl rfl rfl rfl fun gb11 h12 => ?_) gn
 refine wl_v 10 rfl (v_build #[.int .i64 0, .slice (some ⟨gb11, 0, none⟩) 1 1] bd_107 rfl (by kernel_rfl)) gn rfl ?_
 refine w_freeze (F := F) (dk := k_api_Ref) (Sm w.heap.size F w []) 1 rfl h9 (me 0 rfl) Sm.ok (Cells.flat _) fun sw14 sb15 h13 => ?_
 refine w_freeze (F := F) (dk := k_api_Ref) (Sm w.heap.size F w []) 0 rfl h12 (me 1 rfl) Sm.ok (Cells.flat _) fun sw17 sb18 h16 => ?_
 refine w_mark (F := F) fun sw20 sb21 ho22 => ?_
 have hC23 : Cells k_api_Prod (Sm w.heap.size F sw20 sb21).w (Sm w.heap.size F sw20 sb21).av ([(⟨-1, ([(⟨2, (⟨#[]⟩ : ByteArray), (⟨#[]⟩ : ByteArray)⟩ : api_Ref)] : List api_Ref)⟩ : api_Prod), (⟨0, ([(⟨1, (⟨#[102]⟩ : ByteArray), (⟨#[]⟩ : ByteArray)⟩ : api_Ref)] : List api_Ref)⟩ : api_Prod)] : List api_Prod) [.int .i64 (-1), .slice (some ⟨gb8, 0, none⟩) 1 1, .int .i64 0, .slice (some ⟨gb11, 0, none⟩) 1 1] := (Cells.cons (c1 := [.int .i64 (-1), .slice (some ⟨gb8, 0, none⟩) 1 1]) ⟨(some ⟨gb8, 0, none⟩), 1, 1, rfl, (Rw.older (s := Sm w.heap.size F sw14 sb15) h13 (ho22 _ (me 1 rfl) Sm.ok))⟩ (Cells.cons (c1 := [.int .i64 0, .slice (some ⟨gb11, 0, none⟩) 1 1]) ⟨(some ⟨gb11, 0, none⟩), 1, 1, rfl, (Rw.older (s := Sm w.heap.size F sw17 sb18) h16 (ho22 _ (me 0 rfl) Sm.ok))⟩ Cells.nil))
 refine wl_s 11 rfl (s_litO (xs := ([(⟨-1, ([(⟨2, (⟨#[]⟩ : ByteArray), (⟨#[]⟩ : ByteArray)⟩ : api_Ref)] : List api_Ref)⟩ : api_Prod), (⟨0, ([(⟨1, (⟨#[102]⟩ : ByteArray), (⟨#[]⟩ : ByteArray)⟩ : api_Ref)] : List api_Ref)⟩ : api_Prod)] : List api_Prod)) [.int .i64 (-1), .slice (some ⟨gb8, 0, none⟩) 1 1, .int .i64 0, .slice (some ⟨gb11, 0, none⟩) 1 1] bs_45_2 rfl (by kernel_rfl) rfl rfl rfl rfl fun gb24 h25 => ?_) gn
 refine wl_v 12 rfl (v_build #[.slice (some ⟨gb2, 0, none⟩) 2 2, .slice (some ⟨gb5, 0, none⟩) 1 1, .slice (some ⟨gb24, 0, none⟩) 2 2] bd_47 rfl (by kernel_rfl)) gn rfl ?_
 refine wl_v 13 rfl (v_build #[.string (⟨#[]⟩ : ByteArray), .slice none 0 0, .slice (some ⟨gb2, 0, none⟩) 2 2, .slice (some ⟨gb5, 0, none⟩) 1 1, .slice (some ⟨gb24, 0, none⟩) 2 2, .slice none 0 0, .slice none 0 0, .slice none 0 0, .slice none 0 0, .slice none 0 0, .slice none 0 0, .slice none 0 0] bd_58 rfl (by kernel_rfl)) gn rfl ?_
 refine wl_s 14 rfl (s_alloc [.string (⟨#[]⟩ : ByteArray), .slice none 0 0, .slice none 0 0, .slice none 0 0, .slice none 0 0, .slice none 0 0, .slice none 0 0, .slice none 0 0, .slice none 0 0, .slice none 0 0, .slice none 0 0, .slice none 0 0] zr_58 rfl fun gb26 => ?_) gn
 refine wl_s 15 rfl (s_stB (vs := [.string (⟨#[]⟩ : ByteArray), .slice none 0 0, .slice (some ⟨gb2, 0, none⟩) 2 2, .slice (some ⟨gb5, 0, none⟩) 1 1, .slice (some ⟨gb24, 0, none⟩) 2 2, .slice none 0 0, .slice none 0 0, .slice none 0 0, .slice none 0 0, .slice none 0 0, .slice none 0 0, .slice none 0 0]) (cs' := [.string (⟨#[]⟩ : ByteArray), .slice none 0 0, .slice (some ⟨gb2, 0, none⟩) 2 2, .slice (some ⟨gb5, 0, none⟩) 1 1, .slice (some ⟨gb24, 0, none⟩) 2 2, .slice none 0 0, .slice none 0 0, .slice none 0 0, .slice none 0 0, .slice none 0 0, .slice none 0 0, .slice none 0 0]) (M' := [.box gb26 58 [.string (⟨#[]⟩ : ByteArray), .slice none 0 0, .slice (some ⟨gb2, 0, none⟩) 2 2, .slice (some ⟨gb5, 0, none⟩) 1 1, .slice (some ⟨gb24, 0, none⟩) 2 2, .slice none 0 0, .slice none 0 0, .slice none 0 0, .slice none 0 0, .slice none 0 0, .slice none 0 0, .slice none 0 0], .own (.slice (some ⟨gb24, 0, none⟩) 2 2) 107 2 2 [.int .i64 (-1), .slice (some ⟨gb8, 0, none⟩) 1 1, .int .i64 0, .slice (some ⟨gb11, 0, none⟩) 1 1], .own (.slice (some ⟨gb5, 0, none⟩) 1 1) 74 2 1 (([(⟨(⟨#[115]⟩ : ByteArray), 1⟩ : api_Sym)] : List api_Sym).flatMap enc_api_Sym), .own (.slice (some ⟨gb2, 0, none⟩) 2 2) 100 2 2 (([(⟨(⟨#[]⟩ : ByteArray), false⟩ : api_TermDef), (⟨(⟨#[97]⟩ : ByteArray), false⟩ : api_TermDef)] : List api_TermDef).flatMap enc_api_TermDef)]) 0 sz_58 rfl rfl rfl rfl rfl rfl rfl rfl rfl ?_) gn
 refine w_end 16 rfl ?_
 refine g_seq (c := q31c4) rfl ?_
 refine g_region (c := q31c5) rfl rfl ?_
 refine wl_v 0 rfl (v_ldB [.string (⟨#[]⟩ : ByteArray), .slice none 0 0, .slice (some ⟨gb2, 0, none⟩) 2 2, .slice (some ⟨gb5, 0, none⟩) 1 1, .slice (some ⟨gb24, 0, none⟩) 2 2, .slice none 0 0, .slice none 0 0, .slice none 0 0, .slice none 0 0, .slice none 0 0, .slice none 0 0, .slice none 0 0] 0 ld_58 rfl rfl rfl rfl) gn rfl ?_
 obtain ⟨r31, hv32, h⟩ := h
 refine wl_s 1 rfl (s_call [.agg #[.string (⟨#[]⟩ : ByteArray), .slice none 0 0, .slice (some ⟨gb2, 0, none⟩) 2 2, .slice (some ⟨gb5, 0, none⟩) 1 1, .slice (some ⟨gb24, 0, none⟩) 2 2, .slice none 0 0, .slice none 0 0, .slice none 0 0, .slice none 0 0, .slice none 0 0, .slice none 0 0, .slice none 0 0], .int .i64 1, .int .i64 0, .int .i64 2, .int .i64 5] rfl Try.func25 rfl rfl rfl fun w28 hL29 => ?_) gn
 have hp30 : List.Perm ([.box gb26 58 [.string (⟨#[]⟩ : ByteArray), .slice none 0 0, .slice (some ⟨gb2, 0, none⟩) 2 2, .slice (some ⟨gb5, 0, none⟩) 1 1, .slice (some ⟨gb24, 0, none⟩) 2 2, .slice none 0 0, .slice none 0 0, .slice none 0 0, .slice none 0 0, .slice none 0 0, .slice none 0 0, .slice none 0 0], .own (.slice (some ⟨gb24, 0, none⟩) 2 2) 107 2 2 [.int .i64 (-1), .slice (some ⟨gb8, 0, none⟩) 1 1, .int .i64 0, .slice (some ⟨gb11, 0, none⟩) 1 1], .own (.slice (some ⟨gb5, 0, none⟩) 1 1) 74 2 1 (([(⟨(⟨#[115]⟩ : ByteArray), 1⟩ : api_Sym)] : List api_Sym).flatMap enc_api_Sym), .own (.slice (some ⟨gb2, 0, none⟩) 2 2) 100 2 2 (([(⟨(⟨#[]⟩ : ByteArray), false⟩ : api_TermDef), (⟨(⟨#[97]⟩ : ByteArray), false⟩ : api_TermDef)] : List api_TermDef).flatMap enc_api_TermDef)] : List Ent) (([] : List Ent) ++ ([.box gb26 58 [.string (⟨#[]⟩ : ByteArray), .slice none 0 0, .slice (some ⟨gb2, 0, none⟩) 2 2, .slice (some ⟨gb5, 0, none⟩) 1 1, .slice (some ⟨gb24, 0, none⟩) 2 2, .slice none 0 0, .slice none 0 0, .slice none 0 0, .slice none 0 0, .slice none 0 0, .slice none 0 0, .slice none 0 0], .own (.slice (some ⟨gb24, 0, none⟩) 2 2) 107 2 2 [.int .i64 (-1), .slice (some ⟨gb8, 0, none⟩) 1 1, .int .i64 0, .slice (some ⟨gb11, 0, none⟩) 1 1], .own (.slice (some ⟨gb5, 0, none⟩) 1 1) 74 2 1 (([(⟨(⟨#[115]⟩ : ByteArray), 1⟩ : api_Sym)] : List api_Sym).flatMap enc_api_Sym), .own (.slice (some ⟨gb2, 0, none⟩) 2 2) 100 2 2 (([(⟨(⟨#[]⟩ : ByteArray), false⟩ : api_TermDef), (⟨(⟨#[97]⟩ : ByteArray), false⟩ : api_TermDef)] : List api_TermDef).flatMap enc_api_TermDef)] : List Ent)) := perm_of_idx [] [0, 1, 2, 3] rfl rfl (by kernel_rfl)
 refine Calls.mono (tree_Token_calls w28 (Fl ([] : List Snap)) (⟨(⟨#[]⟩ : ByteArray), ([] : List api_ModeDef), (⟨([(⟨(⟨#[]⟩ : ByteArray), false⟩ : api_TermDef), (⟨(⟨#[97]⟩ : ByteArray), false⟩ : api_TermDef)] : List api_TermDef), ([(⟨(⟨#[115]⟩ : ByteArray), 1⟩ : api_Sym)] : List api_Sym), ([(⟨-1, ([(⟨2, (⟨#[]⟩ : ByteArray), (⟨#[]⟩ : ByteArray)⟩ : api_Ref)] : List api_Ref)⟩ : api_Prod), (⟨0, ([(⟨1, (⟨#[102]⟩ : ByteArray), (⟨#[]⟩ : ByteArray)⟩ : api_Ref)] : List api_Ref)⟩ : api_Prod)] : List api_Prod)⟩ : api_Gram), ([] : List api_Rule), (⟨([] : List (List api_Action)), ([] : List (List Int))⟩ : api_Table), ([] : List api_PaintDef), ([] : List ByteArray), ([] : List api_MarkDef), ([] : List api_InjectDef)⟩ : api_Lang) 1 0 2 5 none 0 0 (some ⟨gb2, 0, none⟩) 2 2 (some ⟨gb5, 0, none⟩) 1 1 (some ⟨gb24, 0, none⟩) 2 2 none 0 0 none 0 0 none 0 0 none 0 0 none 0 0 none 0 0 none 0 0 Rw.nil (hL29.argO (dk := k_api_TermDef) hp30 [] rfl 3 rfl rfl h3 (me 3 rfl) (Cells.flat _)) (hL29.argO (dk := k_api_Sym) hp30 [] rfl 2 rfl rfl h6 (me 3 rfl) (Cells.flat _)) (hL29.argO (dk := k_api_Prod) hp30 [] rfl 1 rfl rfl h25 (me 0 rfl) hC23) Rw.nil Rw.nil Rw.nil Rw.nil Rw.nil Rw.nil Rw.nil (hL29.hFl (Sl := ([] : List Snap)) hp30 (sels [] rfl)) (hL29.into hp30 (Fl ([] : List Snap))) r31 hv32) ?_
 rintro _ w38 ⟨A33, n34, c35, rfl, hM39, h36⟩
 have hL40 := hL29.call hp30 hM39
 refine ⟨_, _, _, rfl, hL40, ?_⟩
 refine wl_v 2 rfl (v_assign rfl) gn rfl ?_
 refine w_end 3 rfl ?_
 refine g_seq (c := q31c6) rfl ?_
 refine g_region (c := q31c7) rfl rfl ?_
 refine wl_v 0 rfl (v_ldB [.string (⟨#[]⟩ : ByteArray), .slice none 0 0, .slice (some ⟨gb2, 0, none⟩) 2 2, .slice (some ⟨gb5, 0, none⟩) 1 1, .slice (some ⟨gb24, 0, none⟩) 2 2, .slice none 0 0, .slice none 0 0, .slice none 0 0, .slice none 0 0, .slice none 0 0, .slice none 0 0, .slice none 0 0] 1 ld_58 rfl rfl rfl rfl) gn rfl ?_
 refine wl_v 1 rfl (v_move rfl) gn rfl ?_
 refine w_freeze (F := F) (dk := k_api_Node) (Sm w.heap.size F w []) 0 rfl (Ow.weak hL29.env.size h36) (me 3 rfl) Sm.ok (Cells.flat _) fun sw42 sb43 h41 => ?_
 have hC45 : Cells (Kd.slice k_api_Node) (Sm w.heap.size F sw42 sb43).w (Sm w.heap.size F sw42 sb43).av ([r31] : List (List api_Node)) [.slice A33 n34 c35] := (Cells.cons (c1 := [.slice A33 n34 c35]) ⟨A33, n34, c35, rfl, h41⟩ Cells.nil)
 refine wl_s 2 rfl (s_litO (xs := ([r31] : List (List api_Node))) [.slice A33 n34 c35] bs_59_1 rfl (by kernel_rfl) rfl rfl rfl rfl fun gb46 h47 => ?_) gn
 refine wl_s 3 rfl (s_litO (xs := ([0, 5] : List Int)) [.int .i64 0, .int .i64 5] bs_23_2 rfl (by kernel_rfl) rfl rfl rfl rfl fun gb49 h50 => ?_) gn
 obtain ⟨r54, hv55, h⟩ := h
 refine wl_s 4 rfl (s_call [.agg #[.string (⟨#[]⟩ : ByteArray), .slice none 0 0, .slice (some ⟨gb2, 0, none⟩) 2 2, .slice (some ⟨gb5, 0, none⟩) 1 1, .slice (some ⟨gb24, 0, none⟩) 2 2, .slice none 0 0, .slice none 0 0, .slice none 0 0, .slice none 0 0, .slice none 0 0, .slice none 0 0, .slice none 0 0], .int .i64 1, .slice (some ⟨gb46, 0, none⟩) 1 1, .slice (some ⟨gb49, 0, none⟩) 2 2] rfl Try.func32 rfl rfl rfl fun w51 hL52 => ?_) gn
 have hp53 : List.Perm ([.own (.slice (some ⟨gb49, 0, none⟩) 2 2) 3 1 2 (([0, 5] : List Int).flatMap (eI .i64)), .own (.slice (some ⟨gb46, 0, none⟩) 1 1) 22 1 1 [.slice A33 n34 c35], .box gb26 58 [.string (⟨#[]⟩ : ByteArray), .slice none 0 0, .slice (some ⟨gb2, 0, none⟩) 2 2, .slice (some ⟨gb5, 0, none⟩) 1 1, .slice (some ⟨gb24, 0, none⟩) 2 2, .slice none 0 0, .slice none 0 0, .slice none 0 0, .slice none 0 0, .slice none 0 0, .slice none 0 0, .slice none 0 0], .own (.slice (some ⟨gb24, 0, none⟩) 2 2) 107 2 2 [.int .i64 (-1), .slice (some ⟨gb8, 0, none⟩) 1 1, .int .i64 0, .slice (some ⟨gb11, 0, none⟩) 1 1], .own (.slice (some ⟨gb5, 0, none⟩) 1 1) 74 2 1 (([(⟨(⟨#[115]⟩ : ByteArray), 1⟩ : api_Sym)] : List api_Sym).flatMap enc_api_Sym), .own (.slice (some ⟨gb2, 0, none⟩) 2 2) 100 2 2 (([(⟨(⟨#[]⟩ : ByteArray), false⟩ : api_TermDef), (⟨(⟨#[97]⟩ : ByteArray), false⟩ : api_TermDef)] : List api_TermDef).flatMap enc_api_TermDef)] : List Ent) (([] : List Ent) ++ ([.own (.slice (some ⟨gb49, 0, none⟩) 2 2) 3 1 2 (([0, 5] : List Int).flatMap (eI .i64)), .own (.slice (some ⟨gb46, 0, none⟩) 1 1) 22 1 1 [.slice A33 n34 c35], .box gb26 58 [.string (⟨#[]⟩ : ByteArray), .slice none 0 0, .slice (some ⟨gb2, 0, none⟩) 2 2, .slice (some ⟨gb5, 0, none⟩) 1 1, .slice (some ⟨gb24, 0, none⟩) 2 2, .slice none 0 0, .slice none 0 0, .slice none 0 0, .slice none 0 0, .slice none 0 0, .slice none 0 0, .slice none 0 0], .own (.slice (some ⟨gb24, 0, none⟩) 2 2) 107 2 2 [.int .i64 (-1), .slice (some ⟨gb8, 0, none⟩) 1 1, .int .i64 0, .slice (some ⟨gb11, 0, none⟩) 1 1], .own (.slice (some ⟨gb5, 0, none⟩) 1 1) 74 2 1 (([(⟨(⟨#[115]⟩ : ByteArray), 1⟩ : api_Sym)] : List api_Sym).flatMap enc_api_Sym), .own (.slice (some ⟨gb2, 0, none⟩) 2 2) 100 2 2 (([(⟨(⟨#[]⟩ : ByteArray), false⟩ : api_TermDef), (⟨(⟨#[97]⟩ : ByteArray), false⟩ : api_TermDef)] : List api_TermDef).flatMap enc_api_TermDef)] : List Ent)) := perm_of_idx [] [0, 1, 2, 3, 4, 5] rfl rfl (by kernel_rfl)
 refine Calls.mono (tree_Reduce_calls w51 (Fl ([] : List Snap)) (⟨(⟨#[]⟩ : ByteArray), ([] : List api_ModeDef), (⟨([(⟨(⟨#[]⟩ : ByteArray), false⟩ : api_TermDef), (⟨(⟨#[97]⟩ : ByteArray), false⟩ : api_TermDef)] : List api_TermDef), ([(⟨(⟨#[115]⟩ : ByteArray), 1⟩ : api_Sym)] : List api_Sym), ([(⟨-1, ([(⟨2, (⟨#[]⟩ : ByteArray), (⟨#[]⟩ : ByteArray)⟩ : api_Ref)] : List api_Ref)⟩ : api_Prod), (⟨0, ([(⟨1, (⟨#[102]⟩ : ByteArray), (⟨#[]⟩ : ByteArray)⟩ : api_Ref)] : List api_Ref)⟩ : api_Prod)] : List api_Prod)⟩ : api_Gram), ([] : List api_Rule), (⟨([] : List (List api_Action)), ([] : List (List Int))⟩ : api_Table), ([] : List api_PaintDef), ([] : List ByteArray), ([] : List api_MarkDef), ([] : List api_InjectDef)⟩ : api_Lang) 1 ([r31] : List (List api_Node)) ([0, 5] : List Int) none 0 0 (some ⟨gb2, 0, none⟩) 2 2 (some ⟨gb5, 0, none⟩) 1 1 (some ⟨gb24, 0, none⟩) 2 2 none 0 0 none 0 0 none 0 0 none 0 0 none 0 0 none 0 0 none 0 0 (some ⟨gb46, 0, none⟩) 1 1 (some ⟨gb49, 0, none⟩) 2 2 Rw.nil (hL52.argO (dk := k_api_TermDef) hp53 [] rfl 5 rfl rfl h3 (me 4 rfl) (Cells.flat _)) (hL52.argO (dk := k_api_Sym) hp53 [] rfl 4 rfl rfl h6 (me 4 rfl) (Cells.flat _)) (hL52.argO (dk := k_api_Prod) hp53 [] rfl 3 rfl rfl h25 (me 1 rfl) hC23) Rw.nil Rw.nil Rw.nil Rw.nil Rw.nil Rw.nil Rw.nil (hL52.argO (dk := (Kd.slice k_api_Node)) hp53 [] rfl 1 rfl rfl h47 (me 0 rfl) hC45) (hL52.argO (dk := (kInt .i64)) hp53 [] rfl 0 rfl rfl h50 (me 4 rfl) (Cells.flat _)) (hL52.hFl (Sl := ([] : List Snap)) hp53 (sels [] rfl)) (hL52.into hp53 (Fl ([] : List Snap))) r54 hv55) ?_
 rintro _ w61 ⟨A56, n57, c58, rfl, hM62, h59⟩
 have hL63 := hL52.call hp53 hM62
 refine ⟨_, _, _, rfl, hL63, ?_⟩
 refine wl_v 5 rfl (v_assign rfl) gn rfl ?_
 refine w_end 6 rfl ?_
 refine g_seq (c := q31c8) rfl ?_
 refine g_region (c := q31c9) rfl rfl ?_
 refine wl_v 0 rfl (v_move rfl) gn rfl ?_
 obtain ⟨r68, hv69, h⟩ := h
 refine wl_s 1 rfl (s_call [.slice A56 n57 c58, .int .i64 0] rfl Try.func42 rfl rfl rfl fun w65 hL66 => ?_) gn
 have hp67 : List.Perm ([.own (.slice A56 n57 c58) 39 7 n57 (r54.flatMap enc_api_Node), .own (.slice (some ⟨gb49, 0, none⟩) 2 2) 3 1 2 (([0, 5] : List Int).flatMap (eI .i64)), .own (.slice (some ⟨gb46, 0, none⟩) 1 1) 22 1 1 [.slice A33 n34 c35], .box gb26 58 [.string (⟨#[]⟩ : ByteArray), .slice none 0 0, .slice (some ⟨gb2, 0, none⟩) 2 2, .slice (some ⟨gb5, 0, none⟩) 1 1, .slice (some ⟨gb24, 0, none⟩) 2 2, .slice none 0 0, .slice none 0 0, .slice none 0 0, .slice none 0 0, .slice none 0 0, .slice none 0 0, .slice none 0 0], .own (.slice (some ⟨gb24, 0, none⟩) 2 2) 107 2 2 [.int .i64 (-1), .slice (some ⟨gb8, 0, none⟩) 1 1, .int .i64 0, .slice (some ⟨gb11, 0, none⟩) 1 1], .own (.slice (some ⟨gb5, 0, none⟩) 1 1) 74 2 1 (([(⟨(⟨#[115]⟩ : ByteArray), 1⟩ : api_Sym)] : List api_Sym).flatMap enc_api_Sym), .own (.slice (some ⟨gb2, 0, none⟩) 2 2) 100 2 2 (([(⟨(⟨#[]⟩ : ByteArray), false⟩ : api_TermDef), (⟨(⟨#[97]⟩ : ByteArray), false⟩ : api_TermDef)] : List api_TermDef).flatMap enc_api_TermDef)] : List Ent) (([] : List Ent) ++ ([.own (.slice A56 n57 c58) 39 7 n57 (r54.flatMap enc_api_Node), .own (.slice (some ⟨gb49, 0, none⟩) 2 2) 3 1 2 (([0, 5] : List Int).flatMap (eI .i64)), .own (.slice (some ⟨gb46, 0, none⟩) 1 1) 22 1 1 [.slice A33 n34 c35], .box gb26 58 [.string (⟨#[]⟩ : ByteArray), .slice none 0 0, .slice (some ⟨gb2, 0, none⟩) 2 2, .slice (some ⟨gb5, 0, none⟩) 1 1, .slice (some ⟨gb24, 0, none⟩) 2 2, .slice none 0 0, .slice none 0 0, .slice none 0 0, .slice none 0 0, .slice none 0 0, .slice none 0 0, .slice none 0 0], .own (.slice (some ⟨gb24, 0, none⟩) 2 2) 107 2 2 [.int .i64 (-1), .slice (some ⟨gb8, 0, none⟩) 1 1, .int .i64 0, .slice (some ⟨gb11, 0, none⟩) 1 1], .own (.slice (some ⟨gb5, 0, none⟩) 1 1) 74 2 1 (([(⟨(⟨#[115]⟩ : ByteArray), 1⟩ : api_Sym)] : List api_Sym).flatMap enc_api_Sym), .own (.slice (some ⟨gb2, 0, none⟩) 2 2) 100 2 2 (([(⟨(⟨#[]⟩ : ByteArray), false⟩ : api_TermDef), (⟨(⟨#[97]⟩ : ByteArray), false⟩ : api_TermDef)] : List api_TermDef).flatMap enc_api_TermDef)] : List Ent)) := perm_of_idx [] [0, 1, 2, 3, 4, 5, 6] rfl rfl (by kernel_rfl)
 refine Calls.mono (tree_Kids_calls w65 (Fl ([] : List Snap)) r54 0 A56 n57 c58 (hL66.argO (dk := k_api_Node) hp67 [] rfl 0 rfl rfl (Ow.weak hL52.env.size h59) (me 4 rfl) (Cells.flat _)) (hL66.hFl (Sl := ([] : List Snap)) hp67 (sels [] rfl)) (hL66.into hp67 (Fl ([] : List Snap))) r68 hv69) ?_
 rintro _ w75 ⟨A70, n71, c72, rfl, hM76, h73⟩
 have hL77 := hL66.call hp67 hM76
 refine ⟨_, _, _, rfl, hL77, ?_⟩
 refine wl_v 2 rfl (v_assign rfl) gn rfl ?_
 refine w_end 3 rfl ?_
 refine g_seq (c := q31c10) rfl ?_
 refine g_region (c := q31c11) rfl rfl ?_
 refine wl_v 0 rfl (v_move rfl) gn rfl ?_
 obtain ⟨r81, hv82, h⟩ := h
 refine wl_s 1 rfl (s_call [.slice A56 n57 c58] rfl Try.func53 rfl rfl rfl fun w78 hL79 => ?_) gn
 have hp80 : List.Perm ([.own (.slice A70 n71 c72) 3 1 n71 (r68.flatMap (eI .i64)), .own (.slice A56 n57 c58) 39 7 n57 (r54.flatMap enc_api_Node), .own (.slice (some ⟨gb49, 0, none⟩) 2 2) 3 1 2 (([0, 5] : List Int).flatMap (eI .i64)), .own (.slice (some ⟨gb46, 0, none⟩) 1 1) 22 1 1 [.slice A33 n34 c35], .box gb26 58 [.string (⟨#[]⟩ : ByteArray), .slice none 0 0, .slice (some ⟨gb2, 0, none⟩) 2 2, .slice (some ⟨gb5, 0, none⟩) 1 1, .slice (some ⟨gb24, 0, none⟩) 2 2, .slice none 0 0, .slice none 0 0, .slice none 0 0, .slice none 0 0, .slice none 0 0, .slice none 0 0, .slice none 0 0], .own (.slice (some ⟨gb24, 0, none⟩) 2 2) 107 2 2 [.int .i64 (-1), .slice (some ⟨gb8, 0, none⟩) 1 1, .int .i64 0, .slice (some ⟨gb11, 0, none⟩) 1 1], .own (.slice (some ⟨gb5, 0, none⟩) 1 1) 74 2 1 (([(⟨(⟨#[115]⟩ : ByteArray), 1⟩ : api_Sym)] : List api_Sym).flatMap enc_api_Sym), .own (.slice (some ⟨gb2, 0, none⟩) 2 2) 100 2 2 (([(⟨(⟨#[]⟩ : ByteArray), false⟩ : api_TermDef), (⟨(⟨#[97]⟩ : ByteArray), false⟩ : api_TermDef)] : List api_TermDef).flatMap enc_api_TermDef)] : List Ent) (([] : List Ent) ++ ([.own (.slice A70 n71 c72) 3 1 n71 (r68.flatMap (eI .i64)), .own (.slice A56 n57 c58) 39 7 n57 (r54.flatMap enc_api_Node), .own (.slice (some ⟨gb49, 0, none⟩) 2 2) 3 1 2 (([0, 5] : List Int).flatMap (eI .i64)), .own (.slice (some ⟨gb46, 0, none⟩) 1 1) 22 1 1 [.slice A33 n34 c35], .box gb26 58 [.string (⟨#[]⟩ : ByteArray), .slice none 0 0, .slice (some ⟨gb2, 0, none⟩) 2 2, .slice (some ⟨gb5, 0, none⟩) 1 1, .slice (some ⟨gb24, 0, none⟩) 2 2, .slice none 0 0, .slice none 0 0, .slice none 0 0, .slice none 0 0, .slice none 0 0, .slice none 0 0, .slice none 0 0], .own (.slice (some ⟨gb24, 0, none⟩) 2 2) 107 2 2 [.int .i64 (-1), .slice (some ⟨gb8, 0, none⟩) 1 1, .int .i64 0, .slice (some ⟨gb11, 0, none⟩) 1 1], .own (.slice (some ⟨gb5, 0, none⟩) 1 1) 74 2 1 (([(⟨(⟨#[115]⟩ : ByteArray), 1⟩ : api_Sym)] : List api_Sym).flatMap enc_api_Sym), .own (.slice (some ⟨gb2, 0, none⟩) 2 2) 100 2 2 (([(⟨(⟨#[]⟩ : ByteArray), false⟩ : api_TermDef), (⟨(⟨#[97]⟩ : ByteArray), false⟩ : api_TermDef)] : List api_TermDef).flatMap enc_api_TermDef)] : List Ent)) := perm_of_idx [] [0, 1, 2, 3, 4, 5, 6, 7] rfl rfl (by kernel_rfl)
 refine Calls.mono (tree_Text_calls w78 (Fl ([] : List Snap)) r54 A56 n57 c58 (hL79.argO (dk := k_api_Node) hp80 [] rfl 1 rfl rfl (Ow.weak hL52.env.size h59) (me 4 rfl) (Cells.flat _)) (hL79.hFl (Sl := ([] : List Snap)) hp80 (sels [] rfl)) (hL79.into hp80 (Fl ([] : List Snap))) r81 hv82) ?_
 rintro _ w83 ⟨rfl, hM84⟩
 have hL85 := hL79.call hp80 hM84
 refine ⟨_, _, _, rfl, hL85, ?_⟩
 refine wl_v 2 rfl (v_assign rfl) gn rfl ?_
 refine w_end 3 rfl ?_
 refine g_seq (c := q31c12) rfl ?_
 refine g_region (c := q31c13) rfl rfl ?_
 refine wl_v 0 rfl (v_move rfl) gn rfl ?_
 refine wl_v 1 rfl (v_lenQ un_22 rfl h41.hq) gn rfl ?_
 refine wl_v 2 rfl (v_bin rfl rfl rfl) gn rfl ?_
 refine wl_v 3 rfl (v_move rfl) gn rfl ?_
 by_cases hp86 : (r31.length : Int) = 1
 ·have h := if_pos' hp86 h
  refine w_bool 34 rfl ((eqi hp86)) ?_
  refine wl_v 4 rfl (v_move rfl) (gy 34 rfl rfl) rfl ?_
  refine wl_v 5 rfl (v_lenQ un_22 rfl (Ow.weak hL52.env.size h59).hq) (gy 34 rfl rfl) rfl ?_
  refine wl_v 6 rfl (v_bin rfl rfl rfl) (gy 34 rfl rfl) rfl ?_
  refine wl_v 7 rfl (v_pick (b := true) rfl rfl) gn rfl ?_
  refine wl_v 8 rfl (v_move rfl) gn rfl ?_
  by_cases hp87 : (r54.length : Int) = 2
  ·have h := if_pos' hp87 h
   refine w_bool 39 rfl ((eqi hp87)) ?_
   refine wl_v 9 rfl (v_move rfl) (gy 39 rfl rfl) rfl ?_
   obtain ⟨hb88, h⟩ := h
   refine wl_v 10 rfl (v_idxO slE_22 rfl rfl (Ow.weak hL52.env.size h59) hb88) (gy 39 rfl rfl) rfl ?_
   refine wl_v 11 rfl (v_fldA fo_39_3 rfl) (gy 39 rfl rfl) rfl ?_
   refine wl_v 12 rfl (v_ldO1 (.int .i64 ((ix r54 0).from_)) 1 ld_3 rfl rfl (fm_get hl_api_Node hb88 rfl)) (gy 39 rfl rfl) rfl ?_
   refine wl_v 13 rfl (v_bin rfl rfl rfl) (gy 39 rfl rfl) rfl ?_
   refine wl_v 14 rfl (v_pick (b := true) rfl rfl) gn rfl ?_
   refine wl_v 15 rfl (v_move rfl) gn rfl ?_
   by_cases hp89 : (ix r54 0).from_ = 2
   ·have h := if_pos' hp89 h
    refine w_bool 46 rfl ((eqi hp89)) ?_
    refine wl_v 16 rfl (v_move rfl) (gy 46 rfl rfl) rfl ?_
    refine wl_v 17 rfl (v_idxO slE_22 rfl rfl (Ow.weak hL52.env.size h59) hb88) (gy 46 rfl rfl) rfl ?_
    refine wl_v 18 rfl (v_fldA fo_39_4 rfl) (gy 46 rfl rfl) rfl ?_
    refine wl_v 19 rfl (v_ldO1 (.int .i64 ((ix r54 0).to)) 1 ld_3 rfl rfl (fm_get hl_api_Node hb88 rfl)) (gy 46 rfl rfl) rfl ?_
    refine wl_v 20 rfl (v_bin rfl rfl rfl) (gy 46 rfl rfl) rfl ?_
    refine wl_v 21 rfl (v_pick (b := true) rfl rfl) gn rfl ?_
    refine wl_v 22 rfl (v_move rfl) gn rfl ?_
    by_cases hp90 : (ix r54 0).to = 5
    ·have h := if_pos' hp90 h
     refine w_bool 53 rfl ((eqi hp90)) ?_
     refine wl_v 23 rfl (v_move rfl) (gy 53 rfl rfl) rfl ?_
     refine wl_v 24 rfl (v_idxO slE_22 rfl rfl (Ow.weak hL52.env.size h59) hb88) (gy 53 rfl rfl) rfl ?_
     refine wl_v 25 rfl (v_fldA fo_39_5 rfl) (gy 53 rfl rfl) rfl ?_
     refine wl_v 26 rfl (v_ldO1 (.int .i64 ((ix r54 0).kids)) 1 ld_3 rfl rfl (fm_get hl_api_Node hb88 rfl)) (gy 53 rfl rfl) rfl ?_
     refine wl_v 27 rfl (v_bin rfl rfl rfl) (gy 53 rfl rfl) rfl ?_
     refine wl_v 28 rfl (v_pick (b := true) rfl rfl) gn rfl ?_
     refine wl_v 29 rfl (v_move rfl) gn rfl ?_
     by_cases hp91 : (ix r54 0).kids = 1
     ·have h := if_pos' hp91 h
      refine w_bool 60 rfl ((eqi hp91)) ?_
      refine wl_v 30 rfl (v_move rfl) (gy 60 rfl rfl) rfl ?_
      refine wl_v 31 rfl (v_idxO slE_22 rfl rfl (Ow.weak hL52.env.size h59) hb88) (gy 60 rfl rfl) rfl ?_
      refine wl_v 32 rfl (v_fldA fo_39_6 rfl) (gy 60 rfl rfl) rfl ?_
      refine wl_v 33 rfl (v_ldO1 (.int .i64 ((ix r54 0).leaf)) 1 ld_3 rfl rfl (fm_get hl_api_Node hb88 rfl)) (gy 60 rfl rfl) rfl ?_
      refine wl_v 34 rfl (v_bin rfl rfl rfl) (gy 60 rfl rfl) rfl ?_
      refine wl_v 35 rfl (v_pick (b := true) rfl rfl) gn rfl ?_
      refine wl_v 36 rfl (v_move rfl) gn rfl ?_
      by_cases hp92 : (ix r54 0).leaf = -1
      ·have h := if_pos' hp92 h
       refine w_bool 67 rfl ((eqi hp92)) ?_
       refine wl_v 37 rfl (v_move rfl) (gy 67 rfl rfl) rfl ?_
       refine wl_v 38 rfl (v_lenQ un_23 rfl (Ow.weak hL66.env.size h73).hq) (gy 67 rfl rfl) rfl ?_
       refine wl_v 39 rfl (v_bin rfl rfl rfl) (gy 67 rfl rfl) rfl ?_
       refine wl_v 40 rfl (v_pick (b := true) rfl rfl) gn rfl ?_
       refine wl_v 41 rfl (v_move rfl) gn rfl ?_
       by_cases hp93 : (r68.length : Int) = 1
       ·have h := if_pos' hp93 h
        refine w_bool 72 rfl ((eqi hp93)) ?_
        refine wl_v 42 rfl (v_move rfl) (gy 72 rfl rfl) rfl ?_
        obtain ⟨hb94, h⟩ := h
        refine wl_v 43 rfl (v_idxO slE_23 rfl rfl (Ow.weak hL66.env.size h73) hb94) (gy 72 rfl rfl) rfl ?_
        refine wl_v 44 rfl (v_ldO1 (.int .i64 (ix r68 0)) 0 ld_3 rfl rfl (fm_get0 (hlI .i64) hb94 rfl)) (gy 72 rfl rfl) rfl ?_
        refine wl_v 45 rfl (v_bin rfl rfl rfl) (gy 72 rfl rfl) rfl ?_
        refine wl_v 46 rfl (v_pick (b := true) rfl rfl) gn rfl ?_
        refine wl_v 47 rfl (v_move rfl) gn rfl ?_
        by_cases hp95 : ix r68 0 = 1
        ·have h := if_pos' hp95 h
         refine w_bool 78 rfl ((eqi hp95)) ?_
         refine wl_v 48 rfl (v_move rfl) (gy 78 rfl rfl) rfl ?_
         refine wl_v 49 rfl (v_eqS rfl rfl) (gy 78 rfl rfl) rfl ?_
         refine wl_v 50 rfl (v_pick (b := true) rfl rfl) gn rfl ?_
         refine wl_v 51 rfl (v_move rfl) gn rfl ?_
         by_cases hp96 : r81 = (⟨#[40, 115, 32, 102, 58, 32, 40, 97, 41, 41]⟩ : ByteArray)
         ·have h := if_pos' hp96 h
          refine w_bool 82 rfl ((seq_t hp96)) ?_
          refine wl_v 52 rfl (v_move rfl) (gy 82 rfl rfl) rfl ?_
          obtain ⟨r100, hv101, h⟩ := h
          refine wl_s 53 rfl (s_call [.slice A56 n57 c58] rfl Try.func37 rfl rfl rfl fun w97 hL98 => ?_) (gy 82 rfl rfl)
          have hp99 : List.Perm ([.own (.slice A70 n71 c72) 3 1 n71 (r68.flatMap (eI .i64)), .own (.slice A56 n57 c58) 39 7 n57 (r54.flatMap enc_api_Node), .own (.slice (some ⟨gb49, 0, none⟩) 2 2) 3 1 2 (([0, 5] : List Int).flatMap (eI .i64)), .own (.slice (some ⟨gb46, 0, none⟩) 1 1) 22 1 1 [.slice A33 n34 c35], .box gb26 58 [.string (⟨#[]⟩ : ByteArray), .slice none 0 0, .slice (some ⟨gb2, 0, none⟩) 2 2, .slice (some ⟨gb5, 0, none⟩) 1 1, .slice (some ⟨gb24, 0, none⟩) 2 2, .slice none 0 0, .slice none 0 0, .slice none 0 0, .slice none 0 0, .slice none 0 0, .slice none 0 0, .slice none 0 0], .own (.slice (some ⟨gb24, 0, none⟩) 2 2) 107 2 2 [.int .i64 (-1), .slice (some ⟨gb8, 0, none⟩) 1 1, .int .i64 0, .slice (some ⟨gb11, 0, none⟩) 1 1], .own (.slice (some ⟨gb5, 0, none⟩) 1 1) 74 2 1 (([(⟨(⟨#[115]⟩ : ByteArray), 1⟩ : api_Sym)] : List api_Sym).flatMap enc_api_Sym), .own (.slice (some ⟨gb2, 0, none⟩) 2 2) 100 2 2 (([(⟨(⟨#[]⟩ : ByteArray), false⟩ : api_TermDef), (⟨(⟨#[97]⟩ : ByteArray), false⟩ : api_TermDef)] : List api_TermDef).flatMap enc_api_TermDef)] : List Ent) (([] : List Ent) ++ ([.own (.slice A70 n71 c72) 3 1 n71 (r68.flatMap (eI .i64)), .own (.slice A56 n57 c58) 39 7 n57 (r54.flatMap enc_api_Node), .own (.slice (some ⟨gb49, 0, none⟩) 2 2) 3 1 2 (([0, 5] : List Int).flatMap (eI .i64)), .own (.slice (some ⟨gb46, 0, none⟩) 1 1) 22 1 1 [.slice A33 n34 c35], .box gb26 58 [.string (⟨#[]⟩ : ByteArray), .slice none 0 0, .slice (some ⟨gb2, 0, none⟩) 2 2, .slice (some ⟨gb5, 0, none⟩) 1 1, .slice (some ⟨gb24, 0, none⟩) 2 2, .slice none 0 0, .slice none 0 0, .slice none 0 0, .slice none 0 0, .slice none 0 0, .slice none 0 0, .slice none 0 0], .own (.slice (some ⟨gb24, 0, none⟩) 2 2) 107 2 2 [.int .i64 (-1), .slice (some ⟨gb8, 0, none⟩) 1 1, .int .i64 0, .slice (some ⟨gb11, 0, none⟩) 1 1], .own (.slice (some ⟨gb5, 0, none⟩) 1 1) 74 2 1 (([(⟨(⟨#[115]⟩ : ByteArray), 1⟩ : api_Sym)] : List api_Sym).flatMap enc_api_Sym), .own (.slice (some ⟨gb2, 0, none⟩) 2 2) 100 2 2 (([(⟨(⟨#[]⟩ : ByteArray), false⟩ : api_TermDef), (⟨(⟨#[97]⟩ : ByteArray), false⟩ : api_TermDef)] : List api_TermDef).flatMap enc_api_TermDef)] : List Ent)) := perm_of_idx [] [0, 1, 2, 3, 4, 5, 6, 7] rfl rfl (by kernel_rfl)
          refine Calls.mono (tree_Roots_calls w97 (Fl ([] : List Snap)) r54 A56 n57 c58 (hL98.argO (dk := k_api_Node) hp99 [] rfl 1 rfl rfl (Ow.weak hL52.env.size h59) (me 4 rfl) (Cells.flat _)) (hL98.hFl (Sl := ([] : List Snap)) hp99 (sels [] rfl)) (hL98.into hp99 (Fl ([] : List Snap))) r100 hv101) ?_
          rintro _ w102 ⟨rfl, hM103⟩
          have hL104 := hL98.call hp99 hM103
          refine ⟨_, _, _, rfl, hL104, ?_⟩
          refine wl_v 54 rfl (v_bin rfl rfl rfl) (gy 82 rfl rfl) rfl ?_
          refine wl_v 55 rfl (v_pick (b := true) rfl rfl) gn rfl ?_
          refine wl_v 56 rfl (v_assign rfl) gn rfl ?_
          refine w_end 57 rfl ?_
          refine g_retR (c := q31c14) [.bool (r100 == 1)] rfl Try.func31 rfl (.tmp rfl (.nil)) fun wr hLr => ?_
          have hMr : B.Loc w wr [] [St w []] := hLr.pick0 (sels [5] rfl)
          show trellislaw15_alive_R w F  r (.returned (packV [.bool (r100 == 1)])) wr
          rw [h]
          exact ⟨rfl, hMr⟩
         ·have h := if_neg' hp96 h
          refine w_bool 82 rfl ((seq_f hp96)) ?_
          refine wl_pass 52 rfl (ps 82 rfl rfl rfl) ?_
          refine wl_pass 53 rfl (ps 82 rfl rfl rfl) ?_
          refine wl_pass 54 rfl (ps 82 rfl rfl rfl) ?_
          refine wl_v 55 rfl (v_pick (b := false) rfl rfl) gn rfl ?_
          refine wl_v 56 rfl (v_assign rfl) gn rfl ?_
          refine w_end 57 rfl ?_
          refine g_retR (c := q31c14) [.bool false] rfl Try.func31 rfl (.tmp rfl (.nil)) fun wr hLr => ?_
          have hMr : B.Loc w wr [] [St w []] := hLr.pick0 (sels [5] rfl)
          show trellislaw15_alive_R w F  r (.returned (packV [.bool false])) wr
          rw [h]
          exact ⟨rfl, hMr⟩
        ·have h := if_neg' hp95 h
         refine w_bool 78 rfl ((nei hp95)) ?_
         refine wl_pass 48 rfl (ps 78 rfl rfl rfl) ?_
         refine wl_pass 49 rfl (ps 78 rfl rfl rfl) ?_
         refine wl_v 50 rfl (v_pick (b := false) rfl rfl) gn rfl ?_
         refine wl_v 51 rfl (v_move rfl) gn rfl ?_
         refine wl_pass 52 rfl (ps 82 rfl rfl rfl) ?_
         refine wl_pass 53 rfl (ps 82 rfl rfl rfl) ?_
         refine wl_pass 54 rfl (ps 82 rfl rfl rfl) ?_
         refine wl_v 55 rfl (v_pick (b := false) rfl rfl) gn rfl ?_
         refine wl_v 56 rfl (v_assign rfl) gn rfl ?_
         refine w_end 57 rfl ?_
         refine g_retR (c := q31c14) [.bool false] rfl Try.func31 rfl (.tmp rfl (.nil)) fun wr hLr => ?_
         have hMr : B.Loc w wr [] [St w []] := hLr.pick0 (sels [5] rfl)
         show trellislaw15_alive_R w F  r (.returned (packV [.bool false])) wr
         rw [h]
         exact ⟨rfl, hMr⟩
       ·have h := if_neg' hp93 h
        refine w_bool 72 rfl ((nei hp93)) ?_
        refine wl_pass 42 rfl (ps 72 rfl rfl rfl) ?_
        refine wl_pass 43 rfl (ps 72 rfl rfl rfl) ?_
        refine wl_pass 44 rfl (ps 72 rfl rfl rfl) ?_
        refine wl_pass 45 rfl (ps 72 rfl rfl rfl) ?_
        refine wl_v 46 rfl (v_pick (b := false) rfl rfl) gn rfl ?_
        refine wl_v 47 rfl (v_move rfl) gn rfl ?_
        refine wl_pass 48 rfl (ps 78 rfl rfl rfl) ?_
        refine wl_pass 49 rfl (ps 78 rfl rfl rfl) ?_
        refine wl_v 50 rfl (v_pick (b := false) rfl rfl) gn rfl ?_
        refine wl_v 51 rfl (v_move rfl) gn rfl ?_
        refine wl_pass 52 rfl (ps 82 rfl rfl rfl) ?_
        refine wl_pass 53 rfl (ps 82 rfl rfl rfl) ?_
        refine wl_pass 54 rfl (ps 82 rfl rfl rfl) ?_
        refine wl_v 55 rfl (v_pick (b := false) rfl rfl) gn rfl ?_
        refine wl_v 56 rfl (v_assign rfl) gn rfl ?_
        refine w_end 57 rfl ?_
        refine g_retR (c := q31c14) [.bool false] rfl Try.func31 rfl (.tmp rfl (.nil)) fun wr hLr => ?_
        have hMr : B.Loc w wr [] [St w []] := hLr.pick0 (sels [5] rfl)
        show trellislaw15_alive_R w F  r (.returned (packV [.bool false])) wr
        rw [h]
        exact ⟨rfl, hMr⟩
      ·have h := if_neg' hp92 h
       refine w_bool 67 rfl ((nei hp92)) ?_
       refine wl_pass 37 rfl (ps 67 rfl rfl rfl) ?_
       refine wl_pass 38 rfl (ps 67 rfl rfl rfl) ?_
       refine wl_pass 39 rfl (ps 67 rfl rfl rfl) ?_
       refine wl_v 40 rfl (v_pick (b := false) rfl rfl) gn rfl ?_
       refine wl_v 41 rfl (v_move rfl) gn rfl ?_
       refine wl_pass 42 rfl (ps 72 rfl rfl rfl) ?_
       refine wl_pass 43 rfl (ps 72 rfl rfl rfl) ?_
       refine wl_pass 44 rfl (ps 72 rfl rfl rfl) ?_
       refine wl_pass 45 rfl (ps 72 rfl rfl rfl) ?_
       refine wl_v 46 rfl (v_pick (b := false) rfl rfl) gn rfl ?_
       refine wl_v 47 rfl (v_move rfl) gn rfl ?_
       refine wl_pass 48 rfl (ps 78 rfl rfl rfl) ?_
       refine wl_pass 49 rfl (ps 78 rfl rfl rfl) ?_
       refine wl_v 50 rfl (v_pick (b := false) rfl rfl) gn rfl ?_
       refine wl_v 51 rfl (v_move rfl) gn rfl ?_
       refine wl_pass 52 rfl (ps 82 rfl rfl rfl) ?_
       refine wl_pass 53 rfl (ps 82 rfl rfl rfl) ?_
       refine wl_pass 54 rfl (ps 82 rfl rfl rfl) ?_
       refine wl_v 55 rfl (v_pick (b := false) rfl rfl) gn rfl ?_
       refine wl_v 56 rfl (v_assign rfl) gn rfl ?_
       refine w_end 57 rfl ?_
       refine g_retR (c := q31c14) [.bool false] rfl Try.func31 rfl (.tmp rfl (.nil)) fun wr hLr => ?_
       have hMr : B.Loc w wr [] [St w []] := hLr.pick0 (sels [5] rfl)
       show trellislaw15_alive_R w F  r (.returned (packV [.bool false])) wr
       rw [h]
       exact ⟨rfl, hMr⟩
     ·have h := if_neg' hp91 h
      refine w_bool 60 rfl ((nei hp91)) ?_
      refine wl_pass 30 rfl (ps 60 rfl rfl rfl) ?_
      refine wl_pass 31 rfl (ps 60 rfl rfl rfl) ?_
      refine wl_pass 32 rfl (ps 60 rfl rfl rfl) ?_
      refine wl_pass 33 rfl (ps 60 rfl rfl rfl) ?_
      refine wl_pass 34 rfl (ps 60 rfl rfl rfl) ?_
      refine wl_v 35 rfl (v_pick (b := false) rfl rfl) gn rfl ?_
      refine wl_v 36 rfl (v_move rfl) gn rfl ?_
      refine wl_pass 37 rfl (ps 67 rfl rfl rfl) ?_
      refine wl_pass 38 rfl (ps 67 rfl rfl rfl) ?_
      refine wl_pass 39 rfl (ps 67 rfl rfl rfl) ?_
      refine wl_v 40 rfl (v_pick (b := false) rfl rfl) gn rfl ?_
      refine wl_v 41 rfl (v_move rfl) gn rfl ?_
      refine wl_pass 42 rfl (ps 72 rfl rfl rfl) ?_
      refine wl_pass 43 rfl (ps 72 rfl rfl rfl) ?_
      refine wl_pass 44 rfl (ps 72 rfl rfl rfl) ?_
      refine wl_pass 45 rfl (ps 72 rfl rfl rfl) ?_
      refine wl_v 46 rfl (v_pick (b := false) rfl rfl) gn rfl ?_
      refine wl_v 47 rfl (v_move rfl) gn rfl ?_
      refine wl_pass 48 rfl (ps 78 rfl rfl rfl) ?_
      refine wl_pass 49 rfl (ps 78 rfl rfl rfl) ?_
      refine wl_v 50 rfl (v_pick (b := false) rfl rfl) gn rfl ?_
      refine wl_v 51 rfl (v_move rfl) gn rfl ?_
      refine wl_pass 52 rfl (ps 82 rfl rfl rfl) ?_
      refine wl_pass 53 rfl (ps 82 rfl rfl rfl) ?_
      refine wl_pass 54 rfl (ps 82 rfl rfl rfl) ?_
      refine wl_v 55 rfl (v_pick (b := false) rfl rfl) gn rfl ?_
      refine wl_v 56 rfl (v_assign rfl) gn rfl ?_
      refine w_end 57 rfl ?_
      refine g_retR (c := q31c14) [.bool false] rfl Try.func31 rfl (.tmp rfl (.nil)) fun wr hLr => ?_
      have hMr : B.Loc w wr [] [St w []] := hLr.pick0 (sels [5] rfl)
      show trellislaw15_alive_R w F  r (.returned (packV [.bool false])) wr
      rw [h]
      exact ⟨rfl, hMr⟩
    ·have h := if_neg' hp90 h
     refine w_bool 53 rfl ((nei hp90)) ?_
     refine wl_pass 23 rfl (ps 53 rfl rfl rfl) ?_
     refine wl_pass 24 rfl (ps 53 rfl rfl rfl) ?_
     refine wl_pass 25 rfl (ps 53 rfl rfl rfl) ?_
     refine wl_pass 26 rfl (ps 53 rfl rfl rfl) ?_
     refine wl_pass 27 rfl (ps 53 rfl rfl rfl) ?_
     refine wl_v 28 rfl (v_pick (b := false) rfl rfl) gn rfl ?_
     refine wl_v 29 rfl (v_move rfl) gn rfl ?_
     refine wl_pass 30 rfl (ps 60 rfl rfl rfl) ?_
     refine wl_pass 31 rfl (ps 60 rfl rfl rfl) ?_
     refine wl_pass 32 rfl (ps 60 rfl rfl rfl) ?_
     refine wl_pass 33 rfl (ps 60 rfl rfl rfl) ?_
     refine wl_pass 34 rfl (ps 60 rfl rfl rfl) ?_
     refine wl_v 35 rfl (v_pick (b := false) rfl rfl) gn rfl ?_
     refine wl_v 36 rfl (v_move rfl) gn rfl ?_
     refine wl_pass 37 rfl (ps 67 rfl rfl rfl) ?_
     refine wl_pass 38 rfl (ps 67 rfl rfl rfl) ?_
     refine wl_pass 39 rfl (ps 67 rfl rfl rfl) ?_
     refine wl_v 40 rfl (v_pick (b := false) rfl rfl) gn rfl ?_
     refine wl_v 41 rfl (v_move rfl) gn rfl ?_
     refine wl_pass 42 rfl (ps 72 rfl rfl rfl) ?_
     refine wl_pass 43 rfl (ps 72 rfl rfl rfl) ?_
     refine wl_pass 44 rfl (ps 72 rfl rfl rfl) ?_
     refine wl_pass 45 rfl (ps 72 rfl rfl rfl) ?_
     refine wl_v 46 rfl (v_pick (b := false) rfl rfl) gn rfl ?_
     refine wl_v 47 rfl (v_move rfl) gn rfl ?_
     refine wl_pass 48 rfl (ps 78 rfl rfl rfl) ?_
     refine wl_pass 49 rfl (ps 78 rfl rfl rfl) ?_
     refine wl_v 50 rfl (v_pick (b := false) rfl rfl) gn rfl ?_
     refine wl_v 51 rfl (v_move rfl) gn rfl ?_
     refine wl_pass 52 rfl (ps 82 rfl rfl rfl) ?_
     refine wl_pass 53 rfl (ps 82 rfl rfl rfl) ?_
     refine wl_pass 54 rfl (ps 82 rfl rfl rfl) ?_
     refine wl_v 55 rfl (v_pick (b := false) rfl rfl) gn rfl ?_
     refine wl_v 56 rfl (v_assign rfl) gn rfl ?_
     refine w_end 57 rfl ?_
     refine g_retR (c := q31c14) [.bool false] rfl Try.func31 rfl (.tmp rfl (.nil)) fun wr hLr => ?_
     have hMr : B.Loc w wr [] [St w []] := hLr.pick0 (sels [5] rfl)
     show trellislaw15_alive_R w F  r (.returned (packV [.bool false])) wr
     rw [h]
     exact ⟨rfl, hMr⟩
   ·have h := if_neg' hp89 h
    refine w_bool 46 rfl ((nei hp89)) ?_
    refine wl_pass 16 rfl (ps 46 rfl rfl rfl) ?_
    refine wl_pass 17 rfl (ps 46 rfl rfl rfl) ?_
    refine wl_pass 18 rfl (ps 46 rfl rfl rfl) ?_
    refine wl_pass 19 rfl (ps 46 rfl rfl rfl) ?_
    refine wl_pass 20 rfl (ps 46 rfl rfl rfl) ?_
    refine wl_v 21 rfl (v_pick (b := false) rfl rfl) gn rfl ?_
    refine wl_v 22 rfl (v_move rfl) gn rfl ?_
    refine wl_pass 23 rfl (ps 53 rfl rfl rfl) ?_
    refine wl_pass 24 rfl (ps 53 rfl rfl rfl) ?_
    refine wl_pass 25 rfl (ps 53 rfl rfl rfl) ?_
    refine wl_pass 26 rfl (ps 53 rfl rfl rfl) ?_
    refine wl_pass 27 rfl (ps 53 rfl rfl rfl) ?_
    refine wl_v 28 rfl (v_pick (b := false) rfl rfl) gn rfl ?_
    refine wl_v 29 rfl (v_move rfl) gn rfl ?_
    refine wl_pass 30 rfl (ps 60 rfl rfl rfl) ?_
    refine wl_pass 31 rfl (ps 60 rfl rfl rfl) ?_
    refine wl_pass 32 rfl (ps 60 rfl rfl rfl) ?_
    refine wl_pass 33 rfl (ps 60 rfl rfl rfl) ?_
    refine wl_pass 34 rfl (ps 60 rfl rfl rfl) ?_
    refine wl_v 35 rfl (v_pick (b := false) rfl rfl) gn rfl ?_
    refine wl_v 36 rfl (v_move rfl) gn rfl ?_
    refine wl_pass 37 rfl (ps 67 rfl rfl rfl) ?_
    refine wl_pass 38 rfl (ps 67 rfl rfl rfl) ?_
    refine wl_pass 39 rfl (ps 67 rfl rfl rfl) ?_
    refine wl_v 40 rfl (v_pick (b := false) rfl rfl) gn rfl ?_
    refine wl_v 41 rfl (v_move rfl) gn rfl ?_
    refine wl_pass 42 rfl (ps 72 rfl rfl rfl) ?_
    refine wl_pass 43 rfl (ps 72 rfl rfl rfl) ?_
    refine wl_pass 44 rfl (ps 72 rfl rfl rfl) ?_
    refine wl_pass 45 rfl (ps 72 rfl rfl rfl) ?_
    refine wl_v 46 rfl (v_pick (b := false) rfl rfl) gn rfl ?_
    refine wl_v 47 rfl (v_move rfl) gn rfl ?_
    refine wl_pass 48 rfl (ps 78 rfl rfl rfl) ?_
    refine wl_pass 49 rfl (ps 78 rfl rfl rfl) ?_
    refine wl_v 50 rfl (v_pick (b := false) rfl rfl) gn rfl ?_
    refine wl_v 51 rfl (v_move rfl) gn rfl ?_
    refine wl_pass 52 rfl (ps 82 rfl rfl rfl) ?_
    refine wl_pass 53 rfl (ps 82 rfl rfl rfl) ?_
    refine wl_pass 54 rfl (ps 82 rfl rfl rfl) ?_
    refine wl_v 55 rfl (v_pick (b := false) rfl rfl) gn rfl ?_
    refine wl_v 56 rfl (v_assign rfl) gn rfl ?_
    refine w_end 57 rfl ?_
    refine g_retR (c := q31c14) [.bool false] rfl Try.func31 rfl (.tmp rfl (.nil)) fun wr hLr => ?_
    have hMr : B.Loc w wr [] [St w []] := hLr.pick0 (sels [5] rfl)
    show trellislaw15_alive_R w F  r (.returned (packV [.bool false])) wr
    rw [h]
    exact ⟨rfl, hMr⟩
  ·have h := if_neg' hp87 h
   refine w_bool 39 rfl ((nei hp87)) ?_
   refine wl_pass 9 rfl (ps 39 rfl rfl rfl) ?_
   refine wl_pass 10 rfl (ps 39 rfl rfl rfl) ?_
   refine wl_pass 11 rfl (ps 39 rfl rfl rfl) ?_
   refine wl_pass 12 rfl (ps 39 rfl rfl rfl) ?_
   refine wl_pass 13 rfl (ps 39 rfl rfl rfl) ?_
   refine wl_v 14 rfl (v_pick (b := false) rfl rfl) gn rfl ?_
   refine wl_v 15 rfl (v_move rfl) gn rfl ?_
   refine wl_pass 16 rfl (ps 46 rfl rfl rfl) ?_
   refine wl_pass 17 rfl (ps 46 rfl rfl rfl) ?_
   refine wl_pass 18 rfl (ps 46 rfl rfl rfl) ?_
   refine wl_pass 19 rfl (ps 46 rfl rfl rfl) ?_
   refine wl_pass 20 rfl (ps 46 rfl rfl rfl) ?_
   refine wl_v 21 rfl (v_pick (b := false) rfl rfl) gn rfl ?_
   refine wl_v 22 rfl (v_move rfl) gn rfl ?_
   refine wl_pass 23 rfl (ps 53 rfl rfl rfl) ?_
   refine wl_pass 24 rfl (ps 53 rfl rfl rfl) ?_
   refine wl_pass 25 rfl (ps 53 rfl rfl rfl) ?_
   refine wl_pass 26 rfl (ps 53 rfl rfl rfl) ?_
   refine wl_pass 27 rfl (ps 53 rfl rfl rfl) ?_
   refine wl_v 28 rfl (v_pick (b := false) rfl rfl) gn rfl ?_
   refine wl_v 29 rfl (v_move rfl) gn rfl ?_
   refine wl_pass 30 rfl (ps 60 rfl rfl rfl) ?_
   refine wl_pass 31 rfl (ps 60 rfl rfl rfl) ?_
   refine wl_pass 32 rfl (ps 60 rfl rfl rfl) ?_
   refine wl_pass 33 rfl (ps 60 rfl rfl rfl) ?_
   refine wl_pass 34 rfl (ps 60 rfl rfl rfl) ?_
   refine wl_v 35 rfl (v_pick (b := false) rfl rfl) gn rfl ?_
   refine wl_v 36 rfl (v_move rfl) gn rfl ?_
   refine wl_pass 37 rfl (ps 67 rfl rfl rfl) ?_
   refine wl_pass 38 rfl (ps 67 rfl rfl rfl) ?_
   refine wl_pass 39 rfl (ps 67 rfl rfl rfl) ?_
   refine wl_v 40 rfl (v_pick (b := false) rfl rfl) gn rfl ?_
   refine wl_v 41 rfl (v_move rfl) gn rfl ?_
   refine wl_pass 42 rfl (ps 72 rfl rfl rfl) ?_
   refine wl_pass 43 rfl (ps 72 rfl rfl rfl) ?_
   refine wl_pass 44 rfl (ps 72 rfl rfl rfl) ?_
   refine wl_pass 45 rfl (ps 72 rfl rfl rfl) ?_
   refine wl_v 46 rfl (v_pick (b := false) rfl rfl) gn rfl ?_
   refine wl_v 47 rfl (v_move rfl) gn rfl ?_
   refine wl_pass 48 rfl (ps 78 rfl rfl rfl) ?_
   refine wl_pass 49 rfl (ps 78 rfl rfl rfl) ?_
   refine wl_v 50 rfl (v_pick (b := false) rfl rfl) gn rfl ?_
   refine wl_v 51 rfl (v_move rfl) gn rfl ?_
   refine wl_pass 52 rfl (ps 82 rfl rfl rfl) ?_
   refine wl_pass 53 rfl (ps 82 rfl rfl rfl) ?_
   refine wl_pass 54 rfl (ps 82 rfl rfl rfl) ?_
   refine wl_v 55 rfl (v_pick (b := false) rfl rfl) gn rfl ?_
   refine wl_v 56 rfl (v_assign rfl) gn rfl ?_
   refine w_end 57 rfl ?_
   refine g_retR (c := q31c14) [.bool false] rfl Try.func31 rfl (.tmp rfl (.nil)) fun wr hLr => ?_
   have hMr : B.Loc w wr [] [St w []] := hLr.pick0 (sels [5] rfl)
   show trellislaw15_alive_R w F  r (.returned (packV [.bool false])) wr
   rw [h]
   exact ⟨rfl, hMr⟩
 ·have h := if_neg' hp86 h
  refine w_bool 34 rfl ((nei hp86)) ?_
  refine wl_pass 4 rfl (ps 34 rfl rfl rfl) ?_
  refine wl_pass 5 rfl (ps 34 rfl rfl rfl) ?_
  refine wl_pass 6 rfl (ps 34 rfl rfl rfl) ?_
  refine wl_v 7 rfl (v_pick (b := false) rfl rfl) gn rfl ?_
  refine wl_v 8 rfl (v_move rfl) gn rfl ?_
  refine wl_pass 9 rfl (ps 39 rfl rfl rfl) ?_
  refine wl_pass 10 rfl (ps 39 rfl rfl rfl) ?_
  refine wl_pass 11 rfl (ps 39 rfl rfl rfl) ?_
  refine wl_pass 12 rfl (ps 39 rfl rfl rfl) ?_
  refine wl_pass 13 rfl (ps 39 rfl rfl rfl) ?_
  refine wl_v 14 rfl (v_pick (b := false) rfl rfl) gn rfl ?_
  refine wl_v 15 rfl (v_move rfl) gn rfl ?_
  refine wl_pass 16 rfl (ps 46 rfl rfl rfl) ?_
  refine wl_pass 17 rfl (ps 46 rfl rfl rfl) ?_
  refine wl_pass 18 rfl (ps 46 rfl rfl rfl) ?_
  refine wl_pass 19 rfl (ps 46 rfl rfl rfl) ?_
  refine wl_pass 20 rfl (ps 46 rfl rfl rfl) ?_
  refine wl_v 21 rfl (v_pick (b := false) rfl rfl) gn rfl ?_
  refine wl_v 22 rfl (v_move rfl) gn rfl ?_
  refine wl_pass 23 rfl (ps 53 rfl rfl rfl) ?_
  refine wl_pass 24 rfl (ps 53 rfl rfl rfl) ?_
  refine wl_pass 25 rfl (ps 53 rfl rfl rfl) ?_
  refine wl_pass 26 rfl (ps 53 rfl rfl rfl) ?_
  refine wl_pass 27 rfl (ps 53 rfl rfl rfl) ?_
  refine wl_v 28 rfl (v_pick (b := false) rfl rfl) gn rfl ?_
  refine wl_v 29 rfl (v_move rfl) gn rfl ?_
  refine wl_pass 30 rfl (ps 60 rfl rfl rfl) ?_
  refine wl_pass 31 rfl (ps 60 rfl rfl rfl) ?_
  refine wl_pass 32 rfl (ps 60 rfl rfl rfl) ?_
  refine wl_pass 33 rfl (ps 60 rfl rfl rfl) ?_
  refine wl_pass 34 rfl (ps 60 rfl rfl rfl) ?_
  refine wl_v 35 rfl (v_pick (b := false) rfl rfl) gn rfl ?_
  refine wl_v 36 rfl (v_move rfl) gn rfl ?_
  refine wl_pass 37 rfl (ps 67 rfl rfl rfl) ?_
  refine wl_pass 38 rfl (ps 67 rfl rfl rfl) ?_
  refine wl_pass 39 rfl (ps 67 rfl rfl rfl) ?_
  refine wl_v 40 rfl (v_pick (b := false) rfl rfl) gn rfl ?_
  refine wl_v 41 rfl (v_move rfl) gn rfl ?_
  refine wl_pass 42 rfl (ps 72 rfl rfl rfl) ?_
  refine wl_pass 43 rfl (ps 72 rfl rfl rfl) ?_
  refine wl_pass 44 rfl (ps 72 rfl rfl rfl) ?_
  refine wl_pass 45 rfl (ps 72 rfl rfl rfl) ?_
  refine wl_v 46 rfl (v_pick (b := false) rfl rfl) gn rfl ?_
  refine wl_v 47 rfl (v_move rfl) gn rfl ?_
  refine wl_pass 48 rfl (ps 78 rfl rfl rfl) ?_
  refine wl_pass 49 rfl (ps 78 rfl rfl rfl) ?_
  refine wl_v 50 rfl (v_pick (b := false) rfl rfl) gn rfl ?_
  refine wl_v 51 rfl (v_move rfl) gn rfl ?_
  refine wl_pass 52 rfl (ps 82 rfl rfl rfl) ?_
  refine wl_pass 53 rfl (ps 82 rfl rfl rfl) ?_
  refine wl_pass 54 rfl (ps 82 rfl rfl rfl) ?_
  refine wl_v 55 rfl (v_pick (b := false) rfl rfl) gn rfl ?_
  refine wl_v 56 rfl (v_assign rfl) gn rfl ?_
  refine w_end 57 rfl ?_
  refine g_retR (c := q31c14) [.bool false] rfl Try.func31 rfl (.tmp rfl (.nil)) fun wr hLr => ?_
  have hMr : B.Loc w wr [] [St w []] := hLr.pick0 (sels [5] rfl)
  show trellislaw15_alive_R w F  r (.returned (packV [.bool false])) wr
  rw [h]
  exact ⟨rfl, hMr⟩
noncomputable abbrev q36c0 : Code := bodyOf Try.f36
noncomputable abbrev q36c1 : Code := Code.fst q36c0
noncomputable abbrev q36c2 : Code := Code.snd q36c0
noncomputable abbrev q36c3 : Code := Code.fst q36c2
noncomputable abbrev q36c4 : Code := Code.snd q36c2
noncomputable abbrev q36c5 : Code := Code.fst q36c4
noncomputable abbrev q36c6 : Code := Code.snd q36c4
noncomputable abbrev q36c7 : Code := Code.fst q36c6
noncomputable abbrev q36c8 : Code := Code.snd q36c6
noncomputable abbrev q36c9 : Code := Code.fst q36c8
noncomputable abbrev q36c10 : Code := Code.snd q36c8
noncomputable abbrev q36c11 : Code := Code.fst q36c9
noncomputable abbrev q36c12 : Code := Code.snd q36c9
noncomputable abbrev q36c13 : Code := Code.fst q36c12
noncomputable abbrev q36c14 : Code := Code.fst q36c13
noncomputable abbrev q36c15 : Code := Code.fst q36c14
noncomputable abbrev q36c16 : Code := Code.snd q36c14
noncomputable abbrev q36c17 : Code := Code.fst q36c15
noncomputable abbrev q36c18 : Code := Code.snd q36c15
noncomputable abbrev q36c19 : Code := Code.fst q36c18
noncomputable abbrev q36c20 : Code := Code.snd q36c18
noncomputable abbrev q36c21 : Code := Code.fst q36c16
noncomputable abbrev q36c22 : Code := Code.snd q36c16
noncomputable abbrev q36c23 : Code := Code.fst q36c21
noncomputable abbrev q36c24 : Code := Code.fst q36c23
noncomputable abbrev q36c25 : Code := Code.snd q36c23
noncomputable abbrev q36c26 : Code := Code.fst q36c25
noncomputable abbrev q36c27 : Code := Code.snd q36c25
noncomputable abbrev q36c28 : Code := Code.fst q36c26
noncomputable abbrev q36c29 : Code := Code.snd q36c26
noncomputable abbrev q36c30 : Code := Code.fst q36c29
noncomputable abbrev q36c31 : Code := Code.snd q36c29
noncomputable abbrev q36c32 : Code := Code.fst q36c30
noncomputable abbrev q36c33 : Code := Code.snd q36c30
noncomputable abbrev q36c34 : Code := Code.fst q36c33
noncomputable abbrev q36c35 : Code := Code.snd q36c33
noncomputable abbrev q36c36 : Code := Code.fst q36c34
noncomputable abbrev q36c37 : Code := Code.snd q36c34
noncomputable abbrev q36c38 : Code := Code.fst q36c37
noncomputable abbrev q36c39 : Code := Code.snd q36c37
noncomputable abbrev q36c40 : Code := Code.fst q36c35
noncomputable abbrev q36c41 : Code := Code.snd q36c35
noncomputable abbrev q36c42 : Code := Code.fst q36c41
noncomputable abbrev q36c43 : Code := Code.snd q36c41
noncomputable abbrev q36c44 : Code := Code.fst q36c43
noncomputable abbrev q36c45 : Code := Code.snd q36c43
noncomputable abbrev q36c46 : Code := Code.fst q36c45
noncomputable abbrev q36c47 : Code := Code.snd q36c45
noncomputable abbrev q36c48 : Code := Code.fst q36c46
noncomputable abbrev q36c49 : Code := Code.snd q36c46
noncomputable abbrev q36c50 : Code := Code.fst q36c49
noncomputable abbrev q36c51 : Code := Code.snd q36c49
noncomputable abbrev q36c52 : Code := Code.fst q36c47
noncomputable abbrev q36c53 : Code := Code.snd q36c47
noncomputable abbrev q36c54 : Code := Code.fst q36c53
noncomputable abbrev q36c55 : Code := Code.snd q36c53
noncomputable abbrev q36c56 : Code := Code.fst q36c50
noncomputable abbrev q36c57 : Code := Code.snd q36c50
noncomputable abbrev q36c58 : Code := Code.fst q36c27
noncomputable abbrev q36c59 : Code := Code.snd q36c27
noncomputable abbrev q36c60 : Code := Code.fst q36c58
noncomputable abbrev q36c61 : Code := Code.snd q36c58
noncomputable abbrev q36c62 : Code := Code.fst q36c61
noncomputable abbrev q36c63 : Code := Code.snd q36c61
noncomputable abbrev q36c64 : Code := Code.fst q36c59
noncomputable abbrev q36c65 : Code := Code.snd q36c59
noncomputable abbrev q36c66 : Code := Code.fst q36c65
noncomputable abbrev q36c67 : Code := Code.snd q36c65
noncomputable abbrev q36c68 : Code := Code.fst q36c67
noncomputable abbrev q36c69 : Code := Code.snd q36c67
noncomputable abbrev q36c70 : Code := Code.fst q36c69
noncomputable abbrev q36c71 : Code := Code.snd q36c69
noncomputable abbrev q36c72 : Code := Code.fst q36c70
noncomputable abbrev q36c73 : Code := Code.snd q36c70
noncomputable abbrev q36c74 : Code := Code.fst q36c73
noncomputable abbrev q36c75 : Code := Code.fst q36c74
noncomputable abbrev q36c76 : Code := Code.fst q36c75
noncomputable abbrev q36c77 : Code := Code.snd q36c75
noncomputable abbrev q36c78 : Code := Code.fst q36c76
noncomputable abbrev q36c79 : Code := Code.snd q36c76
noncomputable abbrev q36c80 : Code := Code.fst q36c79
noncomputable abbrev q36c81 : Code := Code.snd q36c79
noncomputable abbrev q36c82 : Code := Code.fst q36c77
noncomputable abbrev q36c83 : Code := Code.snd q36c77
noncomputable abbrev q36c84 : Code := Code.fst q36c82
noncomputable abbrev q36c85 : Code := Code.fst q36c71
noncomputable abbrev q36c86 : Code := Code.snd q36c71
noncomputable abbrev q36c87 : Code := Code.fst q36c85
noncomputable abbrev q36c88 : Code := Code.snd q36c85
noncomputable abbrev q36c89 : Code := Code.fst q36c88
noncomputable abbrev q36c90 : Code := Code.snd q36c88
noncomputable abbrev q36c91 : Code := Code.fst q36c86
noncomputable abbrev q36c92 : Code := Code.snd q36c86
noncomputable abbrev q36c93 : Code := Code.fst q36c92
noncomputable abbrev q36c94 : Code := Code.snd q36c92
noncomputable abbrev q36c95 : Code := Code.fst q36c93
noncomputable abbrev q36c96 : Code := Code.snd q36c93
noncomputable abbrev q36c97 : Code := Code.fst q36c96
noncomputable abbrev q36c98 : Code := Code.snd q36c96
noncomputable abbrev q36c99 : Code := Code.fst q36c94
noncomputable abbrev q36c100 : Code := Code.snd q36c94
noncomputable abbrev q36c101 : Code := Code.fst q36c100
noncomputable abbrev q36c102 : Code := Code.snd q36c100
noncomputable abbrev q36c103 : Code := Code.fst q36c101
noncomputable abbrev q36c104 : Code := Code.snd q36c101
noncomputable abbrev q36c105 : Code := Code.fst q36c104
noncomputable abbrev q36c106 : Code := Code.fst q36c105
noncomputable abbrev q36c107 : Code := Code.fst q36c106
noncomputable abbrev q36c108 : Code := Code.snd q36c106
noncomputable abbrev q36c109 : Code := Code.fst q36c107
noncomputable abbrev q36c110 : Code := Code.snd q36c107
noncomputable abbrev q36c111 : Code := Code.fst q36c110
noncomputable abbrev q36c112 : Code := Code.snd q36c110
noncomputable abbrev q36c113 : Code := Code.fst q36c102
noncomputable abbrev q36c114 : Code := Code.snd q36c102
noncomputable abbrev q36c115 : Code := Code.fst q36c114
noncomputable abbrev q36c116 : Code := Code.snd q36c114
noncomputable abbrev q36c117 : Code := Code.fst q36c116
noncomputable abbrev q36c118 : Code := Code.snd q36c116
noncomputable abbrev q36c119 : Code := Code.fst q36c10
noncomputable abbrev q36c120 : Code := Code.snd q36c10
noncomputable abbrev q36c121 : Code := Code.fst q36c108
noncomputable abbrev q36c122 : Code := Code.snd q36c108
noncomputable abbrev q36c123 : Code := Code.fst q36c121
noncomputable abbrev q36c124 : Code := Code.fst q36c123
noncomputable abbrev q36c125 : Code := Code.snd q36c123
abbrev trellislaw15_made_R (w : World) (F : Nat → Prop) (r : (List trellislaw15_Made) × (List api_Node) × Bool) : Ending → World → Prop := fun e w' => ∃ A0 : Option Addr, ∃ n0 : Nat, ∃ c0 : Nat, ∃ cs0 : List Value, ∃ A1 : Option Addr, ∃ n1 : Nat, ∃ c1 : Nat, e = .returned (.tuple #[.slice A0 n0 c0, .slice A1 n1 c1, .bool r.2.2]) ∧ B.Loc w w' [.own (.slice A0 n0 c0) 79 3 n0 cs0, .own (.slice A1 n1 c1) 39 7 n1 (r.2.1.flatMap enc_api_Node)] [St w []] ∧ Ow w.heap.size A0 n0 c0 r.1 ∧ Cells k_trellislaw15_Made w' (Nw w w' F [.own (.slice A0 n0 c0) 79 3 n0 cs0, .own (.slice A1 n1 c1) 39 7 n1 (r.2.1.flatMap enc_api_Node)]) r.1 cs0 ∧ Ow w.heap.size A1 n1 c1 r.2.1
noncomputable abbrev trellislaw15_made_C (w : World) (F : Nat → Prop) (r : (List trellislaw15_Made) × (List api_Node) × Bool) : Cx := ⟨Try.prog, 36, Try.f36, 237, trellislaw15_made_R w F  r, w⟩
theorem trellislaw15_made_calls (w : World) (F : Nat → Prop) (x1 : api_Lang) (x46 : List trellislaw15_Op) (A2 : Option Addr) (n3 : Nat) (c4 : Nat) (A6 : Option Addr) (n7 : Nat) (c8 : Nat) (A10 : Option Addr) (n11 : Nat) (c12 : Nat) (A14 : Option Addr) (n15 : Nat) (c16 : Nat) (A18 : Option Addr) (n19 : Nat) (c20 : Nat) (A22 : Option Addr) (n23 : Nat) (c24 : Nat) (A26 : Option Addr) (n27 : Nat) (c28 : Nat) (A30 : Option Addr) (n31 : Nat) (c32 : Nat) (A34 : Option Addr) (n35 : Nat) (c36 : Nat) (A38 : Option Addr) (n39 : Nat) (c40 : Nat) (A42 : Option Addr) (n43 : Nat) (c44 : Nat) (A47 : Option Addr) (n48 : Nat) (c49 : Nat) (h5 : Rw k_api_ModeDef w (St w []).av A2 n3 c4 x1.modes) (h9 : Rw k_api_TermDef w (St w []).av A6 n7 c8 x1.gram.terms) (h13 : Rw k_api_Sym w (St w []).av A10 n11 c12 x1.gram.syms) (h17 : Rw k_api_Prod w (St w []).av A14 n15 c16 x1.gram.prods) (h21 : Rw k_api_Rule w (St w []).av A18 n19 c20 x1.rules) (h25 : Rw (Kd.slice k_api_Action) w (St w []).av A22 n23 c24 x1.table.actions) (h29 : Rw (Kd.slice (kInt .i64)) w (St w []).av A26 n27 c28 x1.table.gotos) (h33 : Rw k_api_PaintDef w (St w []).av A30 n31 c32 x1.paints) (h37 : Rw kStr w (St w []).av A34 n35 c36 x1.folds) (h41 : Rw k_api_MarkDef w (St w []).av A38 n39 c40 x1.marks) (h45 : Rw k_api_InjectDef w (St w []).av A42 n43 c44 x1.injects) (h50 : Rw k_trellislaw15_Op w (St w []).av A47 n48 c49 x46) (hF : ∀ b, F b → b < w.heap.size ∧ ∀ o ∈ ([] : List (List Nat)), b ∉ o) (hL0 : B.Loc w w [] [Sm w.heap.size F w [], St w []]) (r : (List trellislaw15_Made) × (List api_Node) × Bool) (h : trellislaw15_made x1 x46 r) : Calls Try.prog 36 #[.agg #[.string x1.name, .slice A2 n3 c4, .slice A6 n7 c8, .slice A10 n11 c12, .slice A14 n15 c16, .slice A18 n19 c20, .slice A22 n23 c24, .slice A26 n27 c28, .slice A30 n31 c32, .slice A34 n35 c36, .slice A38 n39 c40, .slice A42 n43 c44], .slice A47 n48 c49] w (trellislaw15_made_R w F  r) := by
 unfold trellislaw15_made at h
 refine calls_of_Loc (vs := [.agg #[.string x1.name, .slice A2 n3 c4, .slice A6 n7 c8, .slice A10 n11 c12, .slice A14 n15 c16, .slice A18 n19 c20, .slice A22 n23 c24, .slice A26 n27 c28, .slice A30 n31 c32, .slice A34 n35 c36, .slice A38 n39 c40, .slice A42 n43 c44], .slice A47 n48 c49]) 237 Try.func36 rfl Try.ntmps36 rfl hL0 ?_
 show G (trellislaw15_made_C w F r) _ _ _ _
 refine g_seq (c := q36c0) rfl ?_
 refine g_region (c := q36c1) rfl rfl ?_
 refine wl_s 0 rfl (s_box [.string x1.name, .slice A2 n3 c4, .slice A6 n7 c8, .slice A10 n11 c12, .slice A14 n15 c16, .slice A18 n19 c20, .slice A22 n23 c24, .slice A26 n27 c28, .slice A30 n31 c32, .slice A34 n35 c36, .slice A38 n39 c40, .slice A42 n43 c44] rfl rfl rfl fun gb51 => ?_) gn
 refine wl_v 1 rfl (v_assign rfl) gn rfl ?_
 refine wl_v 2 rfl (v_assign rfl) gn rfl ?_
 refine wl_v 3 rfl (v_assign rfl) gn rfl ?_
 refine w_end 4 rfl ?_
 refine g_seq (c := q36c2) rfl ?_
 refine g_region (c := q36c3) rfl rfl ?_
 refine wl_v 0 rfl (v_assign rfl) gn rfl ?_
 refine w_end 1 rfl ?_
 refine g_seq (c := q36c4) rfl ?_
 refine g_region (c := q36c5) rfl rfl ?_
 refine wl_v 0 rfl (v_assign rfl) gn rfl ?_
 refine w_end 1 rfl ?_
 refine g_seq (c := q36c6) rfl ?_
 refine g_region (c := q36c7) rfl rfl ?_
 refine wl_v 0 rfl (v_assign rfl) gn rfl ?_
 refine w_end 1 rfl ?_
 refine g_seq (c := q36c8) rfl ?_
 refine g_seq (c := q36c9) rfl ?_
 refine g_region (c := q36c11) rfl rfl ?_
 refine wl_v 0 rfl (v_assign rfl) gn rfl ?_
 refine w_end 1 rfl ?_
 refine g_block (c := q36c12) rfl ?_
 refine g_loop (c := q36c13) rfl ?_
 have key1 : ∀ s, Rounds (fun (s : (List trellislaw15_Made) × (List api_Node) × Int × Int) o => trellislaw15_made_b1 x46 x1 s.1 s.2.1 s.2.2.1 s.2.2.2 o) s r → (fun (s : (List trellislaw15_Made) × (List api_Node) × Int × Int) => ∀ (A639 : Option Addr) (n640 : Nat) (c641 : Nat) (h642 : Ow w.heap.size A639 n640 c641 s.1) (cs643 : List Value) (sw644 : World) (sb645 : List (List Nat)) (hC646 : Cells k_trellislaw15_Made (Sm w.heap.size F sw644 sb645).w (Sm w.heap.size F sw644 sb645).av s.1 cs643) (A648 : Option Addr) (n649 : Nat) (c650 : Nat) (h651 : Ow w.heap.size A648 n649 c650 s.2.1), G (trellislaw15_made_C w F r) [.code q36c14, .inLoop q36c14, .inBlock 0, .code q36c10] [(1, .slice A47 n48 c49), (2, .pointer (some ⟨gb51, 0, none⟩)), (7, .slice A639 n640 c641), (8, .slice A648 n649 c650), (9, .int .i64 s.2.2.1), (10, .int .i64 s.2.2.2)] [.own (.slice A639 n640 c641) 79 3 n640 cs643, .own (.slice A648 n649 c650) 39 7 n649 (s.2.1.flatMap enc_api_Node), .box gb51 58 [.string x1.name, .slice A2 n3 c4, .slice A6 n7 c8, .slice A10 n11 c12, .slice A14 n15 c16, .slice A18 n19 c20, .slice A22 n23 c24, .slice A26 n27 c28, .slice A30 n31 c32, .slice A34 n35 c36, .slice A38 n39 c40, .slice A42 n43 c44]] [Sm w.heap.size F sw644 sb645, Sm w.heap.size F w [], St w []]) s := by
  intro s hs
  refine Rounds.ind (mot := (fun (s : (List trellislaw15_Made) × (List api_Node) × Int × Int) => ∀ (A639 : Option Addr) (n640 : Nat) (c641 : Nat) (h642 : Ow w.heap.size A639 n640 c641 s.1) (cs643 : List Value) (sw644 : World) (sb645 : List (List Nat)) (hC646 : Cells k_trellislaw15_Made (Sm w.heap.size F sw644 sb645).w (Sm w.heap.size F sw644 sb645).av s.1 cs643) (A648 : Option Addr) (n649 : Nat) (c650 : Nat) (h651 : Ow w.heap.size A648 n649 c650 s.2.1), G (trellislaw15_made_C w F r) [.code q36c14, .inLoop q36c14, .inBlock 0, .code q36c10] [(1, .slice A47 n48 c49), (2, .pointer (some ⟨gb51, 0, none⟩)), (7, .slice A639 n640 c641), (8, .slice A648 n649 c650), (9, .int .i64 s.2.2.1), (10, .int .i64 s.2.2.2)] [.own (.slice A639 n640 c641) 79 3 n640 cs643, .own (.slice A648 n649 c650) 39 7 n649 (s.2.1.flatMap enc_api_Node), .box gb51 58 [.string x1.name, .slice A2 n3 c4, .slice A6 n7 c8, .slice A10 n11 c12, .slice A14 n15 c16, .slice A18 n19 c20, .slice A22 n23 c24, .slice A26 n27 c28, .slice A30 n31 c32, .slice A34 n35 c36, .slice A38 n39 c40, .slice A42 n43 c44]] [Sm w.heap.size F sw644 sb645, Sm w.heap.size F w [], St w []])) ?_ hs
  clear hs s
  intro s o1 h hO1
  obtain ⟨x638, x647, x652, x653⟩ := s
  show ∀ (A639 : Option Addr) (n640 : Nat) (c641 : Nat) (h642 : Ow w.heap.size A639 n640 c641 x638) (cs643 : List Value) (sw644 : World) (sb645 : List (List Nat)) (hC646 : Cells k_trellislaw15_Made (Sm w.heap.size F sw644 sb645).w (Sm w.heap.size F sw644 sb645).av x638 cs643) (A648 : Option Addr) (n649 : Nat) (c650 : Nat) (h651 : Ow w.heap.size A648 n649 c650 x647), G (trellislaw15_made_C w F r) [.code q36c14, .inLoop q36c14, .inBlock 0, .code q36c10] [(1, .slice A47 n48 c49), (2, .pointer (some ⟨gb51, 0, none⟩)), (7, .slice A639 n640 c641), (8, .slice A648 n649 c650), (9, .int .i64 x652), (10, .int .i64 x653)] [.own (.slice A639 n640 c641) 79 3 n640 cs643, .own (.slice A648 n649 c650) 39 7 n649 (x647.flatMap enc_api_Node), .box gb51 58 [.string x1.name, .slice A2 n3 c4, .slice A6 n7 c8, .slice A10 n11 c12, .slice A14 n15 c16, .slice A18 n19 c20, .slice A22 n23 c24, .slice A26 n27 c28, .slice A30 n31 c32, .slice A34 n35 c36, .slice A38 n39 c40, .slice A42 n43 c44]] [Sm w.heap.size F sw644 sb645, Sm w.heap.size F w [], St w []]
  intro A639 n640 c641 h642 cs643 sw644 sb645 hC646 A648 n649 c650 h651
  have h : trellislaw15_made_b1 x46 x1 x638 x647 x652 x653 o1 := h
  unfold trellislaw15_made_b1 at h
  refine g_seq (c := q36c14) rfl ?_
  refine g_seq (c := q36c15) rfl ?_
  have j2 : ∀ (x2202 : Bool) (h : trellislaw15_made_j2 x653 x46 x638 x647 x652 x1 x2202 o1) , G (trellislaw15_made_C w F r) [.code q36c18, .code q36c16, .inLoop q36c14, .inBlock 0, .code q36c10] [(1, .slice A47 n48 c49), (2, .pointer (some ⟨gb51, 0, none⟩)), (7, .slice A639 n640 c641), (8, .slice A648 n649 c650), (9, .int .i64 x652), (10, .int .i64 x653), (31, .bool x2202)] [.own (.slice A639 n640 c641) 79 3 n640 cs643, .own (.slice A648 n649 c650) 39 7 n649 (x647.flatMap enc_api_Node), .box gb51 58 [.string x1.name, .slice A2 n3 c4, .slice A6 n7 c8, .slice A10 n11 c12, .slice A14 n15 c16, .slice A18 n19 c20, .slice A22 n23 c24, .slice A26 n27 c28, .slice A30 n31 c32, .slice A34 n35 c36, .slice A38 n39 c40, .slice A42 n43 c44]] [Sm w.heap.size F sw644 sb645, Sm w.heap.size F w [], St w []] := by
   intro x2202 h
   unfold trellislaw15_made_j2 at h
   by_cases hp2203 : x2202 = true
   ·have h := if_pos' hp2203 h
    refine g_true (c := q36c18) rfl _ rfl (hp2203) ?_
    refine g_skip (c := q36c19) rfl ?_
    refine g_seq (c := q36c16) rfl ?_
    refine g_block (c := q36c21) rfl ?_
    refine g_seq (c := q36c23) rfl ?_
    refine g_region (c := q36c24) rfl rfl ?_
    refine wl_v 0 rfl (v_move rfl) gn rfl ?_
    refine wl_v 1 rfl (v_move rfl) gn rfl ?_
    obtain ⟨hb2204, h⟩ := h
    have hr2205 := Rw.readF (s := St w []) (hl := hl_trellislaw15_Op) (h1 := h1_trellislaw15_Op) h50 hb2204
    refine wl_v 2 rfl (v_idxR (s := St w []) slE_71 rfl rfl h50 hb2204) gn rfl ?_
    refine wl_v 3 rfl (v_ldA (St w []) ld_115 rfl hr2205 rfl (me 2 rfl)) gn rfl ?_
    refine wl_s 4 rfl (s_alloc [.int .i64 0, .int .i64 0, .int .i64 0] zr_115 rfl fun gb2206 => ?_) gn
    refine wl_s 5 rfl (s_stB (vs := [.int .i64 ((ix x46 x653).n), .int .i64 ((ix x46 x653).pad), .int .i64 ((ix x46 x653).len)]) (cs' := [.int .i64 ((ix x46 x653).n), .int .i64 ((ix x46 x653).pad), .int .i64 ((ix x46 x653).len)]) (M' := [.box gb2206 115 [.int .i64 ((ix x46 x653).n), .int .i64 ((ix x46 x653).pad), .int .i64 ((ix x46 x653).len)], .own (.slice A639 n640 c641) 79 3 n640 cs643, .own (.slice A648 n649 c650) 39 7 n649 (x647.flatMap enc_api_Node), .box gb51 58 [.string x1.name, .slice A2 n3 c4, .slice A6 n7 c8, .slice A10 n11 c12, .slice A14 n15 c16, .slice A18 n19 c20, .slice A22 n23 c24, .slice A26 n27 c28, .slice A30 n31 c32, .slice A34 n35 c36, .slice A38 n39 c40, .slice A42 n43 c44]]) 0 sz_115 rfl rfl rfl rfl rfl rfl rfl rfl rfl ?_) gn
    refine w_end 6 rfl ?_
    refine g_seq (c := q36c25) rfl ?_
    refine g_seq (c := q36c26) rfl ?_
    refine g_region (c := q36c28) rfl rfl ?_
    refine wl_v 0 rfl (v_fldB fo_115_0 rfl) gn rfl ?_
    refine wl_v 1 rfl (v_ldB1 0 ld_3 rfl rfl rfl) gn rfl ?_
    refine wl_v 2 rfl (v_bin rfl rfl rfl) gn rfl ?_
    refine w_end 3 rfl ?_
    by_cases hp2208 : (ix x46 x653).n < 0
    ·have h := if_pos' hp2208 h
     refine g_true (c := q36c29) rfl _ rfl ((decide_eq_true hp2208)) ?_
     refine g_seq (c := q36c30) rfl ?_
     refine g_region (c := q36c32) rfl rfl ?_
     refine wl_v 0 rfl (v_fldB fo_115_0 rfl) gn rfl ?_
     refine wl_v 1 rfl (v_ldB1 0 ld_3 rfl rfl rfl) gn rfl ?_
     refine wl_v 2 rfl (v_bin rfl rfl rfl) gn rfl ?_
     refine wl_v 3 rfl (v_neg rfl) gn rfl ?_
     refine wl_v 4 rfl (v_bin rfl rfl rfl) gn rfl ?_
     refine wl_v 5 rfl (v_assign rfl) gn rfl ?_
     refine w_end 6 rfl ?_
     refine g_seq (c := q36c33) rfl ?_
     refine g_seq (c := q36c34) rfl ?_
     have j3 : ∀ (x2215 : Bool) (h : trellislaw15_made_j3 x638 x647 x652 x653 x1 x46 x2215 o1) , G (trellislaw15_made_C w F r) [.code q36c37, .code q36c35, .code q36c27, .inBlock 1, .code q36c22, .inLoop q36c14, .inBlock 0, .code q36c10] [(1, .slice A47 n48 c49), (2, .pointer (some ⟨gb51, 0, none⟩)), (7, .slice A639 n640 c641), (8, .slice A648 n649 c650), (9, .int .i64 x652), (10, .int .i64 x653), (11, .pointer (some ⟨gb2206, 0, none⟩)), (12, .int .i64 (w64 ((w64 (0 - (w64 (((ix x46 x653).n) + 1)))) + 1))), (75, .bool x2215)] [.box gb2206 115 [.int .i64 ((ix x46 x653).n), .int .i64 ((ix x46 x653).pad), .int .i64 ((ix x46 x653).len)], .own (.slice A639 n640 c641) 79 3 n640 cs643, .own (.slice A648 n649 c650) 39 7 n649 (x647.flatMap enc_api_Node), .box gb51 58 [.string x1.name, .slice A2 n3 c4, .slice A6 n7 c8, .slice A10 n11 c12, .slice A14 n15 c16, .slice A18 n19 c20, .slice A22 n23 c24, .slice A26 n27 c28, .slice A30 n31 c32, .slice A34 n35 c36, .slice A38 n39 c40, .slice A42 n43 c44]] [Sm w.heap.size F sw644 sb645, Sm w.heap.size F w [], St w []] := by
      intro x2215 h
      unfold trellislaw15_made_j3 at h
      by_cases hp2216 : x2215 = true
      ·have h := if_pos' hp2216 h
       refine g_true (c := q36c37) rfl _ rfl (hp2216) ?_
       refine g_exit (c := q36c38) [.code q36c22, .inLoop q36c14, .inBlock 0, .code q36c10] rfl rfl ?_
       refine g_region (c := q36c22) rfl rfl ?_
       refine wl_v 0 rfl (v_move rfl) gn rfl ?_
       refine wl_v 1 rfl (v_bin rfl rfl rfl) gn rfl ?_
       refine wl_v 2 rfl (v_assign rfl) gn rfl ?_
       refine w_end 3 rfl ?_
       refine g_inLoop ?_
       have ih := Out.inl hO1 h
       exact g_go [0, 1, 2] (ih A639 n640 c641 h642 cs643 sw644 sb645 hC646 A648 n649 c650 h651) ⟨rfl, rfl, rfl, rfl, rfl, rfl, trivial⟩ (.cons _ (.cons_cons _ (.cons_cons _ (.cons_cons _ (.slnil))))) rfl
      ·have h := if_neg' hp2216 h
       refine g_false (c := q36c37) rfl _ rfl ((bf hp2216)) ?_
       refine g_skip (c := q36c39) rfl ?_
       refine g_seq (c := q36c35) rfl ?_
       refine g_region (c := q36c40) rfl rfl ?_
       refine wl_v 0 rfl (v_move rfl) gn rfl ?_
       refine wl_v 1 rfl (v_fldB fo_115_1 rfl) gn rfl ?_
       refine wl_v 2 rfl (v_ldB1 0 ld_3 rfl rfl rfl) gn rfl ?_
       refine wl_v 3 rfl (v_bin rfl rfl rfl) gn rfl ?_
       refine wl_v 4 rfl (v_assign rfl) gn rfl ?_
       refine w_end 5 rfl ?_
       refine g_seq (c := q36c41) rfl ?_
       refine g_region (c := q36c42) rfl rfl ?_
       refine wl_v 0 rfl (v_move rfl) gn rfl ?_
       refine wl_v 1 rfl (v_fldB fo_115_2 rfl) gn rfl ?_
       refine wl_v 2 rfl (v_ldB1 0 ld_3 rfl rfl rfl) gn rfl ?_
       refine wl_v 3 rfl (v_bin rfl rfl rfl) gn rfl ?_
       refine wl_v 4 rfl (v_assign rfl) gn rfl ?_
       refine w_end 5 rfl ?_
       refine g_seq (c := q36c43) rfl ?_
       refine g_region (c := q36c44) rfl rfl ?_
       refine wl_v 0 rfl (v_ldB [.string x1.name, .slice A2 n3 c4, .slice A6 n7 c8, .slice A10 n11 c12, .slice A14 n15 c16, .slice A18 n19 c20, .slice A22 n23 c24, .slice A26 n27 c28, .slice A30 n31 c32, .slice A34 n35 c36, .slice A38 n39 c40, .slice A42 n43 c44] 3 ld_58 rfl rfl rfl rfl) gn rfl ?_
       refine wl_v 1 rfl (v_move rfl) gn rfl ?_
       refine wl_v 2 rfl (v_move rfl) gn rfl ?_
       refine wl_v 3 rfl (v_lenQ un_22 rfl h651.hq) gn rfl ?_
       refine wl_v 4 rfl (v_move rfl) gn rfl ?_
       refine wl_v 5 rfl (v_move rfl) gn rfl ?_
       obtain ⟨r2220, hv2221, h⟩ := h
       refine wl_s 6 rfl (s_call [.agg #[.string x1.name, .slice A2 n3 c4, .slice A6 n7 c8, .slice A10 n11 c12, .slice A14 n15 c16, .slice A18 n19 c20, .slice A22 n23 c24, .slice A26 n27 c28, .slice A30 n31 c32, .slice A34 n35 c36, .slice A38 n39 c40, .slice A42 n43 c44], .int .i64 (w64 ((w64 (0 - (w64 (((ix x46 x653).n) + 1)))) + 1)), .int .i64 (x647.length : Int), .int .i64 (w64 (x652 + ((ix x46 x653).pad))), .int .i64 (w64 ((w64 (x652 + ((ix x46 x653).pad))) + ((ix x46 x653).len)))] rfl Try.func25 rfl rfl rfl fun w2217 hL2218 => ?_) gn
       have hp2219 : List.Perm ([.box gb2206 115 [.int .i64 ((ix x46 x653).n), .int .i64 ((ix x46 x653).pad), .int .i64 ((ix x46 x653).len)], .own (.slice A639 n640 c641) 79 3 n640 cs643, .own (.slice A648 n649 c650) 39 7 n649 (x647.flatMap enc_api_Node), .box gb51 58 [.string x1.name, .slice A2 n3 c4, .slice A6 n7 c8, .slice A10 n11 c12, .slice A14 n15 c16, .slice A18 n19 c20, .slice A22 n23 c24, .slice A26 n27 c28, .slice A30 n31 c32, .slice A34 n35 c36, .slice A38 n39 c40, .slice A42 n43 c44]] : List Ent) (([] : List Ent) ++ ([.box gb2206 115 [.int .i64 ((ix x46 x653).n), .int .i64 ((ix x46 x653).pad), .int .i64 ((ix x46 x653).len)], .own (.slice A639 n640 c641) 79 3 n640 cs643, .own (.slice A648 n649 c650) 39 7 n649 (x647.flatMap enc_api_Node), .box gb51 58 [.string x1.name, .slice A2 n3 c4, .slice A6 n7 c8, .slice A10 n11 c12, .slice A14 n15 c16, .slice A18 n19 c20, .slice A22 n23 c24, .slice A26 n27 c28, .slice A30 n31 c32, .slice A34 n35 c36, .slice A38 n39 c40, .slice A42 n43 c44]] : List Ent)) := perm_of_idx [] [0, 1, 2, 3] rfl rfl (by kernel_rfl)
       refine Calls.mono (tree_Token_calls w2217 (Fl ([] : List Snap)) x1 (w64 ((w64 (0 - (w64 (((ix x46 x653).n) + 1)))) + 1)) (x647.length : Int) (w64 (x652 + ((ix x46 x653).pad))) (w64 ((w64 (x652 + ((ix x46 x653).pad))) + ((ix x46 x653).len))) A2 n3 c4 A6 n7 c8 A10 n11 c12 A14 n15 c16 A18 n19 c20 A22 n23 c24 A26 n27 c28 A30 n31 c32 A34 n35 c36 A38 n39 c40 A42 n43 c44 (Rw.mono h5 (hL2218.toSt hp2219 (me 2 rfl))) (Rw.mono h9 (hL2218.toSt hp2219 (me 2 rfl))) (Rw.mono h13 (hL2218.toSt hp2219 (me 2 rfl))) (Rw.mono h17 (hL2218.toSt hp2219 (me 2 rfl))) (Rw.mono h21 (hL2218.toSt hp2219 (me 2 rfl))) (Rw.mono h25 (hL2218.toSt hp2219 (me 2 rfl))) (Rw.mono h29 (hL2218.toSt hp2219 (me 2 rfl))) (Rw.mono h33 (hL2218.toSt hp2219 (me 2 rfl))) (Rw.mono h37 (hL2218.toSt hp2219 (me 2 rfl))) (Rw.mono h41 (hL2218.toSt hp2219 (me 2 rfl))) (Rw.mono h45 (hL2218.toSt hp2219 (me 2 rfl))) (hL2218.hFl (Sl := ([] : List Snap)) hp2219 (sels [] rfl)) (hL2218.into hp2219 (Fl ([] : List Snap))) r2220 hv2221) ?_
       rintro _ w2227 ⟨A2222, n2223, c2224, rfl, hM2228, h2225⟩
       have hL2229 := hL2218.call hp2219 hM2228
       refine ⟨_, _, _, rfl, hL2229, ?_⟩
       refine wl_v 7 rfl (v_assign rfl) gn rfl ?_
       refine w_end 8 rfl ?_
       refine g_seq (c := q36c45) rfl ?_
       refine g_seq (c := q36c46) rfl ?_
       refine g_region (c := q36c48) rfl rfl ?_
       refine wl_v 0 rfl (v_move rfl) gn rfl ?_
       refine wl_v 1 rfl (v_lenQ un_22 rfl (Ow.weak hL2218.env.size h2225).hq) gn rfl ?_
       refine wl_v 2 rfl (v_bin rfl rfl rfl) gn rfl ?_
       refine w_end 3 rfl ?_
       by_cases hp2230 : (r2220.length : Int) = 1
       ·have h := if_pos' hp2230 h
        refine g_false (c := q36c49) rfl _ rfl ((eqib hp2230)) ?_
        refine g_skip (c := q36c51) rfl ?_
        refine g_seq (c := q36c47) rfl ?_
        refine g_region (c := q36c52) rfl rfl ?_
        refine wl_v 0 rfl (v_move rfl) gn rfl ?_
        refine wl_v 1 rfl (v_move rfl) gn rfl ?_
        obtain ⟨hb2231, h⟩ := h
        refine wl_v 2 rfl (v_idxO slE_22 rfl rfl (Ow.weak hL2218.env.size h2225) hb2231) gn rfl ?_
        refine wl_v 3 rfl (v_ldO [.string ((ix r2220 0).name), .bool ((ix r2220 0).named), .string ((ix r2220 0).field), .int .i64 ((ix r2220 0).from_), .int .i64 ((ix r2220 0).to), .int .i64 ((ix r2220 0).kids), .int .i64 ((ix r2220 0).leaf)] 0 ld_39 rfl rfl (fm_one hl_api_Node hb2231) rfl) gn rfl ?_
        refine wl_s 4 rfl (s_litO (xs := ([ix r2220 0] : List api_Node)) [.string ((ix r2220 0).name), .bool ((ix r2220 0).named), .string ((ix r2220 0).field), .int .i64 ((ix r2220 0).from_), .int .i64 ((ix r2220 0).to), .int .i64 ((ix r2220 0).kids), .int .i64 ((ix r2220 0).leaf)] bs_22_1 rfl (by kernel_rfl) rfl rfl rfl rfl fun gb2233 h2234 => ?_) gn
        obtain ⟨x2238, hv2239, h⟩ := h
        obtain ⟨hb2240, h⟩ := h
        refine wl_s 5 rfl (s_app (zs := x2238) (cells' := x2238.flatMap enc_api_Node) 4 ap_22 rfl rfl rfl h651 (Nat.le_refl _) (Src.ownF (hl := hl_api_Node) (h1 := h1_api_Node) 0 rfl h2234) (by rw [hv2239, List.flatMap_append] <;> rfl) (app_len hv2239 h2234.hq) hb2240 rfl rfl fun A2235 c2236 h2237 => ?_) gn
        refine wl_v 6 rfl (v_assign rfl) gn rfl ?_
        refine w_end 7 rfl ?_
        refine g_seq (c := q36c53) rfl ?_
        refine g_region (c := q36c54) rfl rfl ?_
        refine wl_v 0 rfl (v_move rfl) gn rfl ?_
        refine wl_v 1 rfl (v_move rfl) gn rfl ?_
        refine wl_v 2 rfl (v_move rfl) gn rfl ?_
        refine wl_v 3 rfl (v_move rfl) gn rfl ?_
        refine wl_v 4 rfl (v_build #[.int .i64 (w64 ((w64 (0 - (w64 (((ix x46 x653).n) + 1)))) + 1)), .slice A2222 n2223 c2224, .int .i64 (w64 ((w64 (x652 + ((ix x46 x653).pad))) + ((ix x46 x653).len)))] bd_79 rfl (by kernel_rfl)) gn rfl ?_
        refine w_freeze (F := F) (dk := k_api_Node) (Sm w.heap.size F w []) 1 rfl (Ow.weak hL2218.env.size h2225) (me 1 rfl) Sm.ok (Cells.flat _) fun sw2242 sb2243 h2241 => ?_
        have hC2245 : Cells k_trellislaw15_Made (Sm w.heap.size F sw2242 sb2243).w (Sm w.heap.size F sw2242 sb2243).av ([(⟨w64 ((w64 (0 - (w64 (((ix x46 x653).n) + 1)))) + 1), r2220, w64 ((w64 (x652 + ((ix x46 x653).pad))) + ((ix x46 x653).len))⟩ : trellislaw15_Made)] : List trellislaw15_Made) [.int .i64 (w64 ((w64 (0 - (w64 (((ix x46 x653).n) + 1)))) + 1)), .slice A2222 n2223 c2224, .int .i64 (w64 ((w64 (x652 + ((ix x46 x653).pad))) + ((ix x46 x653).len)))] := (Cells.cons (c1 := [.int .i64 (w64 ((w64 (0 - (w64 (((ix x46 x653).n) + 1)))) + 1)), .slice A2222 n2223 c2224, .int .i64 (w64 ((w64 (x652 + ((ix x46 x653).pad))) + ((ix x46 x653).len)))]) ⟨A2222, n2223, c2224, rfl, h2241⟩ Cells.nil)
        refine wl_s 5 rfl (s_litO (xs := ([(⟨w64 ((w64 (0 - (w64 (((ix x46 x653).n) + 1)))) + 1), r2220, w64 ((w64 (x652 + ((ix x46 x653).pad))) + ((ix x46 x653).len))⟩ : trellislaw15_Made)] : List trellislaw15_Made)) [.int .i64 (w64 ((w64 (0 - (w64 (((ix x46 x653).n) + 1)))) + 1)), .slice A2222 n2223 c2224, .int .i64 (w64 ((w64 (x652 + ((ix x46 x653).pad))) + ((ix x46 x653).len)))] bs_75_1 rfl (by kernel_rfl) rfl rfl rfl rfl fun gb2246 h2247 => ?_) gn
        obtain ⟨x2254, hv2255, h⟩ := h
        obtain ⟨hb2256, h⟩ := h
        refine w_mark (F := F) fun sw2251 sb2252 ho2253 => ?_
        obtain ⟨cs2257, hc2258⟩ : ∃ x : List Value, x = cs643 ++ [.int .i64 (w64 ((w64 (0 - (w64 (((ix x46 x653).n) + 1)))) + 1)), .slice A2222 n2223 c2224, .int .i64 (w64 ((w64 (x652 + ((ix x46 x653).pad))) + ((ix x46 x653).len)))] := ⟨_, rfl⟩
        have hC2259 : Cells k_trellislaw15_Made (Sm w.heap.size F sw2251 sb2252).w (Sm w.heap.size F sw2251 sb2252).av x2254 cs2257 := by rw [hv2255, hc2258]; exact Cells.app (Cells.older (s := Sm w.heap.size F sw644 sb645) hC646 (ho2253 _ (me 1 rfl) Sm.ok)) (Cells.older (s := Sm w.heap.size F sw2242 sb2243) hC2245 (ho2253 _ (me 0 rfl) Sm.ok))
        refine wl_s 6 rfl (s_app (zs := x2254) 3 ap_75 rfl rfl rfl h642 (Nat.le_refl _) (Src.ownAll 0 rfl h2247 hC2245) hc2258.symm (app_len hv2255 h2247.hq) hb2256 rfl rfl fun A2248 c2249 h2250 => ?_) gn
        refine wl_v 7 rfl (v_assign rfl) gn rfl ?_
        refine w_end 8 rfl ?_
        refine g_exit (c := q36c55) [.code q36c22, .inLoop q36c14, .inBlock 0, .code q36c10] rfl rfl ?_
        refine g_region (c := q36c22) rfl rfl ?_
        refine wl_v 0 rfl (v_move rfl) gn rfl ?_
        refine wl_v 1 rfl (v_bin rfl rfl rfl) gn rfl ?_
        refine wl_v 2 rfl (v_assign rfl) gn rfl ?_
        refine w_end 3 rfl ?_
        refine g_inLoop ?_
        have ih := Out.inl hO1 h
        exact g_go [0, 3, 4] (ih A2248 (n640 + 1) c2249 h2250 cs2257 sw2251 sb2252 hC2259 A2235 (n649 + 1) c2236 h2237) ⟨rfl, rfl, rfl, rfl, rfl, rfl, trivial⟩ (.cons _ (.cons _ (.cons _ (.cons_cons _ (.cons_cons _ (.cons_cons _ (.slnil))))))) rfl
       ·have h := if_neg' hp2230 h
        refine g_true (c := q36c49) rfl _ rfl ((neib hp2230)) ?_
        refine g_seq (c := q36c50) rfl ?_
        refine g_region (c := q36c56) rfl rfl ?_
        refine wl_v 0 rfl (v_assign rfl) gn rfl ?_
        refine wl_v 1 rfl (v_assign rfl) gn rfl ?_
        refine wl_v 2 rfl (v_assign rfl) gn rfl ?_
        refine w_end 3 rfl ?_
        refine g_nil 79 3 ?_
        refine g_nil 39 7 ?_
        have h := Out.inr hO1 h
        refine g_retR (c := q36c57) [.slice none 0 0, .slice none 0 0, .bool false] rfl Try.func36 rfl (.tmp rfl (.tmp rfl (.tmp rfl (.nil)))) fun wr hLr => ?_
        have hMr : B.Loc w wr [.own (.slice none 0 0) 79 3 0 [], .own (.slice none 0 0) 39 7 0 (([] : List api_Node).flatMap enc_api_Node)] [St w []] := hLr.pick (rest := [.own (.slice A2222 n2223 c2224) 39 7 n2223 (r2220.flatMap enc_api_Node), .box gb2206 115 [.int .i64 ((ix x46 x653).n), .int .i64 ((ix x46 x653).pad), .int .i64 ((ix x46 x653).len)], .own (.slice A639 n640 c641) 79 3 n640 cs643, .own (.slice A648 n649 c650) 39 7 n649 (x647.flatMap enc_api_Node), .box gb51 58 [.string x1.name, .slice A2 n3 c4, .slice A6 n7 c8, .slice A10 n11 c12, .slice A14 n15 c16, .slice A18 n19 c20, .slice A22 n23 c24, .slice A26 n27 c28, .slice A30 n31 c32, .slice A34 n35 c36, .slice A38 n39 c40, .slice A42 n43 c44]]) (perm_of_idx [1, 0] [2, 3, 4, 5, 6] rfl rfl (by kernel_rfl)) (sels [2] rfl)
        have hMi : ∀ e ∈ ([.own (.slice none 0 0) 79 3 0 [], .own (.slice none 0 0) 39 7 0 (([] : List api_Node).flatMap enc_api_Node)] : List Ent), e ∈ ([.own (.slice none 0 0) 39 7 0 (([] : List api_Node).flatMap enc_api_Node), .own (.slice none 0 0) 79 3 0 [], .own (.slice A2222 n2223 c2224) 39 7 n2223 (r2220.flatMap enc_api_Node), .box gb2206 115 [.int .i64 ((ix x46 x653).n), .int .i64 ((ix x46 x653).pad), .int .i64 ((ix x46 x653).len)], .own (.slice A639 n640 c641) 79 3 n640 cs643, .own (.slice A648 n649 c650) 39 7 n649 (x647.flatMap enc_api_Node), .box gb51 58 [.string x1.name, .slice A2 n3 c4, .slice A6 n7 c8, .slice A10 n11 c12, .slice A14 n15 c16, .slice A18 n19 c20, .slice A22 n23 c24, .slice A26 n27 c28, .slice A30 n31 c32, .slice A34 n35 c36, .slice A38 n39 c40, .slice A42 n43 c44]] : List Ent) := sels [1, 0] rfl
        show trellislaw15_made_R w F  r (.returned (packV [.slice none 0 0, .slice none 0 0, .bool false])) wr
        rw [h]
        exact ⟨none, 0, 0, [], none, 0, 0, rfl, hMr, (Ow.nil (z := w.heap.size)), (hLr.outC (s := Sm w.heap.size F w []) hMi (me 1 rfl) Sm.ok Cells.nil), (Ow.nil (z := w.heap.size))⟩
     refine g_region (c := q36c36) rfl rfl ?_
     refine wl_v 0 rfl (v_move rfl) gn rfl ?_
     refine wl_v 1 rfl (v_bin rfl rfl rfl) gn rfl ?_
     refine wl_v 2 rfl (v_move rfl) gn rfl ?_
     by_cases hp2260 : w64 ((w64 (0 - (w64 (((ix x46 x653).n) + 1)))) + 1) < 1
     ·have h := if_pos' hp2260 h
      refine w_bool 48 rfl ((decide_eq_true hp2260)) ?_
      refine wl_pass 3 rfl (ps 48 rfl rfl rfl) ?_
      refine wl_pass 4 rfl (ps 48 rfl rfl rfl) ?_
      refine wl_pass 5 rfl (ps 48 rfl rfl rfl) ?_
      refine wl_pass 6 rfl (ps 48 rfl rfl rfl) ?_
      refine wl_pass 7 rfl (ps 48 rfl rfl rfl) ?_
      refine wl_pass 8 rfl (ps 48 rfl rfl rfl) ?_
      refine wl_v 9 rfl (v_pick (b := true) rfl rfl) gn rfl ?_
      refine wl_v 10 rfl (v_move rfl) gn rfl ?_
      refine wl_pass 11 rfl (ps 56 rfl rfl rfl) ?_
      refine wl_pass 12 rfl (ps 56 rfl rfl rfl) ?_
      refine wl_pass 13 rfl (ps 56 rfl rfl rfl) ?_
      refine wl_v 14 rfl (v_pick (b := true) rfl rfl) gn rfl ?_
      refine wl_v 15 rfl (v_move rfl) gn rfl ?_
      refine wl_pass 16 rfl (ps 61 rfl rfl rfl) ?_
      refine wl_pass 17 rfl (ps 61 rfl rfl rfl) ?_
      refine wl_pass 18 rfl (ps 61 rfl rfl rfl) ?_
      refine wl_v 19 rfl (v_pick (b := true) rfl rfl) gn rfl ?_
      refine wl_v 20 rfl (v_move rfl) gn rfl ?_
      refine wl_pass 21 rfl (ps 66 rfl rfl rfl) ?_
      refine wl_pass 22 rfl (ps 66 rfl rfl rfl) ?_
      refine wl_pass 23 rfl (ps 66 rfl rfl rfl) ?_
      refine wl_v 24 rfl (v_pick (b := true) rfl rfl) gn rfl ?_
      refine wl_v 25 rfl (v_move rfl) gn rfl ?_
      refine wl_pass 26 rfl (ps 71 rfl rfl rfl) ?_
      refine wl_pass 27 rfl (ps 71 rfl rfl rfl) ?_
      refine wl_pass 28 rfl (ps 71 rfl rfl rfl) ?_
      refine wl_v 29 rfl (v_pick (b := true) rfl rfl) gn rfl ?_
      refine w_end 30 rfl ?_
      exact g_go [0, 1, 2] (j3 true h) ⟨rfl, rfl, rfl, rfl, rfl, rfl, rfl, rfl, rfl, trivial⟩ (.cons_cons _ (.cons_cons _ (.cons_cons _ (.cons_cons _ (.slnil))))) rfl
     ·have h := if_neg' hp2260 h
      refine w_bool 48 rfl ((decide_eq_false hp2260)) ?_
      refine wl_v 3 rfl (v_move rfl) (gy 48 rfl rfl) rfl ?_
      refine wl_v 4 rfl (v_fldB fo_58_2 rfl) (gy 48 rfl rfl) rfl ?_
      refine wl_v 5 rfl (v_fldB fo_47_0 rfl) (gy 48 rfl rfl) rfl ?_
      refine wl_v 6 rfl (v_ldB1 3 ld_43 rfl rfl rfl) (gy 48 rfl rfl) rfl ?_
      refine wl_v 7 rfl (v_lenQ un_43 rfl h9.hq) (gy 48 rfl rfl) rfl ?_
      refine wl_v 8 rfl (v_bin rfl rfl rfl) (gy 48 rfl rfl) rfl ?_
      refine wl_v 9 rfl (v_pick (b := false) rfl rfl) gn rfl ?_
      refine wl_v 10 rfl (v_move rfl) gn rfl ?_
      by_cases hp2261 : w64 ((w64 (0 - (w64 (((ix x46 x653).n) + 1)))) + 1) ≥ (x1.gram.terms.length : Int)
      ·have h := if_pos' hp2261 h
       refine w_bool 56 rfl ((decide_eq_true hp2261)) ?_
       refine wl_pass 11 rfl (ps 56 rfl rfl rfl) ?_
       refine wl_pass 12 rfl (ps 56 rfl rfl rfl) ?_
       refine wl_pass 13 rfl (ps 56 rfl rfl rfl) ?_
       refine wl_v 14 rfl (v_pick (b := true) rfl rfl) gn rfl ?_
       refine wl_v 15 rfl (v_move rfl) gn rfl ?_
       refine wl_pass 16 rfl (ps 61 rfl rfl rfl) ?_
       refine wl_pass 17 rfl (ps 61 rfl rfl rfl) ?_
       refine wl_pass 18 rfl (ps 61 rfl rfl rfl) ?_
       refine wl_v 19 rfl (v_pick (b := true) rfl rfl) gn rfl ?_
       refine wl_v 20 rfl (v_move rfl) gn rfl ?_
       refine wl_pass 21 rfl (ps 66 rfl rfl rfl) ?_
       refine wl_pass 22 rfl (ps 66 rfl rfl rfl) ?_
       refine wl_pass 23 rfl (ps 66 rfl rfl rfl) ?_
       refine wl_v 24 rfl (v_pick (b := true) rfl rfl) gn rfl ?_
       refine wl_v 25 rfl (v_move rfl) gn rfl ?_
       refine wl_pass 26 rfl (ps 71 rfl rfl rfl) ?_
       refine wl_pass 27 rfl (ps 71 rfl rfl rfl) ?_
       refine wl_pass 28 rfl (ps 71 rfl rfl rfl) ?_
       refine wl_v 29 rfl (v_pick (b := true) rfl rfl) gn rfl ?_
       refine w_end 30 rfl ?_
       exact g_go [0, 1, 2] (j3 true h) ⟨rfl, rfl, rfl, rfl, rfl, rfl, rfl, rfl, rfl, trivial⟩ (.cons_cons _ (.cons_cons _ (.cons_cons _ (.cons_cons _ (.slnil))))) rfl
      ·have h := if_neg' hp2261 h
       refine w_bool 56 rfl ((decide_eq_false hp2261)) ?_
       refine wl_v 11 rfl (v_fldB fo_115_1 rfl) (gy 56 rfl rfl) rfl ?_
       refine wl_v 12 rfl (v_ldB1 0 ld_3 rfl rfl rfl) (gy 56 rfl rfl) rfl ?_
       refine wl_v 13 rfl (v_bin rfl rfl rfl) (gy 56 rfl rfl) rfl ?_
       refine wl_v 14 rfl (v_pick (b := false) rfl rfl) gn rfl ?_
       refine wl_v 15 rfl (v_move rfl) gn rfl ?_
       by_cases hp2262 : (ix x46 x653).pad < 0
       ·have h := if_pos' hp2262 h
        refine w_bool 61 rfl ((decide_eq_true hp2262)) ?_
        refine wl_pass 16 rfl (ps 61 rfl rfl rfl) ?_
        refine wl_pass 17 rfl (ps 61 rfl rfl rfl) ?_
        refine wl_pass 18 rfl (ps 61 rfl rfl rfl) ?_
        refine wl_v 19 rfl (v_pick (b := true) rfl rfl) gn rfl ?_
        refine wl_v 20 rfl (v_move rfl) gn rfl ?_
        refine wl_pass 21 rfl (ps 66 rfl rfl rfl) ?_
        refine wl_pass 22 rfl (ps 66 rfl rfl rfl) ?_
        refine wl_pass 23 rfl (ps 66 rfl rfl rfl) ?_
        refine wl_v 24 rfl (v_pick (b := true) rfl rfl) gn rfl ?_
        refine wl_v 25 rfl (v_move rfl) gn rfl ?_
        refine wl_pass 26 rfl (ps 71 rfl rfl rfl) ?_
        refine wl_pass 27 rfl (ps 71 rfl rfl rfl) ?_
        refine wl_pass 28 rfl (ps 71 rfl rfl rfl) ?_
        refine wl_v 29 rfl (v_pick (b := true) rfl rfl) gn rfl ?_
        refine w_end 30 rfl ?_
        exact g_go [0, 1, 2] (j3 true h) ⟨rfl, rfl, rfl, rfl, rfl, rfl, rfl, rfl, rfl, trivial⟩ (.cons_cons _ (.cons_cons _ (.cons_cons _ (.cons_cons _ (.slnil))))) rfl
       ·have h := if_neg' hp2262 h
        refine w_bool 61 rfl ((decide_eq_false hp2262)) ?_
        refine wl_v 16 rfl (v_fldB fo_115_1 rfl) (gy 61 rfl rfl) rfl ?_
        refine wl_v 17 rfl (v_ldB1 0 ld_3 rfl rfl rfl) (gy 61 rfl rfl) rfl ?_
        refine wl_v 18 rfl (v_bin rfl rfl rfl) (gy 61 rfl rfl) rfl ?_
        refine wl_v 19 rfl (v_pick (b := false) rfl rfl) gn rfl ?_
        refine wl_v 20 rfl (v_move rfl) gn rfl ?_
        by_cases hp2263 : (ix x46 x653).pad > 1048576
        ·have h := if_pos' hp2263 h
         refine w_bool 66 rfl ((decide_eq_true hp2263)) ?_
         refine wl_pass 21 rfl (ps 66 rfl rfl rfl) ?_
         refine wl_pass 22 rfl (ps 66 rfl rfl rfl) ?_
         refine wl_pass 23 rfl (ps 66 rfl rfl rfl) ?_
         refine wl_v 24 rfl (v_pick (b := true) rfl rfl) gn rfl ?_
         refine wl_v 25 rfl (v_move rfl) gn rfl ?_
         refine wl_pass 26 rfl (ps 71 rfl rfl rfl) ?_
         refine wl_pass 27 rfl (ps 71 rfl rfl rfl) ?_
         refine wl_pass 28 rfl (ps 71 rfl rfl rfl) ?_
         refine wl_v 29 rfl (v_pick (b := true) rfl rfl) gn rfl ?_
         refine w_end 30 rfl ?_
         exact g_go [0, 1, 2] (j3 true h) ⟨rfl, rfl, rfl, rfl, rfl, rfl, rfl, rfl, rfl, trivial⟩ (.cons_cons _ (.cons_cons _ (.cons_cons _ (.cons_cons _ (.slnil))))) rfl
        ·have h := if_neg' hp2263 h
         refine w_bool 66 rfl ((decide_eq_false hp2263)) ?_
         refine wl_v 21 rfl (v_fldB fo_115_2 rfl) (gy 66 rfl rfl) rfl ?_
         refine wl_v 22 rfl (v_ldB1 0 ld_3 rfl rfl rfl) (gy 66 rfl rfl) rfl ?_
         refine wl_v 23 rfl (v_bin rfl rfl rfl) (gy 66 rfl rfl) rfl ?_
         refine wl_v 24 rfl (v_pick (b := false) rfl rfl) gn rfl ?_
         refine wl_v 25 rfl (v_move rfl) gn rfl ?_
         by_cases hp2264 : (ix x46 x653).len < 0
         ·have h := if_pos' hp2264 h
          refine w_bool 71 rfl ((decide_eq_true hp2264)) ?_
          refine wl_pass 26 rfl (ps 71 rfl rfl rfl) ?_
          refine wl_pass 27 rfl (ps 71 rfl rfl rfl) ?_
          refine wl_pass 28 rfl (ps 71 rfl rfl rfl) ?_
          refine wl_v 29 rfl (v_pick (b := true) rfl rfl) gn rfl ?_
          refine w_end 30 rfl ?_
          exact g_go [0, 1, 2] (j3 true h) ⟨rfl, rfl, rfl, rfl, rfl, rfl, rfl, rfl, rfl, trivial⟩ (.cons_cons _ (.cons_cons _ (.cons_cons _ (.cons_cons _ (.slnil))))) rfl
         ·have h := if_neg' hp2264 h
          refine w_bool 71 rfl ((decide_eq_false hp2264)) ?_
          refine wl_v 26 rfl (v_fldB fo_115_2 rfl) (gy 71 rfl rfl) rfl ?_
          refine wl_v 27 rfl (v_ldB1 0 ld_3 rfl rfl rfl) (gy 71 rfl rfl) rfl ?_
          refine wl_v 28 rfl (v_bin rfl rfl rfl) (gy 71 rfl rfl) rfl ?_
          refine wl_v 29 rfl (v_pick (b := false) rfl rfl) gn rfl ?_
          refine w_end 30 rfl ?_
          exact g_go [0, 1, 2] (j3 (decide ((ix x46 x653).len > 1048576)) h) ⟨rfl, rfl, rfl, rfl, rfl, rfl, rfl, rfl, rfl, trivial⟩ (.cons_cons _ (.cons_cons _ (.cons_cons _ (.cons_cons _ (.slnil))))) rfl
    ·have h := if_neg' hp2208 h
     refine g_false (c := q36c29) rfl _ rfl ((decide_eq_false hp2208)) ?_
     refine g_skip (c := q36c31) rfl ?_
     refine g_seq (c := q36c27) rfl ?_
     refine g_seq (c := q36c58) rfl ?_
     have j4 : ∀ (x2275 : Bool) (h : trellislaw15_made_j4 x638 x647 x652 x653 x46 x1 x2275 o1) , G (trellislaw15_made_C w F r) [.code q36c61, .code q36c59, .inBlock 1, .code q36c22, .inLoop q36c14, .inBlock 0, .code q36c10] [(1, .slice A47 n48 c49), (2, .pointer (some ⟨gb51, 0, none⟩)), (7, .slice A639 n640 c641), (8, .slice A648 n649 c650), (9, .int .i64 x652), (10, .int .i64 x653), (11, .pointer (some ⟨gb2206, 0, none⟩)), (124, .bool x2275)] [.box gb2206 115 [.int .i64 ((ix x46 x653).n), .int .i64 ((ix x46 x653).pad), .int .i64 ((ix x46 x653).len)], .own (.slice A639 n640 c641) 79 3 n640 cs643, .own (.slice A648 n649 c650) 39 7 n649 (x647.flatMap enc_api_Node), .box gb51 58 [.string x1.name, .slice A2 n3 c4, .slice A6 n7 c8, .slice A10 n11 c12, .slice A14 n15 c16, .slice A18 n19 c20, .slice A22 n23 c24, .slice A26 n27 c28, .slice A30 n31 c32, .slice A34 n35 c36, .slice A38 n39 c40, .slice A42 n43 c44]] [Sm w.heap.size F sw644 sb645, Sm w.heap.size F w [], St w []] := by
      intro x2275 h
      unfold trellislaw15_made_j4 at h
      by_cases hp2276 : x2275 = true
      ·have h := if_pos' hp2276 h
       refine g_true (c := q36c61) rfl _ rfl (hp2276) ?_
       refine g_exit (c := q36c62) [.code q36c22, .inLoop q36c14, .inBlock 0, .code q36c10] rfl rfl ?_
       refine g_region (c := q36c22) rfl rfl ?_
       refine wl_v 0 rfl (v_move rfl) gn rfl ?_
       refine wl_v 1 rfl (v_bin rfl rfl rfl) gn rfl ?_
       refine wl_v 2 rfl (v_assign rfl) gn rfl ?_
       refine w_end 3 rfl ?_
       refine g_inLoop ?_
       have ih := Out.inl hO1 h
       exact g_go [0, 1, 2] (ih A639 n640 c641 h642 cs643 sw644 sb645 hC646 A648 n649 c650 h651) ⟨rfl, rfl, rfl, rfl, rfl, rfl, trivial⟩ (.cons _ (.cons_cons _ (.cons_cons _ (.cons_cons _ (.slnil))))) rfl
      ·have h := if_neg' hp2276 h
       refine g_false (c := q36c61) rfl _ rfl ((bf hp2276)) ?_
       refine g_skip (c := q36c63) rfl ?_
       refine g_seq (c := q36c59) rfl ?_
       refine g_region (c := q36c64) rfl rfl ?_
       refine wl_v 0 rfl (v_fldB fo_58_2 rfl) gn rfl ?_
       refine wl_v 1 rfl (v_fldB fo_47_2 rfl) gn rfl ?_
       refine wl_v 2 rfl (v_ldB1 3 ld_45 rfl rfl rfl) gn rfl ?_
       refine wl_v 3 rfl (v_fldB fo_115_0 rfl) gn rfl ?_
       refine wl_v 4 rfl (v_ldB1 0 ld_3 rfl rfl rfl) gn rfl ?_
       obtain ⟨hb2277, h⟩ := h
       obtain ⟨ce2279, hK2280, hr2278⟩ := Rw.read (s := St w []) h17 hb2277
       obtain ⟨A2281, n2282, c2283, rfl, h2284⟩ := hK2280
       refine wl_v 5 rfl (v_idxR (s := St w []) slE_45 rfl rfl h17 hb2277) gn rfl ?_
       refine wl_v 6 rfl (v_fldA fo_107_1 rfl) gn rfl ?_
       refine wl_v 7 rfl (v_ldA1 (kk := ((ix x46 x653).n : Int).toNat * 2) (j := 1) (St w []) ld_105 rfl hr2278 rfl (me 2 rfl)) gn rfl ?_
       refine wl_v 8 rfl (v_assign rfl) gn rfl ?_
       refine w_end 9 rfl ?_
       refine g_seq (c := q36c65) rfl ?_
       refine g_region (c := q36c66) rfl rfl ?_
       refine wl_v 0 rfl (v_move rfl) gn rfl ?_
       refine wl_v 1 rfl (v_lenQ un_75 rfl h642.hq) gn rfl ?_
       refine wl_v 2 rfl (v_move rfl) gn rfl ?_
       refine wl_v 3 rfl (v_lenQ un_105 rfl h2284.hq) gn rfl ?_
       refine wl_v 4 rfl (v_bin rfl rfl rfl) gn rfl ?_
       refine wl_v 5 rfl (v_assign rfl) gn rfl ?_
       refine w_end 6 rfl ?_
       refine g_seq (c := q36c67) rfl ?_
       refine g_region (c := q36c68) rfl rfl ?_
       refine wl_v 0 rfl (v_move rfl) gn rfl ?_
       refine wl_v 1 rfl (v_bin rfl rfl rfl) gn rfl ?_
       refine wl_v 2 rfl (v_assign rfl) gn rfl ?_
       refine w_end 3 rfl ?_
       refine g_seq (c := q36c69) rfl ?_
       refine g_seq (c := q36c70) rfl ?_
       refine g_region (c := q36c72) rfl rfl ?_
       refine wl_v 0 rfl (v_assign rfl) gn rfl ?_
       refine w_end 1 rfl ?_
       refine g_block (c := q36c73) rfl ?_
       refine g_loop (c := q36c74) rfl ?_
       have key5 : ∀ s, Rounds (fun (s : Bool × Int) o => trellislaw15_made_b5 x1 x46 x653 x638 x647 x652 s.1 s.2 o) s o1 → (fun (s : Bool × Int) => ∀ (_ : Unit), G (trellislaw15_made_C w F r) [.code q36c75, .inLoop q36c75, .inBlock 2, .code q36c71, .inBlock 1, .code q36c22, .inLoop q36c14, .inBlock 0, .code q36c10] [(1, .slice A47 n48 c49), (2, .pointer (some ⟨gb51, 0, none⟩)), (7, .slice A639 n640 c641), (8, .slice A648 n649 c650), (9, .int .i64 x652), (10, .int .i64 x653), (11, .pointer (some ⟨gb2206, 0, none⟩)), (15, .slice A2281 n2282 c2283), (16, .int .i64 (w64 ((x638.length : Int) - (((ix x1.gram.prods ((ix x46 x653).n)).rhs).length : Int)))), (17, .bool s.1), (18, .int .i64 s.2)] [.box gb2206 115 [.int .i64 ((ix x46 x653).n), .int .i64 ((ix x46 x653).pad), .int .i64 ((ix x46 x653).len)], .own (.slice A639 n640 c641) 79 3 n640 cs643, .own (.slice A648 n649 c650) 39 7 n649 (x647.flatMap enc_api_Node), .box gb51 58 [.string x1.name, .slice A2 n3 c4, .slice A6 n7 c8, .slice A10 n11 c12, .slice A14 n15 c16, .slice A18 n19 c20, .slice A22 n23 c24, .slice A26 n27 c28, .slice A30 n31 c32, .slice A34 n35 c36, .slice A38 n39 c40, .slice A42 n43 c44]] [Sm w.heap.size F sw644 sb645, Sm w.heap.size F w [], St w []]) s := by
        intro s hs
        refine Rounds.ind (mot := (fun (s : Bool × Int) => ∀ (_ : Unit), G (trellislaw15_made_C w F r) [.code q36c75, .inLoop q36c75, .inBlock 2, .code q36c71, .inBlock 1, .code q36c22, .inLoop q36c14, .inBlock 0, .code q36c10] [(1, .slice A47 n48 c49), (2, .pointer (some ⟨gb51, 0, none⟩)), (7, .slice A639 n640 c641), (8, .slice A648 n649 c650), (9, .int .i64 x652), (10, .int .i64 x653), (11, .pointer (some ⟨gb2206, 0, none⟩)), (15, .slice A2281 n2282 c2283), (16, .int .i64 (w64 ((x638.length : Int) - (((ix x1.gram.prods ((ix x46 x653).n)).rhs).length : Int)))), (17, .bool s.1), (18, .int .i64 s.2)] [.box gb2206 115 [.int .i64 ((ix x46 x653).n), .int .i64 ((ix x46 x653).pad), .int .i64 ((ix x46 x653).len)], .own (.slice A639 n640 c641) 79 3 n640 cs643, .own (.slice A648 n649 c650) 39 7 n649 (x647.flatMap enc_api_Node), .box gb51 58 [.string x1.name, .slice A2 n3 c4, .slice A6 n7 c8, .slice A10 n11 c12, .slice A14 n15 c16, .slice A18 n19 c20, .slice A22 n23 c24, .slice A26 n27 c28, .slice A30 n31 c32, .slice A34 n35 c36, .slice A38 n39 c40, .slice A42 n43 c44]] [Sm w.heap.size F sw644 sb645, Sm w.heap.size F w [], St w []])) ?_ hs
        clear hs s
        intro s o2 h hO2
        obtain ⟨x2592, x2593⟩ := s
        show ∀ (_ : Unit), G (trellislaw15_made_C w F r) [.code q36c75, .inLoop q36c75, .inBlock 2, .code q36c71, .inBlock 1, .code q36c22, .inLoop q36c14, .inBlock 0, .code q36c10] [(1, .slice A47 n48 c49), (2, .pointer (some ⟨gb51, 0, none⟩)), (7, .slice A639 n640 c641), (8, .slice A648 n649 c650), (9, .int .i64 x652), (10, .int .i64 x653), (11, .pointer (some ⟨gb2206, 0, none⟩)), (15, .slice A2281 n2282 c2283), (16, .int .i64 (w64 ((x638.length : Int) - (((ix x1.gram.prods ((ix x46 x653).n)).rhs).length : Int)))), (17, .bool x2592), (18, .int .i64 x2593)] [.box gb2206 115 [.int .i64 ((ix x46 x653).n), .int .i64 ((ix x46 x653).pad), .int .i64 ((ix x46 x653).len)], .own (.slice A639 n640 c641) 79 3 n640 cs643, .own (.slice A648 n649 c650) 39 7 n649 (x647.flatMap enc_api_Node), .box gb51 58 [.string x1.name, .slice A2 n3 c4, .slice A6 n7 c8, .slice A10 n11 c12, .slice A14 n15 c16, .slice A18 n19 c20, .slice A22 n23 c24, .slice A26 n27 c28, .slice A30 n31 c32, .slice A34 n35 c36, .slice A38 n39 c40, .slice A42 n43 c44]] [Sm w.heap.size F sw644 sb645, Sm w.heap.size F w [], St w []]
        intro _
        have h : trellislaw15_made_b5 x1 x46 x653 x638 x647 x652 x2592 x2593 o2 := h
        unfold trellislaw15_made_b5 at h
        refine g_seq (c := q36c75) rfl ?_
        refine g_seq (c := q36c76) rfl ?_
        refine g_region (c := q36c78) rfl rfl ?_
        refine wl_v 0 rfl (v_move rfl) gn rfl ?_
        refine wl_v 1 rfl (v_move rfl) gn rfl ?_
        refine wl_v 2 rfl (v_lenQ un_105 rfl h2284.hq) gn rfl ?_
        refine wl_v 3 rfl (v_bin rfl rfl rfl) gn rfl ?_
        refine wl_v 4 rfl (v_move rfl) gn rfl ?_
        by_cases hp3165 : x2593 < (((ix x1.gram.prods ((ix x46 x653).n)).rhs).length : Int)
        ·have h := if_pos' hp3165 h
         refine w_bool 144 rfl ((decide_eq_true hp3165)) ?_
         refine wl_v 5 rfl (v_move rfl) (gy 144 rfl rfl) rfl ?_
         refine wl_v 6 rfl (v_pick (b := true) rfl rfl) gn rfl ?_
         refine w_end 7 rfl ?_
         by_cases hp3166 : x2592 = true
         ·have h := if_pos' hp3166 h
          refine g_true (c := q36c79) rfl _ rfl (hp3166) ?_
          refine g_skip (c := q36c80) rfl ?_
          refine g_seq (c := q36c77) rfl ?_
          refine g_block (c := q36c82) rfl ?_
          obtain ⟨hb3167, h⟩ := h
          obtain ⟨hb3176, h⟩ := h
          have hns : Region.noSelect (Code.ops q36c84) = true := by kernel_rfl
          refine g_drawF (c := q36c84) [.box gb2206 115 [.int .i64 ((ix x46 x653).n), .int .i64 ((ix x46 x653).pad), .int .i64 ((ix x46 x653).len)], .own (.slice A639 n640 c641) 79 3 n640 cs643, .own (.slice A648 n649 c650) 39 7 n649 (x647.flatMap enc_api_Node), .box gb51 58 [.string x1.name, .slice A2 n3 c4, .slice A6 n7 c8, .slice A10 n11 c12, .slice A14 n15 c16, .slice A18 n19 c20, .slice A22 n23 c24, .slice A26 n27 c28, .slice A30 n31 c32, .slice A34 n35 c36, .slice A38 n39 c40, .slice A42 n43 c44]] [Sm w.heap.size F sw644 sb645, Sm w.heap.size F w [], St w []] [] 14 rfl rfl mix rfl (.cons_cons _ (.cons_cons _ (.cons_cons _ (.cons_cons _ (.slnil))))) (sels [0, 1, 2] rfl) ?_
          refine wfv 0 rfl (v_move rfl) gn hns rfl ?_
          refine wfv 1 rfl (v_move rfl) gn hns rfl ?_
          refine wfv 2 rfl (v_move rfl) gn hns rfl ?_
          refine wfv 3 rfl (v_bin rfl rfl rfl) gn hns rfl ?_
          obtain ⟨ce3187, hK3188, ht3189, hg3190⟩ := Cells.get hC646 hb3167
          obtain ⟨A3191, n3192, c3193, rfl, h3194⟩ := hK3188
          refine wfv 4 rfl (v_idxO slE_75 rfl rfl h642 hb3167) gn hns rfl ?_
          refine wfv 5 rfl (v_fldA fo_79_0 rfl) gn hns rfl ?_
          refine wfv 6 rfl (v_ldO1 (.int .i64 ((ix x638 (w64 ((w64 ((x638.length : Int) - (((ix x1.gram.prods ((ix x46 x653).n)).rhs).length : Int))) + x2593))).sym)) 1 ld_3 rfl rfl (hg3190 0 _ rfl)) gn hns rfl ?_
          refine wfv 7 rfl (v_move rfl) gn hns rfl ?_
          refine wfv 8 rfl (v_move rfl) gn hns rfl ?_
          have hr3195 := Rw.readF (s := St w []) (hl := hl_api_Ref) (h1 := h1_api_Ref) h2284 hb3176
          refine wfv 9 rfl (v_idxR (s := St w []) slE_105 rfl rfl h2284 hb3176) gn hns rfl ?_
          refine wfv 10 rfl (v_fldA fo_104_0 rfl) gn hns rfl ?_
          refine wfv 11 rfl (v_ldA1 (kk := (x2593 : Int).toNat * 3) (j := 0) (St w []) ld_3 rfl hr3195 rfl (me 2 rfl)) gn hns rfl ?_
          refine wfv 12 rfl (v_bin rfl rfl rfl) gn hns rfl ?_
          refine wfv 13 rfl (v_assign rfl) gn hns rfl ?_
          refine wf_end (by kernel_rfl) ?_
          refine g_inBlock ?_
          refine g_region (c := q36c83) rfl rfl ?_
          refine wl_v 0 rfl (v_move rfl) gn rfl ?_
          refine wl_v 1 rfl (v_bin rfl rfl rfl) gn rfl ?_
          refine wl_v 2 rfl (v_assign rfl) gn rfl ?_
          refine w_end 3 rfl ?_
          refine g_inLoop ?_
          have ih := Out.inl hO2 h
          exact g_go [0, 1, 2] (ih ()) ⟨rfl, rfl, rfl, rfl, rfl, rfl, rfl, rfl, rfl, rfl, rfl, trivial⟩ (.cons_cons _ (.cons_cons _ (.cons_cons _ (.cons_cons _ (.slnil))))) rfl
         ·have h := if_neg' hp3166 h
          refine g_false (c := q36c79) rfl _ rfl ((bf hp3166)) ?_
          refine g_exit (c := q36c81) [.code q36c71, .inBlock 1, .code q36c22, .inLoop q36c14, .inBlock 0, .code q36c10] rfl rfl ?_
          refine g_seq (c := q36c71) rfl ?_
          refine g_seq (c := q36c85) rfl ?_
          refine g_region (c := q36c87) rfl rfl ?_
          refine wl_v 0 rfl (v_move rfl) gn rfl ?_
          refine wl_v 1 rfl (v_not rfl) gn rfl ?_
          refine w_end 2 rfl ?_
          refine g_true (c := q36c88) rfl _ rfl ((nt (bf hp3166))) ?_
          refine g_exit (c := q36c89) [.code q36c22, .inLoop q36c14, .inBlock 0, .code q36c10] rfl rfl ?_
          refine g_region (c := q36c22) rfl rfl ?_
          refine wl_v 0 rfl (v_move rfl) gn rfl ?_
          refine wl_v 1 rfl (v_bin rfl rfl rfl) gn rfl ?_
          refine wl_v 2 rfl (v_assign rfl) gn rfl ?_
          refine w_end 3 rfl ?_
          refine g_inLoop ?_
          have h := Out.inr hO2 h
          have ih := Out.inl hO1 h
          exact g_go [0, 1, 2] (ih A639 n640 c641 h642 cs643 sw644 sb645 hC646 A648 n649 c650 h651) ⟨rfl, rfl, rfl, rfl, rfl, rfl, trivial⟩ (.cons _ (.cons_cons _ (.cons_cons _ (.cons_cons _ (.slnil))))) rfl
        ·have h := if_neg' hp3165 h
         refine w_bool 144 rfl ((decide_eq_false hp3165)) ?_
         refine wl_pass 5 rfl (ps 144 rfl rfl rfl) ?_
         refine wl_v 6 rfl (v_pick (b := false) rfl rfl) gn rfl ?_
         refine w_end 7 rfl ?_
         refine g_false (c := q36c79) rfl _ rfl (rfl) ?_
         refine g_exit (c := q36c81) [.code q36c71, .inBlock 1, .code q36c22, .inLoop q36c14, .inBlock 0, .code q36c10] rfl rfl ?_
         refine g_seq (c := q36c71) rfl ?_
         refine g_seq (c := q36c85) rfl ?_
         refine g_region (c := q36c87) rfl rfl ?_
         refine wl_v 0 rfl (v_move rfl) gn rfl ?_
         refine wl_v 1 rfl (v_not rfl) gn rfl ?_
         refine w_end 2 rfl ?_
         by_cases hp3196 : x2592 = true
         ·have h := if_pos' hp3196 h
          refine g_false (c := q36c88) rfl _ rfl ((nf hp3196)) ?_
          refine g_skip (c := q36c90) rfl ?_
          refine g_seq (c := q36c86) rfl ?_
          refine g_region (c := q36c91) rfl rfl ?_
          refine wl_s 0 rfl (s_litO (xs := ([0] : List Int)) [.int .i64 0] bs_23_1 rfl (by kernel_rfl) rfl rfl rfl rfl fun gb3198 h3199 => ?_) gn
          refine wl_v 1 rfl (v_assign rfl) gn rfl ?_
          refine w_end 2 rfl ?_
          refine g_seq (c := q36c92) rfl ?_
          refine g_seq (c := q36c93) rfl ?_
          refine g_region (c := q36c95) rfl rfl ?_
          refine wl_v 0 rfl (v_move rfl) gn rfl ?_
          refine wl_v 1 rfl (v_bin rfl rfl rfl) gn rfl ?_
          refine w_end 2 rfl ?_
          have j6 : ∀ (x3215 : List Int) (h : trellislaw15_made_j6 x1 x46 x653 x638 x647 x652 x3215 o2) (h3216 : Ow w.heap.size (some ⟨gb3198, 0, none⟩) 1 1 x3215), G (trellislaw15_made_C w F r) [.code q36c94, .inBlock 1, .code q36c22, .inLoop q36c14, .inBlock 0, .code q36c10] [(1, .slice A47 n48 c49), (2, .pointer (some ⟨gb51, 0, none⟩)), (7, .slice A639 n640 c641), (8, .slice A648 n649 c650), (9, .int .i64 x652), (10, .int .i64 x653), (11, .pointer (some ⟨gb2206, 0, none⟩)), (15, .slice A2281 n2282 c2283), (16, .int .i64 (w64 ((x638.length : Int) - (((ix x1.gram.prods ((ix x46 x653).n)).rhs).length : Int)))), (19, .slice (some ⟨gb3198, 0, none⟩) 1 1)] [.own (.slice (some ⟨gb3198, 0, none⟩) 1 1) 3 1 1 (x3215.flatMap (eI .i64)), .box gb2206 115 [.int .i64 ((ix x46 x653).n), .int .i64 ((ix x46 x653).pad), .int .i64 ((ix x46 x653).len)], .own (.slice A639 n640 c641) 79 3 n640 cs643, .own (.slice A648 n649 c650) 39 7 n649 (x647.flatMap enc_api_Node), .box gb51 58 [.string x1.name, .slice A2 n3 c4, .slice A6 n7 c8, .slice A10 n11 c12, .slice A14 n15 c16, .slice A18 n19 c20, .slice A22 n23 c24, .slice A26 n27 c28, .slice A30 n31 c32, .slice A34 n35 c36, .slice A38 n39 c40, .slice A42 n43 c44]] [Sm w.heap.size F sw644 sb645, Sm w.heap.size F w [], St w []] := by
           intro x3215 h h3216
           unfold trellislaw15_made_j6 at h
           refine g_seq (c := q36c94) rfl ?_
           refine g_region (c := q36c99) rfl rfl ?_
           refine wl_v 0 rfl (v_assign rfl) gn rfl ?_
           refine w_end 1 rfl ?_
           refine g_seq (c := q36c100) rfl ?_
           refine g_seq (c := q36c101) rfl ?_
           refine g_region (c := q36c103) rfl rfl ?_
           refine wl_v 0 rfl (v_assign rfl) gn rfl ?_
           refine w_end 1 rfl ?_
           refine g_block (c := q36c104) rfl ?_
           refine g_loop (c := q36c105) rfl ?_
           have key7 : ∀ s, Rounds (fun (s : (List Int) × (List (List api_Node)) × Int) o => trellislaw15_made_b7 x1 x46 x653 x638 x647 x652 s.1 s.2.1 s.2.2 o) s o2 → (fun (s : (List Int) × (List (List api_Node)) × Int) => ∀ (A3383 : Option Addr) (n3384 : Nat) (c3385 : Nat) (h3386 : Ow w.heap.size A3383 n3384 c3385 s.1) (A3388 : Option Addr) (n3389 : Nat) (c3390 : Nat) (h3391 : Ow w.heap.size A3388 n3389 c3390 s.2.1) (cs3392 : List Value) (sw3393 : World) (sb3394 : List (List Nat)) (hC3395 : Cells (Kd.slice k_api_Node) (Sm w.heap.size F sw3393 sb3394).w (Sm w.heap.size F sw3393 sb3394).av s.2.1 cs3392), G (trellislaw15_made_C w F r) [.code q36c106, .inLoop q36c106, .inBlock 4, .code q36c102, .inBlock 1, .code q36c22, .inLoop q36c14, .inBlock 0, .code q36c10] [(1, .slice A47 n48 c49), (2, .pointer (some ⟨gb51, 0, none⟩)), (7, .slice A639 n640 c641), (8, .slice A648 n649 c650), (9, .int .i64 x652), (10, .int .i64 x653), (11, .pointer (some ⟨gb2206, 0, none⟩)), (15, .slice A2281 n2282 c2283), (16, .int .i64 (w64 ((x638.length : Int) - (((ix x1.gram.prods ((ix x46 x653).n)).rhs).length : Int)))), (19, .slice A3383 n3384 c3385), (20, .slice A3388 n3389 c3390), (21, .int .i64 s.2.2)] [.own (.slice A3388 n3389 c3390) 22 1 n3389 cs3392, .own (.slice A3383 n3384 c3385) 3 1 n3384 (s.1.flatMap (eI .i64)), .box gb2206 115 [.int .i64 ((ix x46 x653).n), .int .i64 ((ix x46 x653).pad), .int .i64 ((ix x46 x653).len)], .own (.slice A639 n640 c641) 79 3 n640 cs643, .own (.slice A648 n649 c650) 39 7 n649 (x647.flatMap enc_api_Node), .box gb51 58 [.string x1.name, .slice A2 n3 c4, .slice A6 n7 c8, .slice A10 n11 c12, .slice A14 n15 c16, .slice A18 n19 c20, .slice A22 n23 c24, .slice A26 n27 c28, .slice A30 n31 c32, .slice A34 n35 c36, .slice A38 n39 c40, .slice A42 n43 c44]] [Sm w.heap.size F sw3393 sb3394, Sm w.heap.size F sw644 sb645, Sm w.heap.size F w [], St w []]) s := by
            intro s hs
            refine Rounds.ind (mot := (fun (s : (List Int) × (List (List api_Node)) × Int) => ∀ (A3383 : Option Addr) (n3384 : Nat) (c3385 : Nat) (h3386 : Ow w.heap.size A3383 n3384 c3385 s.1) (A3388 : Option Addr) (n3389 : Nat) (c3390 : Nat) (h3391 : Ow w.heap.size A3388 n3389 c3390 s.2.1) (cs3392 : List Value) (sw3393 : World) (sb3394 : List (List Nat)) (hC3395 : Cells (Kd.slice k_api_Node) (Sm w.heap.size F sw3393 sb3394).w (Sm w.heap.size F sw3393 sb3394).av s.2.1 cs3392), G (trellislaw15_made_C w F r) [.code q36c106, .inLoop q36c106, .inBlock 4, .code q36c102, .inBlock 1, .code q36c22, .inLoop q36c14, .inBlock 0, .code q36c10] [(1, .slice A47 n48 c49), (2, .pointer (some ⟨gb51, 0, none⟩)), (7, .slice A639 n640 c641), (8, .slice A648 n649 c650), (9, .int .i64 x652), (10, .int .i64 x653), (11, .pointer (some ⟨gb2206, 0, none⟩)), (15, .slice A2281 n2282 c2283), (16, .int .i64 (w64 ((x638.length : Int) - (((ix x1.gram.prods ((ix x46 x653).n)).rhs).length : Int)))), (19, .slice A3383 n3384 c3385), (20, .slice A3388 n3389 c3390), (21, .int .i64 s.2.2)] [.own (.slice A3388 n3389 c3390) 22 1 n3389 cs3392, .own (.slice A3383 n3384 c3385) 3 1 n3384 (s.1.flatMap (eI .i64)), .box gb2206 115 [.int .i64 ((ix x46 x653).n), .int .i64 ((ix x46 x653).pad), .int .i64 ((ix x46 x653).len)], .own (.slice A639 n640 c641) 79 3 n640 cs643, .own (.slice A648 n649 c650) 39 7 n649 (x647.flatMap enc_api_Node), .box gb51 58 [.string x1.name, .slice A2 n3 c4, .slice A6 n7 c8, .slice A10 n11 c12, .slice A14 n15 c16, .slice A18 n19 c20, .slice A22 n23 c24, .slice A26 n27 c28, .slice A30 n31 c32, .slice A34 n35 c36, .slice A38 n39 c40, .slice A42 n43 c44]] [Sm w.heap.size F sw3393 sb3394, Sm w.heap.size F sw644 sb645, Sm w.heap.size F w [], St w []])) ?_ hs
            clear hs s
            intro s o3 h hO3
            obtain ⟨x3382, x3387, x3396⟩ := s
            show ∀ (A3383 : Option Addr) (n3384 : Nat) (c3385 : Nat) (h3386 : Ow w.heap.size A3383 n3384 c3385 x3382) (A3388 : Option Addr) (n3389 : Nat) (c3390 : Nat) (h3391 : Ow w.heap.size A3388 n3389 c3390 x3387) (cs3392 : List Value) (sw3393 : World) (sb3394 : List (List Nat)) (hC3395 : Cells (Kd.slice k_api_Node) (Sm w.heap.size F sw3393 sb3394).w (Sm w.heap.size F sw3393 sb3394).av x3387 cs3392), G (trellislaw15_made_C w F r) [.code q36c106, .inLoop q36c106, .inBlock 4, .code q36c102, .inBlock 1, .code q36c22, .inLoop q36c14, .inBlock 0, .code q36c10] [(1, .slice A47 n48 c49), (2, .pointer (some ⟨gb51, 0, none⟩)), (7, .slice A639 n640 c641), (8, .slice A648 n649 c650), (9, .int .i64 x652), (10, .int .i64 x653), (11, .pointer (some ⟨gb2206, 0, none⟩)), (15, .slice A2281 n2282 c2283), (16, .int .i64 (w64 ((x638.length : Int) - (((ix x1.gram.prods ((ix x46 x653).n)).rhs).length : Int)))), (19, .slice A3383 n3384 c3385), (20, .slice A3388 n3389 c3390), (21, .int .i64 x3396)] [.own (.slice A3388 n3389 c3390) 22 1 n3389 cs3392, .own (.slice A3383 n3384 c3385) 3 1 n3384 (x3382.flatMap (eI .i64)), .box gb2206 115 [.int .i64 ((ix x46 x653).n), .int .i64 ((ix x46 x653).pad), .int .i64 ((ix x46 x653).len)], .own (.slice A639 n640 c641) 79 3 n640 cs643, .own (.slice A648 n649 c650) 39 7 n649 (x647.flatMap enc_api_Node), .box gb51 58 [.string x1.name, .slice A2 n3 c4, .slice A6 n7 c8, .slice A10 n11 c12, .slice A14 n15 c16, .slice A18 n19 c20, .slice A22 n23 c24, .slice A26 n27 c28, .slice A30 n31 c32, .slice A34 n35 c36, .slice A38 n39 c40, .slice A42 n43 c44]] [Sm w.heap.size F sw3393 sb3394, Sm w.heap.size F sw644 sb645, Sm w.heap.size F w [], St w []]
            intro A3383 n3384 c3385 h3386 A3388 n3389 c3390 h3391 cs3392 sw3393 sb3394 hC3395
            have h : trellislaw15_made_b7 x1 x46 x653 x638 x647 x652 x3382 x3387 x3396 o3 := h
            unfold trellislaw15_made_b7 at h
            refine g_seq (c := q36c106) rfl ?_
            refine g_seq (c := q36c107) rfl ?_
            refine g_region (c := q36c109) rfl rfl ?_
            refine wl_v 0 rfl (v_move rfl) gn rfl ?_
            refine wl_v 1 rfl (v_move rfl) gn rfl ?_
            refine wl_v 2 rfl (v_lenQ un_105 rfl h2284.hq) gn rfl ?_
            refine wl_v 3 rfl (v_bin rfl rfl rfl) gn rfl ?_
            refine w_end 4 rfl ?_
            by_cases hp3560 : x3396 < (((ix x1.gram.prods ((ix x46 x653).n)).rhs).length : Int)
            ·have h := if_pos' hp3560 h
             refine g_true (c := q36c110) rfl _ rfl ((decide_eq_true hp3560)) ?_
             refine g_skip (c := q36c111) rfl ?_
             refine g_seq (c := q36c108) rfl ?_
             refine g_block (c := q36c121) rfl ?_
             refine g_seq (c := q36c123) rfl ?_
             refine g_region (c := q36c124) rfl rfl ?_
             refine wl_v 0 rfl (v_move rfl) gn rfl ?_
             refine wl_v 1 rfl (v_move rfl) gn rfl ?_
             refine wl_v 2 rfl (v_move rfl) gn rfl ?_
             refine wl_v 3 rfl (v_move rfl) gn rfl ?_
             refine wl_v 4 rfl (v_bin rfl rfl rfl) gn rfl ?_
             obtain ⟨hb3561, h⟩ := h
             obtain ⟨ce3562, hK3563, ht3564, hg3565⟩ := Cells.get hC646 hb3561
             obtain ⟨A3566, n3567, c3568, rfl, h3569⟩ := hK3563
             refine wl_v 5 rfl (v_idxO slE_75 rfl rfl h642 hb3561) gn rfl ?_
             refine wl_v 6 rfl (v_fldA fo_79_1 rfl) gn rfl ?_
             refine wl_v 7 rfl (v_ldO1 (.slice A3566 n3567 c3568) 3 ld_22 rfl rfl (hg3565 1 _ rfl)) gn rfl ?_
             have hC3571 : Cells (Kd.slice k_api_Node) (Sm w.heap.size F sw644 sb645).w (Sm w.heap.size F sw644 sb645).av ([(ix x638 (w64 ((w64 ((x638.length : Int) - (((ix x1.gram.prods ((ix x46 x653).n)).rhs).length : Int))) + x3396))).t] : List (List api_Node)) [.slice A3566 n3567 c3568] := (Cells.cons (c1 := [.slice A3566 n3567 c3568]) ⟨A3566, n3567, c3568, rfl, h3569⟩ Cells.nil)
             refine wl_s 8 rfl (s_litO (xs := ([(ix x638 (w64 ((w64 ((x638.length : Int) - (((ix x1.gram.prods ((ix x46 x653).n)).rhs).length : Int))) + x3396))).t] : List (List api_Node))) [.slice A3566 n3567 c3568] bs_59_1 rfl (by kernel_rfl) rfl rfl rfl rfl fun gb3572 h3573 => ?_) gn
             obtain ⟨x3580, hv3581, h⟩ := h
             obtain ⟨hb3582, h⟩ := h
             refine w_mark (F := F) fun sw3577 sb3578 ho3579 => ?_
             obtain ⟨cs3583, hc3584⟩ : ∃ x : List Value, x = cs3392 ++ [.slice A3566 n3567 c3568] := ⟨_, rfl⟩
             have hC3585 : Cells (Kd.slice k_api_Node) (Sm w.heap.size F sw3577 sb3578).w (Sm w.heap.size F sw3577 sb3578).av x3580 cs3583 := by rw [hv3581, hc3584]; exact Cells.app (Cells.older (s := Sm w.heap.size F sw3393 sb3394) hC3395 (ho3579 _ (me 0 rfl) Sm.ok)) (Cells.older (s := Sm w.heap.size F sw644 sb645) hC3571 (ho3579 _ (me 1 rfl) Sm.ok))
             refine wl_s 9 rfl (s_app (zs := x3580) 1 ap_59 rfl rfl rfl h3391 (Nat.le_refl _) (Src.ownAll 0 rfl h3573 hC3571) hc3584.symm (app_len hv3581 h3573.hq) hb3582 rfl rfl fun A3574 c3575 h3576 => ?_) gn
             refine wl_v 10 rfl (v_assign rfl) gn rfl ?_
             refine w_end 11 rfl ?_
             refine g_region (c := q36c125) rfl rfl ?_
             refine wl_v 0 rfl (v_move rfl) gn rfl ?_
             refine wl_v 1 rfl (v_move rfl) gn rfl ?_
             refine wl_v 2 rfl (v_move rfl) gn rfl ?_
             refine wl_v 3 rfl (v_move rfl) gn rfl ?_
             refine wl_v 4 rfl (v_bin rfl rfl rfl) gn rfl ?_
             obtain ⟨ce3586, hK3587, ht3588, hg3589⟩ := Cells.get hC646 hb3561
             obtain ⟨A3590, n3591, c3592, rfl, h3593⟩ := hK3587
             refine wl_v 5 rfl (v_idxO slE_75 rfl rfl h642 hb3561) gn rfl ?_
             refine wl_v 6 rfl (v_fldA fo_79_2 rfl) gn rfl ?_
             refine wl_v 7 rfl (v_ldO1 (.int .i64 ((ix x638 (w64 ((w64 ((x638.length : Int) - (((ix x1.gram.prods ((ix x46 x653).n)).rhs).length : Int))) + x3396))).ends)) 4 ld_3 rfl rfl (hg3589 2 _ rfl)) gn rfl ?_
             refine wl_s 8 rfl (s_litO (xs := ([(ix x638 (w64 ((w64 ((x638.length : Int) - (((ix x1.gram.prods ((ix x46 x653).n)).rhs).length : Int))) + x3396))).ends] : List Int)) [.int .i64 ((ix x638 (w64 ((w64 ((x638.length : Int) - (((ix x1.gram.prods ((ix x46 x653).n)).rhs).length : Int))) + x3396))).ends)] bs_23_1 rfl (by kernel_rfl) rfl rfl rfl rfl fun gb3595 h3596 => ?_) gn
             obtain ⟨x3600, hv3601, h⟩ := h
             obtain ⟨hb3602, h⟩ := h
             refine wl_s 9 rfl (s_app (zs := x3600) (cells' := x3600.flatMap (eI .i64)) 3 ap_23 rfl rfl rfl h3386 (Nat.le_refl _) (Src.ownF (hl := (hlI .i64)) (h1 := (hone_int .i64)) 0 rfl h3596) (by rw [hv3601, List.flatMap_append] <;> rfl) (app_len hv3601 h3596.hq) hb3602 rfl rfl fun A3597 c3598 h3599 => ?_) gn
             refine wl_v 10 rfl (v_assign rfl) gn rfl ?_
             refine w_end 11 rfl ?_
             refine g_inBlock ?_
             refine g_region (c := q36c122) rfl rfl ?_
             refine wl_v 0 rfl (v_move rfl) gn rfl ?_
             refine wl_v 1 rfl (v_bin rfl rfl rfl) gn rfl ?_
             refine wl_v 2 rfl (v_assign rfl) gn rfl ?_
             refine w_end 3 rfl ?_
             refine g_inLoop ?_
             have ih := Out.inl hO3 h
             exact g_go [0, 2, 3, 4] (ih A3597 (n3384 + 1) c3598 h3599 A3574 (n3389 + 1) c3575 h3576 cs3583 sw3577 sb3578 hC3585) ⟨rfl, rfl, rfl, rfl, rfl, rfl, rfl, rfl, rfl, rfl, rfl, rfl, trivial⟩ (.cons _ (.cons _ (.cons_cons _ (.cons_cons _ (.cons_cons _ (.cons_cons _ (.cons_cons _ (.cons_cons _ (.slnil))))))))) rfl
            ·have h := if_neg' hp3560 h
             refine g_false (c := q36c110) rfl _ rfl ((decide_eq_false hp3560)) ?_
             refine g_exit (c := q36c112) [.code q36c102, .inBlock 1, .code q36c22, .inLoop q36c14, .inBlock 0, .code q36c10] rfl rfl ?_
             refine g_seq (c := q36c102) rfl ?_
             refine g_region (c := q36c113) rfl rfl ?_
             refine wl_v 0 rfl (v_ldB [.string x1.name, .slice A2 n3 c4, .slice A6 n7 c8, .slice A10 n11 c12, .slice A14 n15 c16, .slice A18 n19 c20, .slice A22 n23 c24, .slice A26 n27 c28, .slice A30 n31 c32, .slice A34 n35 c36, .slice A38 n39 c40, .slice A42 n43 c44] 5 ld_58 rfl rfl rfl rfl) gn rfl ?_
             refine wl_v 1 rfl (v_fldB fo_115_0 rfl) gn rfl ?_
             refine wl_v 2 rfl (v_ldB1 2 ld_3 rfl rfl rfl) gn rfl ?_
             refine wl_v 3 rfl (v_move rfl) gn rfl ?_
             refine wl_v 4 rfl (v_move rfl) gn rfl ?_
             obtain ⟨r3606, hv3607, h⟩ := h
             refine wl_s 5 rfl (s_call [.agg #[.string x1.name, .slice A2 n3 c4, .slice A6 n7 c8, .slice A10 n11 c12, .slice A14 n15 c16, .slice A18 n19 c20, .slice A22 n23 c24, .slice A26 n27 c28, .slice A30 n31 c32, .slice A34 n35 c36, .slice A38 n39 c40, .slice A42 n43 c44], .int .i64 ((ix x46 x653).n), .slice A3388 n3389 c3390, .slice A3383 n3384 c3385] rfl Try.func32 rfl rfl rfl fun w3603 hL3604 => ?_) gn
             have hp3605 : List.Perm ([.own (.slice A3388 n3389 c3390) 22 1 n3389 cs3392, .own (.slice A3383 n3384 c3385) 3 1 n3384 (x3382.flatMap (eI .i64)), .box gb2206 115 [.int .i64 ((ix x46 x653).n), .int .i64 ((ix x46 x653).pad), .int .i64 ((ix x46 x653).len)], .own (.slice A639 n640 c641) 79 3 n640 cs643, .own (.slice A648 n649 c650) 39 7 n649 (x647.flatMap enc_api_Node), .box gb51 58 [.string x1.name, .slice A2 n3 c4, .slice A6 n7 c8, .slice A10 n11 c12, .slice A14 n15 c16, .slice A18 n19 c20, .slice A22 n23 c24, .slice A26 n27 c28, .slice A30 n31 c32, .slice A34 n35 c36, .slice A38 n39 c40, .slice A42 n43 c44]] : List Ent) (([] : List Ent) ++ ([.own (.slice A3388 n3389 c3390) 22 1 n3389 cs3392, .own (.slice A3383 n3384 c3385) 3 1 n3384 (x3382.flatMap (eI .i64)), .box gb2206 115 [.int .i64 ((ix x46 x653).n), .int .i64 ((ix x46 x653).pad), .int .i64 ((ix x46 x653).len)], .own (.slice A639 n640 c641) 79 3 n640 cs643, .own (.slice A648 n649 c650) 39 7 n649 (x647.flatMap enc_api_Node), .box gb51 58 [.string x1.name, .slice A2 n3 c4, .slice A6 n7 c8, .slice A10 n11 c12, .slice A14 n15 c16, .slice A18 n19 c20, .slice A22 n23 c24, .slice A26 n27 c28, .slice A30 n31 c32, .slice A34 n35 c36, .slice A38 n39 c40, .slice A42 n43 c44]] : List Ent)) := perm_of_idx [] [0, 1, 2, 3, 4, 5] rfl rfl (by kernel_rfl)
             refine Calls.mono (tree_Reduce_calls w3603 (Fl ([] : List Snap)) x1 ((ix x46 x653).n) x3387 x3382 A2 n3 c4 A6 n7 c8 A10 n11 c12 A14 n15 c16 A18 n19 c20 A22 n23 c24 A26 n27 c28 A30 n31 c32 A34 n35 c36 A38 n39 c40 A42 n43 c44 A3388 n3389 c3390 A3383 n3384 c3385 (Rw.mono h5 (hL3604.toSt hp3605 (me 3 rfl))) (Rw.mono h9 (hL3604.toSt hp3605 (me 3 rfl))) (Rw.mono h13 (hL3604.toSt hp3605 (me 3 rfl))) (Rw.mono h17 (hL3604.toSt hp3605 (me 3 rfl))) (Rw.mono h21 (hL3604.toSt hp3605 (me 3 rfl))) (Rw.mono h25 (hL3604.toSt hp3605 (me 3 rfl))) (Rw.mono h29 (hL3604.toSt hp3605 (me 3 rfl))) (Rw.mono h33 (hL3604.toSt hp3605 (me 3 rfl))) (Rw.mono h37 (hL3604.toSt hp3605 (me 3 rfl))) (Rw.mono h41 (hL3604.toSt hp3605 (me 3 rfl))) (Rw.mono h45 (hL3604.toSt hp3605 (me 3 rfl))) (hL3604.argO (dk := (Kd.slice k_api_Node)) hp3605 [] rfl 0 rfl rfl h3391 (me 0 rfl) hC3395) (hL3604.argO (dk := (kInt .i64)) hp3605 [] rfl 1 rfl rfl h3386 (me 2 rfl) (Cells.flat _)) (hL3604.hFl (Sl := ([] : List Snap)) hp3605 (sels [] rfl)) (hL3604.into hp3605 (Fl ([] : List Snap))) r3606 hv3607) ?_
             rintro _ w3613 ⟨A3608, n3609, c3610, rfl, hM3614, h3611⟩
             have hL3615 := hL3604.call hp3605 hM3614
             refine ⟨_, _, _, rfl, hL3615, ?_⟩
             refine wl_v 6 rfl (v_assign rfl) gn rfl ?_
             refine w_end 7 rfl ?_
             refine g_seq (c := q36c114) rfl ?_
             refine g_region (c := q36c115) rfl rfl ?_
             refine wl_v 0 rfl (v_assign rfl) gn rfl ?_
             refine w_end 1 rfl ?_
             refine g_seq (c := q36c116) rfl ?_
             refine g_region (c := q36c117) rfl rfl ?_
             refine wl_v 0 rfl (v_move rfl) gn rfl ?_
             refine wl_v 1 rfl (v_move rfl) gn rfl ?_
             refine wl_v 2 rfl (v_move rfl) gn rfl ?_
             obtain ⟨hb3616, h⟩ := h
             obtain ⟨x3618, hv3619, h⟩ := h
             have hle3617 : (w64 ((x638.length : Int) - (((ix x1.gram.prods ((ix x46 x653).n)).rhs).length : Int)) : Int).toNat ≤ n640 := by have q := hb3616; have q1 := h642.hq; omega
             have h3620 : Ow w.heap.size A639 (w64 ((x638.length : Int) - (((ix x1.gram.prods ((ix x46 x653).n)).rhs).length : Int)) : Int).toNat c641 x3618 := Ow.w (Ow.cut h642 hle3617) (by rw [hv3619])
             refine wl_v 3 rfl (v_cutHi (i := w64 ((x638.length : Int) - (((ix x1.gram.prods ((ix x46 x653).n)).rhs).length : Int))) slE_75 rfl rfl (by have q := hb3616; have q1 := h642.hq; have q2 := h642.hn; omega) h642.hn rfl) gn rfl ?_
             obtain ⟨x3629, hv3630, h⟩ := h
             obtain ⟨hb3631, h⟩ := h
             refine w_nil 79 3 ?_
             have hC3625 : Cells k_trellislaw15_Made (Sm w.heap.size F sw644 sb645).w (Sm w.heap.size F sw644 sb645).av x3618 (cs643.take (((w64 ((x638.length : Int) - (((ix x1.gram.prods ((ix x46 x653).n)).rhs).length : Int)) : Int).toNat) * 3)) := by rw [hv3619]; exact Cells.take _ hC646
             refine w_mark (F := F) fun sw3626 sb3627 ho3628 => ?_
             obtain ⟨cs3632, hc3633⟩ : ∃ x : List Value, x = [] ++ (cs643.take (((w64 ((x638.length : Int) - (((ix x1.gram.prods ((ix x46 x653).n)).rhs).length : Int)) : Int).toNat) * 3)) := ⟨_, rfl⟩
             have hC3634 : Cells k_trellislaw15_Made (Sm w.heap.size F sw3626 sb3627).w (Sm w.heap.size F sw3626 sb3627).av x3629 cs3632 := by rw [hv3630, hc3633]; exact Cells.app (Cells.older (s := Sm w.heap.size F w []) Cells.nil (ho3628 _ (me 2 rfl) Sm.ok)) (Cells.older (s := Sm w.heap.size F sw644 sb645) hC3625 (ho3628 _ (me 1 rfl) Sm.ok))
             refine wl_s 4 rfl (s_app (zs := x3629) 0 ap_75 rfl rfl rfl (Ow.nil (z := w.heap.size)) (Nat.le_refl _) (Src.cutAll 5 rfl h642 hC646 hle3617) hc3633.symm (app_len hv3630 h3620.hq) hb3631 rfl rfl fun A3622 c3623 h3624 => ?_) gn
             refine wl_v 5 rfl (v_assign rfl) gn rfl ?_
             refine w_end 6 rfl ?_
             refine g_freeze (F := F) (dk := k_api_Node) (Sm w.heap.size F w []) 1 rfl (Ow.weak hL3604.env.size h3611) (me 3 rfl) Sm.ok (Cells.flat _) fun sw3644 sb3645 h3643 => ?_
             obtain ⟨hb3653, h⟩ := h
             obtain ⟨x3667, hv3668, h⟩ := h
             obtain ⟨hb3669, h⟩ := h
             have hns : Region.noSelect (Code.ops q36c118) = true := by kernel_rfl
             refine g_drawF (c := q36c118) [.own (.slice A3622 (0 + ((w64 ((x638.length : Int) - (((ix x1.gram.prods ((ix x46 x653).n)).rhs).length : Int)) : Int).toNat)) c3623) 79 3 (0 + ((w64 ((x638.length : Int) - (((ix x1.gram.prods ((ix x46 x653).n)).rhs).length : Int)) : Int).toNat)) cs3632, .own (.slice A3388 n3389 c3390) 22 1 n3389 cs3392, .own (.slice A3383 n3384 c3385) 3 1 n3384 (x3382.flatMap (eI .i64)), .box gb2206 115 [.int .i64 ((ix x46 x653).n), .int .i64 ((ix x46 x653).pad), .int .i64 ((ix x46 x653).len)], .own (.slice A639 n640 c641) 79 3 n640 cs643, .own (.slice A648 n649 c650) 39 7 n649 (x647.flatMap enc_api_Node), .box gb51 58 [.string x1.name, .slice A2 n3 c4, .slice A6 n7 c8, .slice A10 n11 c12, .slice A14 n15 c16, .slice A18 n19 c20, .slice A22 n23 c24, .slice A26 n27 c28, .slice A30 n31 c32, .slice A34 n35 c36, .slice A38 n39 c40, .slice A42 n43 c44]] [Sm w.heap.size F sw3644 sb3645, Sm w.heap.size F sw3626 sb3627, Sm w.heap.size F sw3393 sb3394, Sm w.heap.size F sw644 sb645, Sm w.heap.size F w [], St w []] [22, 23] 24 rfl rfl mix rfl (.cons_cons _ (.cons_cons _ (.cons_cons _ (.cons_cons _ (.cons_cons _ (.cons_cons _ (.cons_cons _ (.slnil)))))))) (sels [0, 1, 2, 3, 4, 5] rfl) ?_
             refine wfv 0 rfl (v_move rfl) gn hns (by kernel_rfl) ?_
             refine wfv 1 rfl (v_fldB fo_58_2 rfl) gn hns (by kernel_rfl) ?_
             refine wfv 2 rfl (v_fldB fo_47_2 rfl) gn hns (by kernel_rfl) ?_
             refine wfv 3 rfl (v_ldB1 6 ld_45 rfl rfl rfl) gn hns (by kernel_rfl) ?_
             refine wfv 4 rfl (v_fldB fo_115_0 rfl) gn hns (by kernel_rfl) ?_
             refine wfv 5 rfl (v_ldB1 3 ld_3 rfl rfl rfl) gn hns (by kernel_rfl) ?_
             obtain ⟨ce3699, hK3700, hr3698⟩ := Rw.read (s := St w []) h17 hb2277
             obtain ⟨A3701, n3702, c3703, rfl, h3704⟩ := hK3700
             refine wfv 6 rfl (v_idxR (s := St w []) slE_45 rfl rfl h17 hb2277) gn hns (by kernel_rfl) ?_
             refine wfv 7 rfl (v_fldA fo_107_0 rfl) gn hns (by kernel_rfl) ?_
             refine wfv 8 rfl (v_ldA1 (kk := ((ix x46 x653).n : Int).toNat * 2) (j := 0) (St w []) ld_3 rfl hr3698 rfl (me 5 rfl)) gn hns (by kernel_rfl) ?_
             refine wfv 9 rfl (v_fldB fo_58_2 rfl) gn hns (by kernel_rfl) ?_
             refine wfv 10 rfl (v_fldB fo_47_0 rfl) gn hns (by kernel_rfl) ?_
             refine wfv 11 rfl (v_ldB1 6 ld_43 rfl rfl rfl) gn hns (by kernel_rfl) ?_
             refine wfv 12 rfl (v_lenQ un_43 rfl h9.hq) gn hns (by kernel_rfl) ?_
             refine wfv 13 rfl (v_bin rfl rfl rfl) gn hns (by kernel_rfl) ?_
             refine wfv 14 rfl (v_move rfl) gn hns (by kernel_rfl) ?_
             refine wfv 15 rfl (v_move rfl) gn hns (by kernel_rfl) ?_
             refine wfv 16 rfl (v_move rfl) gn hns (by kernel_rfl) ?_
             refine wfv 17 rfl (v_lenQ un_105 rfl h2284.hq) gn hns (by kernel_rfl) ?_
             refine wfv 18 rfl (v_idxO slE_23 rfl rfl h3386 hb3653) gn hns (by kernel_rfl) ?_
             refine wfv 19 rfl (v_ldO1 (.int .i64 (ix x3382 (((ix x1.gram.prods ((ix x46 x653).n)).rhs).length : Int))) 2 ld_3 rfl rfl (fm_get0 (hlI .i64) hb3653 rfl)) gn hns (by kernel_rfl) ?_
             refine wfv 20 rfl (v_build #[.int .i64 (w64 (((ix x1.gram.prods ((ix x46 x653).n)).lhs) + (x1.gram.terms.length : Int))), .slice A3608 n3609 c3610, .int .i64 (ix x3382 (((ix x1.gram.prods ((ix x46 x653).n)).rhs).length : Int))] bd_79 rfl (by kernel_rfl)) gn hns (by kernel_rfl) ?_
             have hC3708 : Cells k_trellislaw15_Made (Sm w.heap.size F sw3644 sb3645).w (Sm w.heap.size F sw3644 sb3645).av ([(⟨w64 (((ix x1.gram.prods ((ix x46 x653).n)).lhs) + (x1.gram.terms.length : Int)), r3606, ix x3382 (((ix x1.gram.prods ((ix x46 x653).n)).rhs).length : Int)⟩ : trellislaw15_Made)] : List trellislaw15_Made) [.int .i64 (w64 (((ix x1.gram.prods ((ix x46 x653).n)).lhs) + (x1.gram.terms.length : Int))), .slice A3608 n3609 c3610, .int .i64 (ix x3382 (((ix x1.gram.prods ((ix x46 x653).n)).rhs).length : Int))] := (Cells.cons (c1 := [.int .i64 (w64 (((ix x1.gram.prods ((ix x46 x653).n)).lhs) + (x1.gram.terms.length : Int))), .slice A3608 n3609 c3610, .int .i64 (ix x3382 (((ix x1.gram.prods ((ix x46 x653).n)).rhs).length : Int))]) ⟨A3608, n3609, c3610, rfl, h3643⟩ Cells.nil)
             refine wf_all [21] (by kernel_rfl) rfl ⟨on_s 21 rfl gn rfl (s_litO (xs := ([(⟨w64 (((ix x1.gram.prods ((ix x46 x653).n)).lhs) + (x1.gram.terms.length : Int)), r3606, ix x3382 (((ix x1.gram.prods ((ix x46 x653).n)).rhs).length : Int)⟩ : trellislaw15_Made)] : List trellislaw15_Made)) [.int .i64 (w64 (((ix x1.gram.prods ((ix x46 x653).n)).lhs) + (x1.gram.terms.length : Int))), .slice A3608 n3609 c3610, .int .i64 (ix x3382 (((ix x1.gram.prods ((ix x46 x653).n)).rhs).length : Int))] bs_75_1 rfl (by kernel_rfl) rfl rfl rfl rfl fun gb3709 h3710 => ?_), trivial⟩
             refine ⟨sels [1, 2, 3, 4, 5, 6, 7] rfl, sels [0, 1, 2, 3, 4, 5] rfl, ?_⟩
             refine wf_mark (F := F) fun sw3714 sb3715 ho3716 => ?_
             obtain ⟨cs3720, hc3721⟩ : ∃ x : List Value, x = cs3632 ++ [.int .i64 (w64 (((ix x1.gram.prods ((ix x46 x653).n)).lhs) + (x1.gram.terms.length : Int))), .slice A3608 n3609 c3610, .int .i64 (ix x3382 (((ix x1.gram.prods ((ix x46 x653).n)).rhs).length : Int))] := ⟨_, rfl⟩
             have hC3722 : Cells k_trellislaw15_Made (Sm w.heap.size F sw3714 sb3715).w (Sm w.heap.size F sw3714 sb3715).av x3667 cs3720 := by rw [hv3668, hc3721]; exact Cells.app (Cells.older (s := Sm w.heap.size F sw3626 sb3627) hC3634 (ho3716 _ (me 1 rfl) Sm.ok)) (Cells.older (s := Sm w.heap.size F sw3644 sb3645) hC3708 (ho3716 _ (me 0 rfl) Sm.ok))
             refine wf_all [22] (by kernel_rfl) rfl ⟨on_l 22 rfl gn rfl (s_app (zs := x3667) 1 ap_75 rfl rfl rfl h3624 (Nat.le_refl _) (Src.ownAll 0 rfl h3710 hC3708) hc3721.symm (app_len hv3668 h3710.hq) hb3669 rfl rfl fun A3717 c3718 h3719 => ?_), trivial⟩
             unfold NxL
             refine wf_all [23] (by kernel_rfl) rfl ⟨on_l 23 rfl gn rfl (s_val (v_assign rfl) rfl ?_), trivial⟩
             unfold NxL
             refine wf_end (by kernel_rfl) ?_
             refine g_inBlock ?_
             refine g_region (c := q36c22) rfl rfl ?_
             refine wl_v 0 rfl (v_move rfl) gn rfl ?_
             refine wl_v 1 rfl (v_bin rfl rfl rfl) gn rfl ?_
             refine wl_v 2 rfl (v_assign rfl) gn rfl ?_
             refine w_end 3 rfl ?_
             refine g_inLoop ?_
             have h := Out.inr hO3 h
             have h := Out.inr hO2 h
             have ih := Out.inl hO1 h
             exact g_go [0, 5, 6] (ih A3717 ((0 + ((w64 ((x638.length : Int) - (((ix x1.gram.prods ((ix x46 x653).n)).rhs).length : Int)) : Int).toNat)) + 1) c3718 h3719 cs3720 sw3714 sb3715 hC3722 A648 n649 c650 h651) ⟨rfl, rfl, rfl, rfl, rfl, rfl, trivial⟩ (.cons _ (.cons_cons _ (.cons _ (.cons _ (.cons _ (.cons _ (.cons_cons _ (.cons_cons _ (.slnil))))))))) rfl
           refine g_nil 22 1 ?_
           exact g_go [1, 0, 1, 2] (key7 _ h (some ⟨gb3198, 0, none⟩) 1 1 h3216 none 0 0 (Ow.nil (z := w.heap.size)) [] w [] Cells.nil) ⟨rfl, rfl, rfl, rfl, rfl, rfl, rfl, rfl, rfl, rfl, rfl, rfl, trivial⟩ (.cons_cons _ (.cons_cons _ (.cons_cons _ (.cons_cons _ (.cons_cons _ (.cons_cons _ (.slnil))))))) rfl
          by_cases hp3200 : w64 ((x638.length : Int) - (((ix x1.gram.prods ((ix x46 x653).n)).rhs).length : Int)) > 0
          ·have h := if_pos' hp3200 h
           refine g_true (c := q36c96) rfl _ rfl ((decide_eq_true hp3200)) ?_
           refine g_region (c := q36c97) rfl rfl ?_
           refine wl_v 0 rfl (v_move rfl) gn rfl ?_
           refine wl_v 1 rfl (v_move rfl) gn rfl ?_
           refine wl_v 2 rfl (v_move rfl) gn rfl ?_
           refine wl_v 3 rfl (v_bin rfl rfl rfl) gn rfl ?_
           obtain ⟨hb3723, h⟩ := h
           obtain ⟨ce3724, hK3725, ht3726, hg3727⟩ := Cells.get hC646 hb3723
           obtain ⟨A3728, n3729, c3730, rfl, h3731⟩ := hK3725
           refine wl_v 4 rfl (v_idxO slE_75 rfl rfl h642 hb3723) gn rfl ?_
           refine wl_v 5 rfl (v_fldA fo_79_2 rfl) gn rfl ?_
           refine wl_v 6 rfl (v_ldO1 (.int .i64 ((ix x638 (w64 ((w64 ((x638.length : Int) - (((ix x1.gram.prods ((ix x46 x653).n)).rhs).length : Int))) - 1))).ends)) 2 ld_3 rfl rfl (hg3727 2 _ rfl)) gn rfl ?_
           obtain ⟨hb3732, h⟩ := h
           refine wl_v 7 rfl (v_idxO slE_23 rfl rfl h3199 hb3732) gn rfl ?_
           obtain ⟨x3733, hv3734, h⟩ := h
           refine wl_s 8 rfl (s_stF (enc := (eI .i64)) (o := 0) (z := ((ix x638 (w64 ((w64 ((x638.length : Int) - (((ix x1.gram.prods ((ix x46 x653).n)).rhs).length : Int))) - 1))).ends)) (vs := [.int .i64 ((ix x638 (w64 ((w64 ((x638.length : Int) - (((ix x1.gram.prods ((ix x46 x653).n)).rhs).length : Int))) - 1))).ends)]) (i := 0) 0 (hlI .i64) sz_3 rfl rfl rfl rfl rfl h3199 hb3732 rfl rfl rfl hv3734 fun h3735 => ?_) gn
           refine w_end 9 rfl ?_
           exact g_go [0, 1, 2] (j6 x3733 h h3735) ⟨rfl, rfl, rfl, rfl, rfl, rfl, rfl, rfl, rfl, rfl, trivial⟩ (.cons_cons _ (.cons_cons _ (.cons_cons _ (.cons_cons _ (.cons_cons _ (.slnil)))))) rfl
          ·have h := if_neg' hp3200 h
           refine g_false (c := q36c96) rfl _ rfl ((decide_eq_false hp3200)) ?_
           refine g_skip (c := q36c98) rfl ?_
           exact g_go [0, 1, 2] (j6 ([0] : List Int) h h3199) ⟨rfl, rfl, rfl, rfl, rfl, rfl, rfl, rfl, rfl, rfl, trivial⟩ (.cons_cons _ (.cons_cons _ (.cons_cons _ (.cons_cons _ (.cons_cons _ (.slnil)))))) rfl
         ·have h := if_neg' hp3196 h
          refine g_true (c := q36c88) rfl _ rfl ((nt (bf hp3196))) ?_
          refine g_exit (c := q36c89) [.code q36c22, .inLoop q36c14, .inBlock 0, .code q36c10] rfl rfl ?_
          refine g_region (c := q36c22) rfl rfl ?_
          refine wl_v 0 rfl (v_move rfl) gn rfl ?_
          refine wl_v 1 rfl (v_bin rfl rfl rfl) gn rfl ?_
          refine wl_v 2 rfl (v_assign rfl) gn rfl ?_
          refine w_end 3 rfl ?_
          refine g_inLoop ?_
          have h := Out.inr hO2 h
          have ih := Out.inl hO1 h
          exact g_go [0, 1, 2] (ih A639 n640 c641 h642 cs643 sw644 sb645 hC646 A648 n649 c650 h651) ⟨rfl, rfl, rfl, rfl, rfl, rfl, trivial⟩ (.cons _ (.cons_cons _ (.cons_cons _ (.cons_cons _ (.slnil))))) rfl
       exact g_go [0, 1, 2] (key5 _ h ()) ⟨rfl, rfl, rfl, rfl, rfl, rfl, rfl, rfl, rfl, rfl, rfl, trivial⟩ (.cons_cons _ (.cons_cons _ (.cons_cons _ (.cons_cons _ (.slnil))))) rfl
     refine g_region (c := q36c60) rfl rfl ?_
     refine wl_v 0 rfl (v_fldB fo_115_0 rfl) gn rfl ?_
     refine wl_v 1 rfl (v_ldB1 0 ld_3 rfl rfl rfl) gn rfl ?_
     refine wl_v 2 rfl (v_fldB fo_58_2 rfl) gn rfl ?_
     refine wl_v 3 rfl (v_fldB fo_47_2 rfl) gn rfl ?_
     refine wl_v 4 rfl (v_ldB1 3 ld_45 rfl rfl rfl) gn rfl ?_
     refine wl_v 5 rfl (v_lenQ un_45 rfl h17.hq) gn rfl ?_
     refine wl_v 6 rfl (v_bin rfl rfl rfl) gn rfl ?_
     refine wl_v 7 rfl (v_move rfl) gn rfl ?_
     by_cases hp3736 : (ix x46 x653).n ≥ (x1.gram.prods.length : Int)
     ·have h := if_pos' hp3736 h
      refine w_bool 114 rfl ((decide_eq_true hp3736)) ?_
      refine wl_pass 8 rfl (ps 114 rfl rfl rfl) ?_
      refine wl_pass 9 rfl (ps 114 rfl rfl rfl) ?_
      refine wl_pass 10 rfl (ps 114 rfl rfl rfl) ?_
      refine wl_pass 11 rfl (ps 114 rfl rfl rfl) ?_
      refine wl_pass 12 rfl (ps 114 rfl rfl rfl) ?_
      refine wl_pass 13 rfl (ps 114 rfl rfl rfl) ?_
      refine wl_pass 14 rfl (ps 114 rfl rfl rfl) ?_
      refine wl_pass 15 rfl (ps 114 rfl rfl rfl) ?_
      refine wl_pass 16 rfl (ps 114 rfl rfl rfl) ?_
      refine wl_v 17 rfl (v_pick (b := true) rfl rfl) gn rfl ?_
      refine w_end 18 rfl ?_
      exact g_go [0, 1, 2] (j4 true h) ⟨rfl, rfl, rfl, rfl, rfl, rfl, rfl, rfl, trivial⟩ (.cons_cons _ (.cons_cons _ (.cons_cons _ (.cons_cons _ (.slnil))))) rfl
     ·have h := if_neg' hp3736 h
      refine w_bool 114 rfl ((decide_eq_false hp3736)) ?_
      refine wl_v 8 rfl (v_fldB fo_58_2 rfl) (gy 114 rfl rfl) rfl ?_
      refine wl_v 9 rfl (v_fldB fo_47_2 rfl) (gy 114 rfl rfl) rfl ?_
      refine wl_v 10 rfl (v_ldB1 3 ld_45 rfl rfl rfl) (gy 114 rfl rfl) rfl ?_
      refine wl_v 11 rfl (v_fldB fo_115_0 rfl) (gy 114 rfl rfl) rfl ?_
      refine wl_v 12 rfl (v_ldB1 0 ld_3 rfl rfl rfl) (gy 114 rfl rfl) rfl ?_
      obtain ⟨hb3737, h⟩ := h
      obtain ⟨ce3739, hK3740, hr3738⟩ := Rw.read (s := St w []) h17 hb3737
      obtain ⟨A3741, n3742, c3743, rfl, h3744⟩ := hK3740
      refine wl_v 13 rfl (v_idxR (s := St w []) slE_45 rfl rfl h17 hb3737) (gy 114 rfl rfl) rfl ?_
      refine wl_v 14 rfl (v_fldA fo_107_0 rfl) (gy 114 rfl rfl) rfl ?_
      refine wl_v 15 rfl (v_ldA1 (kk := ((ix x46 x653).n : Int).toNat * 2) (j := 0) (St w []) ld_3 rfl hr3738 rfl (me 2 rfl)) (gy 114 rfl rfl) rfl ?_
      refine wl_v 16 rfl (v_bin rfl rfl rfl) (gy 114 rfl rfl) rfl ?_
      refine wl_v 17 rfl (v_pick (b := false) rfl rfl) gn rfl ?_
      refine w_end 18 rfl ?_
      exact g_go [0, 1, 2] (j4 (decide ((ix x1.gram.prods ((ix x46 x653).n)).lhs < 0)) h) ⟨rfl, rfl, rfl, rfl, rfl, rfl, rfl, rfl, trivial⟩ (.cons_cons _ (.cons_cons _ (.cons_cons _ (.cons_cons _ (.slnil))))) rfl
   ·have h := if_neg' hp2203 h
    refine g_false (c := q36c18) rfl _ rfl ((bf hp2203)) ?_
    refine g_exit (c := q36c20) [.code q36c10] rfl rfl ?_
    refine g_seq (c := q36c10) rfl ?_
    refine g_region (c := q36c119) rfl rfl ?_
    refine wl_v 0 rfl (v_move rfl) gn rfl ?_
    refine wl_v 1 rfl (v_move rfl) gn rfl ?_
    refine wl_v 2 rfl (v_assign rfl) gn rfl ?_
    refine wl_v 3 rfl (v_assign rfl) gn rfl ?_
    refine wl_v 4 rfl (v_assign rfl) gn rfl ?_
    refine w_end 5 rfl ?_
    have h := Out.inr hO1 h
    refine g_retR (c := q36c120) [.slice A639 n640 c641, .slice A648 n649 c650, .bool true] rfl Try.func36 rfl (.tmp rfl (.tmp rfl (.tmp rfl (.nil)))) fun wr hLr => ?_
    have hMr : B.Loc w wr [.own (.slice A639 n640 c641) 79 3 n640 cs643, .own (.slice A648 n649 c650) 39 7 n649 (x647.flatMap enc_api_Node)] [St w []] := hLr.pick (rest := [.box gb51 58 [.string x1.name, .slice A2 n3 c4, .slice A6 n7 c8, .slice A10 n11 c12, .slice A14 n15 c16, .slice A18 n19 c20, .slice A22 n23 c24, .slice A26 n27 c28, .slice A30 n31 c32, .slice A34 n35 c36, .slice A38 n39 c40, .slice A42 n43 c44]]) (perm_of_idx [0, 1] [2] rfl rfl (by kernel_rfl)) (sels [2] rfl)
    have hMi : ∀ e ∈ ([.own (.slice A639 n640 c641) 79 3 n640 cs643, .own (.slice A648 n649 c650) 39 7 n649 (x647.flatMap enc_api_Node)] : List Ent), e ∈ ([.own (.slice A639 n640 c641) 79 3 n640 cs643, .own (.slice A648 n649 c650) 39 7 n649 (x647.flatMap enc_api_Node), .box gb51 58 [.string x1.name, .slice A2 n3 c4, .slice A6 n7 c8, .slice A10 n11 c12, .slice A14 n15 c16, .slice A18 n19 c20, .slice A22 n23 c24, .slice A26 n27 c28, .slice A30 n31 c32, .slice A34 n35 c36, .slice A38 n39 c40, .slice A42 n43 c44]] : List Ent) := sels [0, 1] rfl
    show trellislaw15_made_R w F  r (.returned (packV [.slice A639 n640 c641, .slice A648 n649 c650, .bool true])) wr
    rw [h]
    exact ⟨A639, n640, c641, cs643, A648, n649, c650, rfl, hMr, h642, (hLr.outC (s := Sm w.heap.size F sw644 sb645) hMi (me 0 rfl) Sm.ok hC646), h651⟩
  refine g_region (c := q36c17) rfl rfl ?_
  refine wl_v 0 rfl (v_move rfl) gn rfl ?_
  refine wl_v 1 rfl (v_move rfl) gn rfl ?_
  refine wl_v 2 rfl (v_lenQ un_71 rfl h50.hq) gn rfl ?_
  refine wl_v 3 rfl (v_bin rfl rfl rfl) gn rfl ?_
  refine wl_v 4 rfl (v_move rfl) gn rfl ?_
  by_cases hp3745 : x653 < (x46.length : Int)
  ·have h := if_pos' hp3745 h
   refine w_bool 28 rfl ((decide_eq_true hp3745)) ?_
   refine wl_v 5 rfl (v_move rfl) (gy 28 rfl rfl) rfl ?_
   refine wl_v 6 rfl (v_bin rfl rfl rfl) (gy 28 rfl rfl) rfl ?_
   refine wl_v 7 rfl (v_pick (b := true) rfl rfl) gn rfl ?_
   refine w_end 8 rfl ?_
   exact g_go [0, 1, 2] (j2 (decide (x653 < 65536)) h) ⟨rfl, rfl, rfl, rfl, rfl, rfl, rfl, trivial⟩ (.cons_cons _ (.cons_cons _ (.cons_cons _ (.slnil)))) rfl
  ·have h := if_neg' hp3745 h
   refine w_bool 28 rfl ((decide_eq_false hp3745)) ?_
   refine wl_pass 5 rfl (ps 28 rfl rfl rfl) ?_
   refine wl_pass 6 rfl (ps 28 rfl rfl rfl) ?_
   refine wl_v 7 rfl (v_pick (b := false) rfl rfl) gn rfl ?_
   refine w_end 8 rfl ?_
   exact g_go [0, 1, 2] (j2 false h) ⟨rfl, rfl, rfl, rfl, rfl, rfl, rfl, trivial⟩ (.cons_cons _ (.cons_cons _ (.cons_cons _ (.slnil)))) rfl
 refine g_nil 39 7 ?_
 refine g_nil 79 3 ?_
 exact g_go [0, 0, 1] (key1 _ h none 0 0 (Ow.nil (z := w.heap.size)) [] w [] Cells.nil none 0 0 (Ow.nil (z := w.heap.size))) ⟨rfl, rfl, rfl, rfl, rfl, rfl, trivial⟩ (.cons_cons _ (.cons_cons _ (.cons_cons _ (.slnil)))) rfl
end Go.Proofs.Ytmekgfcfooghnaa.K
