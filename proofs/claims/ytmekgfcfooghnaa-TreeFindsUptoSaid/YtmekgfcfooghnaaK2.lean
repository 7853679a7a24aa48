/- What the machine's calls do, function by function, printed by my own tool. Condition of each: its relation holds of the answer, and what is handed in lies in memory as told. -/
import Derived.Test.YtmekgfcfooghnaaK1
set_option linter.unusedVariables false
set_option maxRecDepth 100000
set_option maxHeartbeats 4000000
namespace Go.Proofs.Ytmekgfcfooghnaa.K
open Go.Proofs.Ytmekgfcfooghnaa.B Go.Proofs.Ytmekgfcfooghnaa.R Go.RowKit
noncomputable abbrev trellisref15_find_c0 : Code := bodyOf Try.f48
noncomputable abbrev trellisref15_find_c1 : Code := Code.fst trellisref15_find_c0
noncomputable abbrev trellisref15_find_c2 : Code := Code.snd trellisref15_find_c0
noncomputable abbrev trellisref15_find_c3 : Code := Code.fst trellisref15_find_c2
noncomputable abbrev trellisref15_find_c4 : Code := Code.snd trellisref15_find_c2
noncomputable abbrev trellisref15_find_c5 : Code := Code.fst trellisref15_find_c3
noncomputable abbrev trellisref15_find_c6 : Code := Code.snd trellisref15_find_c3
noncomputable abbrev trellisref15_find_c7 : Code := Code.fst trellisref15_find_c6
noncomputable abbrev trellisref15_find_c8 : Code := Code.fst trellisref15_find_c7
noncomputable abbrev trellisref15_find_c9 : Code := Code.fst trellisref15_find_c8
noncomputable abbrev trellisref15_find_c10 : Code := Code.snd trellisref15_find_c8
noncomputable abbrev trellisref15_find_c11 : Code := Code.fst trellisref15_find_c9
noncomputable abbrev trellisref15_find_c12 : Code := Code.snd trellisref15_find_c9
noncomputable abbrev trellisref15_find_c13 : Code := Code.fst trellisref15_find_c12
noncomputable abbrev trellisref15_find_c14 : Code := Code.snd trellisref15_find_c12
noncomputable abbrev trellisref15_find_c15 : Code := Code.fst trellisref15_find_c10
noncomputable abbrev trellisref15_find_c16 : Code := Code.snd trellisref15_find_c10
noncomputable abbrev trellisref15_find_c17 : Code := Code.fst trellisref15_find_c15
noncomputable abbrev trellisref15_find_c18 : Code := Code.fst trellisref15_find_c17
noncomputable abbrev trellisref15_find_c19 : Code := Code.snd trellisref15_find_c17
noncomputable abbrev trellisref15_find_c20 : Code := Code.fst trellisref15_find_c18
noncomputable abbrev trellisref15_find_c21 : Code := Code.snd trellisref15_find_c18
noncomputable abbrev trellisref15_find_c22 : Code := Code.fst trellisref15_find_c21
noncomputable abbrev trellisref15_find_c23 : Code := Code.snd trellisref15_find_c21
noncomputable abbrev trellisref15_find_c24 : Code := Code.fst trellisref15_find_c22
noncomputable abbrev trellisref15_find_c25 : Code := Code.snd trellisref15_find_c22
noncomputable abbrev trellisref15_find_c26 : Code := Code.fst trellisref15_find_c19
noncomputable abbrev trellisref15_find_c27 : Code := Code.snd trellisref15_find_c19
noncomputable abbrev trellisref15_find_c28 : Code := Code.fst trellisref15_find_c27
noncomputable abbrev trellisref15_find_c29 : Code := Code.snd trellisref15_find_c27
noncomputable abbrev trellisref15_find_c30 : Code := Code.fst trellisref15_find_c29
noncomputable abbrev trellisref15_find_c31 : Code := Code.snd trellisref15_find_c29
noncomputable abbrev trellisref15_find_c32 : Code := Code.fst trellisref15_find_c30
noncomputable abbrev trellisref15_find_c33 : Code := Code.snd trellisref15_find_c30
noncomputable abbrev trellisref15_find_c34 : Code := Code.fst trellisref15_find_c4
noncomputable abbrev trellisref15_find_c35 : Code := Code.snd trellisref15_find_c4
abbrev trellisref15_find_R (w : World) (F : Nat → Prop) (r : trellisref15_Tree × Int × Bool) : Ending → World → Prop := fun e w' => ∃ A0 : Option Addr, ∃ n0 : Nat, ∃ c0 : Nat, e = .returned (.tuple #[.agg #[.string r.1.node.name, .bool r.1.node.named, .string r.1.node.field, .int .i64 r.1.node.from_, .int .i64 r.1.node.to, .int .i64 r.1.node.kids, .int .i64 r.1.node.leaf, .slice A0 n0 c0, .int .i64 r.1.at_], .int .i64 r.2.1, .bool r.2.2]) ∧ B.Loc w w' [] [St w []] ∧ Rw k_trellisref15_Tree w' (Nw w w' F []) A0 n0 c0 r.1.kids
noncomputable abbrev trellisref15_find_C (w : World) (F : Nat → Prop) (r : trellisref15_Tree × Int × Bool) : Cx := ⟨Try.prog, 48, Try.f48, 51, trellisref15_find_R w F  r, w⟩
def trellisref15_find_st (rl : (List trellisref15_Tree) → Int → Int → (trellisref15_Tree × Int × Bool) → Prop) : Prop := ∀ (w : World) (F : Nat → Prop) (x1 : List trellisref15_Tree) (x6 : Int) (x7 : Int) (A2 : Option Addr) (n3 : Nat) (c4 : Nat) (h5 : Rw k_trellisref15_Tree w F A2 n3 c4 x1) (hF : ∀ b, F b → b < w.heap.size ∧ ∀ o ∈ ([] : List (List Nat)), b ∉ o) (hL0 : B.Loc w w [] [Sm w.heap.size F w [], St w []]) (r : trellisref15_Tree × Int × Bool) (h : rl x1 x6 x7 r), Calls Try.prog 48 #[.slice A2 n3 c4, .int .i64 x6, .int .i64 x7] w (trellisref15_find_R w F  r)
theorem trellisref15_find_step (rc_trellisref15_find : (List trellisref15_Tree) → Int → Int → (trellisref15_Tree × Int × Bool) → Prop) (ih_trellisref15_find : trellisref15_find_st rc_trellisref15_find) : trellisref15_find_st (trellisref15_find_body rc_trellisref15_find) := by
  intro w F x1 x6 x7 A2 n3 c4 h5 hF hL0 r h
  unfold trellisref15_find_body at h
  have h5 := Rw.into (bs := []) hF h5
  refine calls_of_Loc (vs := [.slice A2 n3 c4, .int .i64 x6, .int .i64 x7]) 51 Try.func48 rfl Try.ntmps48 rfl hL0 ?_
  show G (trellisref15_find_C w F r) _ _ _ _
  refine g_seq (c := trellisref15_find_c0) rfl ?_
  refine g_region (c := trellisref15_find_c1) rfl rfl ?_
  refine wl_s 0 rfl (s_alloc [.string (⟨#[]⟩ : ByteArray), .bool false, .string (⟨#[]⟩ : ByteArray), .int .i64 0, .int .i64 0, .int .i64 0, .int .i64 0, .slice none 0 0, .int .i64 0] zr_96 rfl fun gb8 => ?_) gn
  refine wl_v 1 rfl (v_assign rfl) gn rfl ?_
  refine wl_v 2 rfl (v_assign rfl) gn rfl ?_
  refine w_end 3 rfl ?_
  refine g_seq (c := trellisref15_find_c2) rfl ?_
  refine g_seq (c := trellisref15_find_c3) rfl ?_
  refine g_region (c := trellisref15_find_c5) rfl rfl ?_
  refine wl_v 0 rfl (v_assign rfl) gn rfl ?_
  refine w_end 1 rfl ?_
  refine g_block (c := trellisref15_find_c6) rfl ?_
  refine g_loop (c := trellisref15_find_c7) rfl ?_
  have key1 : ∀ s, Rounds (fun (s : Int) o => trellisref15_find_b1 x1 x6 x7 rc_trellisref15_find s o) s r → (fun (s : Int) => ∀ (_ : Unit), G (trellisref15_find_C w F r) [.code trellisref15_find_c8, .inLoop trellisref15_find_c8, .inBlock 0, .code trellisref15_find_c4] [(0, .slice A2 n3 c4), (1, .int .i64 x6), (2, .int .i64 x7), (6, .pointer (some ⟨gb8, 0, none⟩)), (9, .int .i64 s)] [.box gb8 96 [.string (⟨#[]⟩ : ByteArray), .bool false, .string (⟨#[]⟩ : ByteArray), .int .i64 0, .int .i64 0, .int .i64 0, .int .i64 0, .slice none 0 0, .int .i64 0]] [Sm w.heap.size F w [], St w []]) s := by
    intro s hs
    refine Rounds.ind (mot := (fun (s : Int) => ∀ (_ : Unit), G (trellisref15_find_C w F r) [.code trellisref15_find_c8, .inLoop trellisref15_find_c8, .inBlock 0, .code trellisref15_find_c4] [(0, .slice A2 n3 c4), (1, .int .i64 x6), (2, .int .i64 x7), (6, .pointer (some ⟨gb8, 0, none⟩)), (9, .int .i64 s)] [.box gb8 96 [.string (⟨#[]⟩ : ByteArray), .bool false, .string (⟨#[]⟩ : ByteArray), .int .i64 0, .int .i64 0, .int .i64 0, .int .i64 0, .slice none 0 0, .int .i64 0]] [Sm w.heap.size F w [], St w []])) ?_ hs
    clear hs s
    intro x199 o1 h hO1
    show ∀ (_ : Unit), G (trellisref15_find_C w F r) [.code trellisref15_find_c8, .inLoop trellisref15_find_c8, .inBlock 0, .code trellisref15_find_c4] [(0, .slice A2 n3 c4), (1, .int .i64 x6), (2, .int .i64 x7), (6, .pointer (some ⟨gb8, 0, none⟩)), (9, .int .i64 x199)] [.box gb8 96 [.string (⟨#[]⟩ : ByteArray), .bool false, .string (⟨#[]⟩ : ByteArray), .int .i64 0, .int .i64 0, .int .i64 0, .int .i64 0, .slice none 0 0, .int .i64 0]] [Sm w.heap.size F w [], St w []]
    intro _
    have h : trellisref15_find_b1 x1 x6 x7 rc_trellisref15_find x199 o1 := h
    unfold trellisref15_find_b1 at h
    refine g_seq (c := trellisref15_find_c8) rfl ?_
    refine g_seq (c := trellisref15_find_c9) rfl ?_
    refine g_region (c := trellisref15_find_c11) rfl rfl ?_
    refine wl_v 0 rfl (v_move rfl) gn rfl ?_
    refine wl_v 1 rfl (v_move rfl) gn rfl ?_
    refine wl_v 2 rfl (v_lenQ un_89 rfl h5.hq) gn rfl ?_
    refine wl_v 3 rfl (v_bin rfl rfl rfl) gn rfl ?_
    refine w_end 4 rfl ?_
    by_cases hp388 : x199 < (x1.length : Int)
    · have h := if_pos' hp388 h
      refine g_true (c := trellisref15_find_c12) rfl _ rfl ((decide_eq_true hp388)) ?_
      refine g_skip (c := trellisref15_find_c13) rfl ?_
      refine g_seq (c := trellisref15_find_c10) rfl ?_
      refine g_block (c := trellisref15_find_c15) rfl ?_
      refine g_seq (c := trellisref15_find_c17) rfl ?_
      refine g_seq (c := trellisref15_find_c18) rfl ?_
      refine g_region (c := trellisref15_find_c20) rfl rfl ?_
      refine wl_v 0 rfl (v_move rfl) gn rfl ?_
      refine wl_v 1 rfl (v_move rfl) gn rfl ?_
      obtain ⟨hb389, h⟩ := h
      obtain ⟨ce391, hK392, hr390⟩ := Rw.read (s := Sm w.heap.size F w []) h5 hb389
      obtain ⟨A393, n394, c395, rfl, h396⟩ := k_trellisref15_Tree_out hK392
      refine wl_v 2 rfl (v_idxR (s := Sm w.heap.size F w []) slE_89 rfl rfl h5 hb389) gn rfl ?_
      refine wl_v 3 rfl (v_fldA fo_96_2 rfl) gn rfl ?_
      refine wl_v 4 rfl (v_ldA1 (kk := (x199 : Int).toNat * 9) (j := 8) (Sm w.heap.size F w []) ld_3 rfl hr390 rfl (me 0 rfl)) gn rfl ?_
      refine wl_v 5 rfl (v_move rfl) gn rfl ?_
      refine wl_v 6 rfl (v_bin rfl rfl rfl) gn rfl ?_
      refine w_end 7 rfl ?_
      by_cases hp397 : (ix x1 x199).at_ = x6
      · have h := if_pos' hp397 h
        refine g_true (c := trellisref15_find_c21) rfl _ rfl ((eqi hp397)) ?_
        refine g_seq (c := trellisref15_find_c22) rfl ?_
        refine g_region (c := trellisref15_find_c24) rfl rfl ?_
        refine wl_v 0 rfl (v_move rfl) gn rfl ?_
        refine wl_v 1 rfl (v_move rfl) gn rfl ?_
        obtain ⟨ce399, hK400, hr398⟩ := Rw.read (s := Sm w.heap.size F w []) h5 hb389
        obtain ⟨A401, n402, c403, rfl, h404⟩ := k_trellisref15_Tree_out hK400
        refine wl_v 2 rfl (v_idxR (s := Sm w.heap.size F w []) slE_89 rfl rfl h5 hb389) gn rfl ?_
        refine wl_v 3 rfl (v_ldA (Sm w.heap.size F w []) ld_96 rfl hr398 rfl (me 0 rfl)) gn rfl ?_
        refine wl_v 4 rfl (v_move rfl) gn rfl ?_
        refine wl_s 5 rfl (s_stB (vs := [.string (((ix x1 x199).node).name), .bool (((ix x1 x199).node).named), .string (((ix x1 x199).node).field), .int .i64 (((ix x1 x199).node).from_), .int .i64 (((ix x1 x199).node).to), .int .i64 (((ix x1 x199).node).kids), .int .i64 (((ix x1 x199).node).leaf), .slice A401 n402 c403, .int .i64 ((ix x1 x199).at_)]) (cs' := [.string (((ix x1 x199).node).name), .bool (((ix x1 x199).node).named), .string (((ix x1 x199).node).field), .int .i64 (((ix x1 x199).node).from_), .int .i64 (((ix x1 x199).node).to), .int .i64 (((ix x1 x199).node).kids), .int .i64 (((ix x1 x199).node).leaf), .slice A401 n402 c403, .int .i64 ((ix x1 x199).at_)]) (M' := [.box gb8 96 [.string (((ix x1 x199).node).name), .bool (((ix x1 x199).node).named), .string (((ix x1 x199).node).field), .int .i64 (((ix x1 x199).node).from_), .int .i64 (((ix x1 x199).node).to), .int .i64 (((ix x1 x199).node).kids), .int .i64 (((ix x1 x199).node).leaf), .slice A401 n402 c403, .int .i64 ((ix x1 x199).at_)]]) 0 sz_96 rfl rfl rfl rfl rfl rfl rfl rfl rfl ?_) gn
        refine wl_v 6 rfl (v_assign rfl) gn rfl ?_
        refine wl_v 7 rfl (v_assign rfl) gn rfl ?_
        refine w_end 8 rfl ?_
        have h := Out.inr hO1 h
        refine g_retR (c := trellisref15_find_c25) [.agg #[.string (((ix x1 x199).node).name), .bool (((ix x1 x199).node).named), .string (((ix x1 x199).node).field), .int .i64 (((ix x1 x199).node).from_), .int .i64 (((ix x1 x199).node).to), .int .i64 (((ix x1 x199).node).kids), .int .i64 (((ix x1 x199).node).leaf), .slice A401 n402 c403, .int .i64 ((ix x1 x199).at_)], .int .i64 x7, .bool true] rfl Try.func48 rfl (.cell (cs := [.string (((ix x1 x199).node).name), .bool (((ix x1 x199).node).named), .string (((ix x1 x199).node).field), .int .i64 (((ix x1 x199).node).from_), .int .i64 (((ix x1 x199).node).to), .int .i64 (((ix x1 x199).node).kids), .int .i64 (((ix x1 x199).node).leaf), .slice A401 n402 c403, .int .i64 ((ix x1 x199).at_)]) (us := [.string (((ix x1 x199).node).name), .bool (((ix x1 x199).node).named), .string (((ix x1 x199).node).field), .int .i64 (((ix x1 x199).node).from_), .int .i64 (((ix x1 x199).node).to), .int .i64 (((ix x1 x199).node).kids), .int .i64 (((ix x1 x199).node).leaf), .slice A401 n402 c403, .int .i64 ((ix x1 x199).at_)]) 0 rfl ld_96 rfl rfl rfl (.tmp rfl (.tmp rfl (.nil)))) fun wr hLr => ?_
        have hMr : B.Loc w wr [] [St w []] := hLr.pick (rest := [.box gb8 96 [.string (((ix x1 x199).node).name), .bool (((ix x1 x199).node).named), .string (((ix x1 x199).node).field), .int .i64 (((ix x1 x199).node).from_), .int .i64 (((ix x1 x199).node).to), .int .i64 (((ix x1 x199).node).kids), .int .i64 (((ix x1 x199).node).leaf), .slice A401 n402 c403, .int .i64 ((ix x1 x199).at_)]]) (perm_of_idx [] [0] rfl rfl (by kernel_rfl)) (sels [1] rfl)
        have hMi : ∀ e ∈ ([] : List Ent), e ∈ ([.box gb8 96 [.string (((ix x1 x199).node).name), .bool (((ix x1 x199).node).named), .string (((ix x1 x199).node).field), .int .i64 (((ix x1 x199).node).from_), .int .i64 (((ix x1 x199).node).to), .int .i64 (((ix x1 x199).node).kids), .int .i64 (((ix x1 x199).node).leaf), .slice A401 n402 c403, .int .i64 ((ix x1 x199).at_)]] : List Ent) := sels [] rfl
        show trellisref15_find_R w F  r (.returned (packV [.agg #[.string (((ix x1 x199).node).name), .bool (((ix x1 x199).node).named), .string (((ix x1 x199).node).field), .int .i64 (((ix x1 x199).node).from_), .int .i64 (((ix x1 x199).node).to), .int .i64 (((ix x1 x199).node).kids), .int .i64 (((ix x1 x199).node).leaf), .slice A401 n402 c403, .int .i64 ((ix x1 x199).at_)], .int .i64 x7, .bool true])) wr
        rw [h]
        exact ⟨A401, n402, c403, rfl, hMr, (hLr.outR (s := Sm w.heap.size F w []) hMi (me 0 rfl) Sm.ok h404)⟩
      · have h := if_neg' hp397 h
        refine g_false (c := trellisref15_find_c21) rfl _ rfl ((nei hp397)) ?_
        refine g_skip (c := trellisref15_find_c23) rfl ?_
        refine g_seq (c := trellisref15_find_c19) rfl ?_
        obtain ⟨r422, hv423, h⟩ := h
        have d3 : ∀ (gb502 : Nat) (A503 : Option Addr) (n504 : Nat) (c505 : Nat) (sw506 : World) (sb507 : List (List Nat)) (h508 : At k_trellisref15_Tree (Sm w.heap.size F sw506 sb507) A503 n504 c505 r422.1.kids), G (trellisref15_find_C w F r) [.code trellisref15_find_c27, .inBlock 1, .code trellisref15_find_c16, .inLoop trellisref15_find_c8, .inBlock 0, .code trellisref15_find_c4] [(0, .slice A2 n3 c4), (1, .int .i64 x6), (2, .int .i64 x7), (6, .pointer (some ⟨gb8, 0, none⟩)), (9, .int .i64 x199), (10, .pointer (some ⟨gb502, 0, none⟩)), (11, .int .i64 r422.2.1), (12, .bool r422.2.2)] [.box gb502 96 [.string r422.1.node.name, .bool r422.1.node.named, .string r422.1.node.field, .int .i64 r422.1.node.from_, .int .i64 r422.1.node.to, .int .i64 r422.1.node.kids, .int .i64 r422.1.node.leaf, .slice A503 n504 c505, .int .i64 r422.1.at_], .box gb8 96 [.string (⟨#[]⟩ : ByteArray), .bool false, .string (⟨#[]⟩ : ByteArray), .int .i64 0, .int .i64 0, .int .i64 0, .int .i64 0, .slice none 0 0, .int .i64 0]] [Sm w.heap.size F sw506 sb507, Sm w.heap.size F w [], St w []] := by
          intro gb502 A503 n504 c505 sw506 sb507 h508
          refine g_seq (c := trellisref15_find_c27) rfl ?_
          refine g_region (c := trellisref15_find_c28) rfl rfl ?_
          refine wl_v 0 rfl (v_move rfl) gn rfl ?_
          refine w_end 1 rfl ?_
          by_cases hp509 : r422.2.2 = true
          · have h := if_pos' hp509 h
            refine g_true (c := trellisref15_find_c29) rfl _ rfl (hp509) ?_
            refine g_seq (c := trellisref15_find_c30) rfl ?_
            refine g_region (c := trellisref15_find_c32) rfl rfl ?_
            refine wl_v 0 rfl (v_ldB [.string r422.1.node.name, .bool r422.1.node.named, .string r422.1.node.field, .int .i64 r422.1.node.from_, .int .i64 r422.1.node.to, .int .i64 r422.1.node.kids, .int .i64 r422.1.node.leaf, .slice A503 n504 c505, .int .i64 r422.1.at_] 0 ld_96 rfl rfl rfl rfl) gn rfl ?_
            refine wl_v 1 rfl (v_move rfl) gn rfl ?_
            refine wl_s 2 rfl (s_stB (vs := [.string r422.1.node.name, .bool r422.1.node.named, .string r422.1.node.field, .int .i64 r422.1.node.from_, .int .i64 r422.1.node.to, .int .i64 r422.1.node.kids, .int .i64 r422.1.node.leaf, .slice A503 n504 c505, .int .i64 r422.1.at_]) (cs' := [.string r422.1.node.name, .bool r422.1.node.named, .string r422.1.node.field, .int .i64 r422.1.node.from_, .int .i64 r422.1.node.to, .int .i64 r422.1.node.kids, .int .i64 r422.1.node.leaf, .slice A503 n504 c505, .int .i64 r422.1.at_]) (M' := [.box gb502 96 [.string r422.1.node.name, .bool r422.1.node.named, .string r422.1.node.field, .int .i64 r422.1.node.from_, .int .i64 r422.1.node.to, .int .i64 r422.1.node.kids, .int .i64 r422.1.node.leaf, .slice A503 n504 c505, .int .i64 r422.1.at_], .box gb8 96 [.string r422.1.node.name, .bool r422.1.node.named, .string r422.1.node.field, .int .i64 r422.1.node.from_, .int .i64 r422.1.node.to, .int .i64 r422.1.node.kids, .int .i64 r422.1.node.leaf, .slice A503 n504 c505, .int .i64 r422.1.at_]]) 1 sz_96 rfl rfl rfl rfl rfl rfl rfl rfl rfl ?_) gn
            refine wl_v 3 rfl (v_assign rfl) gn rfl ?_
            refine wl_v 4 rfl (v_assign rfl) gn rfl ?_
            refine w_end 5 rfl ?_
            have h := Out.inr hO1 h
            refine g_retR (c := trellisref15_find_c33) [.agg #[.string r422.1.node.name, .bool r422.1.node.named, .string r422.1.node.field, .int .i64 r422.1.node.from_, .int .i64 r422.1.node.to, .int .i64 r422.1.node.kids, .int .i64 r422.1.node.leaf, .slice A503 n504 c505, .int .i64 r422.1.at_], .int .i64 r422.2.1, .bool true] rfl Try.func48 rfl (.cell (cs := [.string r422.1.node.name, .bool r422.1.node.named, .string r422.1.node.field, .int .i64 r422.1.node.from_, .int .i64 r422.1.node.to, .int .i64 r422.1.node.kids, .int .i64 r422.1.node.leaf, .slice A503 n504 c505, .int .i64 r422.1.at_]) (us := [.string r422.1.node.name, .bool r422.1.node.named, .string r422.1.node.field, .int .i64 r422.1.node.from_, .int .i64 r422.1.node.to, .int .i64 r422.1.node.kids, .int .i64 r422.1.node.leaf, .slice A503 n504 c505, .int .i64 r422.1.at_]) 1 rfl ld_96 rfl rfl rfl (.tmp rfl (.tmp rfl (.nil)))) fun wr hLr => ?_
            have hMr : B.Loc w wr [] [St w []] := hLr.pick (rest := [.box gb502 96 [.string r422.1.node.name, .bool r422.1.node.named, .string r422.1.node.field, .int .i64 r422.1.node.from_, .int .i64 r422.1.node.to, .int .i64 r422.1.node.kids, .int .i64 r422.1.node.leaf, .slice A503 n504 c505, .int .i64 r422.1.at_], .box gb8 96 [.string r422.1.node.name, .bool r422.1.node.named, .string r422.1.node.field, .int .i64 r422.1.node.from_, .int .i64 r422.1.node.to, .int .i64 r422.1.node.kids, .int .i64 r422.1.node.leaf, .slice A503 n504 c505, .int .i64 r422.1.at_]]) (perm_of_idx [] [0, 1] rfl rfl (by kernel_rfl)) (sels [2] rfl)
            have hMi : ∀ e ∈ ([] : List Ent), e ∈ ([.box gb502 96 [.string r422.1.node.name, .bool r422.1.node.named, .string r422.1.node.field, .int .i64 r422.1.node.from_, .int .i64 r422.1.node.to, .int .i64 r422.1.node.kids, .int .i64 r422.1.node.leaf, .slice A503 n504 c505, .int .i64 r422.1.at_], .box gb8 96 [.string r422.1.node.name, .bool r422.1.node.named, .string r422.1.node.field, .int .i64 r422.1.node.from_, .int .i64 r422.1.node.to, .int .i64 r422.1.node.kids, .int .i64 r422.1.node.leaf, .slice A503 n504 c505, .int .i64 r422.1.at_]] : List Ent) := sels [] rfl
            show trellisref15_find_R w F  r (.returned (packV [.agg #[.string r422.1.node.name, .bool r422.1.node.named, .string r422.1.node.field, .int .i64 r422.1.node.from_, .int .i64 r422.1.node.to, .int .i64 r422.1.node.kids, .int .i64 r422.1.node.leaf, .slice A503 n504 c505, .int .i64 r422.1.at_], .int .i64 r422.2.1, .bool true])) wr
            rw [h]
            exact ⟨A503, n504, c505, rfl, hMr, (hLr.outR (s := Sm w.heap.size F sw506 sb507) hMi (me 0 rfl) Sm.ok h508)⟩
          · have h := if_neg' hp509 h
            refine g_false (c := trellisref15_find_c29) rfl _ rfl ((bf hp509)) ?_
            refine g_skip (c := trellisref15_find_c31) rfl ?_
            refine g_inBlock ?_
            refine g_region (c := trellisref15_find_c16) rfl rfl ?_
            refine wl_v 0 rfl (v_move rfl) gn rfl ?_
            refine wl_v 1 rfl (v_bin rfl rfl rfl) gn rfl ?_
            refine wl_v 2 rfl (v_assign rfl) gn rfl ?_
            refine w_end 3 rfl ?_
            refine g_inLoop ?_
            have ih := Out.inl hO1 h
            exact g_go [1, 2] (ih ()) ⟨rfl, rfl, rfl, rfl, rfl, trivial⟩ (.cons _ (.cons_cons _ (.slnil))) rfl
        have hns : Region.noSelect (Code.ops trellisref15_find_c26) = true := by kernel_rfl
        refine g_drawF (c := trellisref15_find_c26) [.box gb8 96 [.string (⟨#[]⟩ : ByteArray), .bool false, .string (⟨#[]⟩ : ByteArray), .int .i64 0, .int .i64 0, .int .i64 0, .int .i64 0, .slice none 0 0, .int .i64 0]] [Sm w.heap.size F w [], St w []] [] 20 rfl rfl mix rfl (.cons_cons _ (.slnil)) (sels [0, 1] rfl) ?_
        refine wf_v 0 rfl (v_move rfl) gn rfl hns (by kernel_rfl) (by kernel_rfl) rfl rfl ?_
        refine wf_v 1 rfl (v_move rfl) gn rfl hns (by kernel_rfl) (by kernel_rfl) rfl rfl ?_
        obtain ⟨ce511, hK512, hr510⟩ := Rw.read (s := Sm w.heap.size F w []) h5 hb389
        obtain ⟨A513, n514, c515, rfl, h516⟩ := k_trellisref15_Tree_out hK512
        refine wf_v 2 rfl (v_idxR (s := Sm w.heap.size F w []) slE_89 rfl rfl h5 hb389) gn rfl hns (by kernel_rfl) (by kernel_rfl) rfl rfl ?_
        refine wf_v 3 rfl (v_fldA fo_96_1 rfl) gn rfl hns (by kernel_rfl) (by kernel_rfl) rfl rfl ?_
        refine wf_v 4 rfl (v_ldA1 (kk := (x199 : Int).toNat * 9) (j := 7) (Sm w.heap.size F w []) ld_89 rfl hr510 rfl (me 0 rfl)) gn rfl hns (by kernel_rfl) (by kernel_rfl) rfl rfl ?_
        refine wf_v 5 rfl (v_move rfl) gn rfl hns (by kernel_rfl) (by kernel_rfl) rfl rfl ?_
        refine wf_v 6 rfl (v_move rfl) gn rfl hns (by kernel_rfl) (by kernel_rfl) rfl rfl ?_
        refine wf_v 7 rfl (v_move rfl) gn rfl hns (by kernel_rfl) (by kernel_rfl) rfl rfl ?_
        obtain ⟨ce518, hK519, hr517⟩ := Rw.read (s := Sm w.heap.size F w []) h5 hb389
        obtain ⟨A520, n521, c522, rfl, h523⟩ := k_trellisref15_Tree_out hK519
        refine wf_v 8 rfl (v_idxR (s := Sm w.heap.size F w []) slE_89 rfl rfl h5 hb389) gn rfl hns (by kernel_rfl) (by kernel_rfl) rfl rfl ?_
        refine wf_v 9 rfl (v_fldA fo_96_2 rfl) gn rfl hns (by kernel_rfl) (by kernel_rfl) rfl rfl ?_
        refine wf_v 10 rfl (v_ldA1 (kk := (x199 : Int).toNat * 9) (j := 8) (Sm w.heap.size F w []) ld_3 rfl hr517 rfl (me 0 rfl)) gn rfl hns (by kernel_rfl) (by kernel_rfl) rfl rfl ?_
        refine wf_all [11, 16] (by kernel_rfl) rfl ⟨?_, ?_, trivial⟩
        · refine on_s 11 rfl gn rfl (s_call [.slice A513 n514 c515, .int .i64 x6, .int .i64 ((ix x1 x199).at_)] rfl Try.func48 rfl rfl rfl fun w537 hL538 => ?_)
          have hp539 : List.Perm ([.box gb8 96 [.string (⟨#[]⟩ : ByteArray), .bool false, .string (⟨#[]⟩ : ByteArray), .int .i64 0, .int .i64 0, .int .i64 0, .int .i64 0, .slice none 0 0, .int .i64 0]] : List Ent) (([] : List Ent) ++ ([.box gb8 96 [.string (⟨#[]⟩ : ByteArray), .bool false, .string (⟨#[]⟩ : ByteArray), .int .i64 0, .int .i64 0, .int .i64 0, .int .i64 0, .slice none 0 0, .int .i64 0]] : List Ent)) := perm_of_idx [] [0] rfl rfl (by kernel_rfl)
          refine Calls.mono (ih_trellisref15_find w537 (Fl ([Sm w.heap.size F w []] : List Snap)) ((ix x1 x199).kids) x6 ((ix x1 x199).at_) A513 n514 c515 (Rw.mono h516 (hL538.toFl (me 0 rfl) (me 0 rfl))) (hL538.hFl (Sl := ([Sm w.heap.size F w []] : List Snap)) hp539 (sels [0] rfl)) (hL538.into hp539 (Fl ([Sm w.heap.size F w []] : List Snap))) r422 hv423) ?_
          rintro _ w544 ⟨A540, n541, c542, rfl, hM545, h543⟩
          obtain ⟨sb548, hL546, hv547⟩ := hL538.callB (Sl := ([Sm w.heap.size F w []] : List Snap)) hp539 hM545 F (sels [0] rfl) ⟨Sm.ok, trivial⟩
          have h543 : At k_trellisref15_Tree (Sm w.heap.size F w544 sb548) A540 n541 c542 r422.1.kids := Rw.mono h543 hv547
          refine ⟨_, _, _, rfl, hL546, ?_⟩
          refine ⟨sels [0] rfl, sels [1, 2] rfl, ?_⟩
          refine wf_v 12 rfl (v_move rfl) gn rfl hns (by kernel_rfl) (by kernel_rfl) rfl rfl ?_
          refine wf_v 13 rfl (v_extract rfl rfl) gn rfl hns (by kernel_rfl) (by kernel_rfl) rfl rfl ?_
          refine wf_v 14 rfl (v_extract rfl rfl) gn rfl hns (by kernel_rfl) (by kernel_rfl) rfl rfl ?_
          refine wf_v 15 rfl (v_extract rfl rfl) gn rfl hns (by kernel_rfl) (by kernel_rfl) rfl rfl ?_
          refine wf_all [16] (by kernel_rfl) rfl ⟨on_s 16 rfl gn rfl (s_alloc [.string (⟨#[]⟩ : ByteArray), .bool false, .string (⟨#[]⟩ : ByteArray), .int .i64 0, .int .i64 0, .int .i64 0, .int .i64 0, .slice none 0 0, .int .i64 0] zr_96 rfl fun gb550 => ?_), trivial⟩
          refine ⟨sels [1] rfl, sels [1, 2] rfl, ?_⟩
          refine wf_all [17] (by kernel_rfl) rfl ⟨on_s 17 rfl gn rfl (s_stB (vs := [.string r422.1.node.name, .bool r422.1.node.named, .string r422.1.node.field, .int .i64 r422.1.node.from_, .int .i64 r422.1.node.to, .int .i64 r422.1.node.kids, .int .i64 r422.1.node.leaf, .slice A540 n541 c542, .int .i64 r422.1.at_]) (cs' := [.string r422.1.node.name, .bool r422.1.node.named, .string r422.1.node.field, .int .i64 r422.1.node.from_, .int .i64 r422.1.node.to, .int .i64 r422.1.node.kids, .int .i64 r422.1.node.leaf, .slice A540 n541 c542, .int .i64 r422.1.at_]) (M' := [.box gb550 96 [.string r422.1.node.name, .bool r422.1.node.named, .string r422.1.node.field, .int .i64 r422.1.node.from_, .int .i64 r422.1.node.to, .int .i64 r422.1.node.kids, .int .i64 r422.1.node.leaf, .slice A540 n541 c542, .int .i64 r422.1.at_], .box gb8 96 [.string (⟨#[]⟩ : ByteArray), .bool false, .string (⟨#[]⟩ : ByteArray), .int .i64 0, .int .i64 0, .int .i64 0, .int .i64 0, .slice none 0 0, .int .i64 0]]) 0 sz_96 rfl rfl rfl rfl rfl rfl rfl rfl rfl ?_), trivial⟩
          refine ⟨sels [1] rfl, sels [1, 2] rfl, ?_⟩
          refine wf_v 18 rfl (v_assign rfl) gn rfl hns (by kernel_rfl) (by kernel_rfl) rfl rfl ?_
          refine wf_v 19 rfl (v_assign rfl) gn rfl hns (by kernel_rfl) (by kernel_rfl) rfl rfl ?_
          refine wf_end (by kernel_rfl) ?_
          exact g_go [0, 1, 2] (d3 gb550 A540 n541 c542 w544 sb548 h543) ⟨rfl, rfl, rfl, rfl, rfl, rfl, rfl, rfl, trivial⟩ (.cons_cons _ (.cons_cons _ (.slnil))) rfl
        · refine on_s 16 rfl gn rfl (s_alloc [.string (⟨#[]⟩ : ByteArray), .bool false, .string (⟨#[]⟩ : ByteArray), .int .i64 0, .int .i64 0, .int .i64 0, .int .i64 0, .slice none 0 0, .int .i64 0] zr_96 rfl fun gb551 => ?_)
          refine ⟨sels [1] rfl, sels [0, 1] rfl, ?_⟩
          refine wf_all [11] (by kernel_rfl) rfl ⟨on_s 11 rfl gn rfl (s_call [.slice A513 n514 c515, .int .i64 x6, .int .i64 ((ix x1 x199).at_)] rfl Try.func48 rfl rfl rfl fun w564 hL565 => ?_), trivial⟩
          have hp566 : List.Perm ([.box gb551 96 [.string (⟨#[]⟩ : ByteArray), .bool false, .string (⟨#[]⟩ : ByteArray), .int .i64 0, .int .i64 0, .int .i64 0, .int .i64 0, .slice none 0 0, .int .i64 0], .box gb8 96 [.string (⟨#[]⟩ : ByteArray), .bool false, .string (⟨#[]⟩ : ByteArray), .int .i64 0, .int .i64 0, .int .i64 0, .int .i64 0, .slice none 0 0, .int .i64 0]] : List Ent) (([] : List Ent) ++ ([.box gb551 96 [.string (⟨#[]⟩ : ByteArray), .bool false, .string (⟨#[]⟩ : ByteArray), .int .i64 0, .int .i64 0, .int .i64 0, .int .i64 0, .slice none 0 0, .int .i64 0], .box gb8 96 [.string (⟨#[]⟩ : ByteArray), .bool false, .string (⟨#[]⟩ : ByteArray), .int .i64 0, .int .i64 0, .int .i64 0, .int .i64 0, .slice none 0 0, .int .i64 0]] : List Ent)) := perm_of_idx [] [0, 1] rfl rfl (by kernel_rfl)
          refine Calls.mono (ih_trellisref15_find w564 (Fl ([Sm w.heap.size F w []] : List Snap)) ((ix x1 x199).kids) x6 ((ix x1 x199).at_) A513 n514 c515 (Rw.mono h516 (hL565.toFl (me 0 rfl) (me 0 rfl))) (hL565.hFl (Sl := ([Sm w.heap.size F w []] : List Snap)) hp566 (sels [0] rfl)) (hL565.into hp566 (Fl ([Sm w.heap.size F w []] : List Snap))) r422 hv423) ?_
          rintro _ w571 ⟨A567, n568, c569, rfl, hM572, h570⟩
          obtain ⟨sb575, hL573, hv574⟩ := hL565.callB (Sl := ([Sm w.heap.size F w []] : List Snap)) hp566 hM572 F (sels [0] rfl) ⟨Sm.ok, trivial⟩
          have h570 : At k_trellisref15_Tree (Sm w.heap.size F w571 sb575) A567 n568 c569 r422.1.kids := Rw.mono h570 hv574
          refine ⟨_, _, _, rfl, hL573, ?_⟩
          refine ⟨sels [1] rfl, sels [1, 2] rfl, ?_⟩
          refine wf_v 12 rfl (v_move rfl) gn rfl hns (by kernel_rfl) (by kernel_rfl) rfl rfl ?_
          refine wf_v 13 rfl (v_extract rfl rfl) gn rfl hns (by kernel_rfl) (by kernel_rfl) rfl rfl ?_
          refine wf_v 14 rfl (v_extract rfl rfl) gn rfl hns (by kernel_rfl) (by kernel_rfl) rfl rfl ?_
          refine wf_v 15 rfl (v_extract rfl rfl) gn rfl hns (by kernel_rfl) (by kernel_rfl) rfl rfl ?_
          refine wf_all [17] (by kernel_rfl) rfl ⟨on_s 17 rfl gn rfl (s_stB (vs := [.string r422.1.node.name, .bool r422.1.node.named, .string r422.1.node.field, .int .i64 r422.1.node.from_, .int .i64 r422.1.node.to, .int .i64 r422.1.node.kids, .int .i64 r422.1.node.leaf, .slice A567 n568 c569, .int .i64 r422.1.at_]) (cs' := [.string r422.1.node.name, .bool r422.1.node.named, .string r422.1.node.field, .int .i64 r422.1.node.from_, .int .i64 r422.1.node.to, .int .i64 r422.1.node.kids, .int .i64 r422.1.node.leaf, .slice A567 n568 c569, .int .i64 r422.1.at_]) (M' := [.box gb551 96 [.string r422.1.node.name, .bool r422.1.node.named, .string r422.1.node.field, .int .i64 r422.1.node.from_, .int .i64 r422.1.node.to, .int .i64 r422.1.node.kids, .int .i64 r422.1.node.leaf, .slice A567 n568 c569, .int .i64 r422.1.at_], .box gb8 96 [.string (⟨#[]⟩ : ByteArray), .bool false, .string (⟨#[]⟩ : ByteArray), .int .i64 0, .int .i64 0, .int .i64 0, .int .i64 0, .slice none 0 0, .int .i64 0]]) 0 sz_96 rfl rfl rfl rfl rfl rfl rfl rfl rfl ?_), trivial⟩
          refine ⟨sels [1] rfl, sels [1, 2] rfl, ?_⟩
          refine wf_v 18 rfl (v_assign rfl) gn rfl hns (by kernel_rfl) (by kernel_rfl) rfl rfl ?_
          refine wf_v 19 rfl (v_assign rfl) gn rfl hns (by kernel_rfl) (by kernel_rfl) rfl rfl ?_
          refine wf_end (by kernel_rfl) ?_
          exact g_go [0, 1, 2] (d3 gb551 A567 n568 c569 w571 sb575 h570) ⟨rfl, rfl, rfl, rfl, rfl, rfl, rfl, rfl, trivial⟩ (.cons_cons _ (.cons_cons _ (.slnil))) rfl
    · have h := if_neg' hp388 h
      refine g_false (c := trellisref15_find_c12) rfl _ rfl ((decide_eq_false hp388)) ?_
      refine g_exit (c := trellisref15_find_c14) [.code trellisref15_find_c4] rfl rfl ?_
      refine g_seq (c := trellisref15_find_c4) rfl ?_
      refine g_region (c := trellisref15_find_c34) rfl rfl ?_
      refine wl_v 0 rfl (v_build #[.string (⟨#[]⟩ : ByteArray), .bool false, .string (⟨#[]⟩ : ByteArray), .int .i64 0, .int .i64 0, .int .i64 0, .int .i64 0, .slice none 0 0, .int .i64 0] bd_96 rfl (by kernel_rfl)) gn rfl ?_
      refine wl_s 1 rfl (s_stB (vs := [.string (⟨#[]⟩ : ByteArray), .bool false, .string (⟨#[]⟩ : ByteArray), .int .i64 0, .int .i64 0, .int .i64 0, .int .i64 0, .slice none 0 0, .int .i64 0]) (cs' := [.string (⟨#[]⟩ : ByteArray), .bool false, .string (⟨#[]⟩ : ByteArray), .int .i64 0, .int .i64 0, .int .i64 0, .int .i64 0, .slice none 0 0, .int .i64 0]) (M' := [.box gb8 96 [.string (⟨#[]⟩ : ByteArray), .bool false, .string (⟨#[]⟩ : ByteArray), .int .i64 0, .int .i64 0, .int .i64 0, .int .i64 0, .slice none 0 0, .int .i64 0]]) 0 sz_96 rfl rfl rfl rfl rfl rfl rfl rfl rfl ?_) gn
      refine wl_v 2 rfl (v_assign rfl) gn rfl ?_
      refine wl_v 3 rfl (v_assign rfl) gn rfl ?_
      refine w_end 4 rfl ?_
      have h := Out.inr hO1 h
      refine g_retR (c := trellisref15_find_c35) [.agg #[.string (⟨#[]⟩ : ByteArray), .bool false, .string (⟨#[]⟩ : ByteArray), .int .i64 0, .int .i64 0, .int .i64 0, .int .i64 0, .slice none 0 0, .int .i64 0], .int .i64 (-1), .bool false] rfl Try.func48 rfl (.cell (cs := [.string (⟨#[]⟩ : ByteArray), .bool false, .string (⟨#[]⟩ : ByteArray), .int .i64 0, .int .i64 0, .int .i64 0, .int .i64 0, .slice none 0 0, .int .i64 0]) (us := [.string (⟨#[]⟩ : ByteArray), .bool false, .string (⟨#[]⟩ : ByteArray), .int .i64 0, .int .i64 0, .int .i64 0, .int .i64 0, .slice none 0 0, .int .i64 0]) 0 rfl ld_96 rfl rfl rfl (.tmp rfl (.tmp rfl (.nil)))) fun wr hLr => ?_
      have hMr : B.Loc w wr [] [St w []] := hLr.pick (rest := [.box gb8 96 [.string (⟨#[]⟩ : ByteArray), .bool false, .string (⟨#[]⟩ : ByteArray), .int .i64 0, .int .i64 0, .int .i64 0, .int .i64 0, .slice none 0 0, .int .i64 0]]) (perm_of_idx [] [0] rfl rfl (by kernel_rfl)) (sels [1] rfl)
      have hMi : ∀ e ∈ ([] : List Ent), e ∈ ([.box gb8 96 [.string (⟨#[]⟩ : ByteArray), .bool false, .string (⟨#[]⟩ : ByteArray), .int .i64 0, .int .i64 0, .int .i64 0, .int .i64 0, .slice none 0 0, .int .i64 0]] : List Ent) := sels [] rfl
      show trellisref15_find_R w F  r (.returned (packV [.agg #[.string (⟨#[]⟩ : ByteArray), .bool false, .string (⟨#[]⟩ : ByteArray), .int .i64 0, .int .i64 0, .int .i64 0, .int .i64 0, .slice none 0 0, .int .i64 0], .int .i64 (-1), .bool false])) wr
      rw [h]
      exact ⟨none, 0, 0, rfl, hMr, Rw.nil⟩
  exact g_go [0, 1] (key1 _ h ()) ⟨rfl, rfl, rfl, rfl, rfl, trivial⟩ (.cons_cons _ (.slnil)) rfl
theorem trellisref15_find_ind : ∀ n, trellisref15_find_st (trellisref15_find_n n)
  | 0 => fun w F x1 x6 x7 A2 n3 c4 h5 hF hL0 r h => h.elim
  | n + 1 => by
    have ih := trellisref15_find_ind n
    exact trellisref15_find_step _ ih
theorem trellisref15_find_calls (w : World) (F : Nat → Prop) (x1 : List trellisref15_Tree) (x6 : Int) (x7 : Int) (A2 : Option Addr) (n3 : Nat) (c4 : Nat) (h5 : Rw k_trellisref15_Tree w F A2 n3 c4 x1) (hF : ∀ b, F b → b < w.heap.size ∧ ∀ o ∈ ([] : List (List Nat)), b ∉ o) (hL0 : B.Loc w w [] [Sm w.heap.size F w [], St w []]) (r : trellisref15_Tree × Int × Bool) (h : trellisref15_find x1 x6 x7 r) : Calls Try.prog 48 #[.slice A2 n3 c4, .int .i64 x6, .int .i64 x7] w (trellisref15_find_R w F  r) := by
  obtain ⟨n, h⟩ := h
  exact (trellisref15_find_ind n) w F x1 x6 x7 A2 n3 c4 h5 hF hL0 r h
noncomputable abbrev trellisref15_list_c0 : Code := bodyOf Try.f64
noncomputable abbrev trellisref15_list_c1 : Code := Code.fst trellisref15_list_c0
noncomputable abbrev trellisref15_list_c2 : Code := Code.snd trellisref15_list_c0
noncomputable abbrev trellisref15_list_c3 : Code := Code.fst trellisref15_list_c2
noncomputable abbrev trellisref15_list_c4 : Code := Code.snd trellisref15_list_c2
noncomputable abbrev trellisref15_list_c5 : Code := Code.fst trellisref15_list_c4
noncomputable abbrev trellisref15_list_c6 : Code := Code.snd trellisref15_list_c4
noncomputable abbrev trellisref15_list_c7 : Code := Code.fst trellisref15_list_c5
noncomputable abbrev trellisref15_list_c8 : Code := Code.snd trellisref15_list_c5
noncomputable abbrev trellisref15_list_c9 : Code := Code.fst trellisref15_list_c8
noncomputable abbrev trellisref15_list_c10 : Code := Code.fst trellisref15_list_c9
noncomputable abbrev trellisref15_list_c11 : Code := Code.fst trellisref15_list_c10
noncomputable abbrev trellisref15_list_c12 : Code := Code.snd trellisref15_list_c10
noncomputable abbrev trellisref15_list_c13 : Code := Code.fst trellisref15_list_c11
noncomputable abbrev trellisref15_list_c14 : Code := Code.snd trellisref15_list_c11
noncomputable abbrev trellisref15_list_c15 : Code := Code.fst trellisref15_list_c14
noncomputable abbrev trellisref15_list_c16 : Code := Code.snd trellisref15_list_c14
noncomputable abbrev trellisref15_list_c17 : Code := Code.fst trellisref15_list_c12
noncomputable abbrev trellisref15_list_c18 : Code := Code.snd trellisref15_list_c12
noncomputable abbrev trellisref15_list_c19 : Code := Code.fst trellisref15_list_c17
noncomputable abbrev trellisref15_list_c20 : Code := Code.fst trellisref15_list_c19
noncomputable abbrev trellisref15_list_c21 : Code := Code.snd trellisref15_list_c19
noncomputable abbrev trellisref15_list_c22 : Code := Code.fst trellisref15_list_c21
noncomputable abbrev trellisref15_list_c23 : Code := Code.snd trellisref15_list_c21
noncomputable abbrev trellisref15_list_c24 : Code := Code.fst trellisref15_list_c23
noncomputable abbrev trellisref15_list_c25 : Code := Code.snd trellisref15_list_c23
noncomputable abbrev trellisref15_list_c26 : Code := Code.fst trellisref15_list_c25
noncomputable abbrev trellisref15_list_c27 : Code := Code.snd trellisref15_list_c25
noncomputable abbrev trellisref15_list_c28 : Code := Code.fst trellisref15_list_c6
noncomputable abbrev trellisref15_list_c29 : Code := Code.snd trellisref15_list_c6
abbrev trellisref15_list_R (w : World) (F : Nat → Prop) (r : List api_Node) : Ending → World → Prop := fun e w' => ∃ A0 : Option Addr, ∃ n0 : Nat, ∃ c0 : Nat, e = .returned (.slice A0 n0 c0) ∧ B.Loc w w' [.own (.slice A0 n0 c0) 39 7 n0 (r.flatMap enc_api_Node)] [St w []] ∧ Ow w.heap.size A0 n0 c0 r
noncomputable abbrev trellisref15_list_C (w : World) (F : Nat → Prop) (r : List api_Node) : Cx := ⟨Try.prog, 64, Try.f64, 39, trellisref15_list_R w F  r, w⟩
def trellisref15_list_st (rl : (List trellisref15_Tree) → (List api_Node) → Prop) : Prop := ∀ (w : World) (F : Nat → Prop) (x1 : List trellisref15_Tree) (A2 : Option Addr) (n3 : Nat) (c4 : Nat) (h5 : Rw k_trellisref15_Tree w (St w []).av A2 n3 c4 x1) (hF : ∀ b, F b → b < w.heap.size ∧ ∀ o ∈ ([] : List (List Nat)), b ∉ o) (hL0 : B.Loc w w [] [Sm w.heap.size F w [], St w []]) (r : List api_Node) (h : rl x1 r), Calls Try.prog 64 #[.slice A2 n3 c4] w (trellisref15_list_R w F  r)
theorem trellisref15_list_step (rc_trellisref15_list : (List trellisref15_Tree) → (List api_Node) → Prop) (ih_trellisref15_list : trellisref15_list_st rc_trellisref15_list) : trellisref15_list_st (trellisref15_list_body rc_trellisref15_list) := by
  intro w F x1 A2 n3 c4 h5 hF hL0 r h
  unfold trellisref15_list_body at h
  refine calls_of_Loc (vs := [.slice A2 n3 c4]) 39 Try.func64 rfl Try.ntmps64 rfl hL0 ?_
  show G (trellisref15_list_C w F r) _ _ _ _
  refine g_seq (c := trellisref15_list_c0) rfl ?_
  refine g_region (c := trellisref15_list_c1) rfl rfl ?_
  refine wl_v 0 rfl (v_assign rfl) gn rfl ?_
  refine w_end 1 rfl ?_
  refine g_seq (c := trellisref15_list_c2) rfl ?_
  refine g_region (c := trellisref15_list_c3) rfl rfl ?_
  refine wl_v 0 rfl (v_assign rfl) gn rfl ?_
  refine w_end 1 rfl ?_
  refine g_seq (c := trellisref15_list_c4) rfl ?_
  refine g_seq (c := trellisref15_list_c5) rfl ?_
  refine g_region (c := trellisref15_list_c7) rfl rfl ?_
  refine wl_v 0 rfl (v_assign rfl) gn rfl ?_
  refine w_end 1 rfl ?_
  refine g_block (c := trellisref15_list_c8) rfl ?_
  refine g_loop (c := trellisref15_list_c9) rfl ?_
  have key1 : ∀ s, Rounds (fun (s : (List api_Node) × Int) o => trellisref15_list_b1 x1 rc_trellisref15_list s.1 s.2 o) s r → (fun (s : (List api_Node) × Int) => ∀ (A62 : Option Addr) (n63 : Nat) (c64 : Nat) (h65 : Ow w.heap.size A62 n63 c64 s.1), G (trellisref15_list_C w F r) [.code trellisref15_list_c10, .inLoop trellisref15_list_c10, .inBlock 0, .code trellisref15_list_c6] [(0, .slice A2 n3 c4), (3, .slice A62 n63 c64), (4, .int .i64 s.2)] [.own (.slice A62 n63 c64) 39 7 n63 (s.1.flatMap enc_api_Node)] [Sm w.heap.size F w [], St w []]) s := by
    intro s hs
    refine Rounds.ind (mot := (fun (s : (List api_Node) × Int) => ∀ (A62 : Option Addr) (n63 : Nat) (c64 : Nat) (h65 : Ow w.heap.size A62 n63 c64 s.1), G (trellisref15_list_C w F r) [.code trellisref15_list_c10, .inLoop trellisref15_list_c10, .inBlock 0, .code trellisref15_list_c6] [(0, .slice A2 n3 c4), (3, .slice A62 n63 c64), (4, .int .i64 s.2)] [.own (.slice A62 n63 c64) 39 7 n63 (s.1.flatMap enc_api_Node)] [Sm w.heap.size F w [], St w []])) ?_ hs
    clear hs s
    intro s o1 h hO1
    obtain ⟨x61, x66⟩ := s
    show ∀ (A62 : Option Addr) (n63 : Nat) (c64 : Nat) (h65 : Ow w.heap.size A62 n63 c64 x61), G (trellisref15_list_C w F r) [.code trellisref15_list_c10, .inLoop trellisref15_list_c10, .inBlock 0, .code trellisref15_list_c6] [(0, .slice A2 n3 c4), (3, .slice A62 n63 c64), (4, .int .i64 x66)] [.own (.slice A62 n63 c64) 39 7 n63 (x61.flatMap enc_api_Node)] [Sm w.heap.size F w [], St w []]
    intro A62 n63 c64 h65
    have h : trellisref15_list_b1 x1 rc_trellisref15_list x61 x66 o1 := h
    unfold trellisref15_list_b1 at h
    refine g_seq (c := trellisref15_list_c10) rfl ?_
    refine g_seq (c := trellisref15_list_c11) rfl ?_
    refine g_region (c := trellisref15_list_c13) rfl rfl ?_
    refine wl_v 0 rfl (v_move rfl) gn rfl ?_
    refine wl_v 1 rfl (v_move rfl) gn rfl ?_
    refine wl_v 2 rfl (v_lenQ un_89 rfl h5.hq) gn rfl ?_
    refine wl_v 3 rfl (v_bin rfl rfl rfl) gn rfl ?_
    refine w_end 4 rfl ?_
    by_cases hp120 : x66 < (x1.length : Int)
    · have h := if_pos' hp120 h
      refine g_true (c := trellisref15_list_c14) rfl _ rfl ((decide_eq_true hp120)) ?_
      refine g_skip (c := trellisref15_list_c15) rfl ?_
      refine g_seq (c := trellisref15_list_c12) rfl ?_
      refine g_block (c := trellisref15_list_c17) rfl ?_
      refine g_seq (c := trellisref15_list_c19) rfl ?_
      refine g_region (c := trellisref15_list_c20) rfl rfl ?_
      refine wl_v 0 rfl (v_move rfl) gn rfl ?_
      refine wl_v 1 rfl (v_move rfl) gn rfl ?_
      obtain ⟨hb121, h⟩ := h
      obtain ⟨ce123, hK124, hr122⟩ := Rw.read (s := St w []) h5 hb121
      obtain ⟨A125, n126, c127, rfl, h128⟩ := k_trellisref15_Tree_out hK124
      refine wl_v 2 rfl (v_idxR (s := St w []) slE_89 rfl rfl h5 hb121) gn rfl ?_
      refine wl_v 3 rfl (v_fldA fo_96_0 rfl) gn rfl ?_
      refine wl_v 4 rfl (v_ldA (St w []) ld_39 rfl (Rd.part (o := 0) (m := 7) hr122) rfl (me 1 rfl)) gn rfl ?_
      refine wl_s 5 rfl (s_alloc [.string (⟨#[]⟩ : ByteArray), .bool false, .string (⟨#[]⟩ : ByteArray), .int .i64 0, .int .i64 0, .int .i64 0, .int .i64 0] zr_39 rfl fun gb129 => ?_) gn
      refine wl_s 6 rfl (s_stB (vs := [.string (((ix x1 x66).node).name), .bool (((ix x1 x66).node).named), .string (((ix x1 x66).node).field), .int .i64 (((ix x1 x66).node).from_), .int .i64 (((ix x1 x66).node).to), .int .i64 (((ix x1 x66).node).kids), .int .i64 (((ix x1 x66).node).leaf)]) (cs' := [.string (((ix x1 x66).node).name), .bool (((ix x1 x66).node).named), .string (((ix x1 x66).node).field), .int .i64 (((ix x1 x66).node).from_), .int .i64 (((ix x1 x66).node).to), .int .i64 (((ix x1 x66).node).kids), .int .i64 (((ix x1 x66).node).leaf)]) (M' := [.box gb129 39 [.string (((ix x1 x66).node).name), .bool (((ix x1 x66).node).named), .string (((ix x1 x66).node).field), .int .i64 (((ix x1 x66).node).from_), .int .i64 (((ix x1 x66).node).to), .int .i64 (((ix x1 x66).node).kids), .int .i64 (((ix x1 x66).node).leaf)], .own (.slice A62 n63 c64) 39 7 n63 (x61.flatMap enc_api_Node)]) 0 sz_39 rfl rfl rfl rfl rfl rfl rfl rfl rfl ?_) gn
      refine w_end 7 rfl ?_
      refine g_seq (c := trellisref15_list_c21) rfl ?_
      refine g_region (c := trellisref15_list_c22) rfl rfl ?_
      refine wl_v 0 rfl (v_move rfl) gn rfl ?_
      refine wl_v 1 rfl (v_move rfl) gn rfl ?_
      obtain ⟨ce132, hK133, hr131⟩ := Rw.read (s := St w []) h5 hb121
      obtain ⟨A134, n135, c136, rfl, h137⟩ := k_trellisref15_Tree_out hK133
      refine wl_v 2 rfl (v_idxR (s := St w []) slE_89 rfl rfl h5 hb121) gn rfl ?_
      refine wl_v 3 rfl (v_fldA fo_96_1 rfl) gn rfl ?_
      refine wl_v 4 rfl (v_ldA1 (kk := (x66 : Int).toNat * 9) (j := 7) (St w []) ld_89 rfl hr131 rfl (me 1 rfl)) gn rfl ?_
      refine wl_v 5 rfl (v_lenQ un_89 rfl h137.hq) gn rfl ?_
      refine wl_v 6 rfl (v_fldB fo_39_5 rfl) gn rfl ?_
      refine wl_s 7 rfl (s_stB (vs := [.int .i64 (((ix x1 x66).kids).length : Int)]) (cs' := [.string (((ix x1 x66).node).name), .bool (((ix x1 x66).node).named), .string (((ix x1 x66).node).field), .int .i64 (((ix x1 x66).node).from_), .int .i64 (((ix x1 x66).node).to), .int .i64 (((ix x1 x66).kids).length : Int), .int .i64 (((ix x1 x66).node).leaf)]) (M' := [.box gb129 39 [.string (((ix x1 x66).node).name), .bool (((ix x1 x66).node).named), .string (((ix x1 x66).node).field), .int .i64 (((ix x1 x66).node).from_), .int .i64 (((ix x1 x66).node).to), .int .i64 (((ix x1 x66).kids).length : Int), .int .i64 (((ix x1 x66).node).leaf)], .own (.slice A62 n63 c64) 39 7 n63 (x61.flatMap enc_api_Node)]) 0 sz_3 rfl rfl rfl rfl rfl rfl rfl rfl rfl ?_) gn
      refine w_end 8 rfl ?_
      refine g_seq (c := trellisref15_list_c23) rfl ?_
      refine g_region (c := trellisref15_list_c24) rfl rfl ?_
      refine wl_v 0 rfl (v_move rfl) gn rfl ?_
      refine wl_v 1 rfl (v_ldB [.string (((ix x1 x66).node).name), .bool (((ix x1 x66).node).named), .string (((ix x1 x66).node).field), .int .i64 (((ix x1 x66).node).from_), .int .i64 (((ix x1 x66).node).to), .int .i64 (((ix x1 x66).kids).length : Int), .int .i64 (((ix x1 x66).node).leaf)] 0 ld_39 rfl rfl rfl rfl) gn rfl ?_
      refine wl_s 2 rfl (s_litO (xs := ([(⟨((ix x1 x66).node).name, ((ix x1 x66).node).named, ((ix x1 x66).node).field, ((ix x1 x66).node).from_, ((ix x1 x66).node).to, (((ix x1 x66).kids).length : Int), ((ix x1 x66).node).leaf⟩ : api_Node)] : List api_Node)) [.string (((ix x1 x66).node).name), .bool (((ix x1 x66).node).named), .string (((ix x1 x66).node).field), .int .i64 (((ix x1 x66).node).from_), .int .i64 (((ix x1 x66).node).to), .int .i64 (((ix x1 x66).kids).length : Int), .int .i64 (((ix x1 x66).node).leaf)] bs_22_1 rfl (by kernel_rfl) rfl rfl rfl rfl fun gb139 h140 => ?_) gn
      obtain ⟨x144, hv145, h⟩ := h
      obtain ⟨hb146, h⟩ := h
      refine wl_s 3 rfl (s_app (zs := x144) (cells' := x144.flatMap enc_api_Node) 2 ap_22 rfl rfl rfl h65 (Nat.le_refl _) (Src.ownF (hl := hl_api_Node) (h1 := h1_api_Node) 0 rfl h140) (by rw [hv145, List.flatMap_append] <;> rfl) (app_len hv145 h140.hq) hb146 rfl rfl fun A141 c142 h143 => ?_) gn
      refine wl_v 4 rfl (v_assign rfl) gn rfl ?_
      refine w_end 5 rfl ?_
      refine g_seq (c := trellisref15_list_c25) rfl ?_
      refine g_region (c := trellisref15_list_c26) rfl rfl ?_
      refine wl_v 0 rfl (v_move rfl) gn rfl ?_
      refine wl_v 1 rfl (v_move rfl) gn rfl ?_
      obtain ⟨ce148, hK149, hr147⟩ := Rw.read (s := St w []) h5 hb121
      obtain ⟨A150, n151, c152, rfl, h153⟩ := k_trellisref15_Tree_out hK149
      refine wl_v 2 rfl (v_idxR (s := St w []) slE_89 rfl rfl h5 hb121) gn rfl ?_
      refine wl_v 3 rfl (v_fldA fo_96_1 rfl) gn rfl ?_
      refine wl_v 4 rfl (v_ldA1 (kk := (x66 : Int).toNat * 9) (j := 7) (St w []) ld_89 rfl hr147 rfl (me 1 rfl)) gn rfl ?_
      obtain ⟨r157, hv158, h⟩ := h
      refine wl_s 5 rfl (s_call [.slice A150 n151 c152] rfl Try.func64 rfl rfl rfl fun w154 hL155 => ?_) gn
      have hp156 : List.Perm ([.own (.slice (some ⟨gb139, 0, none⟩) 1 1) 39 7 1 (([(⟨((ix x1 x66).node).name, ((ix x1 x66).node).named, ((ix x1 x66).node).field, ((ix x1 x66).node).from_, ((ix x1 x66).node).to, (((ix x1 x66).kids).length : Int), ((ix x1 x66).node).leaf⟩ : api_Node)] : List api_Node).flatMap enc_api_Node), .box gb129 39 [.string (((ix x1 x66).node).name), .bool (((ix x1 x66).node).named), .string (((ix x1 x66).node).field), .int .i64 (((ix x1 x66).node).from_), .int .i64 (((ix x1 x66).node).to), .int .i64 (((ix x1 x66).kids).length : Int), .int .i64 (((ix x1 x66).node).leaf)], .own (.slice A141 (n63 + 1) c142) 39 7 (n63 + 1) (x144.flatMap enc_api_Node)] : List Ent) (([] : List Ent) ++ ([.own (.slice (some ⟨gb139, 0, none⟩) 1 1) 39 7 1 (([(⟨((ix x1 x66).node).name, ((ix x1 x66).node).named, ((ix x1 x66).node).field, ((ix x1 x66).node).from_, ((ix x1 x66).node).to, (((ix x1 x66).kids).length : Int), ((ix x1 x66).node).leaf⟩ : api_Node)] : List api_Node).flatMap enc_api_Node), .box gb129 39 [.string (((ix x1 x66).node).name), .bool (((ix x1 x66).node).named), .string (((ix x1 x66).node).field), .int .i64 (((ix x1 x66).node).from_), .int .i64 (((ix x1 x66).node).to), .int .i64 (((ix x1 x66).kids).length : Int), .int .i64 (((ix x1 x66).node).leaf)], .own (.slice A141 (n63 + 1) c142) 39 7 (n63 + 1) (x144.flatMap enc_api_Node)] : List Ent)) := perm_of_idx [] [0, 1, 2] rfl rfl (by kernel_rfl)
      refine Calls.mono (ih_trellisref15_list w154 (Fl ([] : List Snap)) ((ix x1 x66).kids) A150 n151 c152 (Rw.mono h153 (hL155.toSt hp156 (me 1 rfl))) (hL155.hFl (Sl := ([] : List Snap)) hp156 (sels [] rfl)) (hL155.into hp156 (Fl ([] : List Snap))) r157 hv158) ?_
      rintro _ w164 ⟨A159, n160, c161, rfl, hM165, h162⟩
      have hL166 := hL155.call hp156 hM165
      refine ⟨_, _, _, rfl, hL166, ?_⟩
      refine wl_v 6 rfl (v_assign rfl) gn rfl ?_
      refine w_end 7 rfl ?_
      refine g_region (c := trellisref15_list_c27) rfl rfl ?_
      refine wl_v 0 rfl (v_move rfl) gn rfl ?_
      refine wl_v 1 rfl (v_move rfl) gn rfl ?_
      obtain ⟨x170, hv171, h⟩ := h
      obtain ⟨hb172, h⟩ := h
      refine wl_s 2 rfl (s_app (zs := x170) (cells' := x170.flatMap enc_api_Node) 3 ap_22 rfl rfl rfl h143 (Nat.le_refl _) (Src.ownF (hl := hl_api_Node) (h1 := h1_api_Node) 0 rfl (Ow.weak hL155.env.size h162)) (by rw [hv171, List.flatMap_append] <;> rfl) (app_len hv171 (Ow.weak hL155.env.size h162).hq) hb172 rfl rfl fun A167 c168 h169 => ?_) gn
      refine wl_v 3 rfl (v_assign rfl) gn rfl ?_
      refine w_end 4 rfl ?_
      refine g_inBlock ?_
      refine g_region (c := trellisref15_list_c18) rfl rfl ?_
      refine wl_v 0 rfl (v_move rfl) gn rfl ?_
      refine wl_v 1 rfl (v_bin rfl rfl rfl) gn rfl ?_
      refine wl_v 2 rfl (v_assign rfl) gn rfl ?_
      refine w_end 3 rfl ?_
      refine g_inLoop ?_
      have ih := Out.inl hO1 h
      exact g_go [0, 1] (ih A167 ((n63 + 1) + n160) c168 h169) ⟨rfl, rfl, rfl, trivial⟩ (.cons _ (.cons _ (.cons _ (.cons_cons _ (.slnil))))) rfl
    · have h := if_neg' hp120 h
      refine g_false (c := trellisref15_list_c14) rfl _ rfl ((decide_eq_false hp120)) ?_
      refine g_exit (c := trellisref15_list_c16) [.code trellisref15_list_c6] rfl rfl ?_
      refine g_seq (c := trellisref15_list_c6) rfl ?_
      refine g_region (c := trellisref15_list_c28) rfl rfl ?_
      refine wl_v 0 rfl (v_move rfl) gn rfl ?_
      refine wl_v 1 rfl (v_assign rfl) gn rfl ?_
      refine w_end 2 rfl ?_
      have h := Out.inr hO1 h
      refine g_retR (c := trellisref15_list_c29) [.slice A62 n63 c64] rfl Try.func64 rfl (.tmp rfl (.nil)) fun wr hLr => ?_
      have hMr : B.Loc w wr [.own (.slice A62 n63 c64) 39 7 n63 (x61.flatMap enc_api_Node)] [St w []] := hLr.pick (rest := []) (perm_of_idx [0] [] rfl rfl (by kernel_rfl)) (sels [1] rfl)
      have hMi : ∀ e ∈ ([.own (.slice A62 n63 c64) 39 7 n63 (x61.flatMap enc_api_Node)] : List Ent), e ∈ ([.own (.slice A62 n63 c64) 39 7 n63 (x61.flatMap enc_api_Node)] : List Ent) := sels [0] rfl
      show trellisref15_list_R w F  r (.returned (packV [.slice A62 n63 c64])) wr
      rw [h]
      exact ⟨A62, n63, c64, rfl, hMr, h65⟩
  refine g_nil 39 7 ?_
  exact g_go [0, 1] (key1 _ h none 0 0 (Ow.nil (z := w.heap.size))) ⟨rfl, rfl, rfl, trivial⟩ (.cons_cons _ (.slnil)) rfl
theorem trellisref15_list_ind : ∀ n, trellisref15_list_st (trellisref15_list_n n)
  | 0 => fun w F x1 A2 n3 c4 h5 hF hL0 r h => h.elim
  | n + 1 => by
    have ih := trellisref15_list_ind n
    exact trellisref15_list_step _ ih
theorem trellisref15_list_calls (w : World) (F : Nat → Prop) (x1 : List trellisref15_Tree) (A2 : Option Addr) (n3 : Nat) (c4 : Nat) (h5 : Rw k_trellisref15_Tree w (St w []).av A2 n3 c4 x1) (hF : ∀ b, F b → b < w.heap.size ∧ ∀ o ∈ ([] : List (List Nat)), b ∉ o) (hL0 : B.Loc w w [] [Sm w.heap.size F w [], St w []]) (r : List api_Node) (h : trellisref15_list x1 r) : Calls Try.prog 64 #[.slice A2 n3 c4] w (trellisref15_list_R w F  r) := by
  obtain ⟨n, h⟩ := h
  exact (trellisref15_list_ind n) w F x1 A2 n3 c4 h5 hF hL0 r h
noncomputable abbrev tree_forest_beside_c0 : Code := bodyOf Try.f66
noncomputable abbrev tree_forest_beside_c1 : Code := Code.fst tree_forest_beside_c0
noncomputable abbrev tree_forest_beside_c2 : Code := Code.snd tree_forest_beside_c0
noncomputable abbrev tree_forest_beside_c3 : Code := Code.fst tree_forest_beside_c2
noncomputable abbrev tree_forest_beside_c4 : Code := Code.snd tree_forest_beside_c2
noncomputable abbrev tree_forest_beside_c5 : Code := Code.fst tree_forest_beside_c4
noncomputable abbrev tree_forest_beside_c6 : Code := Code.snd tree_forest_beside_c4
noncomputable abbrev tree_forest_beside_c7 : Code := Code.fst tree_forest_beside_c5
noncomputable abbrev tree_forest_beside_c8 : Code := Code.fst tree_forest_beside_c7
noncomputable abbrev tree_forest_beside_c9 : Code := Code.fst tree_forest_beside_c8
noncomputable abbrev tree_forest_beside_c10 : Code := Code.snd tree_forest_beside_c8
noncomputable abbrev tree_forest_beside_c11 : Code := Code.fst tree_forest_beside_c9
noncomputable abbrev tree_forest_beside_c12 : Code := Code.snd tree_forest_beside_c9
noncomputable abbrev tree_forest_beside_c13 : Code := Code.fst tree_forest_beside_c12
noncomputable abbrev tree_forest_beside_c14 : Code := Code.snd tree_forest_beside_c12
noncomputable abbrev tree_forest_beside_c15 : Code := Code.fst tree_forest_beside_c10
noncomputable abbrev tree_forest_beside_c16 : Code := Code.snd tree_forest_beside_c10
noncomputable abbrev tree_forest_beside_c17 : Code := Code.fst tree_forest_beside_c15
noncomputable abbrev tree_forest_beside_c18 : Code := Code.fst tree_forest_beside_c6
noncomputable abbrev tree_forest_beside_c19 : Code := Code.snd tree_forest_beside_c6
abbrev tree_forest_beside_R (w : World) (F : Nat → Prop) (r : List Int) : Ending → World → Prop := fun e w' => ∃ A0 : Option Addr, ∃ n0 : Nat, ∃ c0 : Nat, e = .returned (.slice A0 n0 c0) ∧ B.Loc w w' [.own (.slice A0 n0 c0) 3 1 n0 (r.flatMap (eI .i64))] [St w []] ∧ Ow w.heap.size A0 n0 c0 r
noncomputable abbrev tree_forest_beside_C (w : World) (F : Nat → Prop) (r : List Int) : Cx := ⟨Try.prog, 66, Try.f66, 21, tree_forest_beside_R w F  r, w⟩
theorem tree_forest_beside_calls (w : World) (F : Nat → Prop) (x1 : tree_forest) (x14 : Int) (x15 : Int) (A2 : Option Addr) (n3 : Nat) (c4 : Nat) (A6 : Option Addr) (n7 : Nat) (c8 : Nat) (A10 : Option Addr) (n11 : Nat) (c12 : Nat) (h5 : Rw k_api_Node w (St w []).av A2 n3 c4 x1.nodes) (h9 : Rw (kInt .i64) w (St w []).av A6 n7 c8 x1.parent) (h13 : Rw (kInt .i64) w (St w []).av A10 n11 c12 x1.end_) (hF : ∀ b, F b → b < w.heap.size ∧ ∀ o ∈ ([] : List (List Nat)), b ∉ o) (hL0 : B.Loc w w [] [Sm w.heap.size F w [], St w []]) (r : List Int) (h : tree_forest_beside x1 x14 x15 r) : Calls Try.prog 66 #[.agg #[.slice A2 n3 c4, .slice A6 n7 c8, .slice A10 n11 c12, .bool x1.ok], .int .i64 x14, .int .i64 x15] w (tree_forest_beside_R w F  r) := by
  unfold tree_forest_beside at h
  refine calls_of_Loc (vs := [.agg #[.slice A2 n3 c4, .slice A6 n7 c8, .slice A10 n11 c12, .bool x1.ok], .int .i64 x14, .int .i64 x15]) 21 Try.func66 rfl Try.ntmps66 rfl hL0 ?_
  show G (tree_forest_beside_C w F r) _ _ _ _
  refine g_seq (c := tree_forest_beside_c0) rfl ?_
  refine g_region (c := tree_forest_beside_c1) rfl rfl ?_
  refine wl_s 0 rfl (s_box [.slice A2 n3 c4, .slice A6 n7 c8, .slice A10 n11 c12, .bool x1.ok] rfl rfl rfl fun gb16 => ?_) gn
  refine wl_v 1 rfl (v_assign rfl) gn rfl ?_
  refine w_end 2 rfl ?_
  refine g_seq (c := tree_forest_beside_c2) rfl ?_
  refine g_region (c := tree_forest_beside_c3) rfl rfl ?_
  refine wl_v 0 rfl (v_assign rfl) gn rfl ?_
  refine w_end 1 rfl ?_
  refine g_seq (c := tree_forest_beside_c4) rfl ?_
  refine g_block (c := tree_forest_beside_c5) rfl ?_
  refine g_loop (c := tree_forest_beside_c7) rfl ?_
  have key1 : ∀ s, Rounds (fun (s : Int × (List Int)) o => tree_forest_beside_b1 x15 x1 s.1 s.2 o) s r → (fun (s : Int × (List Int)) => ∀ (A34 : Option Addr) (n35 : Nat) (c36 : Nat) (h37 : Ow w.heap.size A34 n35 c36 s.2), G (tree_forest_beside_C w F r) [.code tree_forest_beside_c8, .inLoop tree_forest_beside_c8, .inBlock 0, .code tree_forest_beside_c6] [(1, .int .i64 s.1), (2, .int .i64 x15), (3, .pointer (some ⟨gb16, 0, none⟩)), (7, .slice A34 n35 c36)] [.own (.slice A34 n35 c36) 3 1 n35 (s.2.flatMap (eI .i64)), .box gb16 32 [.slice A2 n3 c4, .slice A6 n7 c8, .slice A10 n11 c12, .bool x1.ok]] [Sm w.heap.size F w [], St w []]) s := by
    intro s hs
    refine Rounds.ind (mot := (fun (s : Int × (List Int)) => ∀ (A34 : Option Addr) (n35 : Nat) (c36 : Nat) (h37 : Ow w.heap.size A34 n35 c36 s.2), G (tree_forest_beside_C w F r) [.code tree_forest_beside_c8, .inLoop tree_forest_beside_c8, .inBlock 0, .code tree_forest_beside_c6] [(1, .int .i64 s.1), (2, .int .i64 x15), (3, .pointer (some ⟨gb16, 0, none⟩)), (7, .slice A34 n35 c36)] [.own (.slice A34 n35 c36) 3 1 n35 (s.2.flatMap (eI .i64)), .box gb16 32 [.slice A2 n3 c4, .slice A6 n7 c8, .slice A10 n11 c12, .bool x1.ok]] [Sm w.heap.size F w [], St w []])) ?_ hs
    clear hs s
    intro s o1 h hO1
    obtain ⟨x32, x33⟩ := s
    show ∀ (A34 : Option Addr) (n35 : Nat) (c36 : Nat) (h37 : Ow w.heap.size A34 n35 c36 x33), G (tree_forest_beside_C w F r) [.code tree_forest_beside_c8, .inLoop tree_forest_beside_c8, .inBlock 0, .code tree_forest_beside_c6] [(1, .int .i64 x32), (2, .int .i64 x15), (3, .pointer (some ⟨gb16, 0, none⟩)), (7, .slice A34 n35 c36)] [.own (.slice A34 n35 c36) 3 1 n35 (x33.flatMap (eI .i64)), .box gb16 32 [.slice A2 n3 c4, .slice A6 n7 c8, .slice A10 n11 c12, .bool x1.ok]] [Sm w.heap.size F w [], St w []]
    intro A34 n35 c36 h37
    have h : tree_forest_beside_b1 x15 x1 x32 x33 o1 := h
    unfold tree_forest_beside_b1 at h
    refine g_seq (c := tree_forest_beside_c8) rfl ?_
    refine g_seq (c := tree_forest_beside_c9) rfl ?_
    refine g_region (c := tree_forest_beside_c11) rfl rfl ?_
    refine wl_v 0 rfl (v_move rfl) gn rfl ?_
    refine wl_v 1 rfl (v_move rfl) gn rfl ?_
    refine wl_v 2 rfl (v_bin rfl rfl rfl) gn rfl ?_
    refine w_end 3 rfl ?_
    by_cases hp50 : x32 < x15
    · have h := if_pos' hp50 h
      refine g_true (c := tree_forest_beside_c12) rfl _ rfl ((decide_eq_true hp50)) ?_
      refine g_skip (c := tree_forest_beside_c13) rfl ?_
      refine g_seq (c := tree_forest_beside_c10) rfl ?_
      refine g_block (c := tree_forest_beside_c15) rfl ?_
      refine g_region (c := tree_forest_beside_c17) rfl rfl ?_
      refine wl_v 0 rfl (v_move rfl) gn rfl ?_
      refine wl_v 1 rfl (v_move rfl) gn rfl ?_
      refine wl_s 2 rfl (s_litO (xs := ([x32] : List Int)) [.int .i64 x32] bs_23_1 rfl (by kernel_rfl) rfl rfl rfl rfl fun gb52 h53 => ?_) gn
      obtain ⟨x57, hv58, h⟩ := h
      obtain ⟨hb59, h⟩ := h
      refine wl_s 3 rfl (s_app (zs := x57) (cells' := x57.flatMap (eI .i64)) 1 ap_23 rfl rfl rfl h37 (Nat.le_refl _) (Src.ownF (hl := (hlI .i64)) (h1 := (hone_int .i64)) 0 rfl h53) (by rw [hv58, List.flatMap_append] <;> rfl) (app_len hv58 h53.hq) hb59 rfl rfl fun A54 c55 h56 => ?_) gn
      refine wl_v 4 rfl (v_assign rfl) gn rfl ?_
      refine w_end 5 rfl ?_
      refine g_inBlock ?_
      refine g_region (c := tree_forest_beside_c16) rfl rfl ?_
      refine wl_v 0 rfl (v_fldB fo_32_2 rfl) gn rfl ?_
      refine wl_v 1 rfl (v_ldB1 2 ld_23 rfl rfl rfl) gn rfl ?_
      refine wl_v 2 rfl (v_move rfl) gn rfl ?_
      obtain ⟨hb60, h⟩ := h
      have hr61 := Rw.readF (s := St w []) (hl := (hlI .i64)) (h1 := (hone_int .i64)) h13 hb60
      refine wl_v 3 rfl (v_idxR (s := St w []) slE_23 rfl rfl h13 hb60) gn rfl ?_
      refine wl_v 4 rfl (v_ldA1 (kk := (x32 : Int).toNat * 1) (j := 0) (St w []) ld_3 rfl hr61 rfl (me 1 rfl)) gn rfl ?_
      refine wl_v 5 rfl (v_assign rfl) gn rfl ?_
      refine w_end 6 rfl ?_
      refine g_inLoop ?_
      have ih := Out.inl hO1 h
      exact g_go [0, 1] (ih A54 (n35 + 1) c55 h56) ⟨rfl, rfl, rfl, rfl, trivial⟩ (.cons _ (.cons_cons _ (.cons_cons _ (.slnil)))) rfl
    · have h := if_neg' hp50 h
      refine g_false (c := tree_forest_beside_c12) rfl _ rfl ((decide_eq_false hp50)) ?_
      refine g_exit (c := tree_forest_beside_c14) [.code tree_forest_beside_c6] rfl rfl ?_
      refine g_seq (c := tree_forest_beside_c6) rfl ?_
      refine g_region (c := tree_forest_beside_c18) rfl rfl ?_
      refine wl_v 0 rfl (v_move rfl) gn rfl ?_
      refine wl_v 1 rfl (v_assign rfl) gn rfl ?_
      refine w_end 2 rfl ?_
      have h := Out.inr hO1 h
      refine g_retR (c := tree_forest_beside_c19) [.slice A34 n35 c36] rfl Try.func66 rfl (.tmp rfl (.nil)) fun wr hLr => ?_
      have hMr : B.Loc w wr [.own (.slice A34 n35 c36) 3 1 n35 (x33.flatMap (eI .i64))] [St w []] := hLr.pick (rest := [.box gb16 32 [.slice A2 n3 c4, .slice A6 n7 c8, .slice A10 n11 c12, .bool x1.ok]]) (perm_of_idx [0] [1] rfl rfl (by kernel_rfl)) (sels [1] rfl)
      have hMi : ∀ e ∈ ([.own (.slice A34 n35 c36) 3 1 n35 (x33.flatMap (eI .i64))] : List Ent), e ∈ ([.own (.slice A34 n35 c36) 3 1 n35 (x33.flatMap (eI .i64)), .box gb16 32 [.slice A2 n3 c4, .slice A6 n7 c8, .slice A10 n11 c12, .bool x1.ok]] : List Ent) := sels [0] rfl
      show tree_forest_beside_R w F  r (.returned (packV [.slice A34 n35 c36])) wr
      rw [h]
      exact ⟨A34, n35, c36, rfl, hMr, h37⟩
  refine g_nil 3 1 ?_
  exact g_go [0, 1] (key1 _ h none 0 0 (Ow.nil (z := w.heap.size))) ⟨rfl, rfl, rfl, rfl, trivial⟩ (.cons_cons _ (.cons_cons _ (.slnil))) rfl
noncomputable abbrev tree_roots_c0 : Code := bodyOf Try.f65
noncomputable abbrev tree_roots_c1 : Code := Code.fst tree_roots_c0
noncomputable abbrev tree_roots_c2 : Code := Code.snd tree_roots_c0
noncomputable abbrev tree_roots_c3 : Code := Code.fst tree_roots_c2
noncomputable abbrev tree_roots_c4 : Code := Code.snd tree_roots_c2
noncomputable abbrev tree_roots_c5 : Code := Code.fst tree_roots_c4
noncomputable abbrev tree_roots_c6 : Code := Code.snd tree_roots_c4
noncomputable abbrev tree_roots_c7 : Code := Code.fst tree_roots_c5
noncomputable abbrev tree_roots_c8 : Code := Code.snd tree_roots_c5
noncomputable abbrev tree_roots_c9 : Code := Code.fst tree_roots_c8
noncomputable abbrev tree_roots_c10 : Code := Code.snd tree_roots_c8
noncomputable abbrev tree_roots_c11 : Code := Code.fst tree_roots_c6
noncomputable abbrev tree_roots_c12 : Code := Code.snd tree_roots_c6
noncomputable abbrev tree_roots_c13 : Code := Code.fst tree_roots_c9
noncomputable abbrev tree_roots_c14 : Code := Code.snd tree_roots_c9
abbrev tree_roots_R (w : World) (F : Nat → Prop) (r : List Int) : Ending → World → Prop := fun e w' => ∃ A0 : Option Addr, ∃ n0 : Nat, ∃ c0 : Nat, e = .returned (.slice A0 n0 c0) ∧ B.Loc w w' [.own (.slice A0 n0 c0) 3 1 n0 (r.flatMap (eI .i64))] [St w []] ∧ Ow w.heap.size A0 n0 c0 r
noncomputable abbrev tree_roots_C (w : World) (F : Nat → Prop) (r : List Int) : Cx := ⟨Try.prog, 65, Try.f65, 13, tree_roots_R w F  r, w⟩
theorem tree_roots_calls (w : World) (F : Nat → Prop) (x1 : List api_Node) (A2 : Option Addr) (n3 : Nat) (c4 : Nat) (h5 : Rw k_api_Node w (St w []).av A2 n3 c4 x1) (hF : ∀ b, F b → b < w.heap.size ∧ ∀ o ∈ ([] : List (List Nat)), b ∉ o) (hL0 : B.Loc w w [] [Sm w.heap.size F w [], St w []]) (r : List Int) (h : tree_roots x1 r) : Calls Try.prog 65 #[.slice A2 n3 c4] w (tree_roots_R w F  r) := by
  unfold tree_roots at h
  refine calls_of_Loc (vs := [.slice A2 n3 c4]) 13 Try.func65 rfl Try.ntmps65 rfl hL0 ?_
  show G (tree_roots_C w F r) _ _ _ _
  refine g_seq (c := tree_roots_c0) rfl ?_
  refine g_region (c := tree_roots_c1) rfl rfl ?_
  refine wl_v 0 rfl (v_assign rfl) gn rfl ?_
  refine w_end 1 rfl ?_
  refine g_seq (c := tree_roots_c2) rfl ?_
  refine g_region (c := tree_roots_c3) rfl rfl ?_
  refine wl_v 0 rfl (v_move rfl) gn rfl ?_
  obtain ⟨r9, hv10, h⟩ := h
  refine wl_s 1 rfl (s_call [.slice A2 n3 c4] rfl Try.func44 rfl rfl rfl fun w6 hL7 => ?_) gn
  have hp8 : List.Perm ([] : List Ent) (([] : List Ent) ++ ([] : List Ent)) := perm_of_idx [] [] rfl rfl (by kernel_rfl)
  refine Calls.mono (tree_plant_calls w6 (Fl ([St w []] : List Snap)) x1 A2 n3 c4 (Rw.mono h5 (hL7.toFl (me 1 rfl) (me 0 rfl))) (hL7.hFl (Sl := ([St w []] : List Snap)) hp8 (sels [1] rfl)) (hL7.into hp8 (Fl ([St w []] : List Snap))) r9 hv10) ?_
  rintro _ w25 ⟨A15, n16, c17, A20, n21, c22, A11, n12, c13, rfl, hM26, h18, h23, h14⟩
  obtain ⟨sv29, hL27, hv28⟩ := hL7.callN (Sl := ([St w []] : List Snap)) hp8 hM26 (sels [1] rfl)
  have h14 : At k_api_Node (sv29) A11 n12 c13 r9.nodes := Rw.mono h14 hv28
  refine ⟨_, _, _, rfl, hL27, ?_⟩
  refine wl_s 2 rfl (s_alloc [.slice none 0 0, .slice none 0 0, .slice none 0 0, .bool false] zr_32 rfl fun gb30 => ?_) gn
  refine wl_s 3 rfl (s_stB (vs := [.slice A11 n12 c13, .slice A15 n16 c17, .slice A20 n21 c22, .bool r9.ok]) (cs' := [.slice A11 n12 c13, .slice A15 n16 c17, .slice A20 n21 c22, .bool r9.ok]) (M' := [.box gb30 32 [.slice A11 n12 c13, .slice A15 n16 c17, .slice A20 n21 c22, .bool r9.ok], .own (.slice A15 n16 c17) 3 1 n16 (r9.parent.flatMap (eI .i64)), .own (.slice A20 n21 c22) 3 1 n21 (r9.end_.flatMap (eI .i64))]) 0 sz_32 rfl rfl rfl rfl rfl rfl rfl rfl rfl ?_) gn
  refine w_end 4 rfl ?_
  refine g_seq (c := tree_roots_c4) rfl ?_
  refine g_seq (c := tree_roots_c5) rfl ?_
  refine g_region (c := tree_roots_c7) rfl rfl ?_
  refine wl_v 0 rfl (v_fldB fo_32_3 rfl) gn rfl ?_
  refine wl_v 1 rfl (v_ldB1 0 ld_4 rfl rfl rfl) gn rfl ?_
  refine wl_v 2 rfl (v_not rfl) gn rfl ?_
  refine w_end 3 rfl ?_
  by_cases hp32 : r9.ok = true
  · have h := if_pos' hp32 h
    refine g_false (c := tree_roots_c8) rfl _ rfl ((nf hp32)) ?_
    refine g_skip (c := tree_roots_c10) rfl ?_
    refine g_seq (c := tree_roots_c6) rfl ?_
    refine g_region (c := tree_roots_c11) rfl rfl ?_
    refine wl_v 0 rfl (v_ldB [.slice A11 n12 c13, .slice A15 n16 c17, .slice A20 n21 c22, .bool r9.ok] 0 ld_32 rfl rfl rfl rfl) gn rfl ?_
    refine wl_v 1 rfl (v_move rfl) gn rfl ?_
    refine wl_v 2 rfl (v_lenQ un_22 rfl h5.hq) gn rfl ?_
    obtain ⟨r36, hv37, h⟩ := h
    refine wl_s 3 rfl (s_call [.agg #[.slice A11 n12 c13, .slice A15 n16 c17, .slice A20 n21 c22, .bool r9.ok], .int .i64 0, .int .i64 (x1.length : Int)] rfl Try.func66 rfl rfl rfl fun w33 hL34 => ?_) gn
    have hp35 : List.Perm ([.box gb30 32 [.slice A11 n12 c13, .slice A15 n16 c17, .slice A20 n21 c22, .bool r9.ok], .own (.slice A15 n16 c17) 3 1 n16 (r9.parent.flatMap (eI .i64)), .own (.slice A20 n21 c22) 3 1 n21 (r9.end_.flatMap (eI .i64))] : List Ent) (([] : List Ent) ++ ([.box gb30 32 [.slice A11 n12 c13, .slice A15 n16 c17, .slice A20 n21 c22, .bool r9.ok], .own (.slice A15 n16 c17) 3 1 n16 (r9.parent.flatMap (eI .i64)), .own (.slice A20 n21 c22) 3 1 n21 (r9.end_.flatMap (eI .i64))] : List Ent)) := perm_of_idx [] [0, 1, 2] rfl rfl (by kernel_rfl)
    refine Calls.mono (tree_forest_beside_calls w33 (Fl ([] : List Snap)) r9 0 (x1.length : Int) A11 n12 c13 A15 n16 c17 A20 n21 c22 (Rw.mono h14 (hL34.toSt hp35 (me 0 rfl))) (hL34.argO (dk := (kInt .i64)) hp35 [] rfl 1 rfl rfl (Ow.weak hL7.env.size h18) (me 1 rfl) (Cells.flat _)) (hL34.argO (dk := (kInt .i64)) hp35 [] rfl 2 rfl rfl (Ow.weak hL7.env.size h23) (me 1 rfl) (Cells.flat _)) (hL34.hFl (Sl := ([] : List Snap)) hp35 (sels [] rfl)) (hL34.into hp35 (Fl ([] : List Snap))) r36 hv37) ?_
    rintro _ w43 ⟨A38, n39, c40, rfl, hM44, h41⟩
    have hL45 := hL34.call hp35 hM44
    refine ⟨_, _, _, rfl, hL45, ?_⟩
    refine wl_v 4 rfl (v_assign rfl) gn rfl ?_
    refine w_end 5 rfl ?_
    refine g_retR (c := tree_roots_c12) [.slice A38 n39 c40] rfl Try.func65 rfl (.tmp rfl (.nil)) fun wr hLr => ?_
    have hMr : B.Loc w wr [.own (.slice A38 n39 c40) 3 1 n39 (r36.flatMap (eI .i64))] [St w []] := hLr.pick (rest := [.box gb30 32 [.slice A11 n12 c13, .slice A15 n16 c17, .slice A20 n21 c22, .bool r9.ok], .own (.slice A15 n16 c17) 3 1 n16 (r9.parent.flatMap (eI .i64)), .own (.slice A20 n21 c22) 3 1 n21 (r9.end_.flatMap (eI .i64))]) (perm_of_idx [0] [1, 2, 3] rfl rfl (by kernel_rfl)) (sels [2] rfl)
    have hMi : ∀ e ∈ ([.own (.slice A38 n39 c40) 3 1 n39 (r36.flatMap (eI .i64))] : List Ent), e ∈ ([.own (.slice A38 n39 c40) 3 1 n39 (r36.flatMap (eI .i64)), .box gb30 32 [.slice A11 n12 c13, .slice A15 n16 c17, .slice A20 n21 c22, .bool r9.ok], .own (.slice A15 n16 c17) 3 1 n16 (r9.parent.flatMap (eI .i64)), .own (.slice A20 n21 c22) 3 1 n21 (r9.end_.flatMap (eI .i64))] : List Ent) := sels [0] rfl
    show tree_roots_R w F  r (.returned (packV [.slice A38 n39 c40])) wr
    rw [h]
    exact ⟨A38, n39, c40, rfl, hMr, (Ow.weak hL34.env.size h41)⟩
  · have h := if_neg' hp32 h
    refine g_true (c := tree_roots_c8) rfl _ rfl ((nt (bf hp32))) ?_
    refine g_seq (c := tree_roots_c9) rfl ?_
    refine g_region (c := tree_roots_c13) rfl rfl ?_
    refine wl_v 0 rfl (v_assign rfl) gn rfl ?_
    refine w_end 1 rfl ?_
    refine g_nil 3 1 ?_
    refine g_retR (c := tree_roots_c14) [.slice none 0 0] rfl Try.func65 rfl (.tmp rfl (.nil)) fun wr hLr => ?_
    have hMr : B.Loc w wr [.own (.slice none 0 0) 3 1 0 (([] : List Int).flatMap (eI .i64))] [St w []] := hLr.pick (rest := [.box gb30 32 [.slice A11 n12 c13, .slice A15 n16 c17, .slice A20 n21 c22, .bool r9.ok], .own (.slice A15 n16 c17) 3 1 n16 (r9.parent.flatMap (eI .i64)), .own (.slice A20 n21 c22) 3 1 n21 (r9.end_.flatMap (eI .i64))]) (perm_of_idx [0] [1, 2, 3] rfl rfl (by kernel_rfl)) (sels [2] rfl)
    have hMi : ∀ e ∈ ([.own (.slice none 0 0) 3 1 0 (([] : List Int).flatMap (eI .i64))] : List Ent), e ∈ ([.own (.slice none 0 0) 3 1 0 (([] : List Int).flatMap (eI .i64)), .box gb30 32 [.slice A11 n12 c13, .slice A15 n16 c17, .slice A20 n21 c22, .bool r9.ok], .own (.slice A15 n16 c17) 3 1 n16 (r9.parent.flatMap (eI .i64)), .own (.slice A20 n21 c22) 3 1 n21 (r9.end_.flatMap (eI .i64))] : List Ent) := sels [0] rfl
    show tree_roots_R w F  r (.returned (packV [.slice none 0 0])) wr
    rw [h]
    exact ⟨none, 0, 0, rfl, hMr, (Ow.nil (z := w.heap.size))⟩
noncomputable abbrev tree_Roots_c0 : Code := bodyOf Try.f37
noncomputable abbrev tree_Roots_c1 : Code := Code.fst tree_Roots_c0
noncomputable abbrev tree_Roots_c2 : Code := Code.snd tree_Roots_c0
noncomputable abbrev tree_Roots_c3 : Code := Code.fst tree_Roots_c2
noncomputable abbrev tree_Roots_c4 : Code := Code.snd tree_Roots_c2
noncomputable abbrev tree_Roots_c5 : Code := Code.fst tree_Roots_c3
noncomputable abbrev tree_Roots_c6 : Code := Code.snd tree_Roots_c3
noncomputable abbrev tree_Roots_c7 : Code := Code.fst tree_Roots_c6
noncomputable abbrev tree_Roots_c8 : Code := Code.snd tree_Roots_c6
noncomputable abbrev tree_Roots_c9 : Code := Code.fst tree_Roots_c4
noncomputable abbrev tree_Roots_c10 : Code := Code.snd tree_Roots_c4
noncomputable abbrev tree_Roots_c11 : Code := Code.fst tree_Roots_c7
noncomputable abbrev tree_Roots_c12 : Code := Code.snd tree_Roots_c7
abbrev tree_Roots_R (w : World) (F : Nat → Prop) (r : Int) : Ending → World → Prop := fun e w' => e = .returned (.int .i64 r) ∧ B.Loc w w' [] [St w []]
noncomputable abbrev tree_Roots_C (w : World) (F : Nat → Prop) (r : Int) : Cx := ⟨Try.prog, 37, Try.f37, 10, tree_Roots_R w F  r, w⟩
theorem tree_Roots_calls (w : World) (F : Nat → Prop) (x1 : List api_Node) (A2 : Option Addr) (n3 : Nat) (c4 : Nat) (h5 : Rw k_api_Node w (St w []).av A2 n3 c4 x1) (hF : ∀ b, F b → b < w.heap.size ∧ ∀ o ∈ ([] : List (List Nat)), b ∉ o) (hL0 : B.Loc w w [] [Sm w.heap.size F w [], St w []]) (r : Int) (h : tree_Roots x1 r) : Calls Try.prog 37 #[.slice A2 n3 c4] w (tree_Roots_R w F  r) := by
  unfold tree_Roots at h
  refine calls_of_Loc (vs := [.slice A2 n3 c4]) 10 Try.func37 rfl Try.ntmps37 rfl hL0 ?_
  show G (tree_Roots_C w F r) _ _ _ _
  refine g_seq (c := tree_Roots_c0) rfl ?_
  refine g_region (c := tree_Roots_c1) rfl rfl ?_
  refine wl_v 0 rfl (v_assign rfl) gn rfl ?_
  refine w_end 1 rfl ?_
  refine g_seq (c := tree_Roots_c2) rfl ?_
  refine g_seq (c := tree_Roots_c3) rfl ?_
  refine g_region (c := tree_Roots_c5) rfl rfl ?_
  refine wl_v 0 rfl (v_move rfl) gn rfl ?_
  obtain ⟨r9, hv10, h⟩ := h
  refine wl_s 1 rfl (s_call [.slice A2 n3 c4] rfl Try.func44 rfl rfl rfl fun w6 hL7 => ?_) gn
  have hp8 : List.Perm ([] : List Ent) (([] : List Ent) ++ ([] : List Ent)) := perm_of_idx [] [] rfl rfl (by kernel_rfl)
  refine Calls.mono (tree_plant_calls w6 (Fl ([St w []] : List Snap)) x1 A2 n3 c4 (Rw.mono h5 (hL7.toFl (me 1 rfl) (me 0 rfl))) (hL7.hFl (Sl := ([St w []] : List Snap)) hp8 (sels [1] rfl)) (hL7.into hp8 (Fl ([St w []] : List Snap))) r9 hv10) ?_
  rintro _ w25 ⟨A15, n16, c17, A20, n21, c22, A11, n12, c13, rfl, hM26, h18, h23, h14⟩
  obtain ⟨sv29, hL27, hv28⟩ := hL7.callN (Sl := ([St w []] : List Snap)) hp8 hM26 (sels [1] rfl)
  have h14 : At k_api_Node (sv29) A11 n12 c13 r9.nodes := Rw.mono h14 hv28
  refine ⟨_, _, _, rfl, hL27, ?_⟩
  refine wl_v 2 rfl (v_field1 fd_32_3 rfl rfl) gn rfl ?_
  refine wl_v 3 rfl (v_not rfl) gn rfl ?_
  refine w_end 4 rfl ?_
  by_cases hp30 : r9.ok = true
  · have h := if_pos' hp30 h
    refine g_false (c := tree_Roots_c6) rfl _ rfl ((nf hp30)) ?_
    refine g_skip (c := tree_Roots_c8) rfl ?_
    refine g_seq (c := tree_Roots_c4) rfl ?_
    refine g_region (c := tree_Roots_c9) rfl rfl ?_
    refine wl_v 0 rfl (v_move rfl) gn rfl ?_
    obtain ⟨r34, hv35, h⟩ := h
    refine wl_s 1 rfl (s_call [.slice A2 n3 c4] rfl Try.func65 rfl rfl rfl fun w31 hL32 => ?_) gn
    have hp33 : List.Perm ([.own (.slice A15 n16 c17) 3 1 n16 (r9.parent.flatMap (eI .i64)), .own (.slice A20 n21 c22) 3 1 n21 (r9.end_.flatMap (eI .i64))] : List Ent) (([] : List Ent) ++ ([.own (.slice A15 n16 c17) 3 1 n16 (r9.parent.flatMap (eI .i64)), .own (.slice A20 n21 c22) 3 1 n21 (r9.end_.flatMap (eI .i64))] : List Ent)) := perm_of_idx [] [0, 1] rfl rfl (by kernel_rfl)
    refine Calls.mono (tree_roots_calls w31 (Fl ([] : List Snap)) x1 A2 n3 c4 (Rw.mono h5 (hL32.toSt hp33 (me 2 rfl))) (hL32.hFl (Sl := ([] : List Snap)) hp33 (sels [] rfl)) (hL32.into hp33 (Fl ([] : List Snap))) r34 hv35) ?_
    rintro _ w41 ⟨A36, n37, c38, rfl, hM42, h39⟩
    have hL43 := hL32.call hp33 hM42
    refine ⟨_, _, _, rfl, hL43, ?_⟩
    refine wl_v 2 rfl (v_lenQ un_23 rfl (Ow.weak hL32.env.size h39).hq) gn rfl ?_
    refine wl_v 3 rfl (v_assign rfl) gn rfl ?_
    refine w_end 4 rfl ?_
    refine g_retR (c := tree_Roots_c10) [.int .i64 (r34.length : Int)] rfl Try.func37 rfl (.tmp rfl (.nil)) fun wr hLr => ?_
    have hMr : B.Loc w wr [] [St w []] := hLr.pick (rest := [.own (.slice A36 n37 c38) 3 1 n37 (r34.flatMap (eI .i64)), .own (.slice A15 n16 c17) 3 1 n16 (r9.parent.flatMap (eI .i64)), .own (.slice A20 n21 c22) 3 1 n21 (r9.end_.flatMap (eI .i64))]) (perm_of_idx [] [0, 1, 2] rfl rfl (by kernel_rfl)) (sels [2] rfl)
    have hMi : ∀ e ∈ ([] : List Ent), e ∈ ([.own (.slice A36 n37 c38) 3 1 n37 (r34.flatMap (eI .i64)), .own (.slice A15 n16 c17) 3 1 n16 (r9.parent.flatMap (eI .i64)), .own (.slice A20 n21 c22) 3 1 n21 (r9.end_.flatMap (eI .i64))] : List Ent) := sels [] rfl
    show tree_Roots_R w F  r (.returned (packV [.int .i64 (r34.length : Int)])) wr
    rw [h]
    exact ⟨rfl, hMr⟩
  · have h := if_neg' hp30 h
    refine g_true (c := tree_Roots_c6) rfl _ rfl ((nt (bf hp30))) ?_
    refine g_seq (c := tree_Roots_c7) rfl ?_
    refine g_region (c := tree_Roots_c11) rfl rfl ?_
    refine wl_v 0 rfl (v_assign rfl) gn rfl ?_
    refine w_end 1 rfl ?_
    refine g_retR (c := tree_Roots_c12) [.int .i64 (-1)] rfl Try.func37 rfl (.tmp rfl (.nil)) fun wr hLr => ?_
    have hMr : B.Loc w wr [] [St w []] := hLr.pick (rest := [.own (.slice A15 n16 c17) 3 1 n16 (r9.parent.flatMap (eI .i64)), .own (.slice A20 n21 c22) 3 1 n21 (r9.end_.flatMap (eI .i64))]) (perm_of_idx [] [0, 1] rfl rfl (by kernel_rfl)) (sels [2] rfl)
    have hMi : ∀ e ∈ ([] : List Ent), e ∈ ([.own (.slice A15 n16 c17) 3 1 n16 (r9.parent.flatMap (eI .i64)), .own (.slice A20 n21 c22) 3 1 n21 (r9.end_.flatMap (eI .i64))] : List Ent) := sels [] rfl
    show tree_Roots_R w F  r (.returned (packV [.int .i64 (-1)])) wr
    rw [h]
    exact ⟨rfl, hMr⟩
noncomputable abbrev trellislaw15_sameInts_c0 : Code := bodyOf Try.f40
noncomputable abbrev trellislaw15_sameInts_c1 : Code := Code.fst trellislaw15_sameInts_c0
noncomputable abbrev trellislaw15_sameInts_c2 : Code := Code.snd trellislaw15_sameInts_c0
noncomputable abbrev trellislaw15_sameInts_c3 : Code := Code.fst trellislaw15_sameInts_c2
noncomputable abbrev trellislaw15_sameInts_c4 : Code := Code.snd trellislaw15_sameInts_c2
noncomputable abbrev trellislaw15_sameInts_c5 : Code := Code.fst trellislaw15_sameInts_c3
noncomputable abbrev trellislaw15_sameInts_c6 : Code := Code.snd trellislaw15_sameInts_c3
noncomputable abbrev trellislaw15_sameInts_c7 : Code := Code.fst trellislaw15_sameInts_c6
noncomputable abbrev trellislaw15_sameInts_c8 : Code := Code.snd trellislaw15_sameInts_c6
noncomputable abbrev trellislaw15_sameInts_c9 : Code := Code.fst trellislaw15_sameInts_c4
noncomputable abbrev trellislaw15_sameInts_c10 : Code := Code.snd trellislaw15_sameInts_c4
noncomputable abbrev trellislaw15_sameInts_c11 : Code := Code.fst trellislaw15_sameInts_c9
noncomputable abbrev trellislaw15_sameInts_c12 : Code := Code.snd trellislaw15_sameInts_c9
noncomputable abbrev trellislaw15_sameInts_c13 : Code := Code.fst trellislaw15_sameInts_c12
noncomputable abbrev trellislaw15_sameInts_c14 : Code := Code.fst trellislaw15_sameInts_c13
noncomputable abbrev trellislaw15_sameInts_c15 : Code := Code.fst trellislaw15_sameInts_c14
noncomputable abbrev trellislaw15_sameInts_c16 : Code := Code.snd trellislaw15_sameInts_c14
noncomputable abbrev trellislaw15_sameInts_c17 : Code := Code.fst trellislaw15_sameInts_c15
noncomputable abbrev trellislaw15_sameInts_c18 : Code := Code.snd trellislaw15_sameInts_c15
noncomputable abbrev trellislaw15_sameInts_c19 : Code := Code.fst trellislaw15_sameInts_c18
noncomputable abbrev trellislaw15_sameInts_c20 : Code := Code.snd trellislaw15_sameInts_c18
noncomputable abbrev trellislaw15_sameInts_c21 : Code := Code.fst trellislaw15_sameInts_c16
noncomputable abbrev trellislaw15_sameInts_c22 : Code := Code.snd trellislaw15_sameInts_c16
noncomputable abbrev trellislaw15_sameInts_c23 : Code := Code.fst trellislaw15_sameInts_c21
noncomputable abbrev trellislaw15_sameInts_c24 : Code := Code.fst trellislaw15_sameInts_c23
noncomputable abbrev trellislaw15_sameInts_c25 : Code := Code.snd trellislaw15_sameInts_c23
noncomputable abbrev trellislaw15_sameInts_c26 : Code := Code.fst trellislaw15_sameInts_c25
noncomputable abbrev trellislaw15_sameInts_c27 : Code := Code.snd trellislaw15_sameInts_c25
noncomputable abbrev trellislaw15_sameInts_c28 : Code := Code.fst trellislaw15_sameInts_c26
noncomputable abbrev trellislaw15_sameInts_c29 : Code := Code.snd trellislaw15_sameInts_c26
noncomputable abbrev trellislaw15_sameInts_c30 : Code := Code.fst trellislaw15_sameInts_c10
noncomputable abbrev trellislaw15_sameInts_c31 : Code := Code.snd trellislaw15_sameInts_c10
noncomputable abbrev trellislaw15_sameInts_c32 : Code := Code.fst trellislaw15_sameInts_c7
noncomputable abbrev trellislaw15_sameInts_c33 : Code := Code.snd trellislaw15_sameInts_c7
abbrev trellislaw15_sameInts_R (w : World) (F : Nat → Prop) (r : Bool) : Ending → World → Prop := fun e w' => e = .returned (.bool r) ∧ B.Loc w w' [] [St w []]
noncomputable abbrev trellislaw15_sameInts_C (w : World) (F : Nat → Prop) (r : Bool) : Cx := ⟨Try.prog, 40, Try.f40, 26, trellislaw15_sameInts_R w F  r, w⟩
theorem trellislaw15_sameInts_calls (w : World) (F : Nat → Prop) (x1 : List Int) (x6 : List Int) (A2 : Option Addr) (n3 : Nat) (c4 : Nat) (A7 : Option Addr) (n8 : Nat) (c9 : Nat) (h5 : Rw (kInt .i64) w (St w []).av A2 n3 c4 x1) (h10 : Rw (kInt .i64) w (St w []).av A7 n8 c9 x6) (hF : ∀ b, F b → b < w.heap.size ∧ ∀ o ∈ ([] : List (List Nat)), b ∉ o) (hL0 : B.Loc w w [] [Sm w.heap.size F w [], St w []]) (r : Bool) (h : trellislaw15_sameInts x1 x6 r) : Calls Try.prog 40 #[.slice A2 n3 c4, .slice A7 n8 c9] w (trellislaw15_sameInts_R w F  r) := by
  unfold trellislaw15_sameInts at h
  refine calls_of_Loc (vs := [.slice A2 n3 c4, .slice A7 n8 c9]) 26 Try.func40 rfl Try.ntmps40 rfl hL0 ?_
  show G (trellislaw15_sameInts_C w F r) _ _ _ _
  refine g_seq (c := trellislaw15_sameInts_c0) rfl ?_
  refine g_region (c := trellislaw15_sameInts_c1) rfl rfl ?_
  refine wl_v 0 rfl (v_assign rfl) gn rfl ?_
  refine w_end 1 rfl ?_
  refine g_seq (c := trellislaw15_sameInts_c2) rfl ?_
  refine g_seq (c := trellislaw15_sameInts_c3) rfl ?_
  refine g_region (c := trellislaw15_sameInts_c5) rfl rfl ?_
  refine wl_v 0 rfl (v_move rfl) gn rfl ?_
  refine wl_v 1 rfl (v_lenQ un_23 rfl h5.hq) gn rfl ?_
  refine wl_v 2 rfl (v_move rfl) gn rfl ?_
  refine wl_v 3 rfl (v_lenQ un_23 rfl h10.hq) gn rfl ?_
  refine wl_v 4 rfl (v_bin rfl rfl rfl) gn rfl ?_
  refine w_end 5 rfl ?_
  by_cases hp11 : (x1.length : Int) = (x6.length : Int)
  · have h := if_pos' hp11 h
    refine g_false (c := trellislaw15_sameInts_c6) rfl _ rfl ((eqib hp11)) ?_
    refine g_skip (c := trellislaw15_sameInts_c8) rfl ?_
    refine g_seq (c := trellislaw15_sameInts_c4) rfl ?_
    refine g_seq (c := trellislaw15_sameInts_c9) rfl ?_
    refine g_region (c := trellislaw15_sameInts_c11) rfl rfl ?_
    refine wl_v 0 rfl (v_assign rfl) gn rfl ?_
    refine w_end 1 rfl ?_
    refine g_block (c := trellislaw15_sameInts_c12) rfl ?_
    refine g_loop (c := trellislaw15_sameInts_c13) rfl ?_
    have key1 : ∀ s, Rounds (fun (s : Int) o => trellislaw15_sameInts_b1 x1 x6 s o) s r → (fun (s : Int) => ∀ (_ : Unit), G (trellislaw15_sameInts_C w F r) [.code trellislaw15_sameInts_c14, .inLoop trellislaw15_sameInts_c14, .inBlock 0, .code trellislaw15_sameInts_c10] [(0, .slice A2 n3 c4), (1, .slice A7 n8 c9), (5, .int .i64 s)] [] [Sm w.heap.size F w [], St w []]) s := by
      intro s hs
      refine Rounds.ind (mot := (fun (s : Int) => ∀ (_ : Unit), G (trellislaw15_sameInts_C w F r) [.code trellislaw15_sameInts_c14, .inLoop trellislaw15_sameInts_c14, .inBlock 0, .code trellislaw15_sameInts_c10] [(0, .slice A2 n3 c4), (1, .slice A7 n8 c9), (5, .int .i64 s)] [] [Sm w.heap.size F w [], St w []])) ?_ hs
      clear hs s
      intro x23 o1 h hO1
      show ∀ (_ : Unit), G (trellislaw15_sameInts_C w F r) [.code trellislaw15_sameInts_c14, .inLoop trellislaw15_sameInts_c14, .inBlock 0, .code trellislaw15_sameInts_c10] [(0, .slice A2 n3 c4), (1, .slice A7 n8 c9), (5, .int .i64 x23)] [] [Sm w.heap.size F w [], St w []]
      intro _
      have h : trellislaw15_sameInts_b1 x1 x6 x23 o1 := h
      unfold trellislaw15_sameInts_b1 at h
      refine g_seq (c := trellislaw15_sameInts_c14) rfl ?_
      refine g_seq (c := trellislaw15_sameInts_c15) rfl ?_
      refine g_region (c := trellislaw15_sameInts_c17) rfl rfl ?_
      refine wl_v 0 rfl (v_move rfl) gn rfl ?_
      refine wl_v 1 rfl (v_move rfl) gn rfl ?_
      refine wl_v 2 rfl (v_lenQ un_23 rfl h5.hq) gn rfl ?_
      refine wl_v 3 rfl (v_bin rfl rfl rfl) gn rfl ?_
      refine w_end 4 rfl ?_
      by_cases hp34 : x23 < (x1.length : Int)
      · have h := if_pos' hp34 h
        refine g_true (c := trellislaw15_sameInts_c18) rfl _ rfl ((decide_eq_true hp34)) ?_
        refine g_skip (c := trellislaw15_sameInts_c19) rfl ?_
        refine g_seq (c := trellislaw15_sameInts_c16) rfl ?_
        refine g_block (c := trellislaw15_sameInts_c21) rfl ?_
        refine g_seq (c := trellislaw15_sameInts_c23) rfl ?_
        obtain ⟨hb35, h⟩ := h
        obtain ⟨hb37, h⟩ := h
        have hns : Region.noSelect (Code.ops trellislaw15_sameInts_c24) = true := by kernel_rfl
        refine g_drawF (c := trellislaw15_sameInts_c24) [] [Sm w.heap.size F w [], St w []] [] 9 rfl rfl mix rfl (.slnil) (sels [0, 1] rfl) ?_
        refine wf_v 0 rfl (v_move rfl) gn rfl hns (by kernel_rfl) (by kernel_rfl) rfl rfl ?_
        refine wf_v 1 rfl (v_move rfl) gn rfl hns (by kernel_rfl) (by kernel_rfl) rfl rfl ?_
        have hr41 := Rw.readF (s := St w []) (hl := (hlI .i64)) (h1 := (hone_int .i64)) h5 hb35
        refine wf_v 2 rfl (v_idxR (s := St w []) slE_23 rfl rfl h5 hb35) gn rfl hns (by kernel_rfl) (by kernel_rfl) rfl rfl ?_
        refine wf_v 3 rfl (v_ldA1 (kk := (x23 : Int).toNat * 1) (j := 0) (St w []) ld_3 rfl hr41 rfl (me 1 rfl)) gn rfl hns (by kernel_rfl) (by kernel_rfl) rfl rfl ?_
        refine wf_v 4 rfl (v_move rfl) gn rfl hns (by kernel_rfl) (by kernel_rfl) rfl rfl ?_
        refine wf_v 5 rfl (v_move rfl) gn rfl hns (by kernel_rfl) (by kernel_rfl) rfl rfl ?_
        have hr42 := Rw.readF (s := St w []) (hl := (hlI .i64)) (h1 := (hone_int .i64)) h10 hb37
        refine wf_v 6 rfl (v_idxR (s := St w []) slE_23 rfl rfl h10 hb37) gn rfl hns (by kernel_rfl) (by kernel_rfl) rfl rfl ?_
        refine wf_v 7 rfl (v_ldA1 (kk := (x23 : Int).toNat * 1) (j := 0) (St w []) ld_3 rfl hr42 rfl (me 1 rfl)) gn rfl hns (by kernel_rfl) (by kernel_rfl) rfl rfl ?_
        refine wf_v 8 rfl (v_bin rfl rfl rfl) gn rfl hns (by kernel_rfl) (by kernel_rfl) rfl rfl ?_
        refine wf_end (by kernel_rfl) ?_
        by_cases hp43 : ix x1 x23 = ix x6 x23
        · have h := if_pos' hp43 h
          refine g_false (c := trellislaw15_sameInts_c25) rfl _ rfl ((eqib hp43)) ?_
          refine g_skip (c := trellislaw15_sameInts_c27) rfl ?_
          refine g_inBlock ?_
          refine g_region (c := trellislaw15_sameInts_c22) rfl rfl ?_
          refine wl_v 0 rfl (v_move rfl) gn rfl ?_
          refine wl_v 1 rfl (v_bin rfl rfl rfl) gn rfl ?_
          refine wl_v 2 rfl (v_assign rfl) gn rfl ?_
          refine w_end 3 rfl ?_
          refine g_inLoop ?_
          have ih := Out.inl hO1 h
          exact g_go [0, 1] (ih ()) ⟨rfl, rfl, rfl, trivial⟩ (.slnil) rfl
        · have h := if_neg' hp43 h
          refine g_true (c := trellislaw15_sameInts_c25) rfl _ rfl ((neib hp43)) ?_
          refine g_seq (c := trellislaw15_sameInts_c26) rfl ?_
          refine g_region (c := trellislaw15_sameInts_c28) rfl rfl ?_
          refine wl_v 0 rfl (v_assign rfl) gn rfl ?_
          refine w_end 1 rfl ?_
          have h := Out.inr hO1 h
          refine g_retR (c := trellislaw15_sameInts_c29) [.bool false] rfl Try.func40 rfl (.tmp rfl (.nil)) fun wr hLr => ?_
          have hMr : B.Loc w wr [] [St w []] := hLr.pick (rest := []) (perm_of_idx [] [] rfl rfl (by kernel_rfl)) (sels [1] rfl)
          have hMi : ∀ e ∈ ([] : List Ent), e ∈ ([] : List Ent) := sels [] rfl
          show trellislaw15_sameInts_R w F  r (.returned (packV [.bool false])) wr
          rw [h]
          exact ⟨rfl, hMr⟩
      · have h := if_neg' hp34 h
        refine g_false (c := trellislaw15_sameInts_c18) rfl _ rfl ((decide_eq_false hp34)) ?_
        refine g_exit (c := trellislaw15_sameInts_c20) [.code trellislaw15_sameInts_c10] rfl rfl ?_
        refine g_seq (c := trellislaw15_sameInts_c10) rfl ?_
        refine g_region (c := trellislaw15_sameInts_c30) rfl rfl ?_
        refine wl_v 0 rfl (v_assign rfl) gn rfl ?_
        refine w_end 1 rfl ?_
        have h := Out.inr hO1 h
        refine g_retR (c := trellislaw15_sameInts_c31) [.bool true] rfl Try.func40 rfl (.tmp rfl (.nil)) fun wr hLr => ?_
        have hMr : B.Loc w wr [] [St w []] := hLr.pick (rest := []) (perm_of_idx [] [] rfl rfl (by kernel_rfl)) (sels [1] rfl)
        have hMi : ∀ e ∈ ([] : List Ent), e ∈ ([] : List Ent) := sels [] rfl
        show trellislaw15_sameInts_R w F  r (.returned (packV [.bool true])) wr
        rw [h]
        exact ⟨rfl, hMr⟩
    exact g_go [0, 1] (key1 _ h ()) ⟨rfl, rfl, rfl, trivial⟩ (.slnil) rfl
  · have h := if_neg' hp11 h
    refine g_true (c := trellislaw15_sameInts_c6) rfl _ rfl ((neib hp11)) ?_
    refine g_seq (c := trellislaw15_sameInts_c7) rfl ?_
    refine g_region (c := trellislaw15_sameInts_c32) rfl rfl ?_
    refine wl_v 0 rfl (v_assign rfl) gn rfl ?_
    refine w_end 1 rfl ?_
    refine g_retR (c := trellislaw15_sameInts_c33) [.bool false] rfl Try.func40 rfl (.tmp rfl (.nil)) fun wr hLr => ?_
    have hMr : B.Loc w wr [] [St w []] := hLr.pick (rest := []) (perm_of_idx [] [] rfl rfl (by kernel_rfl)) (sels [1] rfl)
    have hMi : ∀ e ∈ ([] : List Ent), e ∈ ([] : List Ent) := sels [] rfl
    show trellislaw15_sameInts_R w F  r (.returned (packV [.bool false])) wr
    rw [h]
    exact ⟨rfl, hMr⟩
noncomputable abbrev trellisref15_Kids_c0 : Code := bodyOf Try.f50
noncomputable abbrev trellisref15_Kids_c1 : Code := Code.fst trellisref15_Kids_c0
noncomputable abbrev trellisref15_Kids_c2 : Code := Code.snd trellisref15_Kids_c0
noncomputable abbrev trellisref15_Kids_c3 : Code := Code.fst trellisref15_Kids_c2
noncomputable abbrev trellisref15_Kids_c4 : Code := Code.snd trellisref15_Kids_c2
noncomputable abbrev trellisref15_Kids_c5 : Code := Code.fst trellisref15_Kids_c4
noncomputable abbrev trellisref15_Kids_c6 : Code := Code.snd trellisref15_Kids_c4
noncomputable abbrev trellisref15_Kids_c7 : Code := Code.fst trellisref15_Kids_c6
noncomputable abbrev trellisref15_Kids_c8 : Code := Code.snd trellisref15_Kids_c6
noncomputable abbrev trellisref15_Kids_c9 : Code := Code.fst trellisref15_Kids_c8
noncomputable abbrev trellisref15_Kids_c10 : Code := Code.snd trellisref15_Kids_c8
noncomputable abbrev trellisref15_Kids_c11 : Code := Code.fst trellisref15_Kids_c9
noncomputable abbrev trellisref15_Kids_c12 : Code := Code.snd trellisref15_Kids_c9
noncomputable abbrev trellisref15_Kids_c13 : Code := Code.fst trellisref15_Kids_c12
noncomputable abbrev trellisref15_Kids_c14 : Code := Code.fst trellisref15_Kids_c13
noncomputable abbrev trellisref15_Kids_c15 : Code := Code.fst trellisref15_Kids_c14
noncomputable abbrev trellisref15_Kids_c16 : Code := Code.snd trellisref15_Kids_c14
noncomputable abbrev trellisref15_Kids_c17 : Code := Code.fst trellisref15_Kids_c15
noncomputable abbrev trellisref15_Kids_c18 : Code := Code.snd trellisref15_Kids_c15
noncomputable abbrev trellisref15_Kids_c19 : Code := Code.fst trellisref15_Kids_c18
noncomputable abbrev trellisref15_Kids_c20 : Code := Code.snd trellisref15_Kids_c18
noncomputable abbrev trellisref15_Kids_c21 : Code := Code.fst trellisref15_Kids_c16
noncomputable abbrev trellisref15_Kids_c22 : Code := Code.snd trellisref15_Kids_c16
noncomputable abbrev trellisref15_Kids_c23 : Code := Code.fst trellisref15_Kids_c21
noncomputable abbrev trellisref15_Kids_c24 : Code := Code.fst trellisref15_Kids_c10
noncomputable abbrev trellisref15_Kids_c25 : Code := Code.snd trellisref15_Kids_c10
abbrev trellisref15_Kids_R (w : World) (F : Nat → Prop) (r : List Int) : Ending → World → Prop := fun e w' => ∃ A0 : Option Addr, ∃ n0 : Nat, ∃ c0 : Nat, e = .returned (.slice A0 n0 c0) ∧ B.Loc w w' [.own (.slice A0 n0 c0) 3 1 n0 (r.flatMap (eI .i64))] [St w []] ∧ Ow w.heap.size A0 n0 c0 r
noncomputable abbrev trellisref15_Kids_C (w : World) (F : Nat → Prop) (r : List Int) : Cx := ⟨Try.prog, 50, Try.f50, 41, trellisref15_Kids_R w F  r, w⟩
theorem trellisref15_Kids_calls (w : World) (F : Nat → Prop) (x1 : List api_Node) (x6 : Int) (A2 : Option Addr) (n3 : Nat) (c4 : Nat) (h5 : Rw k_api_Node w (St w []).av A2 n3 c4 x1) (hF : ∀ b, F b → b < w.heap.size ∧ ∀ o ∈ ([] : List (List Nat)), b ∉ o) (hL0 : B.Loc w w [] [Sm w.heap.size F w [], St w []]) (r : List Int) (h : trellisref15_Kids x1 x6 r) : Calls Try.prog 50 #[.slice A2 n3 c4, .int .i64 x6] w (trellisref15_Kids_R w F  r) := by
  unfold trellisref15_Kids at h
  refine calls_of_Loc (vs := [.slice A2 n3 c4, .int .i64 x6]) 41 Try.func50 rfl Try.ntmps50 rfl hL0 ?_
  show G (trellisref15_Kids_C w F r) _ _ _ _
  refine g_seq (c := trellisref15_Kids_c0) rfl ?_
  refine g_region (c := trellisref15_Kids_c1) rfl rfl ?_
  refine wl_v 0 rfl (v_assign rfl) gn rfl ?_
  refine w_end 1 rfl ?_
  refine g_seq (c := trellisref15_Kids_c2) rfl ?_
  refine g_region (c := trellisref15_Kids_c3) rfl rfl ?_
  refine wl_v 0 rfl (v_move rfl) gn rfl ?_
  obtain ⟨r10, hv11, h⟩ := h
  refine wl_s 1 rfl (s_call [.slice A2 n3 c4] rfl Try.func47 rfl rfl rfl fun w7 hL8 => ?_) gn
  have hp9 : List.Perm ([] : List Ent) (([] : List Ent) ++ ([] : List Ent)) := perm_of_idx [] [] rfl rfl (by kernel_rfl)
  refine Calls.mono (trellisref15_Forest_calls w7 (Fl ([] : List Snap)) x1 A2 n3 c4 (Rw.mono h5 (hL8.toSt hp9 (me 1 rfl))) (hL8.hFl (Sl := ([] : List Snap)) hp9 (sels [] rfl)) (hL8.into hp9 (Fl ([] : List Snap))) r10 hv11) ?_
  rintro _ w19 ⟨A12, n13, c14, cs17, rfl, hM20, h15, hC18⟩
  obtain ⟨sb23, hL21, hv22⟩ := hL8.callB (Sl := ([] : List Snap)) hp9 hM20 F (sels [] rfl) trivial
  have hC18 : Cells k_trellisref15_Tree (Sm w.heap.size F w19 sb23).w (Sm w.heap.size F w19 sb23).av r10.1 cs17 := Cells.mono hv22 hC18
  refine ⟨_, _, _, rfl, hL21, ?_⟩
  refine wl_v 2 rfl (v_move rfl) gn rfl ?_
  refine wl_v 3 rfl (v_extract rfl rfl) gn rfl ?_
  refine wl_v 4 rfl (v_extract rfl rfl) gn rfl ?_
  refine wl_v 5 rfl (v_assign rfl) gn rfl ?_
  refine wl_v 6 rfl (v_assign rfl) gn rfl ?_
  refine w_end 7 rfl ?_
  refine g_seq (c := trellisref15_Kids_c4) rfl ?_
  refine g_region (c := trellisref15_Kids_c5) rfl rfl ?_
  refine wl_v 0 rfl (v_move rfl) gn rfl ?_
  refine wl_v 1 rfl (v_move rfl) gn rfl ?_
  obtain ⟨r30, hv31, h⟩ := h
  refine w_freeze (F := F) (dk := k_trellisref15_Tree) (Sm w.heap.size F w19 sb23) 0 rfl (Ow.weak hL8.env.size h15) (me 0 rfl) Sm.ok hC18 fun sw28 sb29 h27 => ?_
  refine wl_s 2 rfl (s_call [.slice A12 n13 c14, .int .i64 x6, .int .i64 (-1)] rfl Try.func48 rfl rfl rfl fun w24 hL25 => ?_) gn
  have hp26 : List.Perm ([] : List Ent) (([] : List Ent) ++ ([] : List Ent)) := perm_of_idx [] [] rfl rfl (by kernel_rfl)
  refine Calls.mono (trellisref15_find_calls w24 (Fl ([Sm w.heap.size F sw28 sb29] : List Snap)) r10.1 x6 (-1) A12 n13 c14 (Rw.mono h27 (hL25.toFl (me 0 rfl) (me 0 rfl))) (hL25.hFl (Sl := ([Sm w.heap.size F sw28 sb29] : List Snap)) hp26 (sels [0] rfl)) (hL25.into hp26 (Fl ([Sm w.heap.size F sw28 sb29] : List Snap))) r30 hv31) ?_
  rintro _ w36 ⟨A32, n33, c34, rfl, hM37, h35⟩
  obtain ⟨sb40, hL38, hv39⟩ := hL25.callB (Sl := ([Sm w.heap.size F sw28 sb29] : List Snap)) hp26 hM37 F (sels [0] rfl) ⟨Sm.ok, trivial⟩
  have h35 : At k_trellisref15_Tree (Sm w.heap.size F w36 sb40) A32 n33 c34 r30.1.kids := Rw.mono h35 hv39
  refine ⟨_, _, _, rfl, hL38, ?_⟩
  refine wl_v 3 rfl (v_move rfl) gn rfl ?_
  refine wl_v 4 rfl (v_extract rfl rfl) gn rfl ?_
  refine wl_v 5 rfl (v_extract rfl rfl) gn rfl ?_
  refine wl_v 6 rfl (v_extract rfl rfl) gn rfl ?_
  refine wl_s 7 rfl (s_alloc [.string (⟨#[]⟩ : ByteArray), .bool false, .string (⟨#[]⟩ : ByteArray), .int .i64 0, .int .i64 0, .int .i64 0, .int .i64 0, .slice none 0 0, .int .i64 0] zr_96 rfl fun gb41 => ?_) gn
  refine wl_s 8 rfl (s_stB (vs := [.string r30.1.node.name, .bool r30.1.node.named, .string r30.1.node.field, .int .i64 r30.1.node.from_, .int .i64 r30.1.node.to, .int .i64 r30.1.node.kids, .int .i64 r30.1.node.leaf, .slice A32 n33 c34, .int .i64 r30.1.at_]) (cs' := [.string r30.1.node.name, .bool r30.1.node.named, .string r30.1.node.field, .int .i64 r30.1.node.from_, .int .i64 r30.1.node.to, .int .i64 r30.1.node.kids, .int .i64 r30.1.node.leaf, .slice A32 n33 c34, .int .i64 r30.1.at_]) (M' := [.box gb41 96 [.string r30.1.node.name, .bool r30.1.node.named, .string r30.1.node.field, .int .i64 r30.1.node.from_, .int .i64 r30.1.node.to, .int .i64 r30.1.node.kids, .int .i64 r30.1.node.leaf, .slice A32 n33 c34, .int .i64 r30.1.at_]]) 0 sz_96 rfl rfl rfl rfl rfl rfl rfl rfl rfl ?_) gn
  refine wl_v 9 rfl (v_assign rfl) gn rfl ?_
  refine wl_v 10 rfl (v_assign rfl) gn rfl ?_
  refine w_end 11 rfl ?_
  refine g_seq (c := trellisref15_Kids_c6) rfl ?_
  refine g_region (c := trellisref15_Kids_c7) rfl rfl ?_
  refine wl_v 0 rfl (v_assign rfl) gn rfl ?_
  refine w_end 1 rfl ?_
  refine g_seq (c := trellisref15_Kids_c8) rfl ?_
  refine g_seq (c := trellisref15_Kids_c9) rfl ?_
  refine g_region (c := trellisref15_Kids_c11) rfl rfl ?_
  refine wl_v 0 rfl (v_assign rfl) gn rfl ?_
  refine w_end 1 rfl ?_
  refine g_block (c := trellisref15_Kids_c12) rfl ?_
  refine g_loop (c := trellisref15_Kids_c13) rfl ?_
  have key1 : ∀ s, Rounds (fun (s : (List Int) × Int) o => trellisref15_Kids_b1 r30 s.1 s.2 o) s r → (fun (s : (List Int) × Int) => ∀ (A64 : Option Addr) (n65 : Nat) (c66 : Nat) (h67 : Ow w.heap.size A64 n65 c66 s.1), G (trellisref15_Kids_C w F r) [.code trellisref15_Kids_c14, .inLoop trellisref15_Kids_c14, .inBlock 0, .code trellisref15_Kids_c10] [(7, .pointer (some ⟨gb41, 0, none⟩)), (10, .slice A64 n65 c66), (11, .int .i64 s.2)] [.own (.slice A64 n65 c66) 3 1 n65 (s.1.flatMap (eI .i64)), .box gb41 96 [.string r30.1.node.name, .bool r30.1.node.named, .string r30.1.node.field, .int .i64 r30.1.node.from_, .int .i64 r30.1.node.to, .int .i64 r30.1.node.kids, .int .i64 r30.1.node.leaf, .slice A32 n33 c34, .int .i64 r30.1.at_]] [Sm w.heap.size F w36 sb40, Sm w.heap.size F sw28 sb29, Sm w.heap.size F w19 sb23, Sm w.heap.size F w [], St w []]) s := by
    intro s hs
    refine Rounds.ind (mot := (fun (s : (List Int) × Int) => ∀ (A64 : Option Addr) (n65 : Nat) (c66 : Nat) (h67 : Ow w.heap.size A64 n65 c66 s.1), G (trellisref15_Kids_C w F r) [.code trellisref15_Kids_c14, .inLoop trellisref15_Kids_c14, .inBlock 0, .code trellisref15_Kids_c10] [(7, .pointer (some ⟨gb41, 0, none⟩)), (10, .slice A64 n65 c66), (11, .int .i64 s.2)] [.own (.slice A64 n65 c66) 3 1 n65 (s.1.flatMap (eI .i64)), .box gb41 96 [.string r30.1.node.name, .bool r30.1.node.named, .string r30.1.node.field, .int .i64 r30.1.node.from_, .int .i64 r30.1.node.to, .int .i64 r30.1.node.kids, .int .i64 r30.1.node.leaf, .slice A32 n33 c34, .int .i64 r30.1.at_]] [Sm w.heap.size F w36 sb40, Sm w.heap.size F sw28 sb29, Sm w.heap.size F w19 sb23, Sm w.heap.size F w [], St w []])) ?_ hs
    clear hs s
    intro s o1 h hO1
    obtain ⟨x63, x68⟩ := s
    show ∀ (A64 : Option Addr) (n65 : Nat) (c66 : Nat) (h67 : Ow w.heap.size A64 n65 c66 x63), G (trellisref15_Kids_C w F r) [.code trellisref15_Kids_c14, .inLoop trellisref15_Kids_c14, .inBlock 0, .code trellisref15_Kids_c10] [(7, .pointer (some ⟨gb41, 0, none⟩)), (10, .slice A64 n65 c66), (11, .int .i64 x68)] [.own (.slice A64 n65 c66) 3 1 n65 (x63.flatMap (eI .i64)), .box gb41 96 [.string r30.1.node.name, .bool r30.1.node.named, .string r30.1.node.field, .int .i64 r30.1.node.from_, .int .i64 r30.1.node.to, .int .i64 r30.1.node.kids, .int .i64 r30.1.node.leaf, .slice A32 n33 c34, .int .i64 r30.1.at_]] [Sm w.heap.size F w36 sb40, Sm w.heap.size F sw28 sb29, Sm w.heap.size F w19 sb23, Sm w.heap.size F w [], St w []]
    intro A64 n65 c66 h67
    have h : trellisref15_Kids_b1 r30 x63 x68 o1 := h
    unfold trellisref15_Kids_b1 at h
    refine g_seq (c := trellisref15_Kids_c14) rfl ?_
    refine g_seq (c := trellisref15_Kids_c15) rfl ?_
    refine g_region (c := trellisref15_Kids_c17) rfl rfl ?_
    refine wl_v 0 rfl (v_move rfl) gn rfl ?_
    refine wl_v 1 rfl (v_fldB fo_96_1 rfl) gn rfl ?_
    refine wl_v 2 rfl (v_ldB1 1 ld_89 rfl rfl rfl) gn rfl ?_
    refine wl_v 3 rfl (v_lenQ un_89 rfl h35.hq) gn rfl ?_
    refine wl_v 4 rfl (v_bin rfl rfl rfl) gn rfl ?_
    refine w_end 5 rfl ?_
    by_cases hp87 : x68 < (r30.1.kids.length : Int)
    · have h := if_pos' hp87 h
      refine g_true (c := trellisref15_Kids_c18) rfl _ rfl ((decide_eq_true hp87)) ?_
      refine g_skip (c := trellisref15_Kids_c19) rfl ?_
      refine g_seq (c := trellisref15_Kids_c16) rfl ?_
      refine g_block (c := trellisref15_Kids_c21) rfl ?_
      refine g_region (c := trellisref15_Kids_c23) rfl rfl ?_
      refine wl_v 0 rfl (v_move rfl) gn rfl ?_
      refine wl_v 1 rfl (v_fldB fo_96_1 rfl) gn rfl ?_
      refine wl_v 2 rfl (v_ldB1 1 ld_89 rfl rfl rfl) gn rfl ?_
      refine wl_v 3 rfl (v_move rfl) gn rfl ?_
      obtain ⟨hb88, h⟩ := h
      obtain ⟨ce90, hK91, hr89⟩ := Rw.read (s := Sm w.heap.size F w36 sb40) h35 hb88
      obtain ⟨A92, n93, c94, rfl, h95⟩ := k_trellisref15_Tree_out hK91
      refine wl_v 4 rfl (v_idxR (s := Sm w.heap.size F w36 sb40) slE_89 rfl rfl h35 hb88) gn rfl ?_
      refine wl_v 5 rfl (v_fldA fo_96_2 rfl) gn rfl ?_
      refine wl_v 6 rfl (v_ldA1 (kk := (x68 : Int).toNat * 9) (j := 8) (Sm w.heap.size F w36 sb40) ld_3 rfl hr89 rfl (me 0 rfl)) gn rfl ?_
      refine wl_s 7 rfl (s_litO (xs := ([(ix r30.1.kids x68).at_] : List Int)) [.int .i64 ((ix r30.1.kids x68).at_)] bs_23_1 rfl (by kernel_rfl) rfl rfl rfl rfl fun gb97 h98 => ?_) gn
      obtain ⟨x102, hv103, h⟩ := h
      obtain ⟨hb104, h⟩ := h
      refine wl_s 8 rfl (s_app (zs := x102) (cells' := x102.flatMap (eI .i64)) 1 ap_23 rfl rfl rfl h67 (Nat.le_refl _) (Src.ownF (hl := (hlI .i64)) (h1 := (hone_int .i64)) 0 rfl h98) (by rw [hv103, List.flatMap_append] <;> rfl) (app_len hv103 h98.hq) hb104 rfl rfl fun A99 c100 h101 => ?_) gn
      refine wl_v 9 rfl (v_assign rfl) gn rfl ?_
      refine w_end 10 rfl ?_
      refine g_inBlock ?_
      refine g_region (c := trellisref15_Kids_c22) rfl rfl ?_
      refine wl_v 0 rfl (v_move rfl) gn rfl ?_
      refine wl_v 1 rfl (v_bin rfl rfl rfl) gn rfl ?_
      refine wl_v 2 rfl (v_assign rfl) gn rfl ?_
      refine w_end 3 rfl ?_
      refine g_inLoop ?_
      have ih := Out.inl hO1 h
      exact g_go [0, 1, 2, 3, 4] (ih A99 (n65 + 1) c100 h101) ⟨rfl, rfl, rfl, trivial⟩ (.cons _ (.cons_cons _ (.cons_cons _ (.slnil)))) rfl
    · have h := if_neg' hp87 h
      refine g_false (c := trellisref15_Kids_c18) rfl _ rfl ((decide_eq_false hp87)) ?_
      refine g_exit (c := trellisref15_Kids_c20) [.code trellisref15_Kids_c10] rfl rfl ?_
      refine g_seq (c := trellisref15_Kids_c10) rfl ?_
      refine g_region (c := trellisref15_Kids_c24) rfl rfl ?_
      refine wl_v 0 rfl (v_move rfl) gn rfl ?_
      refine wl_v 1 rfl (v_assign rfl) gn rfl ?_
      refine w_end 2 rfl ?_
      have h := Out.inr hO1 h
      refine g_retR (c := trellisref15_Kids_c25) [.slice A64 n65 c66] rfl Try.func50 rfl (.tmp rfl (.nil)) fun wr hLr => ?_
      have hMr : B.Loc w wr [.own (.slice A64 n65 c66) 3 1 n65 (x63.flatMap (eI .i64))] [St w []] := hLr.pick (rest := [.box gb41 96 [.string r30.1.node.name, .bool r30.1.node.named, .string r30.1.node.field, .int .i64 r30.1.node.from_, .int .i64 r30.1.node.to, .int .i64 r30.1.node.kids, .int .i64 r30.1.node.leaf, .slice A32 n33 c34, .int .i64 r30.1.at_]]) (perm_of_idx [0] [1] rfl rfl (by kernel_rfl)) (sels [4] rfl)
      have hMi : ∀ e ∈ ([.own (.slice A64 n65 c66) 3 1 n65 (x63.flatMap (eI .i64))] : List Ent), e ∈ ([.own (.slice A64 n65 c66) 3 1 n65 (x63.flatMap (eI .i64)), .box gb41 96 [.string r30.1.node.name, .bool r30.1.node.named, .string r30.1.node.field, .int .i64 r30.1.node.from_, .int .i64 r30.1.node.to, .int .i64 r30.1.node.kids, .int .i64 r30.1.node.leaf, .slice A32 n33 c34, .int .i64 r30.1.at_]] : List Ent) := sels [0] rfl
      show trellisref15_Kids_R w F  r (.returned (packV [.slice A64 n65 c66])) wr
      rw [h]
      exact ⟨A64, n65, c66, rfl, hMr, h67⟩
  refine g_nil 3 1 ?_
  exact g_go [0, 1, 2, 3, 4] (key1 _ h none 0 0 (Ow.nil (z := w.heap.size))) ⟨rfl, rfl, rfl, trivial⟩ (.cons_cons _ (.cons_cons _ (.slnil))) rfl
noncomputable abbrev trellisref15_path_c0 : Code := bodyOf Try.f69
noncomputable abbrev trellisref15_path_c1 : Code := Code.fst trellisref15_path_c0
noncomputable abbrev trellisref15_path_c2 : Code := Code.snd trellisref15_path_c0
noncomputable abbrev trellisref15_path_c3 : Code := Code.fst trellisref15_path_c2
noncomputable abbrev trellisref15_path_c4 : Code := Code.snd trellisref15_path_c2
noncomputable abbrev trellisref15_path_c5 : Code := Code.fst trellisref15_path_c3
noncomputable abbrev trellisref15_path_c6 : Code := Code.snd trellisref15_path_c3
noncomputable abbrev trellisref15_path_c7 : Code := Code.fst trellisref15_path_c6
noncomputable abbrev trellisref15_path_c8 : Code := Code.fst trellisref15_path_c7
noncomputable abbrev trellisref15_path_c9 : Code := Code.fst trellisref15_path_c8
noncomputable abbrev trellisref15_path_c10 : Code := Code.snd trellisref15_path_c8
noncomputable abbrev trellisref15_path_c11 : Code := Code.fst trellisref15_path_c9
noncomputable abbrev trellisref15_path_c12 : Code := Code.snd trellisref15_path_c9
noncomputable abbrev trellisref15_path_c13 : Code := Code.fst trellisref15_path_c12
noncomputable abbrev trellisref15_path_c14 : Code := Code.snd trellisref15_path_c12
noncomputable abbrev trellisref15_path_c15 : Code := Code.fst trellisref15_path_c10
noncomputable abbrev trellisref15_path_c16 : Code := Code.snd trellisref15_path_c10
noncomputable abbrev trellisref15_path_c17 : Code := Code.fst trellisref15_path_c15
noncomputable abbrev trellisref15_path_c18 : Code := Code.fst trellisref15_path_c17
noncomputable abbrev trellisref15_path_c19 : Code := Code.snd trellisref15_path_c17
noncomputable abbrev trellisref15_path_c20 : Code := Code.fst trellisref15_path_c19
noncomputable abbrev trellisref15_path_c21 : Code := Code.snd trellisref15_path_c19
noncomputable abbrev trellisref15_path_c22 : Code := Code.fst trellisref15_path_c20
noncomputable abbrev trellisref15_path_c23 : Code := Code.snd trellisref15_path_c20
noncomputable abbrev trellisref15_path_c24 : Code := Code.fst trellisref15_path_c23
noncomputable abbrev trellisref15_path_c25 : Code := Code.snd trellisref15_path_c23
noncomputable abbrev trellisref15_path_c26 : Code := Code.fst trellisref15_path_c4
noncomputable abbrev trellisref15_path_c27 : Code := Code.snd trellisref15_path_c4
abbrev trellisref15_path_R (w : World) (F : Nat → Prop) (r : List Int) : Ending → World → Prop := fun e w' => ∃ A0 : Option Addr, ∃ n0 : Nat, ∃ c0 : Nat, e = .returned (.slice A0 n0 c0) ∧ B.Loc w w' [.own (.slice A0 n0 c0) 3 1 n0 (r.flatMap (eI .i64))] [St w []] ∧ Ow w.heap.size A0 n0 c0 r
noncomputable abbrev trellisref15_path_C (w : World) (F : Nat → Prop) (r : List Int) : Cx := ⟨Try.prog, 69, Try.f69, 46, trellisref15_path_R w F  r, w⟩
def trellisref15_path_st (rl : (List trellisref15_Tree) → Int → (List Int) → Prop) : Prop := ∀ (w : World) (F : Nat → Prop) (x1 : List trellisref15_Tree) (x6 : Int) (A2 : Option Addr) (n3 : Nat) (c4 : Nat) (h5 : Rw k_trellisref15_Tree w (St w []).av A2 n3 c4 x1) (hF : ∀ b, F b → b < w.heap.size ∧ ∀ o ∈ ([] : List (List Nat)), b ∉ o) (hL0 : B.Loc w w [] [Sm w.heap.size F w [], St w []]) (r : List Int) (h : rl x1 x6 r), Calls Try.prog 69 #[.slice A2 n3 c4, .int .i64 x6] w (trellisref15_path_R w F  r)
theorem trellisref15_path_step (rc_trellisref15_path : (List trellisref15_Tree) → Int → (List Int) → Prop) (ih_trellisref15_path : trellisref15_path_st rc_trellisref15_path) : trellisref15_path_st (trellisref15_path_body rc_trellisref15_path) := by
  intro w F x1 x6 A2 n3 c4 h5 hF hL0 r h
  unfold trellisref15_path_body at h
  refine calls_of_Loc (vs := [.slice A2 n3 c4, .int .i64 x6]) 46 Try.func69 rfl Try.ntmps69 rfl hL0 ?_
  show G (trellisref15_path_C w F r) _ _ _ _
  refine g_seq (c := trellisref15_path_c0) rfl ?_
  refine g_region (c := trellisref15_path_c1) rfl rfl ?_
  refine wl_v 0 rfl (v_assign rfl) gn rfl ?_
  refine w_end 1 rfl ?_
  refine g_seq (c := trellisref15_path_c2) rfl ?_
  refine g_seq (c := trellisref15_path_c3) rfl ?_
  refine g_region (c := trellisref15_path_c5) rfl rfl ?_
  refine wl_v 0 rfl (v_assign rfl) gn rfl ?_
  refine w_end 1 rfl ?_
  refine g_block (c := trellisref15_path_c6) rfl ?_
  refine g_loop (c := trellisref15_path_c7) rfl ?_
  have key1 : ∀ s, Rounds (fun (s : Int) o => trellisref15_path_b1 x1 x6 rc_trellisref15_path s o) s r → (fun (s : Int) => ∀ (_ : Unit), G (trellisref15_path_C w F r) [.code trellisref15_path_c8, .inLoop trellisref15_path_c8, .inBlock 0, .code trellisref15_path_c4] [(0, .slice A2 n3 c4), (1, .int .i64 x6), (5, .int .i64 s)] [] [Sm w.heap.size F w [], St w []]) s := by
    intro s hs
    refine Rounds.ind (mot := (fun (s : Int) => ∀ (_ : Unit), G (trellisref15_path_C w F r) [.code trellisref15_path_c8, .inLoop trellisref15_path_c8, .inBlock 0, .code trellisref15_path_c4] [(0, .slice A2 n3 c4), (1, .int .i64 x6), (5, .int .i64 s)] [] [Sm w.heap.size F w [], St w []])) ?_ hs
    clear hs s
    intro x81 o1 h hO1
    show ∀ (_ : Unit), G (trellisref15_path_C w F r) [.code trellisref15_path_c8, .inLoop trellisref15_path_c8, .inBlock 0, .code trellisref15_path_c4] [(0, .slice A2 n3 c4), (1, .int .i64 x6), (5, .int .i64 x81)] [] [Sm w.heap.size F w [], St w []]
    intro _
    have h : trellisref15_path_b1 x1 x6 rc_trellisref15_path x81 o1 := h
    unfold trellisref15_path_b1 at h
    refine g_seq (c := trellisref15_path_c8) rfl ?_
    refine g_seq (c := trellisref15_path_c9) rfl ?_
    refine g_region (c := trellisref15_path_c11) rfl rfl ?_
    refine wl_v 0 rfl (v_move rfl) gn rfl ?_
    refine wl_v 1 rfl (v_move rfl) gn rfl ?_
    refine wl_v 2 rfl (v_lenQ un_89 rfl h5.hq) gn rfl ?_
    refine wl_v 3 rfl (v_bin rfl rfl rfl) gn rfl ?_
    refine w_end 4 rfl ?_
    by_cases hp155 : x81 < (x1.length : Int)
    · have h := if_pos' hp155 h
      refine g_true (c := trellisref15_path_c12) rfl _ rfl ((decide_eq_true hp155)) ?_
      refine g_skip (c := trellisref15_path_c13) rfl ?_
      refine g_seq (c := trellisref15_path_c10) rfl ?_
      refine g_block (c := trellisref15_path_c15) rfl ?_
      refine g_seq (c := trellisref15_path_c17) rfl ?_
      have j2 : ∀ (x173 : Bool) (h : trellisref15_path_j2 x81 x1 rc_trellisref15_path x6 x173 o1) , G (trellisref15_path_C w F r) [.code trellisref15_path_c19, .inBlock 1, .code trellisref15_path_c16, .inLoop trellisref15_path_c8, .inBlock 0, .code trellisref15_path_c4] [(0, .slice A2 n3 c4), (1, .int .i64 x6), (5, .int .i64 x81), (30, .bool x173)] [] [Sm w.heap.size F w [], St w []] := by
        intro x173 h
        unfold trellisref15_path_j2 at h
        by_cases hp174 : x173 = true
        · have h := if_pos' hp174 h
          refine g_true (c := trellisref15_path_c19) rfl _ rfl (hp174) ?_
          refine g_seq (c := trellisref15_path_c20) rfl ?_
          refine g_region (c := trellisref15_path_c22) rfl rfl ?_
          refine wl_v 0 rfl (v_move rfl) gn rfl ?_
          refine wl_v 1 rfl (v_move rfl) gn rfl ?_
          obtain ⟨hb175, h⟩ := h
          obtain ⟨ce177, hK178, hr176⟩ := Rw.read (s := St w []) h5 hb175
          obtain ⟨A179, n180, c181, rfl, h182⟩ := k_trellisref15_Tree_out hK178
          refine wl_v 2 rfl (v_idxR (s := St w []) slE_89 rfl rfl h5 hb175) gn rfl ?_
          refine wl_v 3 rfl (v_fldA fo_96_1 rfl) gn rfl ?_
          refine wl_v 4 rfl (v_ldA1 (kk := (x81 : Int).toNat * 9) (j := 7) (St w []) ld_89 rfl hr176 rfl (me 1 rfl)) gn rfl ?_
          refine wl_v 5 rfl (v_move rfl) gn rfl ?_
          obtain ⟨r186, hv187, h⟩ := h
          refine wl_s 6 rfl (s_call [.slice A179 n180 c181, .int .i64 x6] rfl Try.func69 rfl rfl rfl fun w183 hL184 => ?_) gn
          have hp185 : List.Perm ([] : List Ent) (([] : List Ent) ++ ([] : List Ent)) := perm_of_idx [] [] rfl rfl (by kernel_rfl)
          refine Calls.mono (ih_trellisref15_path w183 (Fl ([] : List Snap)) ((ix x1 x81).kids) x6 A179 n180 c181 (Rw.mono h182 (hL184.toSt hp185 (me 1 rfl))) (hL184.hFl (Sl := ([] : List Snap)) hp185 (sels [] rfl)) (hL184.into hp185 (Fl ([] : List Snap))) r186 hv187) ?_
          rintro _ w193 ⟨A188, n189, c190, rfl, hM194, h191⟩
          have hL195 := hL184.call hp185 hM194
          refine ⟨_, _, _, rfl, hL195, ?_⟩
          refine wl_v 7 rfl (v_assign rfl) gn rfl ?_
          refine w_end 8 rfl ?_
          refine g_seq (c := trellisref15_path_c23) rfl ?_
          refine g_region (c := trellisref15_path_c24) rfl rfl ?_
          refine wl_v 0 rfl (v_move rfl) gn rfl ?_
          refine wl_v 1 rfl (v_move rfl) gn rfl ?_
          obtain ⟨ce197, hK198, hr196⟩ := Rw.read (s := St w []) h5 hb175
          obtain ⟨A199, n200, c201, rfl, h202⟩ := k_trellisref15_Tree_out hK198
          refine wl_v 2 rfl (v_idxR (s := St w []) slE_89 rfl rfl h5 hb175) gn rfl ?_
          refine wl_v 3 rfl (v_fldA fo_96_2 rfl) gn rfl ?_
          refine wl_v 4 rfl (v_ldA1 (kk := (x81 : Int).toNat * 9) (j := 8) (St w []) ld_3 rfl hr196 rfl (me 1 rfl)) gn rfl ?_
          refine wl_s 5 rfl (s_litO (xs := ([(ix x1 x81).at_] : List Int)) [.int .i64 ((ix x1 x81).at_)] bs_23_1 rfl (by kernel_rfl) rfl rfl rfl rfl fun gb204 h205 => ?_) gn
          refine wl_v 6 rfl (v_move rfl) gn rfl ?_
          obtain ⟨x209, hv210, h⟩ := h
          obtain ⟨hb211, h⟩ := h
          refine wl_s 7 rfl (s_app (zs := x209) (cells' := x209.flatMap (eI .i64)) 0 ap_23 rfl rfl rfl h205 (Nat.le_refl _) (Src.ownF (hl := (hlI .i64)) (h1 := (hone_int .i64)) 1 rfl (Ow.weak hL184.env.size h191)) (by rw [hv210, List.flatMap_append] <;> rfl) (app_len hv210 (Ow.weak hL184.env.size h191).hq) hb211 rfl rfl fun A206 c207 h208 => ?_) gn
          refine wl_v 8 rfl (v_assign rfl) gn rfl ?_
          refine w_end 9 rfl ?_
          have h := Out.inr hO1 h
          refine g_retR (c := trellisref15_path_c25) [.slice A206 (1 + n189) c207] rfl Try.func69 rfl (.tmp rfl (.nil)) fun wr hLr => ?_
          have hMr : B.Loc w wr [.own (.slice A206 (1 + n189) c207) 3 1 (1 + n189) (x209.flatMap (eI .i64))] [St w []] := hLr.pick (rest := [.own (.slice A188 n189 c190) 3 1 n189 (r186.flatMap (eI .i64))]) (perm_of_idx [0] [1] rfl rfl (by kernel_rfl)) (sels [1] rfl)
          have hMi : ∀ e ∈ ([.own (.slice A206 (1 + n189) c207) 3 1 (1 + n189) (x209.flatMap (eI .i64))] : List Ent), e ∈ ([.own (.slice A206 (1 + n189) c207) 3 1 (1 + n189) (x209.flatMap (eI .i64)), .own (.slice A188 n189 c190) 3 1 n189 (r186.flatMap (eI .i64))] : List Ent) := sels [0] rfl
          show trellisref15_path_R w F  r (.returned (packV [.slice A206 (1 + n189) c207])) wr
          rw [h]
          exact ⟨A206, 1 + n189, c207, rfl, hMr, h208⟩
        · have h := if_neg' hp174 h
          refine g_false (c := trellisref15_path_c19) rfl _ rfl ((bf hp174)) ?_
          refine g_skip (c := trellisref15_path_c21) rfl ?_
          refine g_inBlock ?_
          refine g_region (c := trellisref15_path_c16) rfl rfl ?_
          refine wl_v 0 rfl (v_move rfl) gn rfl ?_
          refine wl_v 1 rfl (v_bin rfl rfl rfl) gn rfl ?_
          refine wl_v 2 rfl (v_assign rfl) gn rfl ?_
          refine w_end 3 rfl ?_
          refine g_inLoop ?_
          have ih := Out.inl hO1 h
          exact g_go [0, 1] (ih ()) ⟨rfl, rfl, rfl, trivial⟩ (.slnil) rfl
      refine g_region (c := trellisref15_path_c18) rfl rfl ?_
      refine wl_v 0 rfl (v_move rfl) gn rfl ?_
      refine wl_v 1 rfl (v_move rfl) gn rfl ?_
      obtain ⟨hb212, h⟩ := h
      obtain ⟨ce214, hK215, hr213⟩ := Rw.read (s := St w []) h5 hb212
      obtain ⟨A216, n217, c218, rfl, h219⟩ := k_trellisref15_Tree_out hK215
      refine wl_v 2 rfl (v_idxR (s := St w []) slE_89 rfl rfl h5 hb212) gn rfl ?_
      refine wl_v 3 rfl (v_fldA fo_96_0 rfl) gn rfl ?_
      refine wl_v 4 rfl (v_fldA fo_39_3 rfl) gn rfl ?_
      refine wl_v 5 rfl (v_ldA1 (kk := (x81 : Int).toNat * 9) (j := 3) (St w []) ld_3 rfl hr213 rfl (me 1 rfl)) gn rfl ?_
      refine wl_v 6 rfl (v_move rfl) gn rfl ?_
      refine wl_v 7 rfl (v_bin rfl rfl rfl) gn rfl ?_
      refine wl_v 8 rfl (v_move rfl) gn rfl ?_
      by_cases hp220 : ((ix x1 x81).node).from_ ≤ x6
      · have h := if_pos' hp220 h
        refine w_bool 21 rfl ((decide_eq_true hp220)) ?_
        refine wl_v 9 rfl (v_move rfl) (gy 21 rfl rfl) rfl ?_
        refine wl_v 10 rfl (v_move rfl) (gy 21 rfl rfl) rfl ?_
        obtain ⟨ce222, hK223, hr221⟩ := Rw.read (s := St w []) h5 hb212
        obtain ⟨A224, n225, c226, rfl, h227⟩ := k_trellisref15_Tree_out hK223
        refine wl_v 11 rfl (v_idxR (s := St w []) slE_89 rfl rfl h5 hb212) (gy 21 rfl rfl) rfl ?_
        refine wl_v 12 rfl (v_fldA fo_96_0 rfl) (gy 21 rfl rfl) rfl ?_
        refine wl_v 13 rfl (v_fldA fo_39_4 rfl) (gy 21 rfl rfl) rfl ?_
        refine wl_v 14 rfl (v_ldA1 (kk := (x81 : Int).toNat * 9) (j := 4) (St w []) ld_3 rfl hr221 rfl (me 1 rfl)) (gy 21 rfl rfl) rfl ?_
        refine wl_v 15 rfl (v_move rfl) (gy 21 rfl rfl) rfl ?_
        refine wl_v 16 rfl (v_bin rfl rfl rfl) (gy 21 rfl rfl) rfl ?_
        refine wl_v 17 rfl (v_pick (b := true) rfl rfl) gn rfl ?_
        refine w_end 18 rfl ?_
        exact g_go [0, 1] (j2 (decide (((ix x1 x81).node).to > x6)) h) ⟨rfl, rfl, rfl, rfl, trivial⟩ (.slnil) rfl
      · have h := if_neg' hp220 h
        refine w_bool 21 rfl ((decide_eq_false hp220)) ?_
        refine wl_pass 9 rfl (ps 21 rfl rfl rfl) ?_
        refine wl_pass 10 rfl (ps 21 rfl rfl rfl) ?_
        refine wl_pass 11 rfl (ps 21 rfl rfl rfl) ?_
        refine wl_pass 12 rfl (ps 21 rfl rfl rfl) ?_
        refine wl_pass 13 rfl (ps 21 rfl rfl rfl) ?_
        refine wl_pass 14 rfl (ps 21 rfl rfl rfl) ?_
        refine wl_pass 15 rfl (ps 21 rfl rfl rfl) ?_
        refine wl_pass 16 rfl (ps 21 rfl rfl rfl) ?_
        refine wl_v 17 rfl (v_pick (b := false) rfl rfl) gn rfl ?_
        refine w_end 18 rfl ?_
        exact g_go [0, 1] (j2 false h) ⟨rfl, rfl, rfl, rfl, trivial⟩ (.slnil) rfl
    · have h := if_neg' hp155 h
      refine g_false (c := trellisref15_path_c12) rfl _ rfl ((decide_eq_false hp155)) ?_
      refine g_exit (c := trellisref15_path_c14) [.code trellisref15_path_c4] rfl rfl ?_
      refine g_seq (c := trellisref15_path_c4) rfl ?_
      refine g_region (c := trellisref15_path_c26) rfl rfl ?_
      refine wl_v 0 rfl (v_assign rfl) gn rfl ?_
      refine w_end 1 rfl ?_
      refine g_nil 3 1 ?_
      have h := Out.inr hO1 h
      refine g_retR (c := trellisref15_path_c27) [.slice none 0 0] rfl Try.func69 rfl (.tmp rfl (.nil)) fun wr hLr => ?_
      have hMr : B.Loc w wr [.own (.slice none 0 0) 3 1 0 (([] : List Int).flatMap (eI .i64))] [St w []] := hLr.pick (rest := []) (perm_of_idx [0] [] rfl rfl (by kernel_rfl)) (sels [1] rfl)
      have hMi : ∀ e ∈ ([.own (.slice none 0 0) 3 1 0 (([] : List Int).flatMap (eI .i64))] : List Ent), e ∈ ([.own (.slice none 0 0) 3 1 0 (([] : List Int).flatMap (eI .i64))] : List Ent) := sels [0] rfl
      show trellisref15_path_R w F  r (.returned (packV [.slice none 0 0])) wr
      rw [h]
      exact ⟨none, 0, 0, rfl, hMr, (Ow.nil (z := w.heap.size))⟩
  exact g_go [0, 1] (key1 _ h ()) ⟨rfl, rfl, rfl, trivial⟩ (.slnil) rfl
theorem trellisref15_path_ind : ∀ n, trellisref15_path_st (trellisref15_path_n n)
  | 0 => fun w F x1 x6 A2 n3 c4 h5 hF hL0 r h => h.elim
  | n + 1 => by
    have ih := trellisref15_path_ind n
    exact trellisref15_path_step _ ih
theorem trellisref15_path_calls (w : World) (F : Nat → Prop) (x1 : List trellisref15_Tree) (x6 : Int) (A2 : Option Addr) (n3 : Nat) (c4 : Nat) (h5 : Rw k_trellisref15_Tree w (St w []).av A2 n3 c4 x1) (hF : ∀ b, F b → b < w.heap.size ∧ ∀ o ∈ ([] : List (List Nat)), b ∉ o) (hL0 : B.Loc w w [] [Sm w.heap.size F w [], St w []]) (r : List Int) (h : trellisref15_path x1 x6 r) : Calls Try.prog 69 #[.slice A2 n3 c4, .int .i64 x6] w (trellisref15_path_R w F  r) := by
  obtain ⟨n, h⟩ := h
  exact (trellisref15_path_ind n) w F x1 x6 A2 n3 c4 h5 hF hL0 r h
noncomputable abbrev trellisref15_Path_c0 : Code := bodyOf Try.f51
noncomputable abbrev trellisref15_Path_c1 : Code := Code.fst trellisref15_Path_c0
noncomputable abbrev trellisref15_Path_c2 : Code := Code.snd trellisref15_Path_c0
noncomputable abbrev trellisref15_Path_c3 : Code := Code.fst trellisref15_Path_c2
noncomputable abbrev trellisref15_Path_c4 : Code := Code.snd trellisref15_Path_c2
noncomputable abbrev trellisref15_Path_c5 : Code := Code.fst trellisref15_Path_c4
noncomputable abbrev trellisref15_Path_c6 : Code := Code.snd trellisref15_Path_c4
abbrev trellisref15_Path_R (w : World) (F : Nat → Prop) (r : List Int) : Ending → World → Prop := fun e w' => ∃ A0 : Option Addr, ∃ n0 : Nat, ∃ c0 : Nat, e = .returned (.slice A0 n0 c0) ∧ B.Loc w w' [.own (.slice A0 n0 c0) 3 1 n0 (r.flatMap (eI .i64))] [St w []] ∧ Ow w.heap.size A0 n0 c0 r
noncomputable abbrev trellisref15_Path_C (w : World) (F : Nat → Prop) (r : List Int) : Cx := ⟨Try.prog, 51, Try.f51, 15, trellisref15_Path_R w F  r, w⟩
theorem trellisref15_Path_calls (w : World) (F : Nat → Prop) (x1 : List api_Node) (x6 : Int) (A2 : Option Addr) (n3 : Nat) (c4 : Nat) (h5 : Rw k_api_Node w (St w []).av A2 n3 c4 x1) (hF : ∀ b, F b → b < w.heap.size ∧ ∀ o ∈ ([] : List (List Nat)), b ∉ o) (hL0 : B.Loc w w [] [Sm w.heap.size F w [], St w []]) (r : List Int) (h : trellisref15_Path x1 x6 r) : Calls Try.prog 51 #[.slice A2 n3 c4, .int .i64 x6] w (trellisref15_Path_R w F  r) := by
  unfold trellisref15_Path at h
  refine calls_of_Loc (vs := [.slice A2 n3 c4, .int .i64 x6]) 15 Try.func51 rfl Try.ntmps51 rfl hL0 ?_
  show G (trellisref15_Path_C w F r) _ _ _ _
  refine g_seq (c := trellisref15_Path_c0) rfl ?_
  refine g_region (c := trellisref15_Path_c1) rfl rfl ?_
  refine wl_v 0 rfl (v_assign rfl) gn rfl ?_
  refine w_end 1 rfl ?_
  refine g_seq (c := trellisref15_Path_c2) rfl ?_
  refine g_region (c := trellisref15_Path_c3) rfl rfl ?_
  refine wl_v 0 rfl (v_move rfl) gn rfl ?_
  obtain ⟨r10, hv11, h⟩ := h
  refine wl_s 1 rfl (s_call [.slice A2 n3 c4] rfl Try.func47 rfl rfl rfl fun w7 hL8 => ?_) gn
  have hp9 : List.Perm ([] : List Ent) (([] : List Ent) ++ ([] : List Ent)) := perm_of_idx [] [] rfl rfl (by kernel_rfl)
  refine Calls.mono (trellisref15_Forest_calls w7 (Fl ([] : List Snap)) x1 A2 n3 c4 (Rw.mono h5 (hL8.toSt hp9 (me 1 rfl))) (hL8.hFl (Sl := ([] : List Snap)) hp9 (sels [] rfl)) (hL8.into hp9 (Fl ([] : List Snap))) r10 hv11) ?_
  rintro _ w19 ⟨A12, n13, c14, cs17, rfl, hM20, h15, hC18⟩
  obtain ⟨sb23, hL21, hv22⟩ := hL8.callB (Sl := ([] : List Snap)) hp9 hM20 F (sels [] rfl) trivial
  have hC18 : Cells k_trellisref15_Tree (Sm w.heap.size F w19 sb23).w (Sm w.heap.size F w19 sb23).av r10.1 cs17 := Cells.mono hv22 hC18
  refine ⟨_, _, _, rfl, hL21, ?_⟩
  refine wl_v 2 rfl (v_move rfl) gn rfl ?_
  refine wl_v 3 rfl (v_extract rfl rfl) gn rfl ?_
  refine wl_v 4 rfl (v_extract rfl rfl) gn rfl ?_
  refine wl_v 5 rfl (v_assign rfl) gn rfl ?_
  refine wl_v 6 rfl (v_assign rfl) gn rfl ?_
  refine w_end 7 rfl ?_
  refine g_seq (c := trellisref15_Path_c4) rfl ?_
  refine g_region (c := trellisref15_Path_c5) rfl rfl ?_
  refine wl_v 0 rfl (v_move rfl) gn rfl ?_
  refine wl_v 1 rfl (v_move rfl) gn rfl ?_
  obtain ⟨r27, hv28, h⟩ := h
  refine wl_s 2 rfl (s_call [.slice A12 n13 c14, .int .i64 x6] rfl Try.func69 rfl rfl rfl fun w24 hL25 => ?_) gn
  have hp26 : List.Perm ([.own (.slice A12 n13 c14) 96 9 n13 cs17] : List Ent) (([] : List Ent) ++ ([.own (.slice A12 n13 c14) 96 9 n13 cs17] : List Ent)) := perm_of_idx [] [0] rfl rfl (by kernel_rfl)
  refine Calls.mono (trellisref15_path_calls w24 (Fl ([] : List Snap)) r10.1 x6 A12 n13 c14 (hL25.argO (dk := k_trellisref15_Tree) hp26 [] rfl 0 rfl rfl (Ow.weak hL8.env.size h15) (me 0 rfl) hC18) (hL25.hFl (Sl := ([] : List Snap)) hp26 (sels [] rfl)) (hL25.into hp26 (Fl ([] : List Snap))) r27 hv28) ?_
  rintro _ w34 ⟨A29, n30, c31, rfl, hM35, h32⟩
  have hL36 := hL25.call hp26 hM35
  refine ⟨_, _, _, rfl, hL36, ?_⟩
  refine wl_v 3 rfl (v_assign rfl) gn rfl ?_
  refine w_end 4 rfl ?_
  refine g_retR (c := trellisref15_Path_c6) [.slice A29 n30 c31] rfl Try.func51 rfl (.tmp rfl (.nil)) fun wr hLr => ?_
  have hMr : B.Loc w wr [.own (.slice A29 n30 c31) 3 1 n30 (r27.flatMap (eI .i64))] [St w []] := hLr.pick (rest := [.own (.slice A12 n13 c14) 96 9 n13 cs17]) (perm_of_idx [0] [1] rfl rfl (by kernel_rfl)) (sels [2] rfl)
  have hMi : ∀ e ∈ ([.own (.slice A29 n30 c31) 3 1 n30 (r27.flatMap (eI .i64))] : List Ent), e ∈ ([.own (.slice A29 n30 c31) 3 1 n30 (r27.flatMap (eI .i64)), .own (.slice A12 n13 c14) 96 9 n13 cs17] : List Ent) := sels [0] rfl
  show trellisref15_Path_R w F  r (.returned (packV [.slice A29 n30 c31])) wr
  rw [h]
  exact ⟨A29, n30, c31, rfl, hMr, (Ow.weak hL25.env.size h32)⟩
noncomputable abbrev tree_Kids_c0 : Code := bodyOf Try.f42
noncomputable abbrev tree_Kids_c1 : Code := Code.fst tree_Kids_c0
noncomputable abbrev tree_Kids_c2 : Code := Code.snd tree_Kids_c0
noncomputable abbrev tree_Kids_c3 : Code := Code.fst tree_Kids_c2
noncomputable abbrev tree_Kids_c4 : Code := Code.snd tree_Kids_c2
noncomputable abbrev tree_Kids_c5 : Code := Code.fst tree_Kids_c4
noncomputable abbrev tree_Kids_c6 : Code := Code.snd tree_Kids_c4
noncomputable abbrev tree_Kids_c7 : Code := Code.fst tree_Kids_c5
noncomputable abbrev tree_Kids_c8 : Code := Code.snd tree_Kids_c5
noncomputable abbrev tree_Kids_c9 : Code := Code.fst tree_Kids_c8
noncomputable abbrev tree_Kids_c10 : Code := Code.snd tree_Kids_c8
noncomputable abbrev tree_Kids_c11 : Code := Code.fst tree_Kids_c6
noncomputable abbrev tree_Kids_c12 : Code := Code.snd tree_Kids_c6
noncomputable abbrev tree_Kids_c13 : Code := Code.fst tree_Kids_c9
noncomputable abbrev tree_Kids_c14 : Code := Code.snd tree_Kids_c9
abbrev tree_Kids_R (w : World) (F : Nat → Prop) (r : List Int) : Ending → World → Prop := fun e w' => ∃ A0 : Option Addr, ∃ n0 : Nat, ∃ c0 : Nat, e = .returned (.slice A0 n0 c0) ∧ B.Loc w w' [.own (.slice A0 n0 c0) 3 1 n0 (r.flatMap (eI .i64))] [St w []] ∧ Ow w.heap.size A0 n0 c0 r
noncomputable abbrev tree_Kids_C (w : World) (F : Nat → Prop) (r : List Int) : Cx := ⟨Try.prog, 42, Try.f42, 21, tree_Kids_R w F  r, w⟩
theorem tree_Kids_calls (w : World) (F : Nat → Prop) (x1 : List api_Node) (x6 : Int) (A2 : Option Addr) (n3 : Nat) (c4 : Nat) (h5 : Rw k_api_Node w (St w []).av A2 n3 c4 x1) (hF : ∀ b, F b → b < w.heap.size ∧ ∀ o ∈ ([] : List (List Nat)), b ∉ o) (hL0 : B.Loc w w [] [Sm w.heap.size F w [], St w []]) (r : List Int) (h : tree_Kids x1 x6 r) : Calls Try.prog 42 #[.slice A2 n3 c4, .int .i64 x6] w (tree_Kids_R w F  r) := by
  unfold tree_Kids at h
  refine calls_of_Loc (vs := [.slice A2 n3 c4, .int .i64 x6]) 21 Try.func42 rfl Try.ntmps42 rfl hL0 ?_
  show G (tree_Kids_C w F r) _ _ _ _
  refine g_seq (c := tree_Kids_c0) rfl ?_
  refine g_region (c := tree_Kids_c1) rfl rfl ?_
  refine wl_v 0 rfl (v_assign rfl) gn rfl ?_
  refine w_end 1 rfl ?_
  refine g_seq (c := tree_Kids_c2) rfl ?_
  refine g_region (c := tree_Kids_c3) rfl rfl ?_
  refine wl_v 0 rfl (v_move rfl) gn rfl ?_
  obtain ⟨r10, hv11, h⟩ := h
  refine wl_s 1 rfl (s_call [.slice A2 n3 c4] rfl Try.func44 rfl rfl rfl fun w7 hL8 => ?_) gn
  have hp9 : List.Perm ([] : List Ent) (([] : List Ent) ++ ([] : List Ent)) := perm_of_idx [] [] rfl rfl (by kernel_rfl)
  refine Calls.mono (tree_plant_calls w7 (Fl ([St w []] : List Snap)) x1 A2 n3 c4 (Rw.mono h5 (hL8.toFl (me 1 rfl) (me 0 rfl))) (hL8.hFl (Sl := ([St w []] : List Snap)) hp9 (sels [1] rfl)) (hL8.into hp9 (Fl ([St w []] : List Snap))) r10 hv11) ?_
  rintro _ w26 ⟨A16, n17, c18, A21, n22, c23, A12, n13, c14, rfl, hM27, h19, h24, h15⟩
  obtain ⟨sv30, hL28, hv29⟩ := hL8.callN (Sl := ([St w []] : List Snap)) hp9 hM27 (sels [1] rfl)
  have h15 : At k_api_Node (sv30) A12 n13 c14 r10.nodes := Rw.mono h15 hv29
  refine ⟨_, _, _, rfl, hL28, ?_⟩
  refine wl_s 2 rfl (s_alloc [.slice none 0 0, .slice none 0 0, .slice none 0 0, .bool false] zr_32 rfl fun gb31 => ?_) gn
  refine wl_s 3 rfl (s_stB (vs := [.slice A12 n13 c14, .slice A16 n17 c18, .slice A21 n22 c23, .bool r10.ok]) (cs' := [.slice A12 n13 c14, .slice A16 n17 c18, .slice A21 n22 c23, .bool r10.ok]) (M' := [.box gb31 32 [.slice A12 n13 c14, .slice A16 n17 c18, .slice A21 n22 c23, .bool r10.ok], .own (.slice A16 n17 c18) 3 1 n17 (r10.parent.flatMap (eI .i64)), .own (.slice A21 n22 c23) 3 1 n22 (r10.end_.flatMap (eI .i64))]) 0 sz_32 rfl rfl rfl rfl rfl rfl rfl rfl rfl ?_) gn
  refine w_end 4 rfl ?_
  refine g_seq (c := tree_Kids_c4) rfl ?_
  refine g_seq (c := tree_Kids_c5) rfl ?_
  refine g_region (c := tree_Kids_c7) rfl rfl ?_
  refine wl_v 0 rfl (v_ldB [.slice A12 n13 c14, .slice A16 n17 c18, .slice A21 n22 c23, .bool r10.ok] 0 ld_32 rfl rfl rfl rfl) gn rfl ?_
  refine wl_v 1 rfl (v_move rfl) gn rfl ?_
  obtain ⟨r36, hv37, h⟩ := h
  refine wl_s 2 rfl (s_call [.agg #[.slice A12 n13 c14, .slice A16 n17 c18, .slice A21 n22 c23, .bool r10.ok], .int .i64 x6] rfl Try.func46 rfl rfl rfl fun w33 hL34 => ?_) gn
  have hp35 : List.Perm ([.box gb31 32 [.slice A12 n13 c14, .slice A16 n17 c18, .slice A21 n22 c23, .bool r10.ok], .own (.slice A16 n17 c18) 3 1 n17 (r10.parent.flatMap (eI .i64)), .own (.slice A21 n22 c23) 3 1 n22 (r10.end_.flatMap (eI .i64))] : List Ent) (([] : List Ent) ++ ([.box gb31 32 [.slice A12 n13 c14, .slice A16 n17 c18, .slice A21 n22 c23, .bool r10.ok], .own (.slice A16 n17 c18) 3 1 n17 (r10.parent.flatMap (eI .i64)), .own (.slice A21 n22 c23) 3 1 n22 (r10.end_.flatMap (eI .i64))] : List Ent)) := perm_of_idx [] [0, 1, 2] rfl rfl (by kernel_rfl)
  refine Calls.mono (tree_forest_has_calls w33 (Fl ([] : List Snap)) r10 x6 A12 n13 c14 A16 n17 c18 A21 n22 c23 (Rw.mono h15 (hL34.toSt hp35 (me 0 rfl))) (hL34.argO (dk := (kInt .i64)) hp35 [] rfl 1 rfl rfl (Ow.weak hL8.env.size h19) (me 1 rfl) (Cells.flat _)) (hL34.argO (dk := (kInt .i64)) hp35 [] rfl 2 rfl rfl (Ow.weak hL8.env.size h24) (me 1 rfl) (Cells.flat _)) (hL34.hFl (Sl := ([] : List Snap)) hp35 (sels [] rfl)) (hL34.into hp35 (Fl ([] : List Snap))) r36 hv37) ?_
  rintro _ w38 ⟨rfl, hM39⟩
  have hL40 := hL34.call hp35 hM39
  refine ⟨_, _, _, rfl, hL40, ?_⟩
  refine wl_v 3 rfl (v_not rfl) gn rfl ?_
  refine w_end 4 rfl ?_
  by_cases hp41 : r36 = true
  · have h := if_pos' hp41 h
    refine g_false (c := tree_Kids_c8) rfl _ rfl ((nf hp41)) ?_
    refine g_skip (c := tree_Kids_c10) rfl ?_
    refine g_seq (c := tree_Kids_c6) rfl ?_
    obtain ⟨hb42, h⟩ := h
    obtain ⟨r46, hv47, h⟩ := h
    have hns : Region.noSelect (Code.ops tree_Kids_c11) = true := by kernel_rfl
    refine g_drawF (c := tree_Kids_c11) [.box gb31 32 [.slice A12 n13 c14, .slice A16 n17 c18, .slice A21 n22 c23, .bool r10.ok], .own (.slice A16 n17 c18) 3 1 n17 (r10.parent.flatMap (eI .i64)), .own (.slice A21 n22 c23) 3 1 n22 (r10.end_.flatMap (eI .i64))] [sv30, Sm w.heap.size F w [], St w []] [] 10 rfl rfl mix rfl (.cons_cons _ (.cons_cons _ (.cons_cons _ (.slnil)))) (sels [0, 1, 2] rfl) ?_
    refine wf_v 0 rfl (v_ldB [.slice A12 n13 c14, .slice A16 n17 c18, .slice A21 n22 c23, .bool r10.ok] 0 ld_32 rfl rfl rfl rfl) gn rfl hns (by kernel_rfl) (by kernel_rfl) rfl rfl ?_
    refine wf_v 1 rfl (v_move rfl) gn rfl hns (by kernel_rfl) (by kernel_rfl) rfl rfl ?_
    refine wf_v 2 rfl (v_bin rfl rfl rfl) gn rfl hns (by kernel_rfl) (by kernel_rfl) rfl rfl ?_
    refine wf_v 3 rfl (v_fldB fo_32_2 rfl) gn rfl hns (by kernel_rfl) (by kernel_rfl) rfl rfl ?_
    refine wf_v 4 rfl (v_ldB1 0 ld_23 rfl rfl rfl) gn rfl hns (by kernel_rfl) (by kernel_rfl) rfl rfl ?_
    refine wf_v 5 rfl (v_move rfl) gn rfl hns (by kernel_rfl) (by kernel_rfl) rfl rfl ?_
    refine wf_v 6 rfl (v_idxO slE_23 rfl rfl (Ow.weak hL8.env.size h24) hb42) gn rfl hns (by kernel_rfl) (by kernel_rfl) rfl rfl ?_
    refine wf_v 7 rfl (v_ldO1 (.int .i64 (ix r10.end_ x6)) 2 ld_3 rfl rfl (fm_get0 (hlI .i64) hb42 rfl)) gn rfl hns (by kernel_rfl) (by kernel_rfl) rfl rfl ?_
    refine wf_all [8] (by kernel_rfl) rfl ⟨on_s 8 rfl gn rfl (s_call [.agg #[.slice A12 n13 c14, .slice A16 n17 c18, .slice A21 n22 c23, .bool r10.ok], .int .i64 (w64 (x6 + 1)), .int .i64 (ix r10.end_ x6)] rfl Try.func66 rfl rfl rfl fun w86 hL87 => ?_), trivial⟩
    have hp88 : List.Perm ([.box gb31 32 [.slice A12 n13 c14, .slice A16 n17 c18, .slice A21 n22 c23, .bool r10.ok], .own (.slice A16 n17 c18) 3 1 n17 (r10.parent.flatMap (eI .i64)), .own (.slice A21 n22 c23) 3 1 n22 (r10.end_.flatMap (eI .i64))] : List Ent) (([] : List Ent) ++ ([.box gb31 32 [.slice A12 n13 c14, .slice A16 n17 c18, .slice A21 n22 c23, .bool r10.ok], .own (.slice A16 n17 c18) 3 1 n17 (r10.parent.flatMap (eI .i64)), .own (.slice A21 n22 c23) 3 1 n22 (r10.end_.flatMap (eI .i64))] : List Ent)) := perm_of_idx [] [0, 1, 2] rfl rfl (by kernel_rfl)
    refine Calls.mono (tree_forest_beside_calls w86 (Fl ([] : List Snap)) r10 (w64 (x6 + 1)) (ix r10.end_ x6) A12 n13 c14 A16 n17 c18 A21 n22 c23 (Rw.mono h15 (hL87.toSt hp88 (me 0 rfl))) (hL87.argO (dk := (kInt .i64)) hp88 [] rfl 1 rfl rfl (Ow.weak hL8.env.size h19) (me 1 rfl) (Cells.flat _)) (hL87.argO (dk := (kInt .i64)) hp88 [] rfl 2 rfl rfl (Ow.weak hL8.env.size h24) (me 1 rfl) (Cells.flat _)) (hL87.hFl (Sl := ([] : List Snap)) hp88 (sels [] rfl)) (hL87.into hp88 (Fl ([] : List Snap))) r46 hv47) ?_
    rintro _ w93 ⟨A89, n90, c91, rfl, hM94, h92⟩
    have hL95 := hL87.call hp88 hM94
    refine ⟨_, _, _, rfl, hL95, ?_⟩
    refine ⟨sels [1, 2, 3] rfl, sels [0, 1, 2] rfl, ?_⟩
    refine wf_v 9 rfl (v_assign rfl) gn rfl hns (by kernel_rfl) (by kernel_rfl) rfl rfl ?_
    refine wf_end (by kernel_rfl) ?_
    refine g_retR (c := tree_Kids_c12) [.slice A89 n90 c91] rfl Try.func42 rfl (.tmp rfl (.nil)) fun wr hLr => ?_
    have hMr : B.Loc w wr [.own (.slice A89 n90 c91) 3 1 n90 (r46.flatMap (eI .i64))] [St w []] := hLr.pick (rest := [.box gb31 32 [.slice A12 n13 c14, .slice A16 n17 c18, .slice A21 n22 c23, .bool r10.ok], .own (.slice A16 n17 c18) 3 1 n17 (r10.parent.flatMap (eI .i64)), .own (.slice A21 n22 c23) 3 1 n22 (r10.end_.flatMap (eI .i64))]) (perm_of_idx [0] [1, 2, 3] rfl rfl (by kernel_rfl)) (sels [2] rfl)
    have hMi : ∀ e ∈ ([.own (.slice A89 n90 c91) 3 1 n90 (r46.flatMap (eI .i64))] : List Ent), e ∈ ([.own (.slice A89 n90 c91) 3 1 n90 (r46.flatMap (eI .i64)), .box gb31 32 [.slice A12 n13 c14, .slice A16 n17 c18, .slice A21 n22 c23, .bool r10.ok], .own (.slice A16 n17 c18) 3 1 n17 (r10.parent.flatMap (eI .i64)), .own (.slice A21 n22 c23) 3 1 n22 (r10.end_.flatMap (eI .i64))] : List Ent) := sels [0] rfl
    show tree_Kids_R w F  r (.returned (packV [.slice A89 n90 c91])) wr
    rw [h]
    exact ⟨A89, n90, c91, rfl, hMr, (Ow.weak hL87.env.size h92)⟩
  · have h := if_neg' hp41 h
    refine g_true (c := tree_Kids_c8) rfl _ rfl ((nt (bf hp41))) ?_
    refine g_seq (c := tree_Kids_c9) rfl ?_
    refine g_region (c := tree_Kids_c13) rfl rfl ?_
    refine wl_v 0 rfl (v_assign rfl) gn rfl ?_
    refine w_end 1 rfl ?_
    refine g_nil 3 1 ?_
    refine g_retR (c := tree_Kids_c14) [.slice none 0 0] rfl Try.func42 rfl (.tmp rfl (.nil)) fun wr hLr => ?_
    have hMr : B.Loc w wr [.own (.slice none 0 0) 3 1 0 (([] : List Int).flatMap (eI .i64))] [St w []] := hLr.pick (rest := [.box gb31 32 [.slice A12 n13 c14, .slice A16 n17 c18, .slice A21 n22 c23, .bool r10.ok], .own (.slice A16 n17 c18) 3 1 n17 (r10.parent.flatMap (eI .i64)), .own (.slice A21 n22 c23) 3 1 n22 (r10.end_.flatMap (eI .i64))]) (perm_of_idx [0] [1, 2, 3] rfl rfl (by kernel_rfl)) (sels [2] rfl)
    have hMi : ∀ e ∈ ([.own (.slice none 0 0) 3 1 0 (([] : List Int).flatMap (eI .i64))] : List Ent), e ∈ ([.own (.slice none 0 0) 3 1 0 (([] : List Int).flatMap (eI .i64)), .box gb31 32 [.slice A12 n13 c14, .slice A16 n17 c18, .slice A21 n22 c23, .bool r10.ok], .own (.slice A16 n17 c18) 3 1 n17 (r10.parent.flatMap (eI .i64)), .own (.slice A21 n22 c23) 3 1 n22 (r10.end_.flatMap (eI .i64))] : List Ent) := sels [0] rfl
    show tree_Kids_R w F  r (.returned (packV [.slice none 0 0])) wr
    rw [h]
    exact ⟨none, 0, 0, rfl, hMr, (Ow.nil (z := w.heap.size))⟩
noncomputable abbrev tree_Path_c0 : Code := bodyOf Try.f39
noncomputable abbrev tree_Path_c1 : Code := Code.fst tree_Path_c0
noncomputable abbrev tree_Path_c2 : Code := Code.snd tree_Path_c0
noncomputable abbrev tree_Path_c3 : Code := Code.fst tree_Path_c2
noncomputable abbrev tree_Path_c4 : Code := Code.snd tree_Path_c2
noncomputable abbrev tree_Path_c5 : Code := Code.fst tree_Path_c4
noncomputable abbrev tree_Path_c6 : Code := Code.snd tree_Path_c4
noncomputable abbrev tree_Path_c7 : Code := Code.fst tree_Path_c5
noncomputable abbrev tree_Path_c8 : Code := Code.snd tree_Path_c5
noncomputable abbrev tree_Path_c9 : Code := Code.fst tree_Path_c8
noncomputable abbrev tree_Path_c10 : Code := Code.snd tree_Path_c8
noncomputable abbrev tree_Path_c11 : Code := Code.fst tree_Path_c6
noncomputable abbrev tree_Path_c12 : Code := Code.snd tree_Path_c6
noncomputable abbrev tree_Path_c13 : Code := Code.fst tree_Path_c12
noncomputable abbrev tree_Path_c14 : Code := Code.snd tree_Path_c12
noncomputable abbrev tree_Path_c15 : Code := Code.fst tree_Path_c13
noncomputable abbrev tree_Path_c16 : Code := Code.snd tree_Path_c13
noncomputable abbrev tree_Path_c17 : Code := Code.fst tree_Path_c16
noncomputable abbrev tree_Path_c18 : Code := Code.fst tree_Path_c17
noncomputable abbrev tree_Path_c19 : Code := Code.fst tree_Path_c18
noncomputable abbrev tree_Path_c20 : Code := Code.snd tree_Path_c18
noncomputable abbrev tree_Path_c21 : Code := Code.fst tree_Path_c19
noncomputable abbrev tree_Path_c22 : Code := Code.snd tree_Path_c19
noncomputable abbrev tree_Path_c23 : Code := Code.fst tree_Path_c22
noncomputable abbrev tree_Path_c24 : Code := Code.snd tree_Path_c22
noncomputable abbrev tree_Path_c25 : Code := Code.fst tree_Path_c20
noncomputable abbrev tree_Path_c26 : Code := Code.fst tree_Path_c25
noncomputable abbrev tree_Path_c27 : Code := Code.snd tree_Path_c25
noncomputable abbrev tree_Path_c28 : Code := Code.fst tree_Path_c27
noncomputable abbrev tree_Path_c29 : Code := Code.snd tree_Path_c27
noncomputable abbrev tree_Path_c30 : Code := Code.fst tree_Path_c28
noncomputable abbrev tree_Path_c31 : Code := Code.snd tree_Path_c28
noncomputable abbrev tree_Path_c32 : Code := Code.fst tree_Path_c14
noncomputable abbrev tree_Path_c33 : Code := Code.snd tree_Path_c14
noncomputable abbrev tree_Path_c34 : Code := Code.fst tree_Path_c9
noncomputable abbrev tree_Path_c35 : Code := Code.snd tree_Path_c9
abbrev tree_Path_R (w : World) (F : Nat → Prop) (r : List Int) : Ending → World → Prop := fun e w' => ∃ A0 : Option Addr, ∃ n0 : Nat, ∃ c0 : Nat, e = .returned (.slice A0 n0 c0) ∧ B.Loc w w' [.own (.slice A0 n0 c0) 3 1 n0 (r.flatMap (eI .i64))] [St w []] ∧ Ow w.heap.size A0 n0 c0 r
noncomputable abbrev tree_Path_C (w : World) (F : Nat → Prop) (r : List Int) : Cx := ⟨Try.prog, 39, Try.f39, 52, tree_Path_R w F  r, w⟩
theorem tree_Path_calls (w : World) (F : Nat → Prop) (x1 : List api_Node) (x6 : Int) (A2 : Option Addr) (n3 : Nat) (c4 : Nat) (h5 : Rw k_api_Node w (St w []).av A2 n3 c4 x1) (hF : ∀ b, F b → b < w.heap.size ∧ ∀ o ∈ ([] : List (List Nat)), b ∉ o) (hL0 : B.Loc w w [] [Sm w.heap.size F w [], St w []]) (r : List Int) (h : tree_Path x1 x6 r) : Calls Try.prog 39 #[.slice A2 n3 c4, .int .i64 x6] w (tree_Path_R w F  r) := by
  unfold tree_Path at h
  refine calls_of_Loc (vs := [.slice A2 n3 c4, .int .i64 x6]) 52 Try.func39 rfl Try.ntmps39 rfl hL0 ?_
  show G (tree_Path_C w F r) _ _ _ _
  refine g_seq (c := tree_Path_c0) rfl ?_
  refine g_region (c := tree_Path_c1) rfl rfl ?_
  refine wl_v 0 rfl (v_assign rfl) gn rfl ?_
  refine w_end 1 rfl ?_
  refine g_seq (c := tree_Path_c2) rfl ?_
  refine g_region (c := tree_Path_c3) rfl rfl ?_
  refine wl_v 0 rfl (v_move rfl) gn rfl ?_
  obtain ⟨r10, hv11, h⟩ := h
  refine wl_s 1 rfl (s_call [.slice A2 n3 c4] rfl Try.func44 rfl rfl rfl fun w7 hL8 => ?_) gn
  have hp9 : List.Perm ([] : List Ent) (([] : List Ent) ++ ([] : List Ent)) := perm_of_idx [] [] rfl rfl (by kernel_rfl)
  refine Calls.mono (tree_plant_calls w7 (Fl ([St w []] : List Snap)) x1 A2 n3 c4 (Rw.mono h5 (hL8.toFl (me 1 rfl) (me 0 rfl))) (hL8.hFl (Sl := ([St w []] : List Snap)) hp9 (sels [1] rfl)) (hL8.into hp9 (Fl ([St w []] : List Snap))) r10 hv11) ?_
  rintro _ w26 ⟨A16, n17, c18, A21, n22, c23, A12, n13, c14, rfl, hM27, h19, h24, h15⟩
  obtain ⟨sv30, hL28, hv29⟩ := hL8.callN (Sl := ([St w []] : List Snap)) hp9 hM27 (sels [1] rfl)
  have h15 : At k_api_Node (sv30) A12 n13 c14 r10.nodes := Rw.mono h15 hv29
  refine ⟨_, _, _, rfl, hL28, ?_⟩
  refine wl_s 2 rfl (s_alloc [.slice none 0 0, .slice none 0 0, .slice none 0 0, .bool false] zr_32 rfl fun gb31 => ?_) gn
  refine wl_s 3 rfl (s_stB (vs := [.slice A12 n13 c14, .slice A16 n17 c18, .slice A21 n22 c23, .bool r10.ok]) (cs' := [.slice A12 n13 c14, .slice A16 n17 c18, .slice A21 n22 c23, .bool r10.ok]) (M' := [.box gb31 32 [.slice A12 n13 c14, .slice A16 n17 c18, .slice A21 n22 c23, .bool r10.ok], .own (.slice A16 n17 c18) 3 1 n17 (r10.parent.flatMap (eI .i64)), .own (.slice A21 n22 c23) 3 1 n22 (r10.end_.flatMap (eI .i64))]) 0 sz_32 rfl rfl rfl rfl rfl rfl rfl rfl rfl ?_) gn
  refine w_end 4 rfl ?_
  refine g_seq (c := tree_Path_c4) rfl ?_
  refine g_seq (c := tree_Path_c5) rfl ?_
  refine g_region (c := tree_Path_c7) rfl rfl ?_
  refine wl_v 0 rfl (v_fldB fo_32_3 rfl) gn rfl ?_
  refine wl_v 1 rfl (v_ldB1 0 ld_4 rfl rfl rfl) gn rfl ?_
  refine wl_v 2 rfl (v_not rfl) gn rfl ?_
  refine w_end 3 rfl ?_
  by_cases hp33 : r10.ok = true
  · have h := if_pos' hp33 h
    refine g_false (c := tree_Path_c8) rfl _ rfl ((nf hp33)) ?_
    refine g_skip (c := tree_Path_c10) rfl ?_
    refine g_seq (c := tree_Path_c6) rfl ?_
    refine g_region (c := tree_Path_c11) rfl rfl ?_
    refine wl_v 0 rfl (v_assign rfl) gn rfl ?_
    refine w_end 1 rfl ?_
    refine g_seq (c := tree_Path_c12) rfl ?_
    refine g_seq (c := tree_Path_c13) rfl ?_
    refine g_region (c := tree_Path_c15) rfl rfl ?_
    refine wl_v 0 rfl (v_move rfl) gn rfl ?_
    refine wl_v 1 rfl (v_lenQ un_22 rfl h5.hq) gn rfl ?_
    refine wl_v 2 rfl (v_assign rfl) gn rfl ?_
    refine wl_v 3 rfl (v_assign rfl) gn rfl ?_
    refine w_end 4 rfl ?_
    refine g_block (c := tree_Path_c16) rfl ?_
    refine g_loop (c := tree_Path_c17) rfl ?_
    have key1 : ∀ s, Rounds (fun (s : (List Int) × Int × Int) o => tree_Path_b1 x1 x6 r10 s.1 s.2.1 s.2.2 o) s r → (fun (s : (List Int) × Int × Int) => ∀ (A60 : Option Addr) (n61 : Nat) (c62 : Nat) (h63 : Ow w.heap.size A60 n61 c62 s.1), G (tree_Path_C w F r) [.code tree_Path_c18, .inLoop tree_Path_c18, .inBlock 0, .code tree_Path_c14] [(0, .slice A2 n3 c4), (1, .int .i64 x6), (5, .pointer (some ⟨gb31, 0, none⟩)), (6, .slice A60 n61 c62), (7, .int .i64 s.2.1), (8, .int .i64 s.2.2)] [.own (.slice A60 n61 c62) 3 1 n61 (s.1.flatMap (eI .i64)), .box gb31 32 [.slice A12 n13 c14, .slice A16 n17 c18, .slice A21 n22 c23, .bool r10.ok], .own (.slice A16 n17 c18) 3 1 n17 (r10.parent.flatMap (eI .i64)), .own (.slice A21 n22 c23) 3 1 n22 (r10.end_.flatMap (eI .i64))] [sv30, Sm w.heap.size F w [], St w []]) s := by
      intro s hs
      refine Rounds.ind (mot := (fun (s : (List Int) × Int × Int) => ∀ (A60 : Option Addr) (n61 : Nat) (c62 : Nat) (h63 : Ow w.heap.size A60 n61 c62 s.1), G (tree_Path_C w F r) [.code tree_Path_c18, .inLoop tree_Path_c18, .inBlock 0, .code tree_Path_c14] [(0, .slice A2 n3 c4), (1, .int .i64 x6), (5, .pointer (some ⟨gb31, 0, none⟩)), (6, .slice A60 n61 c62), (7, .int .i64 s.2.1), (8, .int .i64 s.2.2)] [.own (.slice A60 n61 c62) 3 1 n61 (s.1.flatMap (eI .i64)), .box gb31 32 [.slice A12 n13 c14, .slice A16 n17 c18, .slice A21 n22 c23, .bool r10.ok], .own (.slice A16 n17 c18) 3 1 n17 (r10.parent.flatMap (eI .i64)), .own (.slice A21 n22 c23) 3 1 n22 (r10.end_.flatMap (eI .i64))] [sv30, Sm w.heap.size F w [], St w []])) ?_ hs
      clear hs s
      intro s o1 h hO1
      obtain ⟨x59, x64, x65⟩ := s
      show ∀ (A60 : Option Addr) (n61 : Nat) (c62 : Nat) (h63 : Ow w.heap.size A60 n61 c62 x59), G (tree_Path_C w F r) [.code tree_Path_c18, .inLoop tree_Path_c18, .inBlock 0, .code tree_Path_c14] [(0, .slice A2 n3 c4), (1, .int .i64 x6), (5, .pointer (some ⟨gb31, 0, none⟩)), (6, .slice A60 n61 c62), (7, .int .i64 x64), (8, .int .i64 x65)] [.own (.slice A60 n61 c62) 3 1 n61 (x59.flatMap (eI .i64)), .box gb31 32 [.slice A12 n13 c14, .slice A16 n17 c18, .slice A21 n22 c23, .bool r10.ok], .own (.slice A16 n17 c18) 3 1 n17 (r10.parent.flatMap (eI .i64)), .own (.slice A21 n22 c23) 3 1 n22 (r10.end_.flatMap (eI .i64))] [sv30, Sm w.heap.size F w [], St w []]
      intro A60 n61 c62 h63
      have h : tree_Path_b1 x1 x6 r10 x59 x64 x65 o1 := h
      unfold tree_Path_b1 at h
      refine g_seq (c := tree_Path_c18) rfl ?_
      refine g_seq (c := tree_Path_c19) rfl ?_
      refine g_region (c := tree_Path_c21) rfl rfl ?_
      refine wl_v 0 rfl (v_move rfl) gn rfl ?_
      refine wl_v 1 rfl (v_move rfl) gn rfl ?_
      refine wl_v 2 rfl (v_bin rfl rfl rfl) gn rfl ?_
      refine w_end 3 rfl ?_
      by_cases hp89 : x64 < x65
      · have h := if_pos' hp89 h
        refine g_true (c := tree_Path_c22) rfl _ rfl ((decide_eq_true hp89)) ?_
        refine g_skip (c := tree_Path_c23) rfl ?_
        refine g_block (c := tree_Path_c20) rfl ?_
        refine g_seq (c := tree_Path_c25) rfl ?_
        have j2 : ∀ (x95 : Bool) (h : tree_Path_j2 x59 x64 r10 x65 x95 o1) , G (tree_Path_C w F r) [.code tree_Path_c27, .inBlock 1, .inLoop tree_Path_c18, .inBlock 0, .code tree_Path_c14] [(0, .slice A2 n3 c4), (1, .int .i64 x6), (5, .pointer (some ⟨gb31, 0, none⟩)), (6, .slice A60 n61 c62), (7, .int .i64 x64), (8, .int .i64 x65), (34, .bool x95)] [.own (.slice A60 n61 c62) 3 1 n61 (x59.flatMap (eI .i64)), .box gb31 32 [.slice A12 n13 c14, .slice A16 n17 c18, .slice A21 n22 c23, .bool r10.ok], .own (.slice A16 n17 c18) 3 1 n17 (r10.parent.flatMap (eI .i64)), .own (.slice A21 n22 c23) 3 1 n22 (r10.end_.flatMap (eI .i64))] [sv30, Sm w.heap.size F w [], St w []] := by
          intro x95 h
          unfold tree_Path_j2 at h
          by_cases hp96 : x95 = true
          · have h := if_pos' hp96 h
            refine g_true (c := tree_Path_c27) rfl _ rfl (hp96) ?_
            refine g_seq (c := tree_Path_c28) rfl ?_
            refine g_region (c := tree_Path_c30) rfl rfl ?_
            refine wl_v 0 rfl (v_move rfl) gn rfl ?_
            refine wl_v 1 rfl (v_move rfl) gn rfl ?_
            refine wl_s 2 rfl (s_litO (xs := ([x64] : List Int)) [.int .i64 x64] bs_23_1 rfl (by kernel_rfl) rfl rfl rfl rfl fun gb98 h99 => ?_) gn
            obtain ⟨x103, hv104, h⟩ := h
            obtain ⟨hb105, h⟩ := h
            refine wl_s 3 rfl (s_app (zs := x103) (cells' := x103.flatMap (eI .i64)) 1 ap_23 rfl rfl rfl h63 (Nat.le_refl _) (Src.ownF (hl := (hlI .i64)) (h1 := (hone_int .i64)) 0 rfl h99) (by rw [hv104, List.flatMap_append] <;> rfl) (app_len hv104 h99.hq) hb105 rfl rfl fun A100 c101 h102 => ?_) gn
            refine wl_v 4 rfl (v_assign rfl) gn rfl ?_
            refine w_end 5 rfl ?_
            obtain ⟨hb106, h⟩ := h
            have hns : Region.noSelect (Code.ops tree_Path_c31) = true := by kernel_rfl
            refine g_drawF (c := tree_Path_c31) [.own (.slice (some ⟨gb98, 0, none⟩) 1 1) 3 1 1 (([x64] : List Int).flatMap (eI .i64)), .own (.slice A100 (n61 + 1) c101) 3 1 (n61 + 1) (x103.flatMap (eI .i64)), .box gb31 32 [.slice A12 n13 c14, .slice A16 n17 c18, .slice A21 n22 c23, .bool r10.ok], .own (.slice A16 n17 c18) 3 1 n17 (r10.parent.flatMap (eI .i64)), .own (.slice A21 n22 c23) 3 1 n22 (r10.end_.flatMap (eI .i64))] [sv30, Sm w.heap.size F w [], St w []] [] 9 rfl rfl mix rfl (.cons_cons _ (.cons_cons _ (.cons_cons _ (.cons_cons _ (.cons_cons _ (.slnil)))))) (sels [0, 1, 2] rfl) ?_
            refine wf_v 0 rfl (v_move rfl) gn rfl hns (by kernel_rfl) (by kernel_rfl) rfl rfl ?_
            refine wf_v 1 rfl (v_bin rfl rfl rfl) gn rfl hns (by kernel_rfl) (by kernel_rfl) rfl rfl ?_
            refine wf_v 2 rfl (v_fldB fo_32_2 rfl) gn rfl hns (by kernel_rfl) (by kernel_rfl) rfl rfl ?_
            refine wf_v 3 rfl (v_ldB1 2 ld_23 rfl rfl rfl) gn rfl hns (by kernel_rfl) (by kernel_rfl) rfl rfl ?_
            refine wf_v 4 rfl (v_move rfl) gn rfl hns (by kernel_rfl) (by kernel_rfl) rfl rfl ?_
            refine wf_v 5 rfl (v_idxO slE_23 rfl rfl (Ow.weak hL8.env.size h24) hb106) gn rfl hns (by kernel_rfl) (by kernel_rfl) rfl rfl ?_
            refine wf_v 6 rfl (v_ldO1 (.int .i64 (ix r10.end_ x64)) 4 ld_3 rfl rfl (fm_get0 (hlI .i64) hb106 rfl)) gn rfl hns (by kernel_rfl) (by kernel_rfl) rfl rfl ?_
            refine wf_v 7 rfl (v_assign rfl) gn rfl hns (by kernel_rfl) (by kernel_rfl) rfl rfl ?_
            refine wf_v 8 rfl (v_assign rfl) gn rfl hns (by kernel_rfl) (by kernel_rfl) rfl rfl ?_
            refine wf_end (by kernel_rfl) ?_
            refine g_inBlock ?_
            refine g_inLoop ?_
            have ih := Out.inl hO1 h
            exact g_go [0, 1, 2] (ih A100 (n61 + 1) c101 h102) ⟨rfl, rfl, rfl, rfl, rfl, rfl, trivial⟩ (.cons _ (.cons_cons _ (.cons_cons _ (.cons_cons _ (.cons_cons _ (.slnil)))))) rfl
          · have h := if_neg' hp96 h
            refine g_false (c := tree_Path_c27) rfl _ rfl ((bf hp96)) ?_
            refine g_region (c := tree_Path_c29) rfl rfl ?_
            refine wl_v 0 rfl (v_fldB fo_32_2 rfl) gn rfl ?_
            refine wl_v 1 rfl (v_ldB1 1 ld_23 rfl rfl rfl) gn rfl ?_
            refine wl_v 2 rfl (v_move rfl) gn rfl ?_
            obtain ⟨hb107, h⟩ := h
            refine wl_v 3 rfl (v_idxO slE_23 rfl rfl (Ow.weak hL8.env.size h24) hb107) gn rfl ?_
            refine wl_v 4 rfl (v_ldO1 (.int .i64 (ix r10.end_ x64)) 3 ld_3 rfl rfl (fm_get0 (hlI .i64) hb107 rfl)) gn rfl ?_
            refine wl_v 5 rfl (v_assign rfl) gn rfl ?_
            refine w_end 6 rfl ?_
            refine g_inBlock ?_
            refine g_inLoop ?_
            have ih := Out.inl hO1 h
            exact g_go [0, 1, 2] (ih A60 n61 c62 h63) ⟨rfl, rfl, rfl, rfl, rfl, rfl, trivial⟩ (.cons_cons _ (.cons_cons _ (.cons_cons _ (.cons_cons _ (.slnil))))) rfl
        refine g_region (c := tree_Path_c26) rfl rfl ?_
        refine wl_v 0 rfl (v_move rfl) gn rfl ?_
        refine wl_v 1 rfl (v_move rfl) gn rfl ?_
        obtain ⟨hb108, h⟩ := h
        have hr109 := Rw.readF (s := St w []) (hl := hl_api_Node) (h1 := h1_api_Node) h5 hb108
        refine wl_v 2 rfl (v_idxR (s := St w []) slE_22 rfl rfl h5 hb108) gn rfl ?_
        refine wl_v 3 rfl (v_fldA fo_39_3 rfl) gn rfl ?_
        refine wl_v 4 rfl (v_ldA1 (kk := (x64 : Int).toNat * 7) (j := 3) (St w []) ld_3 rfl hr109 rfl (me 2 rfl)) gn rfl ?_
        refine wl_v 5 rfl (v_move rfl) gn rfl ?_
        refine wl_v 6 rfl (v_bin rfl rfl rfl) gn rfl ?_
        refine wl_v 7 rfl (v_move rfl) gn rfl ?_
        by_cases hp110 : (ix x1 x64).from_ ≤ x6
        · have h := if_pos' hp110 h
          refine w_bool 26 rfl ((decide_eq_true hp110)) ?_
          refine wl_v 8 rfl (v_move rfl) (gy 26 rfl rfl) rfl ?_
          refine wl_v 9 rfl (v_move rfl) (gy 26 rfl rfl) rfl ?_
          refine wl_v 10 rfl (v_move rfl) (gy 26 rfl rfl) rfl ?_
          have hr111 := Rw.readF (s := St w []) (hl := hl_api_Node) (h1 := h1_api_Node) h5 hb108
          refine wl_v 11 rfl (v_idxR (s := St w []) slE_22 rfl rfl h5 hb108) (gy 26 rfl rfl) rfl ?_
          refine wl_v 12 rfl (v_fldA fo_39_4 rfl) (gy 26 rfl rfl) rfl ?_
          refine wl_v 13 rfl (v_ldA1 (kk := (x64 : Int).toNat * 7) (j := 4) (St w []) ld_3 rfl hr111 rfl (me 2 rfl)) (gy 26 rfl rfl) rfl ?_
          refine wl_v 14 rfl (v_bin rfl rfl rfl) (gy 26 rfl rfl) rfl ?_
          refine wl_v 15 rfl (v_pick (b := true) rfl rfl) gn rfl ?_
          refine w_end 16 rfl ?_
          exact g_go [0, 1, 2] (j2 (decide (x6 < (ix x1 x64).to)) h) ⟨rfl, rfl, rfl, rfl, rfl, rfl, rfl, trivial⟩ (.cons_cons _ (.cons_cons _ (.cons_cons _ (.cons_cons _ (.slnil))))) rfl
        · have h := if_neg' hp110 h
          refine w_bool 26 rfl ((decide_eq_false hp110)) ?_
          refine wl_pass 8 rfl (ps 26 rfl rfl rfl) ?_
          refine wl_pass 9 rfl (ps 26 rfl rfl rfl) ?_
          refine wl_pass 10 rfl (ps 26 rfl rfl rfl) ?_
          refine wl_pass 11 rfl (ps 26 rfl rfl rfl) ?_
          refine wl_pass 12 rfl (ps 26 rfl rfl rfl) ?_
          refine wl_pass 13 rfl (ps 26 rfl rfl rfl) ?_
          refine wl_pass 14 rfl (ps 26 rfl rfl rfl) ?_
          refine wl_v 15 rfl (v_pick (b := false) rfl rfl) gn rfl ?_
          refine w_end 16 rfl ?_
          exact g_go [0, 1, 2] (j2 false h) ⟨rfl, rfl, rfl, rfl, rfl, rfl, rfl, trivial⟩ (.cons_cons _ (.cons_cons _ (.cons_cons _ (.cons_cons _ (.slnil))))) rfl
      · have h := if_neg' hp89 h
        refine g_false (c := tree_Path_c22) rfl _ rfl ((decide_eq_false hp89)) ?_
        refine g_exit (c := tree_Path_c24) [.code tree_Path_c14] rfl rfl ?_
        refine g_seq (c := tree_Path_c14) rfl ?_
        refine g_region (c := tree_Path_c32) rfl rfl ?_
        refine wl_v 0 rfl (v_move rfl) gn rfl ?_
        refine wl_v 1 rfl (v_assign rfl) gn rfl ?_
        refine w_end 2 rfl ?_
        have h := Out.inr hO1 h
        refine g_retR (c := tree_Path_c33) [.slice A60 n61 c62] rfl Try.func39 rfl (.tmp rfl (.nil)) fun wr hLr => ?_
        have hMr : B.Loc w wr [.own (.slice A60 n61 c62) 3 1 n61 (x59.flatMap (eI .i64))] [St w []] := hLr.pick (rest := [.box gb31 32 [.slice A12 n13 c14, .slice A16 n17 c18, .slice A21 n22 c23, .bool r10.ok], .own (.slice A16 n17 c18) 3 1 n17 (r10.parent.flatMap (eI .i64)), .own (.slice A21 n22 c23) 3 1 n22 (r10.end_.flatMap (eI .i64))]) (perm_of_idx [0] [1, 2, 3] rfl rfl (by kernel_rfl)) (sels [2] rfl)
        have hMi : ∀ e ∈ ([.own (.slice A60 n61 c62) 3 1 n61 (x59.flatMap (eI .i64))] : List Ent), e ∈ ([.own (.slice A60 n61 c62) 3 1 n61 (x59.flatMap (eI .i64)), .box gb31 32 [.slice A12 n13 c14, .slice A16 n17 c18, .slice A21 n22 c23, .bool r10.ok], .own (.slice A16 n17 c18) 3 1 n17 (r10.parent.flatMap (eI .i64)), .own (.slice A21 n22 c23) 3 1 n22 (r10.end_.flatMap (eI .i64))] : List Ent) := sels [0] rfl
        show tree_Path_R w F  r (.returned (packV [.slice A60 n61 c62])) wr
        rw [h]
        exact ⟨A60, n61, c62, rfl, hMr, h63⟩
    refine g_nil 3 1 ?_
    exact g_go [0, 1, 2] (key1 _ h none 0 0 (Ow.nil (z := w.heap.size))) ⟨rfl, rfl, rfl, rfl, rfl, rfl, trivial⟩ (.cons_cons _ (.cons_cons _ (.cons_cons _ (.cons_cons _ (.slnil))))) rfl
  · have h := if_neg' hp33 h
    refine g_true (c := tree_Path_c8) rfl _ rfl ((nt (bf hp33))) ?_
    refine g_seq (c := tree_Path_c9) rfl ?_
    refine g_region (c := tree_Path_c34) rfl rfl ?_
    refine wl_v 0 rfl (v_assign rfl) gn rfl ?_
    refine w_end 1 rfl ?_
    refine g_nil 3 1 ?_
    refine g_retR (c := tree_Path_c35) [.slice none 0 0] rfl Try.func39 rfl (.tmp rfl (.nil)) fun wr hLr => ?_
    have hMr : B.Loc w wr [.own (.slice none 0 0) 3 1 0 (([] : List Int).flatMap (eI .i64))] [St w []] := hLr.pick (rest := [.box gb31 32 [.slice A12 n13 c14, .slice A16 n17 c18, .slice A21 n22 c23, .bool r10.ok], .own (.slice A16 n17 c18) 3 1 n17 (r10.parent.flatMap (eI .i64)), .own (.slice A21 n22 c23) 3 1 n22 (r10.end_.flatMap (eI .i64))]) (perm_of_idx [0] [1, 2, 3] rfl rfl (by kernel_rfl)) (sels [2] rfl)
    have hMi : ∀ e ∈ ([.own (.slice none 0 0) 3 1 0 (([] : List Int).flatMap (eI .i64))] : List Ent), e ∈ ([.own (.slice none 0 0) 3 1 0 (([] : List Int).flatMap (eI .i64)), .box gb31 32 [.slice A12 n13 c14, .slice A16 n17 c18, .slice A21 n22 c23, .bool r10.ok], .own (.slice A16 n17 c18) 3 1 n17 (r10.parent.flatMap (eI .i64)), .own (.slice A21 n22 c23) 3 1 n22 (r10.end_.flatMap (eI .i64))] : List Ent) := sels [0] rfl
    show tree_Path_R w F  r (.returned (packV [.slice none 0 0])) wr
    rw [h]
    exact ⟨none, 0, 0, rfl, hMr, (Ow.nil (z := w.heap.size))⟩
noncomputable abbrev trellislaw15_marked_c0 : Code := bodyOf Try.f52
noncomputable abbrev trellislaw15_marked_c1 : Code := Code.fst trellislaw15_marked_c0
noncomputable abbrev trellislaw15_marked_c2 : Code := Code.snd trellislaw15_marked_c0
noncomputable abbrev trellislaw15_marked_c3 : Code := Code.fst trellislaw15_marked_c2
noncomputable abbrev trellislaw15_marked_c4 : Code := Code.snd trellislaw15_marked_c2
noncomputable abbrev trellislaw15_marked_c5 : Code := Code.fst trellislaw15_marked_c3
noncomputable abbrev trellislaw15_marked_c6 : Code := Code.snd trellislaw15_marked_c3
noncomputable abbrev trellislaw15_marked_c7 : Code := Code.fst trellislaw15_marked_c6
noncomputable abbrev trellislaw15_marked_c8 : Code := Code.fst trellislaw15_marked_c7
noncomputable abbrev trellislaw15_marked_c9 : Code := Code.fst trellislaw15_marked_c8
noncomputable abbrev trellislaw15_marked_c10 : Code := Code.snd trellislaw15_marked_c8
noncomputable abbrev trellislaw15_marked_c11 : Code := Code.fst trellislaw15_marked_c9
noncomputable abbrev trellislaw15_marked_c12 : Code := Code.snd trellislaw15_marked_c9
noncomputable abbrev trellislaw15_marked_c13 : Code := Code.fst trellislaw15_marked_c12
noncomputable abbrev trellislaw15_marked_c14 : Code := Code.snd trellislaw15_marked_c12
noncomputable abbrev trellislaw15_marked_c15 : Code := Code.fst trellislaw15_marked_c10
noncomputable abbrev trellislaw15_marked_c16 : Code := Code.snd trellislaw15_marked_c10
noncomputable abbrev trellislaw15_marked_c17 : Code := Code.fst trellislaw15_marked_c15
noncomputable abbrev trellislaw15_marked_c18 : Code := Code.fst trellislaw15_marked_c17
noncomputable abbrev trellislaw15_marked_c19 : Code := Code.snd trellislaw15_marked_c17
noncomputable abbrev trellislaw15_marked_c20 : Code := Code.fst trellislaw15_marked_c19
noncomputable abbrev trellislaw15_marked_c21 : Code := Code.snd trellislaw15_marked_c19
noncomputable abbrev trellislaw15_marked_c22 : Code := Code.fst trellislaw15_marked_c20
noncomputable abbrev trellislaw15_marked_c23 : Code := Code.snd trellislaw15_marked_c20
noncomputable abbrev trellislaw15_marked_c24 : Code := Code.fst trellislaw15_marked_c4
noncomputable abbrev trellislaw15_marked_c25 : Code := Code.snd trellislaw15_marked_c4
abbrev trellislaw15_marked_R (w : World) (F : Nat → Prop) (r : Bool) : Ending → World → Prop := fun e w' => e = .returned (.bool r) ∧ B.Loc w w' [] [St w []]
noncomputable abbrev trellislaw15_marked_C (w : World) (F : Nat → Prop) (r : Bool) : Cx := ⟨Try.prog, 52, Try.f52, 56, trellislaw15_marked_R w F  r, w⟩
theorem trellislaw15_marked_calls (w : World) (F : Nat → Prop) (x1 : List Int) (x6 : List Int) (x11 : Int) (x12 : Int) (A2 : Option Addr) (n3 : Nat) (c4 : Nat) (A7 : Option Addr) (n8 : Nat) (c9 : Nat) (h5 : Rw (kInt .i64) w (St w []).av A2 n3 c4 x1) (h10 : Rw (kInt .i64) w (St w []).av A7 n8 c9 x6) (hF : ∀ b, F b → b < w.heap.size ∧ ∀ o ∈ ([] : List (List Nat)), b ∉ o) (hL0 : B.Loc w w [] [Sm w.heap.size F w [], St w []]) (r : Bool) (h : trellislaw15_marked x1 x6 x11 x12 r) : Calls Try.prog 52 #[.slice A2 n3 c4, .slice A7 n8 c9, .int .i64 x11, .int .i64 x12] w (trellislaw15_marked_R w F  r) := by
  unfold trellislaw15_marked at h
  refine calls_of_Loc (vs := [.slice A2 n3 c4, .slice A7 n8 c9, .int .i64 x11, .int .i64 x12]) 56 Try.func52 rfl Try.ntmps52 rfl hL0 ?_
  show G (trellislaw15_marked_C w F r) _ _ _ _
  refine g_seq (c := trellislaw15_marked_c0) rfl ?_
  refine g_region (c := trellislaw15_marked_c1) rfl rfl ?_
  refine wl_v 0 rfl (v_assign rfl) gn rfl ?_
  refine w_end 1 rfl ?_
  refine g_seq (c := trellislaw15_marked_c2) rfl ?_
  refine g_seq (c := trellislaw15_marked_c3) rfl ?_
  refine g_region (c := trellislaw15_marked_c5) rfl rfl ?_
  refine wl_v 0 rfl (v_assign rfl) gn rfl ?_
  refine w_end 1 rfl ?_
  refine g_block (c := trellislaw15_marked_c6) rfl ?_
  refine g_loop (c := trellislaw15_marked_c7) rfl ?_
  have key1 : ∀ s, Rounds (fun (s : Int) o => trellislaw15_marked_b1 x6 x1 x11 x12 s o) s r → (fun (s : Int) => ∀ (_ : Unit), G (trellislaw15_marked_C w F r) [.code trellislaw15_marked_c8, .inLoop trellislaw15_marked_c8, .inBlock 0, .code trellislaw15_marked_c4] [(0, .slice A2 n3 c4), (1, .slice A7 n8 c9), (2, .int .i64 x11), (3, .int .i64 x12), (9, .int .i64 s)] [] [Sm w.heap.size F w [], St w []]) s := by
    intro s hs
    refine Rounds.ind (mot := (fun (s : Int) => ∀ (_ : Unit), G (trellislaw15_marked_C w F r) [.code trellislaw15_marked_c8, .inLoop trellislaw15_marked_c8, .inBlock 0, .code trellislaw15_marked_c4] [(0, .slice A2 n3 c4), (1, .slice A7 n8 c9), (2, .int .i64 x11), (3, .int .i64 x12), (9, .int .i64 s)] [] [Sm w.heap.size F w [], St w []])) ?_ hs
    clear hs s
    intro x29 o1 h hO1
    show ∀ (_ : Unit), G (trellislaw15_marked_C w F r) [.code trellislaw15_marked_c8, .inLoop trellislaw15_marked_c8, .inBlock 0, .code trellislaw15_marked_c4] [(0, .slice A2 n3 c4), (1, .slice A7 n8 c9), (2, .int .i64 x11), (3, .int .i64 x12), (9, .int .i64 x29)] [] [Sm w.heap.size F w [], St w []]
    intro _
    have h : trellislaw15_marked_b1 x6 x1 x11 x12 x29 o1 := h
    unfold trellislaw15_marked_b1 at h
    refine g_seq (c := trellislaw15_marked_c8) rfl ?_
    refine g_seq (c := trellislaw15_marked_c9) rfl ?_
    refine g_region (c := trellislaw15_marked_c11) rfl rfl ?_
    refine wl_v 0 rfl (v_move rfl) gn rfl ?_
    refine wl_v 1 rfl (v_move rfl) gn rfl ?_
    refine wl_v 2 rfl (v_lenQ un_23 rfl h10.hq) gn rfl ?_
    refine wl_v 3 rfl (v_bin rfl rfl rfl) gn rfl ?_
    refine w_end 4 rfl ?_
    by_cases hp45 : x29 < (x6.length : Int)
    · have h := if_pos' hp45 h
      refine g_true (c := trellislaw15_marked_c12) rfl _ rfl ((decide_eq_true hp45)) ?_
      refine g_skip (c := trellislaw15_marked_c13) rfl ?_
      refine g_seq (c := trellislaw15_marked_c10) rfl ?_
      refine g_block (c := trellislaw15_marked_c15) rfl ?_
      refine g_seq (c := trellislaw15_marked_c17) rfl ?_
      refine g_region (c := trellislaw15_marked_c18) rfl rfl ?_
      refine wl_v 0 rfl (v_move rfl) gn rfl ?_
      refine wl_v 1 rfl (v_move rfl) gn rfl ?_
      refine wl_v 2 rfl (v_lenQ un_23 rfl h5.hq) gn rfl ?_
      refine wl_v 3 rfl (v_bin rfl rfl rfl) gn rfl ?_
      refine wl_v 4 rfl (v_move rfl) gn rfl ?_
      by_cases hp46 : x29 < (x1.length : Int)
      · have h := if_pos' hp46 h
        refine w_bool 20 rfl ((decide_eq_true hp46)) ?_
        refine wl_v 5 rfl (v_move rfl) (gy 20 rfl rfl) rfl ?_
        refine wl_v 6 rfl (v_move rfl) (gy 20 rfl rfl) rfl ?_
        obtain ⟨hb47, h⟩ := h
        have hr48 := Rw.readF (s := St w []) (hl := (hlI .i64)) (h1 := (hone_int .i64)) h5 hb47
        refine wl_v 7 rfl (v_idxR (s := St w []) slE_23 rfl rfl h5 hb47) (gy 20 rfl rfl) rfl ?_
        refine wl_v 8 rfl (v_ldA1 (kk := (x29 : Int).toNat * 1) (j := 0) (St w []) ld_3 rfl hr48 rfl (me 1 rfl)) (gy 20 rfl rfl) rfl ?_
        refine wl_v 9 rfl (v_move rfl) (gy 20 rfl rfl) rfl ?_
        refine wl_v 10 rfl (v_bin rfl rfl rfl) (gy 20 rfl rfl) rfl ?_
        refine wl_v 11 rfl (v_move rfl) (gy 20 rfl rfl) rfl ?_
        by_cases hp49 : ix x1 x29 = x11
        · have h := if_pos' hp49 h
          refine w_bool 27 rfl ((eqib hp49)) ?_
          refine wl_v 12 rfl (v_move rfl) (gy 27 rfl rfl) rfl ?_
          refine wl_v 13 rfl (v_move rfl) (gy 27 rfl rfl) rfl ?_
          obtain ⟨hb50, h⟩ := h
          have hr51 := Rw.readF (s := St w []) (hl := (hlI .i64)) (h1 := (hone_int .i64)) h10 hb50
          refine wl_v 14 rfl (v_idxR (s := St w []) slE_23 rfl rfl h10 hb50) (gy 27 rfl rfl) rfl ?_
          refine wl_v 15 rfl (v_ldA1 (kk := (x29 : Int).toNat * 1) (j := 0) (St w []) ld_3 rfl hr51 rfl (me 1 rfl)) (gy 27 rfl rfl) rfl ?_
          refine wl_v 16 rfl (v_move rfl) (gy 27 rfl rfl) rfl ?_
          refine wl_v 17 rfl (v_bin rfl rfl rfl) (gy 27 rfl rfl) rfl ?_
          refine wl_v 18 rfl (v_pick (b := false) rfl rfl) (gy 20 rfl rfl) rfl ?_
          refine wl_v 19 rfl (v_pick (b := true) rfl rfl) gn rfl ?_
          refine wl_v 20 rfl (v_move rfl) gn rfl ?_
          by_cases hp52 : ix x6 x29 = x11
          · have h := if_pos' hp52 h
            refine w_bool 36 rfl ((eqib hp52)) ?_
            refine wl_v 21 rfl (v_move rfl) (gy 36 rfl rfl) rfl ?_
            refine wl_v 22 rfl (v_move rfl) (gy 36 rfl rfl) rfl ?_
            refine wl_v 23 rfl (v_lenQ un_23 rfl h5.hq) (gy 36 rfl rfl) rfl ?_
            refine wl_v 24 rfl (v_bin rfl rfl rfl) (gy 36 rfl rfl) rfl ?_
            refine wl_v 25 rfl (v_move rfl) (gy 36 rfl rfl) rfl ?_
            by_cases hp53 : x29 ≥ (x1.length : Int)
            · have h := if_pos' hp53 h
              refine w_bool 41 rfl ((decide_eq_true hp53)) ?_
              refine wl_v 26 rfl (v_move rfl) (gy 41 rfl rfl) rfl ?_
              refine wl_v 27 rfl (v_move rfl) (gy 41 rfl rfl) rfl ?_
              have hr54 := Rw.readF (s := St w []) (hl := (hlI .i64)) (h1 := (hone_int .i64)) h10 hb50
              refine wl_v 28 rfl (v_idxR (s := St w []) slE_23 rfl rfl h10 hb50) (gy 41 rfl rfl) rfl ?_
              refine wl_v 29 rfl (v_ldA1 (kk := (x29 : Int).toNat * 1) (j := 0) (St w []) ld_3 rfl hr54 rfl (me 1 rfl)) (gy 41 rfl rfl) rfl ?_
              refine wl_v 30 rfl (v_move rfl) (gy 41 rfl rfl) rfl ?_
              refine wl_v 31 rfl (v_bin rfl rfl rfl) (gy 41 rfl rfl) rfl ?_
              refine wl_v 32 rfl (v_pick (b := true) rfl rfl) (gy 36 rfl rfl) rfl ?_
              refine wl_v 33 rfl (v_pick (b := false) rfl rfl) gn rfl ?_
              refine w_end 34 rfl ?_
              by_cases hp55 : ix x6 x29 = x12
              · have h := if_pos' hp55 h
                refine g_false (c := trellislaw15_marked_c19) rfl _ rfl ((eqib hp55)) ?_
                refine g_skip (c := trellislaw15_marked_c21) rfl ?_
                refine g_inBlock ?_
                refine g_region (c := trellislaw15_marked_c16) rfl rfl ?_
                refine wl_v 0 rfl (v_move rfl) gn rfl ?_
                refine wl_v 1 rfl (v_bin rfl rfl rfl) gn rfl ?_
                refine wl_v 2 rfl (v_assign rfl) gn rfl ?_
                refine w_end 3 rfl ?_
                refine g_inLoop ?_
                have ih := Out.inl hO1 h
                exact g_go [0, 1] (ih ()) ⟨rfl, rfl, rfl, rfl, rfl, trivial⟩ (.slnil) rfl
              · have h := if_neg' hp55 h
                refine g_true (c := trellislaw15_marked_c19) rfl _ rfl ((neib hp55)) ?_
                refine g_seq (c := trellislaw15_marked_c20) rfl ?_
                refine g_region (c := trellislaw15_marked_c22) rfl rfl ?_
                refine wl_v 0 rfl (v_assign rfl) gn rfl ?_
                refine w_end 1 rfl ?_
                have h := Out.inr hO1 h
                refine g_retR (c := trellislaw15_marked_c23) [.bool false] rfl Try.func52 rfl (.tmp rfl (.nil)) fun wr hLr => ?_
                have hMr : B.Loc w wr [] [St w []] := hLr.pick (rest := []) (perm_of_idx [] [] rfl rfl (by kernel_rfl)) (sels [1] rfl)
                have hMi : ∀ e ∈ ([] : List Ent), e ∈ ([] : List Ent) := sels [] rfl
                show trellislaw15_marked_R w F  r (.returned (packV [.bool false])) wr
                rw [h]
                exact ⟨rfl, hMr⟩
            · have h := if_neg' hp53 h
              refine w_bool 41 rfl ((decide_eq_false hp53)) ?_
              refine wl_pass 26 rfl (ps 41 rfl rfl rfl) ?_
              refine wl_pass 27 rfl (ps 41 rfl rfl rfl) ?_
              refine wl_pass 28 rfl (ps 41 rfl rfl rfl) ?_
              refine wl_pass 29 rfl (ps 41 rfl rfl rfl) ?_
              refine wl_pass 30 rfl (ps 41 rfl rfl rfl) ?_
              refine wl_pass 31 rfl (ps 41 rfl rfl rfl) ?_
              refine wl_v 32 rfl (v_pick (b := false) rfl rfl) (gy 36 rfl rfl) rfl ?_
              refine wl_v 33 rfl (v_pick (b := false) rfl rfl) gn rfl ?_
              refine w_end 34 rfl ?_
              refine g_false (c := trellislaw15_marked_c19) rfl _ rfl (rfl) ?_
              refine g_skip (c := trellislaw15_marked_c21) rfl ?_
              refine g_inBlock ?_
              refine g_region (c := trellislaw15_marked_c16) rfl rfl ?_
              refine wl_v 0 rfl (v_move rfl) gn rfl ?_
              refine wl_v 1 rfl (v_bin rfl rfl rfl) gn rfl ?_
              refine wl_v 2 rfl (v_assign rfl) gn rfl ?_
              refine w_end 3 rfl ?_
              refine g_inLoop ?_
              have ih := Out.inl hO1 h
              exact g_go [0, 1] (ih ()) ⟨rfl, rfl, rfl, rfl, rfl, trivial⟩ (.slnil) rfl
          · have h := if_neg' hp52 h
            refine w_bool 36 rfl ((neib hp52)) ?_
            refine wl_pass 21 rfl (ps 36 rfl rfl rfl) ?_
            refine wl_pass 22 rfl (ps 36 rfl rfl rfl) ?_
            refine wl_pass 23 rfl (ps 36 rfl rfl rfl) ?_
            refine wl_pass 24 rfl (ps 36 rfl rfl rfl) ?_
            refine wl_pass 25 rfl (ps 36 rfl rfl rfl) ?_
            refine wl_pass 26 rfl (pu 41 rfl rfl) ?_
            refine wl_pass 27 rfl (pu 41 rfl rfl) ?_
            refine wl_pass 28 rfl (pu 41 rfl rfl) ?_
            refine wl_pass 29 rfl (pu 41 rfl rfl) ?_
            refine wl_pass 30 rfl (pu 41 rfl rfl) ?_
            refine wl_pass 31 rfl (pu 41 rfl rfl) ?_
            refine wl_pass 32 rfl (ps 36 rfl rfl rfl) ?_
            refine wl_v 33 rfl (v_pick (b := true) rfl rfl) gn rfl ?_
            refine w_end 34 rfl ?_
            refine g_true (c := trellislaw15_marked_c19) rfl _ rfl (rfl) ?_
            refine g_seq (c := trellislaw15_marked_c20) rfl ?_
            refine g_region (c := trellislaw15_marked_c22) rfl rfl ?_
            refine wl_v 0 rfl (v_assign rfl) gn rfl ?_
            refine w_end 1 rfl ?_
            have h := Out.inr hO1 h
            refine g_retR (c := trellislaw15_marked_c23) [.bool false] rfl Try.func52 rfl (.tmp rfl (.nil)) fun wr hLr => ?_
            have hMr : B.Loc w wr [] [St w []] := hLr.pick (rest := []) (perm_of_idx [] [] rfl rfl (by kernel_rfl)) (sels [1] rfl)
            have hMi : ∀ e ∈ ([] : List Ent), e ∈ ([] : List Ent) := sels [] rfl
            show trellislaw15_marked_R w F  r (.returned (packV [.bool false])) wr
            rw [h]
            exact ⟨rfl, hMr⟩
        · have h := if_neg' hp49 h
          refine w_bool 27 rfl ((neib hp49)) ?_
          refine wl_pass 12 rfl (ps 27 rfl rfl rfl) ?_
          refine wl_pass 13 rfl (ps 27 rfl rfl rfl) ?_
          refine wl_pass 14 rfl (ps 27 rfl rfl rfl) ?_
          refine wl_pass 15 rfl (ps 27 rfl rfl rfl) ?_
          refine wl_pass 16 rfl (ps 27 rfl rfl rfl) ?_
          refine wl_pass 17 rfl (ps 27 rfl rfl rfl) ?_
          refine wl_v 18 rfl (v_pick (b := true) rfl rfl) (gy 20 rfl rfl) rfl ?_
          refine wl_v 19 rfl (v_pick (b := true) rfl rfl) gn rfl ?_
          refine wl_v 20 rfl (v_move rfl) gn rfl ?_
          refine wl_pass 21 rfl (ps 36 rfl rfl rfl) ?_
          refine wl_pass 22 rfl (ps 36 rfl rfl rfl) ?_
          refine wl_pass 23 rfl (ps 36 rfl rfl rfl) ?_
          refine wl_pass 24 rfl (ps 36 rfl rfl rfl) ?_
          refine wl_pass 25 rfl (ps 36 rfl rfl rfl) ?_
          refine wl_pass 26 rfl (pu 41 rfl rfl) ?_
          refine wl_pass 27 rfl (pu 41 rfl rfl) ?_
          refine wl_pass 28 rfl (pu 41 rfl rfl) ?_
          refine wl_pass 29 rfl (pu 41 rfl rfl) ?_
          refine wl_pass 30 rfl (pu 41 rfl rfl) ?_
          refine wl_pass 31 rfl (pu 41 rfl rfl) ?_
          refine wl_pass 32 rfl (ps 36 rfl rfl rfl) ?_
          refine wl_v 33 rfl (v_pick (b := true) rfl rfl) gn rfl ?_
          refine w_end 34 rfl ?_
          refine g_true (c := trellislaw15_marked_c19) rfl _ rfl (rfl) ?_
          refine g_seq (c := trellislaw15_marked_c20) rfl ?_
          refine g_region (c := trellislaw15_marked_c22) rfl rfl ?_
          refine wl_v 0 rfl (v_assign rfl) gn rfl ?_
          refine w_end 1 rfl ?_
          have h := Out.inr hO1 h
          refine g_retR (c := trellislaw15_marked_c23) [.bool false] rfl Try.func52 rfl (.tmp rfl (.nil)) fun wr hLr => ?_
          have hMr : B.Loc w wr [] [St w []] := hLr.pick (rest := []) (perm_of_idx [] [] rfl rfl (by kernel_rfl)) (sels [1] rfl)
          have hMi : ∀ e ∈ ([] : List Ent), e ∈ ([] : List Ent) := sels [] rfl
          show trellislaw15_marked_R w F  r (.returned (packV [.bool false])) wr
          rw [h]
          exact ⟨rfl, hMr⟩
      · have h := if_neg' hp46 h
        refine w_bool 20 rfl ((decide_eq_false hp46)) ?_
        refine wl_pass 5 rfl (ps 20 rfl rfl rfl) ?_
        refine wl_pass 6 rfl (ps 20 rfl rfl rfl) ?_
        refine wl_pass 7 rfl (ps 20 rfl rfl rfl) ?_
        refine wl_pass 8 rfl (ps 20 rfl rfl rfl) ?_
        refine wl_pass 9 rfl (ps 20 rfl rfl rfl) ?_
        refine wl_pass 10 rfl (ps 20 rfl rfl rfl) ?_
        refine wl_pass 11 rfl (ps 20 rfl rfl rfl) ?_
        refine wl_pass 12 rfl (pu 27 rfl rfl) ?_
        refine wl_pass 13 rfl (pu 27 rfl rfl) ?_
        refine wl_pass 14 rfl (pu 27 rfl rfl) ?_
        refine wl_pass 15 rfl (pu 27 rfl rfl) ?_
        refine wl_pass 16 rfl (pu 27 rfl rfl) ?_
        refine wl_pass 17 rfl (pu 27 rfl rfl) ?_
        refine wl_pass 18 rfl (ps 20 rfl rfl rfl) ?_
        refine wl_v 19 rfl (v_pick (b := false) rfl rfl) gn rfl ?_
        refine wl_v 20 rfl (v_move rfl) gn rfl ?_
        refine wl_v 21 rfl (v_move rfl) (gy 36 rfl rfl) rfl ?_
        refine wl_v 22 rfl (v_move rfl) (gy 36 rfl rfl) rfl ?_
        refine wl_v 23 rfl (v_lenQ un_23 rfl h5.hq) (gy 36 rfl rfl) rfl ?_
        refine wl_v 24 rfl (v_bin rfl rfl rfl) (gy 36 rfl rfl) rfl ?_
        refine wl_v 25 rfl (v_move rfl) (gy 36 rfl rfl) rfl ?_
        by_cases hp56 : x29 ≥ (x1.length : Int)
        · have h := if_pos' hp56 h
          refine w_bool 41 rfl ((decide_eq_true hp56)) ?_
          refine wl_v 26 rfl (v_move rfl) (gy 41 rfl rfl) rfl ?_
          refine wl_v 27 rfl (v_move rfl) (gy 41 rfl rfl) rfl ?_
          obtain ⟨hb57, h⟩ := h
          have hr58 := Rw.readF (s := St w []) (hl := (hlI .i64)) (h1 := (hone_int .i64)) h10 hb57
          refine wl_v 28 rfl (v_idxR (s := St w []) slE_23 rfl rfl h10 hb57) (gy 41 rfl rfl) rfl ?_
          refine wl_v 29 rfl (v_ldA1 (kk := (x29 : Int).toNat * 1) (j := 0) (St w []) ld_3 rfl hr58 rfl (me 1 rfl)) (gy 41 rfl rfl) rfl ?_
          refine wl_v 30 rfl (v_move rfl) (gy 41 rfl rfl) rfl ?_
          refine wl_v 31 rfl (v_bin rfl rfl rfl) (gy 41 rfl rfl) rfl ?_
          refine wl_v 32 rfl (v_pick (b := true) rfl rfl) (gy 36 rfl rfl) rfl ?_
          refine wl_v 33 rfl (v_pick (b := false) rfl rfl) gn rfl ?_
          refine w_end 34 rfl ?_
          by_cases hp59 : ix x6 x29 = x12
          · have h := if_pos' hp59 h
            refine g_false (c := trellislaw15_marked_c19) rfl _ rfl ((eqib hp59)) ?_
            refine g_skip (c := trellislaw15_marked_c21) rfl ?_
            refine g_inBlock ?_
            refine g_region (c := trellislaw15_marked_c16) rfl rfl ?_
            refine wl_v 0 rfl (v_move rfl) gn rfl ?_
            refine wl_v 1 rfl (v_bin rfl rfl rfl) gn rfl ?_
            refine wl_v 2 rfl (v_assign rfl) gn rfl ?_
            refine w_end 3 rfl ?_
            refine g_inLoop ?_
            have ih := Out.inl hO1 h
            exact g_go [0, 1] (ih ()) ⟨rfl, rfl, rfl, rfl, rfl, trivial⟩ (.slnil) rfl
          · have h := if_neg' hp59 h
            refine g_true (c := trellislaw15_marked_c19) rfl _ rfl ((neib hp59)) ?_
            refine g_seq (c := trellislaw15_marked_c20) rfl ?_
            refine g_region (c := trellislaw15_marked_c22) rfl rfl ?_
            refine wl_v 0 rfl (v_assign rfl) gn rfl ?_
            refine w_end 1 rfl ?_
            have h := Out.inr hO1 h
            refine g_retR (c := trellislaw15_marked_c23) [.bool false] rfl Try.func52 rfl (.tmp rfl (.nil)) fun wr hLr => ?_
            have hMr : B.Loc w wr [] [St w []] := hLr.pick (rest := []) (perm_of_idx [] [] rfl rfl (by kernel_rfl)) (sels [1] rfl)
            have hMi : ∀ e ∈ ([] : List Ent), e ∈ ([] : List Ent) := sels [] rfl
            show trellislaw15_marked_R w F  r (.returned (packV [.bool false])) wr
            rw [h]
            exact ⟨rfl, hMr⟩
        · have h := if_neg' hp56 h
          refine w_bool 41 rfl ((decide_eq_false hp56)) ?_
          refine wl_pass 26 rfl (ps 41 rfl rfl rfl) ?_
          refine wl_pass 27 rfl (ps 41 rfl rfl rfl) ?_
          refine wl_pass 28 rfl (ps 41 rfl rfl rfl) ?_
          refine wl_pass 29 rfl (ps 41 rfl rfl rfl) ?_
          refine wl_pass 30 rfl (ps 41 rfl rfl rfl) ?_
          refine wl_pass 31 rfl (ps 41 rfl rfl rfl) ?_
          refine wl_v 32 rfl (v_pick (b := false) rfl rfl) (gy 36 rfl rfl) rfl ?_
          refine wl_v 33 rfl (v_pick (b := false) rfl rfl) gn rfl ?_
          refine w_end 34 rfl ?_
          refine g_false (c := trellislaw15_marked_c19) rfl _ rfl (rfl) ?_
          refine g_skip (c := trellislaw15_marked_c21) rfl ?_
          refine g_inBlock ?_
          refine g_region (c := trellislaw15_marked_c16) rfl rfl ?_
          refine wl_v 0 rfl (v_move rfl) gn rfl ?_
          refine wl_v 1 rfl (v_bin rfl rfl rfl) gn rfl ?_
          refine wl_v 2 rfl (v_assign rfl) gn rfl ?_
          refine w_end 3 rfl ?_
          refine g_inLoop ?_
          have ih := Out.inl hO1 h
          exact g_go [0, 1] (ih ()) ⟨rfl, rfl, rfl, rfl, rfl, trivial⟩ (.slnil) rfl
    · have h := if_neg' hp45 h
      refine g_false (c := trellislaw15_marked_c12) rfl _ rfl ((decide_eq_false hp45)) ?_
      refine g_exit (c := trellislaw15_marked_c14) [.code trellislaw15_marked_c4] rfl rfl ?_
      refine g_seq (c := trellislaw15_marked_c4) rfl ?_
      refine g_region (c := trellislaw15_marked_c24) rfl rfl ?_
      refine wl_v 0 rfl (v_move rfl) gn rfl ?_
      refine wl_v 1 rfl (v_lenQ un_23 rfl h10.hq) gn rfl ?_
      refine wl_v 2 rfl (v_move rfl) gn rfl ?_
      refine wl_v 3 rfl (v_lenQ un_23 rfl h5.hq) gn rfl ?_
      refine wl_v 4 rfl (v_bin rfl rfl rfl) gn rfl ?_
      refine wl_v 5 rfl (v_bin rfl rfl rfl) gn rfl ?_
      refine wl_v 6 rfl (v_assign rfl) gn rfl ?_
      refine w_end 7 rfl ?_
      have h := Out.inr hO1 h
      refine g_retR (c := trellislaw15_marked_c25) [.bool ((x6.length : Int) == (w64 ((x1.length : Int) + 70)))] rfl Try.func52 rfl (.tmp rfl (.nil)) fun wr hLr => ?_
      have hMr : B.Loc w wr [] [St w []] := hLr.pick (rest := []) (perm_of_idx [] [] rfl rfl (by kernel_rfl)) (sels [1] rfl)
      have hMi : ∀ e ∈ ([] : List Ent), e ∈ ([] : List Ent) := sels [] rfl
      show trellislaw15_marked_R w F  r (.returned (packV [.bool ((x6.length : Int) == (w64 ((x1.length : Int) + 70)))])) wr
      rw [h]
      exact ⟨rfl, hMr⟩
  exact g_go [0, 1] (key1 _ h ()) ⟨rfl, rfl, rfl, rfl, rfl, trivial⟩ (.slnil) rfl
noncomputable abbrev tree_Size_c0 : Code := bodyOf Try.f43
noncomputable abbrev tree_Size_c1 : Code := Code.fst tree_Size_c0
noncomputable abbrev tree_Size_c2 : Code := Code.snd tree_Size_c0
noncomputable abbrev tree_Size_c3 : Code := Code.fst tree_Size_c2
noncomputable abbrev tree_Size_c4 : Code := Code.snd tree_Size_c2
noncomputable abbrev tree_Size_c5 : Code := Code.fst tree_Size_c4
noncomputable abbrev tree_Size_c6 : Code := Code.snd tree_Size_c4
noncomputable abbrev tree_Size_c7 : Code := Code.fst tree_Size_c5
noncomputable abbrev tree_Size_c8 : Code := Code.snd tree_Size_c5
noncomputable abbrev tree_Size_c9 : Code := Code.fst tree_Size_c8
noncomputable abbrev tree_Size_c10 : Code := Code.snd tree_Size_c8
noncomputable abbrev tree_Size_c11 : Code := Code.fst tree_Size_c6
noncomputable abbrev tree_Size_c12 : Code := Code.snd tree_Size_c6
noncomputable abbrev tree_Size_c13 : Code := Code.fst tree_Size_c9
noncomputable abbrev tree_Size_c14 : Code := Code.snd tree_Size_c9
abbrev tree_Size_R (w : World) (F : Nat → Prop) (r : Int) : Ending → World → Prop := fun e w' => e = .returned (.int .i64 r) ∧ B.Loc w w' [] [St w []]
noncomputable abbrev tree_Size_C (w : World) (F : Nat → Prop) (r : Int) : Cx := ⟨Try.prog, 43, Try.f43, 19, tree_Size_R w F  r, w⟩
theorem tree_Size_calls (w : World) (F : Nat → Prop) (x1 : List api_Node) (x6 : Int) (A2 : Option Addr) (n3 : Nat) (c4 : Nat) (h5 : Rw k_api_Node w (St w []).av A2 n3 c4 x1) (hF : ∀ b, F b → b < w.heap.size ∧ ∀ o ∈ ([] : List (List Nat)), b ∉ o) (hL0 : B.Loc w w [] [Sm w.heap.size F w [], St w []]) (r : Int) (h : tree_Size x1 x6 r) : Calls Try.prog 43 #[.slice A2 n3 c4, .int .i64 x6] w (tree_Size_R w F  r) := by
  unfold tree_Size at h
  refine calls_of_Loc (vs := [.slice A2 n3 c4, .int .i64 x6]) 19 Try.func43 rfl Try.ntmps43 rfl hL0 ?_
  show G (tree_Size_C w F r) _ _ _ _
  refine g_seq (c := tree_Size_c0) rfl ?_
  refine g_region (c := tree_Size_c1) rfl rfl ?_
  refine wl_v 0 rfl (v_assign rfl) gn rfl ?_
  refine w_end 1 rfl ?_
  refine g_seq (c := tree_Size_c2) rfl ?_
  refine g_region (c := tree_Size_c3) rfl rfl ?_
  refine wl_v 0 rfl (v_move rfl) gn rfl ?_
  obtain ⟨r10, hv11, h⟩ := h
  refine wl_s 1 rfl (s_call [.slice A2 n3 c4] rfl Try.func44 rfl rfl rfl fun w7 hL8 => ?_) gn
  have hp9 : List.Perm ([] : List Ent) (([] : List Ent) ++ ([] : List Ent)) := perm_of_idx [] [] rfl rfl (by kernel_rfl)
  refine Calls.mono (tree_plant_calls w7 (Fl ([St w []] : List Snap)) x1 A2 n3 c4 (Rw.mono h5 (hL8.toFl (me 1 rfl) (me 0 rfl))) (hL8.hFl (Sl := ([St w []] : List Snap)) hp9 (sels [1] rfl)) (hL8.into hp9 (Fl ([St w []] : List Snap))) r10 hv11) ?_
  rintro _ w26 ⟨A16, n17, c18, A21, n22, c23, A12, n13, c14, rfl, hM27, h19, h24, h15⟩
  obtain ⟨sv30, hL28, hv29⟩ := hL8.callN (Sl := ([St w []] : List Snap)) hp9 hM27 (sels [1] rfl)
  have h15 : At k_api_Node (sv30) A12 n13 c14 r10.nodes := Rw.mono h15 hv29
  refine ⟨_, _, _, rfl, hL28, ?_⟩
  refine wl_s 2 rfl (s_alloc [.slice none 0 0, .slice none 0 0, .slice none 0 0, .bool false] zr_32 rfl fun gb31 => ?_) gn
  refine wl_s 3 rfl (s_stB (vs := [.slice A12 n13 c14, .slice A16 n17 c18, .slice A21 n22 c23, .bool r10.ok]) (cs' := [.slice A12 n13 c14, .slice A16 n17 c18, .slice A21 n22 c23, .bool r10.ok]) (M' := [.box gb31 32 [.slice A12 n13 c14, .slice A16 n17 c18, .slice A21 n22 c23, .bool r10.ok], .own (.slice A16 n17 c18) 3 1 n17 (r10.parent.flatMap (eI .i64)), .own (.slice A21 n22 c23) 3 1 n22 (r10.end_.flatMap (eI .i64))]) 0 sz_32 rfl rfl rfl rfl rfl rfl rfl rfl rfl ?_) gn
  refine w_end 4 rfl ?_
  refine g_seq (c := tree_Size_c4) rfl ?_
  refine g_seq (c := tree_Size_c5) rfl ?_
  refine g_region (c := tree_Size_c7) rfl rfl ?_
  refine wl_v 0 rfl (v_ldB [.slice A12 n13 c14, .slice A16 n17 c18, .slice A21 n22 c23, .bool r10.ok] 0 ld_32 rfl rfl rfl rfl) gn rfl ?_
  refine wl_v 1 rfl (v_move rfl) gn rfl ?_
  obtain ⟨r36, hv37, h⟩ := h
  refine wl_s 2 rfl (s_call [.agg #[.slice A12 n13 c14, .slice A16 n17 c18, .slice A21 n22 c23, .bool r10.ok], .int .i64 x6] rfl Try.func46 rfl rfl rfl fun w33 hL34 => ?_) gn
  have hp35 : List.Perm ([.box gb31 32 [.slice A12 n13 c14, .slice A16 n17 c18, .slice A21 n22 c23, .bool r10.ok], .own (.slice A16 n17 c18) 3 1 n17 (r10.parent.flatMap (eI .i64)), .own (.slice A21 n22 c23) 3 1 n22 (r10.end_.flatMap (eI .i64))] : List Ent) (([] : List Ent) ++ ([.box gb31 32 [.slice A12 n13 c14, .slice A16 n17 c18, .slice A21 n22 c23, .bool r10.ok], .own (.slice A16 n17 c18) 3 1 n17 (r10.parent.flatMap (eI .i64)), .own (.slice A21 n22 c23) 3 1 n22 (r10.end_.flatMap (eI .i64))] : List Ent)) := perm_of_idx [] [0, 1, 2] rfl rfl (by kernel_rfl)
  refine Calls.mono (tree_forest_has_calls w33 (Fl ([] : List Snap)) r10 x6 A12 n13 c14 A16 n17 c18 A21 n22 c23 (Rw.mono h15 (hL34.toSt hp35 (me 0 rfl))) (hL34.argO (dk := (kInt .i64)) hp35 [] rfl 1 rfl rfl (Ow.weak hL8.env.size h19) (me 1 rfl) (Cells.flat _)) (hL34.argO (dk := (kInt .i64)) hp35 [] rfl 2 rfl rfl (Ow.weak hL8.env.size h24) (me 1 rfl) (Cells.flat _)) (hL34.hFl (Sl := ([] : List Snap)) hp35 (sels [] rfl)) (hL34.into hp35 (Fl ([] : List Snap))) r36 hv37) ?_
  rintro _ w38 ⟨rfl, hM39⟩
  have hL40 := hL34.call hp35 hM39
  refine ⟨_, _, _, rfl, hL40, ?_⟩
  refine wl_v 3 rfl (v_not rfl) gn rfl ?_
  refine w_end 4 rfl ?_
  by_cases hp41 : r36 = true
  · have h := if_pos' hp41 h
    refine g_false (c := tree_Size_c8) rfl _ rfl ((nf hp41)) ?_
    refine g_skip (c := tree_Size_c10) rfl ?_
    refine g_seq (c := tree_Size_c6) rfl ?_
    refine g_region (c := tree_Size_c11) rfl rfl ?_
    refine wl_v 0 rfl (v_fldB fo_32_2 rfl) gn rfl ?_
    refine wl_v 1 rfl (v_ldB1 0 ld_23 rfl rfl rfl) gn rfl ?_
    refine wl_v 2 rfl (v_move rfl) gn rfl ?_
    obtain ⟨hb42, h⟩ := h
    refine wl_v 3 rfl (v_idxO slE_23 rfl rfl (Ow.weak hL8.env.size h24) hb42) gn rfl ?_
    refine wl_v 4 rfl (v_ldO1 (.int .i64 (ix r10.end_ x6)) 2 ld_3 rfl rfl (fm_get0 (hlI .i64) hb42 rfl)) gn rfl ?_
    refine wl_v 5 rfl (v_move rfl) gn rfl ?_
    refine wl_v 6 rfl (v_bin rfl rfl rfl) gn rfl ?_
    refine wl_v 7 rfl (v_assign rfl) gn rfl ?_
    refine w_end 8 rfl ?_
    refine g_retR (c := tree_Size_c12) [.int .i64 (w64 ((ix r10.end_ x6) - x6))] rfl Try.func43 rfl (.tmp rfl (.nil)) fun wr hLr => ?_
    have hMr : B.Loc w wr [] [St w []] := hLr.pick (rest := [.box gb31 32 [.slice A12 n13 c14, .slice A16 n17 c18, .slice A21 n22 c23, .bool r10.ok], .own (.slice A16 n17 c18) 3 1 n17 (r10.parent.flatMap (eI .i64)), .own (.slice A21 n22 c23) 3 1 n22 (r10.end_.flatMap (eI .i64))]) (perm_of_idx [] [0, 1, 2] rfl rfl (by kernel_rfl)) (sels [2] rfl)
    have hMi : ∀ e ∈ ([] : List Ent), e ∈ ([.box gb31 32 [.slice A12 n13 c14, .slice A16 n17 c18, .slice A21 n22 c23, .bool r10.ok], .own (.slice A16 n17 c18) 3 1 n17 (r10.parent.flatMap (eI .i64)), .own (.slice A21 n22 c23) 3 1 n22 (r10.end_.flatMap (eI .i64))] : List Ent) := sels [] rfl
    show tree_Size_R w F  r (.returned (packV [.int .i64 (w64 ((ix r10.end_ x6) - x6))])) wr
    rw [h]
    exact ⟨rfl, hMr⟩
  · have h := if_neg' hp41 h
    refine g_true (c := tree_Size_c8) rfl _ rfl ((nt (bf hp41))) ?_
    refine g_seq (c := tree_Size_c9) rfl ?_
    refine g_region (c := tree_Size_c13) rfl rfl ?_
    refine wl_v 0 rfl (v_assign rfl) gn rfl ?_
    refine w_end 1 rfl ?_
    refine g_retR (c := tree_Size_c14) [.int .i64 0] rfl Try.func43 rfl (.tmp rfl (.nil)) fun wr hLr => ?_
    have hMr : B.Loc w wr [] [St w []] := hLr.pick (rest := [.box gb31 32 [.slice A12 n13 c14, .slice A16 n17 c18, .slice A21 n22 c23, .bool r10.ok], .own (.slice A16 n17 c18) 3 1 n17 (r10.parent.flatMap (eI .i64)), .own (.slice A21 n22 c23) 3 1 n22 (r10.end_.flatMap (eI .i64))]) (perm_of_idx [] [0, 1, 2] rfl rfl (by kernel_rfl)) (sels [2] rfl)
    have hMi : ∀ e ∈ ([] : List Ent), e ∈ ([.box gb31 32 [.slice A12 n13 c14, .slice A16 n17 c18, .slice A21 n22 c23, .bool r10.ok], .own (.slice A16 n17 c18) 3 1 n17 (r10.parent.flatMap (eI .i64)), .own (.slice A21 n22 c23) 3 1 n22 (r10.end_.flatMap (eI .i64))] : List Ent) := sels [] rfl
    show tree_Size_R w F  r (.returned (packV [.int .i64 0])) wr
    rw [h]
    exact ⟨rfl, hMr⟩
noncomputable abbrev tree_Parent_c0 : Code := bodyOf Try.f41
noncomputable abbrev tree_Parent_c1 : Code := Code.fst tree_Parent_c0
noncomputable abbrev tree_Parent_c2 : Code := Code.snd tree_Parent_c0
noncomputable abbrev tree_Parent_c3 : Code := Code.fst tree_Parent_c2
noncomputable abbrev tree_Parent_c4 : Code := Code.snd tree_Parent_c2
noncomputable abbrev tree_Parent_c5 : Code := Code.fst tree_Parent_c4
noncomputable abbrev tree_Parent_c6 : Code := Code.snd tree_Parent_c4
noncomputable abbrev tree_Parent_c7 : Code := Code.fst tree_Parent_c5
noncomputable abbrev tree_Parent_c8 : Code := Code.snd tree_Parent_c5
noncomputable abbrev tree_Parent_c9 : Code := Code.fst tree_Parent_c8
noncomputable abbrev tree_Parent_c10 : Code := Code.snd tree_Parent_c8
noncomputable abbrev tree_Parent_c11 : Code := Code.fst tree_Parent_c6
noncomputable abbrev tree_Parent_c12 : Code := Code.snd tree_Parent_c6
noncomputable abbrev tree_Parent_c13 : Code := Code.fst tree_Parent_c9
noncomputable abbrev tree_Parent_c14 : Code := Code.snd tree_Parent_c9
abbrev tree_Parent_R (w : World) (F : Nat → Prop) (r : Int) : Ending → World → Prop := fun e w' => e = .returned (.int .i64 r) ∧ B.Loc w w' [] [St w []]
noncomputable abbrev tree_Parent_C (w : World) (F : Nat → Prop) (r : Int) : Cx := ⟨Try.prog, 41, Try.f41, 17, tree_Parent_R w F  r, w⟩
theorem tree_Parent_calls (w : World) (F : Nat → Prop) (x1 : List api_Node) (x6 : Int) (A2 : Option Addr) (n3 : Nat) (c4 : Nat) (h5 : Rw k_api_Node w (St w []).av A2 n3 c4 x1) (hF : ∀ b, F b → b < w.heap.size ∧ ∀ o ∈ ([] : List (List Nat)), b ∉ o) (hL0 : B.Loc w w [] [Sm w.heap.size F w [], St w []]) (r : Int) (h : tree_Parent x1 x6 r) : Calls Try.prog 41 #[.slice A2 n3 c4, .int .i64 x6] w (tree_Parent_R w F  r) := by
  unfold tree_Parent at h
  refine calls_of_Loc (vs := [.slice A2 n3 c4, .int .i64 x6]) 17 Try.func41 rfl Try.ntmps41 rfl hL0 ?_
  show G (tree_Parent_C w F r) _ _ _ _
  refine g_seq (c := tree_Parent_c0) rfl ?_
  refine g_region (c := tree_Parent_c1) rfl rfl ?_
  refine wl_v 0 rfl (v_assign rfl) gn rfl ?_
  refine w_end 1 rfl ?_
  refine g_seq (c := tree_Parent_c2) rfl ?_
  refine g_region (c := tree_Parent_c3) rfl rfl ?_
  refine wl_v 0 rfl (v_move rfl) gn rfl ?_
  obtain ⟨r10, hv11, h⟩ := h
  refine wl_s 1 rfl (s_call [.slice A2 n3 c4] rfl Try.func44 rfl rfl rfl fun w7 hL8 => ?_) gn
  have hp9 : List.Perm ([] : List Ent) (([] : List Ent) ++ ([] : List Ent)) := perm_of_idx [] [] rfl rfl (by kernel_rfl)
  refine Calls.mono (tree_plant_calls w7 (Fl ([St w []] : List Snap)) x1 A2 n3 c4 (Rw.mono h5 (hL8.toFl (me 1 rfl) (me 0 rfl))) (hL8.hFl (Sl := ([St w []] : List Snap)) hp9 (sels [1] rfl)) (hL8.into hp9 (Fl ([St w []] : List Snap))) r10 hv11) ?_
  rintro _ w26 ⟨A16, n17, c18, A21, n22, c23, A12, n13, c14, rfl, hM27, h19, h24, h15⟩
  obtain ⟨sv30, hL28, hv29⟩ := hL8.callN (Sl := ([St w []] : List Snap)) hp9 hM27 (sels [1] rfl)
  have h15 : At k_api_Node (sv30) A12 n13 c14 r10.nodes := Rw.mono h15 hv29
  refine ⟨_, _, _, rfl, hL28, ?_⟩
  refine wl_s 2 rfl (s_alloc [.slice none 0 0, .slice none 0 0, .slice none 0 0, .bool false] zr_32 rfl fun gb31 => ?_) gn
  refine wl_s 3 rfl (s_stB (vs := [.slice A12 n13 c14, .slice A16 n17 c18, .slice A21 n22 c23, .bool r10.ok]) (cs' := [.slice A12 n13 c14, .slice A16 n17 c18, .slice A21 n22 c23, .bool r10.ok]) (M' := [.box gb31 32 [.slice A12 n13 c14, .slice A16 n17 c18, .slice A21 n22 c23, .bool r10.ok], .own (.slice A16 n17 c18) 3 1 n17 (r10.parent.flatMap (eI .i64)), .own (.slice A21 n22 c23) 3 1 n22 (r10.end_.flatMap (eI .i64))]) 0 sz_32 rfl rfl rfl rfl rfl rfl rfl rfl rfl ?_) gn
  refine w_end 4 rfl ?_
  refine g_seq (c := tree_Parent_c4) rfl ?_
  refine g_seq (c := tree_Parent_c5) rfl ?_
  refine g_region (c := tree_Parent_c7) rfl rfl ?_
  refine wl_v 0 rfl (v_ldB [.slice A12 n13 c14, .slice A16 n17 c18, .slice A21 n22 c23, .bool r10.ok] 0 ld_32 rfl rfl rfl rfl) gn rfl ?_
  refine wl_v 1 rfl (v_move rfl) gn rfl ?_
  obtain ⟨r36, hv37, h⟩ := h
  refine wl_s 2 rfl (s_call [.agg #[.slice A12 n13 c14, .slice A16 n17 c18, .slice A21 n22 c23, .bool r10.ok], .int .i64 x6] rfl Try.func46 rfl rfl rfl fun w33 hL34 => ?_) gn
  have hp35 : List.Perm ([.box gb31 32 [.slice A12 n13 c14, .slice A16 n17 c18, .slice A21 n22 c23, .bool r10.ok], .own (.slice A16 n17 c18) 3 1 n17 (r10.parent.flatMap (eI .i64)), .own (.slice A21 n22 c23) 3 1 n22 (r10.end_.flatMap (eI .i64))] : List Ent) (([] : List Ent) ++ ([.box gb31 32 [.slice A12 n13 c14, .slice A16 n17 c18, .slice A21 n22 c23, .bool r10.ok], .own (.slice A16 n17 c18) 3 1 n17 (r10.parent.flatMap (eI .i64)), .own (.slice A21 n22 c23) 3 1 n22 (r10.end_.flatMap (eI .i64))] : List Ent)) := perm_of_idx [] [0, 1, 2] rfl rfl (by kernel_rfl)
  refine Calls.mono (tree_forest_has_calls w33 (Fl ([] : List Snap)) r10 x6 A12 n13 c14 A16 n17 c18 A21 n22 c23 (Rw.mono h15 (hL34.toSt hp35 (me 0 rfl))) (hL34.argO (dk := (kInt .i64)) hp35 [] rfl 1 rfl rfl (Ow.weak hL8.env.size h19) (me 1 rfl) (Cells.flat _)) (hL34.argO (dk := (kInt .i64)) hp35 [] rfl 2 rfl rfl (Ow.weak hL8.env.size h24) (me 1 rfl) (Cells.flat _)) (hL34.hFl (Sl := ([] : List Snap)) hp35 (sels [] rfl)) (hL34.into hp35 (Fl ([] : List Snap))) r36 hv37) ?_
  rintro _ w38 ⟨rfl, hM39⟩
  have hL40 := hL34.call hp35 hM39
  refine ⟨_, _, _, rfl, hL40, ?_⟩
  refine wl_v 3 rfl (v_not rfl) gn rfl ?_
  refine w_end 4 rfl ?_
  by_cases hp41 : r36 = true
  · have h := if_pos' hp41 h
    refine g_false (c := tree_Parent_c8) rfl _ rfl ((nf hp41)) ?_
    refine g_skip (c := tree_Parent_c10) rfl ?_
    refine g_seq (c := tree_Parent_c6) rfl ?_
    refine g_region (c := tree_Parent_c11) rfl rfl ?_
    refine wl_v 0 rfl (v_fldB fo_32_1 rfl) gn rfl ?_
    refine wl_v 1 rfl (v_ldB1 0 ld_23 rfl rfl rfl) gn rfl ?_
    refine wl_v 2 rfl (v_move rfl) gn rfl ?_
    obtain ⟨hb42, h⟩ := h
    refine wl_v 3 rfl (v_idxO slE_23 rfl rfl (Ow.weak hL8.env.size h19) hb42) gn rfl ?_
    refine wl_v 4 rfl (v_ldO1 (.int .i64 (ix r10.parent x6)) 1 ld_3 rfl rfl (fm_get0 (hlI .i64) hb42 rfl)) gn rfl ?_
    refine wl_v 5 rfl (v_assign rfl) gn rfl ?_
    refine w_end 6 rfl ?_
    refine g_retR (c := tree_Parent_c12) [.int .i64 (ix r10.parent x6)] rfl Try.func41 rfl (.tmp rfl (.nil)) fun wr hLr => ?_
    have hMr : B.Loc w wr [] [St w []] := hLr.pick (rest := [.box gb31 32 [.slice A12 n13 c14, .slice A16 n17 c18, .slice A21 n22 c23, .bool r10.ok], .own (.slice A16 n17 c18) 3 1 n17 (r10.parent.flatMap (eI .i64)), .own (.slice A21 n22 c23) 3 1 n22 (r10.end_.flatMap (eI .i64))]) (perm_of_idx [] [0, 1, 2] rfl rfl (by kernel_rfl)) (sels [2] rfl)
    have hMi : ∀ e ∈ ([] : List Ent), e ∈ ([.box gb31 32 [.slice A12 n13 c14, .slice A16 n17 c18, .slice A21 n22 c23, .bool r10.ok], .own (.slice A16 n17 c18) 3 1 n17 (r10.parent.flatMap (eI .i64)), .own (.slice A21 n22 c23) 3 1 n22 (r10.end_.flatMap (eI .i64))] : List Ent) := sels [] rfl
    show tree_Parent_R w F  r (.returned (packV [.int .i64 (ix r10.parent x6)])) wr
    rw [h]
    exact ⟨rfl, hMr⟩
  · have h := if_neg' hp41 h
    refine g_true (c := tree_Parent_c8) rfl _ rfl ((nt (bf hp41))) ?_
    refine g_seq (c := tree_Parent_c9) rfl ?_
    refine g_region (c := tree_Parent_c13) rfl rfl ?_
    refine wl_v 0 rfl (v_assign rfl) gn rfl ?_
    refine w_end 1 rfl ?_
    refine g_retR (c := tree_Parent_c14) [.int .i64 (-1)] rfl Try.func41 rfl (.tmp rfl (.nil)) fun wr hLr => ?_
    have hMr : B.Loc w wr [] [St w []] := hLr.pick (rest := [.box gb31 32 [.slice A12 n13 c14, .slice A16 n17 c18, .slice A21 n22 c23, .bool r10.ok], .own (.slice A16 n17 c18) 3 1 n17 (r10.parent.flatMap (eI .i64)), .own (.slice A21 n22 c23) 3 1 n22 (r10.end_.flatMap (eI .i64))]) (perm_of_idx [] [0, 1, 2] rfl rfl (by kernel_rfl)) (sels [2] rfl)
    have hMi : ∀ e ∈ ([] : List Ent), e ∈ ([.box gb31 32 [.slice A12 n13 c14, .slice A16 n17 c18, .slice A21 n22 c23, .bool r10.ok], .own (.slice A16 n17 c18) 3 1 n17 (r10.parent.flatMap (eI .i64)), .own (.slice A21 n22 c23) 3 1 n22 (r10.end_.flatMap (eI .i64))] : List Ent) := sels [] rfl
    show tree_Parent_R w F  r (.returned (packV [.int .i64 (-1)])) wr
    rw [h]
    exact ⟨rfl, hMr⟩
noncomputable abbrev strings_Builder_copyCheck_c0 : Code := bodyOf Try.f79
noncomputable abbrev strings_Builder_copyCheck_c1 : Code := Code.fst strings_Builder_copyCheck_c0
noncomputable abbrev strings_Builder_copyCheck_c2 : Code := Code.snd strings_Builder_copyCheck_c0
noncomputable abbrev strings_Builder_copyCheck_c3 : Code := Code.fst strings_Builder_copyCheck_c2
noncomputable abbrev strings_Builder_copyCheck_c4 : Code := Code.snd strings_Builder_copyCheck_c2
noncomputable abbrev strings_Builder_copyCheck_c5 : Code := Code.fst strings_Builder_copyCheck_c4
noncomputable abbrev strings_Builder_copyCheck_c6 : Code := Code.snd strings_Builder_copyCheck_c4
noncomputable abbrev strings_Builder_copyCheck_c7 : Code := Code.fst strings_Builder_copyCheck_c6
noncomputable abbrev strings_Builder_copyCheck_c8 : Code := Code.snd strings_Builder_copyCheck_c6
abbrev strings_Builder_copyCheck_R (w : World) (F : Nat → Prop) (g2 : Nat) (v3 : Value) (r : strings_Builder) : Ending → World → Prop := fun e w' => e = .returned (.tuple #[]) ∧ B.Loc w w' [.box g2 123 [selfP g2 r.addr, v3]] [St w [[g2]]]
noncomputable abbrev strings_Builder_copyCheck_C (w : World) (F : Nat → Prop) (g2 : Nat) (v3 : Value) (r : strings_Builder) : Cx := ⟨Try.prog, 79, Try.f79, 20, strings_Builder_copyCheck_R w F g2 v3 r, w⟩
theorem strings_Builder_copyCheck_calls (w : World) (F : Nat → Prop) (x1 : strings_Builder) (g2 : Nat) (v3 : Value) (hF : ∀ b, F b → b < w.heap.size ∧ ∀ o ∈ ([[g2]] : List (List Nat)), b ∉ o) (hL0 : B.Loc w w [.box g2 123 [selfP g2 x1.addr, v3]] [Sm w.heap.size F w [[g2]], St w [[g2]]]) (r : strings_Builder) (h : strings_Builder_copyCheck x1 r) : Calls Try.prog 79 #[.pointer (some ⟨g2, 0, none⟩)] w (strings_Builder_copyCheck_R w F g2 v3 r) := by
  unfold strings_Builder_copyCheck at h
  refine calls_of_Loc (vs := [.pointer (some ⟨g2, 0, none⟩)]) 20 Try.func79 rfl Try.ntmps79 rfl hL0 ?_
  show G (strings_Builder_copyCheck_C w F g2 v3 r) _ _ _ _
  refine g_seq (c := strings_Builder_copyCheck_c0) rfl ?_
  refine g_region (c := strings_Builder_copyCheck_c1) rfl rfl ?_
  refine wl_v 0 rfl (v_move rfl) gn rfl ?_
  refine wl_v 1 rfl (v_nilCheck rfl) gn rfl ?_
  refine wl_v 2 rfl (v_fldB fo_123_0 rfl) gn rfl ?_
  refine wl_v 3 rfl (v_ldB1 0 ld_120 rfl rfl rfl) gn rfl ?_
  refine wl_v 4 rfl (v_eqSelf (gb := g2) (b := x1.addr) un_120 rfl rfl) gn rfl ?_
  refine w_end 5 rfl ?_
  by_cases hp4 : x1.addr = true
  · have h := if_pos' hp4 h
    refine g_false (c := strings_Builder_copyCheck_c2) rfl _ rfl ((nf hp4)) ?_
    refine g_seq (c := strings_Builder_copyCheck_c4) rfl ?_
    refine g_region (c := strings_Builder_copyCheck_c5) rfl rfl ?_
    refine wl_v 0 rfl (v_move rfl) gn rfl ?_
    refine wl_v 1 rfl (v_nilCheck rfl) gn rfl ?_
    refine wl_v 2 rfl (v_fldB fo_123_0 rfl) gn rfl ?_
    refine wl_v 3 rfl (v_ldB1 0 ld_120 rfl rfl rfl) gn rfl ?_
    refine wl_v 4 rfl (v_move rfl) gn rfl ?_
    refine wl_v 5 rfl (v_neSelf (gb := g2) (b := x1.addr) pt_120 rfl rfl) gn rfl ?_
    refine w_end 6 rfl ?_
    refine g_false (c := strings_Builder_copyCheck_c6) rfl _ rfl ((nf hp4)) ?_
    refine g_skip (c := strings_Builder_copyCheck_c8) rfl ?_
    refine g_endR [] Try.func79 rfl (.nil) fun wr hLr => ?_
    have hMr : B.Loc w wr [.box g2 123 [selfP g2 x1.addr, v3]] [St w [[g2]]] := hLr.pick (rest := []) (perm_of_idx [0] [] rfl rfl (by kernel_rfl)) (sels [1] rfl)
    have hMi : ∀ e ∈ ([.box g2 123 [selfP g2 x1.addr, v3]] : List Ent), e ∈ ([.box g2 123 [selfP g2 x1.addr, v3]] : List Ent) := sels [0] rfl
    show strings_Builder_copyCheck_R w F g2 v3 r (.returned (packV [])) wr
    rw [h]
    exact ⟨rfl, hMr⟩
  · have h := if_neg' hp4 h
    refine g_true (c := strings_Builder_copyCheck_c2) rfl _ rfl ((nt (bf hp4))) ?_
    refine g_region (c := strings_Builder_copyCheck_c3) rfl rfl ?_
    refine wl_v 0 rfl (v_move rfl) gn rfl ?_
    refine wl_v 1 rfl (v_move rfl) gn rfl ?_
    refine wl_v 2 rfl (v_toU 0 pt_120 un_136 rfl rfl rfl) gn rfl ?_
    refine wl_v 3 rfl (v_ext [.pointer (some ⟨g2, 0, none⟩)] rfl Try.func82 rfl rfl (by kernel_rfl) (by kernel_rfl) (fun w => x_noEscape _ w)) gn rfl ?_
    refine wl_v 4 rfl (v_fromU 0 un_136 li_120_123_0 rfl rfl rfl) gn rfl ?_
    refine wl_v 5 rfl (v_nilCheck rfl) gn rfl ?_
    refine wl_v 6 rfl (v_fldB fo_123_0 rfl) gn rfl ?_
    refine wl_s 7 rfl (s_stB (vs := [.pointer (some ⟨g2, 0, none⟩)]) (cs' := [.pointer (some ⟨g2, 0, none⟩), v3]) (M' := [.box g2 123 [.pointer (some ⟨g2, 0, none⟩), v3]]) 0 sz_120 rfl rfl rfl rfl rfl rfl rfl rfl rfl ?_) gn
    refine w_end 8 rfl ?_
    refine g_endR [] Try.func79 rfl (.nil) fun wr hLr => ?_
    have hMr : B.Loc w wr [.box g2 123 [.pointer (some ⟨g2, 0, none⟩), v3]] [St w [[g2]]] := hLr.pick (rest := []) (perm_of_idx [0] [] rfl rfl (by kernel_rfl)) (sels [1] rfl)
    have hMi : ∀ e ∈ ([.box g2 123 [.pointer (some ⟨g2, 0, none⟩), v3]] : List Ent), e ∈ ([.box g2 123 [.pointer (some ⟨g2, 0, none⟩), v3]] : List Ent) := sels [0] rfl
    show strings_Builder_copyCheck_R w F g2 v3 r (.returned (packV [])) wr
    rw [h]
    exact ⟨rfl, hMr⟩
end Go.Proofs.Ytmekgfcfooghnaa.K
