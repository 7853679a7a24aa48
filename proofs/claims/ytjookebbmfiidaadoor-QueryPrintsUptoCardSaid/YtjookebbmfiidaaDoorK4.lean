/- What the machine's calls do, function by function, printed by my own tool. Condition of each: its relation holds of the answer, and what is handed in lies in memory as told. -/
import Derived.Test.YtjookebbmfiidaaDoorK3
set_option linter.unusedVariables false
set_option maxRecDepth 100000
set_option maxHeartbeats 4000000
namespace Go.Proofs.YtjookebbmfiidaaDoor.K
open Go.Proofs.YtjookebbmfiidaaDoor.B Go.Proofs.YtjookebbmfiidaaDoor.R Go.RowKit
noncomputable abbrev q22c12 := Code.snd (Code.snd (Code.snd (Code.snd (bodyOf Tryd.f22))))
noncomputable abbrev q22c16 := Code.fst (Code.fst (Code.snd (Code.fst (Code.snd (Code.snd (Code.snd (bodyOf Tryd.f22)))))))
noncomputable abbrev q22c24 := Code.snd (Code.snd q22c16)
noncomputable abbrev q22c31 := Code.snd (Code.snd (Code.snd (Code.fst (Code.fst (Code.snd q22c16)))))
noncomputable abbrev q22c36 := Code.fst q22c31
noncomputable abbrev q22c43 := Code.snd (Code.snd (Code.snd (Code.snd q22c31)))
abbrev trellisref20_Print_R (w : World) (F : Nat → Prop) (r : ByteArray × Int) : Ending → World → Prop := fun e w' => e = .returned (.tuple #[.string r.1, .int .i64 r.2]) ∧ B.Loc w w' [] [St w []]
noncomputable abbrev trellisref20_Print_C (w : World) (F : Nat → Prop) (r : ByteArray × Int) : Cx := ⟨Tryd.prog, 22, Tryd.f22, 58, trellisref20_Print_R w F  r, w⟩
theorem trellisref20_Print_calls (w : World) (F : Nat → Prop) (x1 : api_Query) (A2 : Option Addr) (n3 : Nat) (c4 : Nat) (A6 : Option Addr) (n7 : Nat) (c8 : Nat) (h5 : Rw k_api_PatNode w (St w []).av A2 n3 c4 x1.nodes) (h9 : Rw k_api_Cond w (St w []).av A6 n7 c8 x1.conds) (hG : Tb Tryd.prog (St w [])) (hF : ∀ b, F b → b < w.heap.size ∧ ∀ o ∈ ([] : List (List Nat)), b ∉ o) (hL0 : B.Loc w w [] [Sm w.heap.size F w [], St w []]) (r : ByteArray × Int) (h : trellisref20_Print x1 r) : Calls Tryd.prog 22 #[.agg #[.slice A2 n3 c4, .slice A6 n7 c8]] w (trellisref20_Print_R w F  r) := by
 unfold trellisref20_Print at h
 refine calls_of_Loc (vs := [.agg #[.slice A2 n3 c4, .slice A6 n7 c8]]) 58 Tryd.func22 rfl Tryd.ntmps22 rfl hL0 ?_
 show G (trellisref20_Print_C w F r) _ _ _ _
 refine g_seq rfl <| g_region rfl rfl ?_
 refine wl_s 0 rfl (s_box [.slice A2 n3 c4, .slice A6 n7 c8] rfl rfl rfl fun gb10 => ?_) gn
 refine wl_v 1 rfl (v_assign rfl) gn rfl <| wl_v 2 rfl (v_assign rfl) gn rfl <| w_end 3 rfl <| g_seq rfl <| g_seq rfl <| g_region rfl rfl <| wl_v 0 rfl (v_ldB [.slice A2 n3 c4, .slice A6 n7 c8] 0 ld_25 rfl rfl rfl rfl) gn rfl ?_
 obtain ⟨r15, hv16, h⟩ := h
 refine wl_s 1 rfl (s_call [.agg #[.slice A2 n3 c4, .slice A6 n7 c8]] rfl Tryd.func23 rfl rfl rfl fun w12 hL13 => ?_) gn
 have hp14 := pmI hL13 .n (.c 0 rfl .n) (by kernel_rfl)
 refine Calls.mono (trellisref20_Shaped_calls w12 (Fl ([] : List Snap)) x1 A2 n3 c4 A6 n7 c8 (Rw.mono h5 (hL13.toSt hp14 (me 1 rfl))) (Rw.mono h9 (hL13.toSt hp14 (me 1 rfl))) (hL13.hFl hp14 (sels [] rfl)) (hL13.into hp14 _) r15 hv16) ?_
 rintro _ w17 ⟨rfl, hM18⟩
 have hL19 := hL13.call hp14 hM18
 refine ⟨_, _, _, rfl, hL19, ?_⟩
 refine wl_v 2 rfl (v_not rfl) gn rfl <| w_end 3 rfl ?_
 by_cases hp20 : r15 = true
 ·have h := if_pos' hp20 h
  refine g_false rfl _ rfl ((nf hp20)) <| g_skip rfl <| g_seq rfl <| g_region rfl rfl <| wl_v 0 rfl (v_fldB fo_25_0 rfl) gn rfl <| wl_v 1 rfl (v_ldB1 0 ld_22 rfl rfl rfl) gn rfl ?_
  obtain ⟨r24, hv25, h⟩ := h
  refine wl_s 2 rfl (s_call [.slice A2 n3 c4, .int .i64 0] rfl Tryd.func47 rfl rfl rfl fun w21 hL22 => ?_) gn
  have hp23 := pmI hL22 .n (.c 0 rfl .n) (by kernel_rfl)
  refine Calls.mono (trellisref20_spelt_calls w21 (Fl ([] : List Snap)) x1.nodes 0 A2 n3 c4 (Rw.mono h5 (hL22.toSt hp23 (me 1 rfl))) (hL22.hFl hp23 (sels [] rfl)) (hL22.into hp23 _) r24 hv25) ?_
  rintro _ w31 ⟨A26, n27, c28, rfl, hM32, h29⟩
  have hL33 := hL22.call hp23 hM32
  refine ⟨_, _, _, rfl, hL33, ?_⟩
  refine wl_v 3 rfl (v_assign rfl) gn rfl <| w_end 4 rfl <| g_seq rfl <| g_seq rfl <| g_region rfl rfl <| wl_v 0 rfl (v_assign rfl) gn rfl <| w_end 1 rfl <| g_block rfl <| g_loop rfl ?_
  have key1 : ∀ s, Rounds (fun (s : (List api_Word) × Int) o => trellisref20_Print_b1 x1 s.1 s.2 o) s r → (fun (s : (List api_Word) × Int) => ∀ (A715 : Option Addr) (n716 : Nat) (c717 : Nat) (h718 : Ow w.heap.size A715 n716 c717 s.1), G (trellisref20_Print_C w F r) [.code q22c16, .inLoop q22c16, .inBlock 0, .code q22c12] [(1, .pointer (some ⟨gb10, 0, none⟩)), (4, .slice A715 n716 c717), (5, .int .i64 s.2)] [.own (.slice A715 n716 c717) 84 4 n716 (s.1.flatMap enc_api_Word), .box gb10 25 [.slice A2 n3 c4, .slice A6 n7 c8]] [Sm w.heap.size F w [], St w []]) s := by
   intro s hs
   refine Rounds.ind (mot := (fun (s : (List api_Word) × Int) => ∀ (A715 : Option Addr) (n716 : Nat) (c717 : Nat) (h718 : Ow w.heap.size A715 n716 c717 s.1), G (trellisref20_Print_C w F r) [.code q22c16, .inLoop q22c16, .inBlock 0, .code q22c12] [(1, .pointer (some ⟨gb10, 0, none⟩)), (4, .slice A715 n716 c717), (5, .int .i64 s.2)] [.own (.slice A715 n716 c717) 84 4 n716 (s.1.flatMap enc_api_Word), .box gb10 25 [.slice A2 n3 c4, .slice A6 n7 c8]] [Sm w.heap.size F w [], St w []])) ?_ hs
   clear hs s
   intro s o1 h hO1
   obtain ⟨x714, x719⟩ := s
   show ∀ (A715 : Option Addr) (n716 : Nat) (c717 : Nat) (h718 : Ow w.heap.size A715 n716 c717 x714), G (trellisref20_Print_C w F r) [.code q22c16, .inLoop q22c16, .inBlock 0, .code q22c12] [(1, .pointer (some ⟨gb10, 0, none⟩)), (4, .slice A715 n716 c717), (5, .int .i64 x719)] [.own (.slice A715 n716 c717) 84 4 n716 (x714.flatMap enc_api_Word), .box gb10 25 [.slice A2 n3 c4, .slice A6 n7 c8]] [Sm w.heap.size F w [], St w []]
   intro A715 n716 c717 h718
   have h : trellisref20_Print_b1 x1 x714 x719 o1 := h
   unfold trellisref20_Print_b1 at h
   refine g_seq rfl <| g_seq rfl <| g_region rfl rfl <| wl_v 0 rfl (v_move rfl) gn rfl <| wl_v 1 rfl (v_fldB fo_25_1 rfl) gn rfl <| wl_v 2 rfl (v_ldB1 1 ld_23 rfl rfl rfl) gn rfl <| wl_v 3 rfl (v_lenQ un_23 rfl h9.hq) gn rfl <| wl_v 4 rfl (v_bin rfl rfl rfl) gn rfl <| w_end 5 rfl ?_
   by_cases hp1399 : x719 < (x1.conds.length : Int)
   ·have h := if_pos' hp1399 h
    refine g_true rfl _ rfl ((decide_eq_true hp1399)) <| g_skip rfl <| g_seq rfl <| g_block rfl <| g_seq rfl <| g_region rfl rfl <| wl_v 0 rfl (v_fldB fo_25_1 rfl) gn rfl <| wl_v 1 rfl (v_ldB1 1 ld_23 rfl rfl rfl) gn rfl <| wl_v 2 rfl (v_move rfl) gn rfl ?_
    obtain ⟨hb1400, h⟩ := h
    have hr1401 := Rw.readF (s := St w []) (hl := hl_api_Cond) (h1 := h1_api_Cond) h9 hb1400
    refine wl_v 3 rfl (v_idxR (s := St w []) slE_23 rfl rfl h9 hb1400) gn rfl <| wl_v 4 rfl (v_ldA (St w []) ld_47 rfl hr1401 rfl (me 1 rfl)) gn rfl ?_
    refine wl_s 5 rfl (s_alloc [.bool false, .string (⟨#[]⟩ : ByteArray), .string (⟨#[]⟩ : ByteArray), .string (⟨#[]⟩ : ByteArray)] zr_47 rfl fun gb1402 => ?_) gn
    refine wl_s 6 rfl (s_stB (vs := [.bool ((ix x1.conds x719).not), .string ((ix x1.conds x719).a), .string ((ix x1.conds x719).b), .string ((ix x1.conds x719).text)]) (cs' := [.bool ((ix x1.conds x719).not), .string ((ix x1.conds x719).a), .string ((ix x1.conds x719).b), .string ((ix x1.conds x719).text)]) (M' := [.box gb1402 47 [.bool ((ix x1.conds x719).not), .string ((ix x1.conds x719).a), .string ((ix x1.conds x719).b), .string ((ix x1.conds x719).text)], .own (.slice A715 n716 c717) 84 4 n716 (x714.flatMap enc_api_Word), .box gb10 25 [.slice A2 n3 c4, .slice A6 n7 c8]]) 0 sz_47 rfl rfl rfl rfl rfl rfl rfl rfl rfl ?_) gn
    refine w_end 7 rfl <| g_seq rfl <| g_region rfl rfl <| wl_v 0 rfl (v_assign rfl) gn rfl <| w_end 1 rfl <| g_seq rfl <| g_seq rfl <| g_region rfl rfl <| wl_v 0 rfl (v_fldB fo_47_0 rfl) gn rfl <| wl_v 1 rfl (v_ldB1 0 ld_4 rfl rfl rfl) gn rfl <| w_end 2 rfl ?_
    have j2 : ∀ (x1406 : ByteArray) (h : trellisref20_Print_j2 x714 x1 x719 x1406 o1) , G (trellisref20_Print_C w F r) [.code q22c31, .inBlock 1, .code q22c24, .inLoop q22c16, .inBlock 0, .code q22c12] [(1, .pointer (some ⟨gb10, 0, none⟩)), (4, .slice A715 n716 c717), (5, .int .i64 x719), (6, .pointer (some ⟨gb1402, 0, none⟩)), (7, .string x1406)] [.box gb1402 47 [.bool ((ix x1.conds x719).not), .string ((ix x1.conds x719).a), .string ((ix x1.conds x719).b), .string ((ix x1.conds x719).text)], .own (.slice A715 n716 c717) 84 4 n716 (x714.flatMap enc_api_Word), .box gb10 25 [.slice A2 n3 c4, .slice A6 n7 c8]] [Sm w.heap.size F w [], St w []] := by
     intro x1406 h
     unfold trellisref20_Print_j2 at h
     refine g_seq rfl ?_
     obtain ⟨r1410, hv1411, h⟩ := h
     obtain ⟨r1423, hv1424, h⟩ := h
     obtain ⟨r1436, hv1437, h⟩ := h
     obtain ⟨r1449, hv1450, h⟩ := h
     obtain ⟨r1462, hv1463, h⟩ := h
     obtain ⟨r1475, hv1476, h⟩ := h
     have hns : Region.noSelect (Code.ops q22c36) = true := by kernel_rfl
     refine g_drawF [.box gb1402 47 [.bool ((ix x1.conds x719).not), .string ((ix x1.conds x719).a), .string ((ix x1.conds x719).b), .string ((ix x1.conds x719).text)], .box gb10 25 [.slice A2 n3 c4, .slice A6 n7 c8]] [Sm w.heap.size F w [], St w []] [] 11 rfl rfl mix rfl (.cons_cons _ (.cons _ (.cons_cons _ (.slnil)))) (sels [0, 1] rfl) <| wfv 0 rfl (v_move rfl) gn hns rfl <| wfv 1 rfl (v_move rfl) gn hns rfl <| wfv 6 rfl (v_fldB fo_47_1 rfl) gn hns rfl <| wfv 7 rfl (v_ldB1 0 ld_9 rfl rfl rfl) gn hns rfl ?_
     refine wf_all [2] (by kernel_rfl) rfl ⟨on_s 2 rfl gn rfl (s_call [.int .i64 1, .string x1406] rfl Tryd.func49 rfl rfl rfl fun w1655 hL1656 => ?_), trivial⟩
     have hp1657 := pmI hL1656 .n (.c 0 rfl (.c 1 rfl (.c 2 rfl .n))) (by kernel_rfl)
     refine Calls.mono (trellisref20_word_calls w1655 (Fl ([] : List Snap)) 1 x1406 (hL1656.hFl hp1657 (sels [] rfl)) (hL1656.into hp1657 _) r1410 hv1411) ?_
     rintro _ w1662 ⟨A1658, n1659, c1660, rfl, hM1663, h1661⟩
     have hL1664 := hL1656.call hp1657 hM1663
     refine ⟨_, _, _, rfl, hL1664, ?_⟩
     refine ⟨sels [1, 3] rfl, sels [0, 1] rfl, ?_⟩
     refine wf_all [3] (by kernel_rfl) rfl ⟨on_s 3 rfl gn rfl (s_call [.slice A715 n716 c717, .slice A1658 n1659 c1660] rfl Tryd.func48 rfl rfl rfl fun w1675 hL1676 => ?_), trivial⟩
     have hp1677 := pmI hL1676 (.c 2 rfl .n) (.c 0 rfl (.c 1 rfl (.c 3 rfl .n))) (by kernel_rfl)
     refine Calls.mono (trellisref20_put_calls w1675 (Fl ([] : List Snap)) x714 r1410 w.heap.size A715 n716 c717 A1658 n1659 c1660 hL1676.env.size h718 (hL1676.argO (dk := k_api_Word) hp1677 [2] rfl 0 rfl rfl (Ow.weak hL1656.env.size h1661) (me 0 rfl) (Cells.flat _)) (hL1676.hFl hp1677 (sels [] rfl)) (hL1676.into hp1677 _) r1423 hv1424) ?_
     rintro _ w1682 ⟨A1678, n1679, c1680, rfl, hM1683, h1681⟩
     have hL1684 := hL1676.call hp1677 hM1683
     refine ⟨_, _, _, rfl, hL1684, ?_⟩
     refine ⟨sels [2, 3] rfl, sels [0, 1] rfl, ?_⟩
     refine wf_all [4] (by kernel_rfl) rfl ⟨on_s 4 rfl gn rfl (s_call [.int .i64 5, .string (⟨#[64]⟩ : ByteArray)] rfl Tryd.func49 rfl rfl rfl fun w1695 hL1696 => ?_), trivial⟩
     have hp1697 := pmI hL1696 .n (.c 0 rfl (.c 1 rfl (.c 2 rfl (.c 3 rfl .n)))) (by kernel_rfl)
     refine Calls.mono (trellisref20_word_calls w1695 (Fl ([] : List Snap)) 5 (⟨#[64]⟩ : ByteArray) (hL1696.hFl hp1697 (sels [] rfl)) (hL1696.into hp1697 _) r1436 hv1437) ?_
     rintro _ w1702 ⟨A1698, n1699, c1700, rfl, hM1703, h1701⟩
     have hL1704 := hL1696.call hp1697 hM1703
     refine ⟨_, _, _, rfl, hL1704, ?_⟩
     refine ⟨sels [3, 4] rfl, sels [0, 1] rfl, ?_⟩
     refine wf_all [5] (by kernel_rfl) rfl ⟨on_s 5 rfl gn rfl (s_call [.slice A1678 n1679 c1680, .slice A1698 n1699 c1700] rfl Tryd.func48 rfl rfl rfl fun w1715 hL1716 => ?_), trivial⟩
     have hp1717 := pmI hL1716 (.c 1 rfl .n) (.c 0 rfl (.c 2 rfl (.c 3 rfl (.c 4 rfl .n)))) (by kernel_rfl)
     refine Calls.mono (trellisref20_put_calls w1715 (Fl ([] : List Snap)) r1423 r1436 w.heap.size A1678 n1679 c1680 A1698 n1699 c1700 hL1716.env.size h1681 (hL1716.argO (dk := k_api_Word) hp1717 [1] rfl 0 rfl rfl (Ow.weak hL1696.env.size h1701) (me 0 rfl) (Cells.flat _)) (hL1716.hFl hp1717 (sels [] rfl)) (hL1716.into hp1717 _) r1449 hv1450) ?_
     rintro _ w1722 ⟨A1718, n1719, c1720, rfl, hM1723, h1721⟩
     have hL1724 := hL1716.call hp1717 hM1723
     refine ⟨_, _, _, rfl, hL1724, ?_⟩
     refine ⟨sels [3, 4] rfl, sels [0, 1] rfl, ?_⟩
     refine wf_all [8] (by kernel_rfl) rfl ⟨on_s 8 rfl gn rfl (s_call [.int .i64 1, .string ((ix x1.conds x719).a)] rfl Tryd.func49 rfl rfl rfl fun w1735 hL1736 => ?_), trivial⟩
     have hp1737 := pmI hL1736 .n (.c 0 rfl (.c 1 rfl (.c 2 rfl (.c 3 rfl (.c 4 rfl .n))))) (by kernel_rfl)
     refine Calls.mono (trellisref20_word_calls w1735 (Fl ([] : List Snap)) 1 ((ix x1.conds x719).a) (hL1736.hFl hp1737 (sels [] rfl)) (hL1736.into hp1737 _) r1462 hv1463) ?_
     rintro _ w1742 ⟨A1738, n1739, c1740, rfl, hM1743, h1741⟩
     have hL1744 := hL1736.call hp1737 hM1743
     refine ⟨_, _, _, rfl, hL1744, ?_⟩
     refine ⟨sels [4, 5] rfl, sels [0, 1] rfl, ?_⟩
     refine wf_all [9] (by kernel_rfl) rfl ⟨on_s 9 rfl gn rfl (s_call [.slice A1718 n1719 c1720, .slice A1738 n1739 c1740] rfl Tryd.func48 rfl rfl rfl fun w1755 hL1756 => ?_), trivial⟩
     have hp1757 := pmI hL1756 (.c 1 rfl .n) (.c 0 rfl (.c 2 rfl (.c 3 rfl (.c 4 rfl (.c 5 rfl .n))))) (by kernel_rfl)
     refine Calls.mono (trellisref20_put_calls w1755 (Fl ([] : List Snap)) r1449 r1462 w.heap.size A1718 n1719 c1720 A1738 n1739 c1740 hL1756.env.size h1721 (hL1756.argO (dk := k_api_Word) hp1757 [1] rfl 0 rfl rfl (Ow.weak hL1736.env.size h1741) (me 0 rfl) (Cells.flat _)) (hL1756.hFl hp1757 (sels [] rfl)) (hL1756.into hp1757 _) r1475 hv1476) ?_
     rintro _ w1762 ⟨A1758, n1759, c1760, rfl, hM1763, h1761⟩
     have hL1764 := hL1756.call hp1757 hM1763
     refine ⟨_, _, _, rfl, hL1764, ?_⟩
     refine ⟨sels [4, 5] rfl, sels [0, 1] rfl, ?_⟩
     refine wfv 10 rfl (v_assign rfl) gn hns rfl <| wf_end (by kernel_rfl) <| g_seq rfl <| g_region rfl rfl <| wl_v 0 rfl (v_move rfl) gn rfl ?_
     obtain ⟨r1768, hv1769, h⟩ := h
     refine wl_s 1 rfl (s_call [.int .i64 5, .string (⟨#[61]⟩ : ByteArray)] rfl Tryd.func49 rfl rfl rfl fun w1765 hL1766 => ?_) gn
     have hp1767 := pmI hL1766 .n (.c 0 rfl (.c 1 rfl (.c 2 rfl (.c 3 rfl (.c 4 rfl (.c 5 rfl .n)))))) (by kernel_rfl)
     refine Calls.mono (trellisref20_word_calls w1765 (Fl ([] : List Snap)) 5 (⟨#[61]⟩ : ByteArray) (hL1766.hFl hp1767 (sels [] rfl)) (hL1766.into hp1767 _) r1768 hv1769) ?_
     rintro _ w1775 ⟨A1770, n1771, c1772, rfl, hM1776, h1773⟩
     have hL1777 := hL1766.call hp1767 hM1776
     refine ⟨_, _, _, rfl, hL1777, ?_⟩
     obtain ⟨r1781, hv1782, h⟩ := h
     refine wl_s 2 rfl (s_call [.slice A1758 n1759 c1760, .slice A1770 n1771 c1772] rfl Tryd.func48 rfl rfl rfl fun w1778 hL1779 => ?_) gn
     have hp1780 := pmI hL1779 (.c 1 rfl .n) (.c 0 rfl (.c 2 rfl (.c 3 rfl (.c 4 rfl (.c 5 rfl (.c 6 rfl .n)))))) (by kernel_rfl)
     refine Calls.mono (trellisref20_put_calls w1778 (Fl ([] : List Snap)) r1475 r1768 w.heap.size A1758 n1759 c1760 A1770 n1771 c1772 hL1779.env.size h1761 (hL1779.argO (dk := k_api_Word) hp1780 [1] rfl 0 rfl rfl (Ow.weak hL1766.env.size h1773) (me 0 rfl) (Cells.flat _)) (hL1779.hFl hp1780 (sels [] rfl)) (hL1779.into hp1780 _) r1781 hv1782) ?_
     rintro _ w1788 ⟨A1783, n1784, c1785, rfl, hM1789, h1786⟩
     have hL1790 := hL1779.call hp1780 hM1789
     refine ⟨_, _, _, rfl, hL1790, ?_⟩
     refine wl_v 3 rfl (v_assign rfl) gn rfl <| w_end 4 rfl <| g_seq rfl <| g_region rfl rfl <| wl_v 0 rfl (v_fldB fo_47_2 rfl) gn rfl <| wl_v 1 rfl (v_ldB1 5 ld_9 rfl rfl rfl) gn rfl <| wl_v 2 rfl (v_eqS rfl rfl) gn rfl <| w_end 3 rfl ?_
     by_cases hp1791 : (ix x1.conds x719).b = (⟨#[]⟩ : ByteArray)
     ·have h := if_pos' hp1791 h
      refine g_true rfl _ rfl ((seq_t hp1791)) <| g_region rfl rfl <| wl_v 0 rfl (v_move rfl) gn rfl <| wl_v 1 rfl (v_fldB fo_47_3 rfl) gn rfl <| wl_v 2 rfl (v_ldB1 5 ld_9 rfl rfl rfl) gn rfl ?_
      obtain ⟨r1795, hv1796, h⟩ := h
      refine wl_s 3 rfl (s_call [.int .i64 2, .string ((ix x1.conds x719).text)] rfl Tryd.func49 rfl rfl rfl fun w1792 hL1793 => ?_) gn
      have hp1794 := pmI hL1793 .n (.c 0 rfl (.c 1 rfl (.c 2 rfl (.c 3 rfl (.c 4 rfl (.c 5 rfl (.c 6 rfl .n))))))) (by kernel_rfl)
      refine Calls.mono (trellisref20_word_calls w1792 (Fl ([] : List Snap)) 2 ((ix x1.conds x719).text) (hL1793.hFl hp1794 (sels [] rfl)) (hL1793.into hp1794 _) r1795 hv1796) ?_
      rintro _ w1802 ⟨A1797, n1798, c1799, rfl, hM1803, h1800⟩
      have hL1804 := hL1793.call hp1794 hM1803
      refine ⟨_, _, _, rfl, hL1804, ?_⟩
      obtain ⟨r1808, hv1809, h⟩ := h
      refine wl_s 4 rfl (s_call [.slice A1783 n1784 c1785, .slice A1797 n1798 c1799] rfl Tryd.func48 rfl rfl rfl fun w1805 hL1806 => ?_) gn
      have hp1807 := pmI hL1806 (.c 1 rfl .n) (.c 0 rfl (.c 2 rfl (.c 3 rfl (.c 4 rfl (.c 5 rfl (.c 6 rfl (.c 7 rfl .n))))))) (by kernel_rfl)
      refine Calls.mono (trellisref20_put_calls w1805 (Fl ([] : List Snap)) r1781 r1795 w.heap.size A1783 n1784 c1785 A1797 n1798 c1799 hL1806.env.size h1786 (hL1806.argO (dk := k_api_Word) hp1807 [1] rfl 0 rfl rfl (Ow.weak hL1793.env.size h1800) (me 0 rfl) (Cells.flat _)) (hL1806.hFl hp1807 (sels [] rfl)) (hL1806.into hp1807 _) r1808 hv1809) ?_
      rintro _ w1815 ⟨A1810, n1811, c1812, rfl, hM1816, h1813⟩
      have hL1817 := hL1806.call hp1807 hM1816
      refine ⟨_, _, _, rfl, hL1817, ?_⟩
      refine wl_v 5 rfl (v_assign rfl) gn rfl <| w_end 6 rfl <| g_inBlock <| g_region rfl rfl <| wl_v 0 rfl (v_move rfl) gn rfl <| wl_v 1 rfl (v_bin rfl rfl rfl) gn rfl <| wl_v 2 rfl (v_assign rfl) gn rfl <| w_end 3 rfl <| g_inLoop ?_
      have ih := Out.inl hO1 h
      exact g_go [0, 1] (ih A1810 n1811 c1812 h1813) ⟨rfl, rfl, rfl, trivial⟩ (.cons_cons _ (.cons _ (.cons _ (.cons _ (.cons _ (.cons _ (.cons _ (.cons_cons _ (.slnil))))))))) rfl
     ·have h := if_neg' hp1791 h
      refine g_false rfl _ rfl ((seq_f hp1791)) ?_
      obtain ⟨r1821, hv1822, h⟩ := h
      obtain ⟨r1834, hv1835, h⟩ := h
      obtain ⟨r1847, hv1848, h⟩ := h
      obtain ⟨r1860, hv1861, h⟩ := h
      have hns : Region.noSelect (Code.ops q22c43) = true := by kernel_rfl
      refine g_drawF [.own (.slice A1770 n1771 c1772) 84 4 n1771 (r1768.flatMap enc_api_Word), .own (.slice A1738 n1739 c1740) 84 4 n1739 (r1462.flatMap enc_api_Word), .own (.slice A1698 n1699 c1700) 84 4 n1699 (r1436.flatMap enc_api_Word), .own (.slice A1658 n1659 c1660) 84 4 n1659 (r1410.flatMap enc_api_Word), .box gb1402 47 [.bool ((ix x1.conds x719).not), .string ((ix x1.conds x719).a), .string ((ix x1.conds x719).b), .string ((ix x1.conds x719).text)], .box gb10 25 [.slice A2 n3 c4, .slice A6 n7 c8]] [Sm w.heap.size F w [], St w []] [] 8 rfl rfl mix rfl (.cons _ (.cons_cons _ (.cons_cons _ (.cons_cons _ (.cons_cons _ (.cons_cons _ (.cons_cons _ (.slnil)))))))) (sels [0, 1] rfl) <| wfv 0 rfl (v_move rfl) gn hns rfl <| wfv 3 rfl (v_fldB fo_47_2 rfl) gn hns rfl <| wfv 4 rfl (v_ldB1 4 ld_9 rfl rfl rfl) gn hns rfl ?_
      refine wf_all [1] (by kernel_rfl) rfl ⟨on_s 1 rfl gn rfl (s_call [.int .i64 5, .string (⟨#[64]⟩ : ByteArray)] rfl Tryd.func49 rfl rfl rfl fun w2000 hL2001 => ?_), trivial⟩
      have hp2002 := pmI hL2001 .n (.c 0 rfl (.c 1 rfl (.c 2 rfl (.c 3 rfl (.c 4 rfl (.c 5 rfl (.c 6 rfl .n))))))) (by kernel_rfl)
      refine Calls.mono (trellisref20_word_calls w2000 (Fl ([] : List Snap)) 5 (⟨#[64]⟩ : ByteArray) (hL2001.hFl hp2002 (sels [] rfl)) (hL2001.into hp2002 _) r1821 hv1822) ?_
      rintro _ w2007 ⟨A2003, n2004, c2005, rfl, hM2008, h2006⟩
      have hL2009 := hL2001.call hp2002 hM2008
      refine ⟨_, _, _, rfl, hL2009, ?_⟩
      refine ⟨sels [2, 3, 4, 5, 6, 7] rfl, sels [0, 1] rfl, ?_⟩
      refine wf_all [2] (by kernel_rfl) rfl ⟨on_s 2 rfl gn rfl (s_call [.slice A1783 n1784 c1785, .slice A2003 n2004 c2005] rfl Tryd.func48 rfl rfl rfl fun w2020 hL2021 => ?_), trivial⟩
      have hp2022 := pmI hL2021 (.c 1 rfl .n) (.c 0 rfl (.c 2 rfl (.c 3 rfl (.c 4 rfl (.c 5 rfl (.c 6 rfl (.c 7 rfl .n))))))) (by kernel_rfl)
      refine Calls.mono (trellisref20_put_calls w2020 (Fl ([] : List Snap)) r1781 r1821 w.heap.size A1783 n1784 c1785 A2003 n2004 c2005 hL2021.env.size h1786 (hL2021.argO (dk := k_api_Word) hp2022 [1] rfl 0 rfl rfl (Ow.weak hL2001.env.size h2006) (me 0 rfl) (Cells.flat _)) (hL2021.hFl hp2022 (sels [] rfl)) (hL2021.into hp2022 _) r1834 hv1835) ?_
      rintro _ w2027 ⟨A2023, n2024, c2025, rfl, hM2028, h2026⟩
      have hL2029 := hL2021.call hp2022 hM2028
      refine ⟨_, _, _, rfl, hL2029, ?_⟩
      refine ⟨sels [2, 3, 4, 5, 6, 7] rfl, sels [0, 1] rfl, ?_⟩
      refine wf_all [5] (by kernel_rfl) rfl ⟨on_s 5 rfl gn rfl (s_call [.int .i64 1, .string ((ix x1.conds x719).b)] rfl Tryd.func49 rfl rfl rfl fun w2040 hL2041 => ?_), trivial⟩
      have hp2042 := pmI hL2041 .n (.c 0 rfl (.c 1 rfl (.c 2 rfl (.c 3 rfl (.c 4 rfl (.c 5 rfl (.c 6 rfl (.c 7 rfl .n)))))))) (by kernel_rfl)
      refine Calls.mono (trellisref20_word_calls w2040 (Fl ([] : List Snap)) 1 ((ix x1.conds x719).b) (hL2041.hFl hp2042 (sels [] rfl)) (hL2041.into hp2042 _) r1847 hv1848) ?_
      rintro _ w2047 ⟨A2043, n2044, c2045, rfl, hM2048, h2046⟩
      have hL2049 := hL2041.call hp2042 hM2048
      refine ⟨_, _, _, rfl, hL2049, ?_⟩
      refine ⟨sels [3, 4, 5, 6, 7, 8] rfl, sels [0, 1] rfl, ?_⟩
      refine wf_all [6] (by kernel_rfl) rfl ⟨on_s 6 rfl gn rfl (s_call [.slice A2023 n2024 c2025, .slice A2043 n2044 c2045] rfl Tryd.func48 rfl rfl rfl fun w2060 hL2061 => ?_), trivial⟩
      have hp2062 := pmI hL2061 (.c 1 rfl .n) (.c 0 rfl (.c 2 rfl (.c 3 rfl (.c 4 rfl (.c 5 rfl (.c 6 rfl (.c 7 rfl (.c 8 rfl .n)))))))) (by kernel_rfl)
      refine Calls.mono (trellisref20_put_calls w2060 (Fl ([] : List Snap)) r1834 r1847 w.heap.size A2023 n2024 c2025 A2043 n2044 c2045 hL2061.env.size h2026 (hL2061.argO (dk := k_api_Word) hp2062 [1] rfl 0 rfl rfl (Ow.weak hL2041.env.size h2046) (me 0 rfl) (Cells.flat _)) (hL2061.hFl hp2062 (sels [] rfl)) (hL2061.into hp2062 _) r1860 hv1861) ?_
      rintro _ w2067 ⟨A2063, n2064, c2065, rfl, hM2068, h2066⟩
      have hL2069 := hL2061.call hp2062 hM2068
      refine ⟨_, _, _, rfl, hL2069, ?_⟩
      refine ⟨sels [3, 4, 5, 6, 7, 8] rfl, sels [0, 1] rfl, ?_⟩
      refine wfv 7 rfl (v_assign rfl) gn hns rfl <| wf_end (by kernel_rfl) <| g_inBlock <| g_region rfl rfl <| wl_v 0 rfl (v_move rfl) gn rfl <| wl_v 1 rfl (v_bin rfl rfl rfl) gn rfl <| wl_v 2 rfl (v_assign rfl) gn rfl <| w_end 3 rfl <| g_inLoop ?_
      have ih := Out.inl hO1 h
      exact g_go [0, 1] (ih A2063 n2064 c2065 h2066) ⟨rfl, rfl, rfl, trivial⟩ (.cons_cons _ (.cons _ (.cons _ (.cons _ (.cons _ (.cons _ (.cons _ (.cons _ (.cons_cons _ (.slnil)))))))))) rfl
    by_cases hp1404 : ((ix x1.conds x719).not) = true
    ·have h := if_pos' hp1404 h
     refine g_true rfl _ rfl (hp1404) <| g_region rfl rfl <| wl_v 0 rfl (v_assign rfl) gn rfl <| w_end 1 rfl ?_
     exact g_go [0, 1] (j2 (⟨#[117, 110, 108, 101, 115, 115]⟩ : ByteArray) h) ⟨rfl, rfl, rfl, rfl, rfl, trivial⟩ (.cons_cons _ (.cons_cons _ (.cons_cons _ (.slnil)))) rfl
    ·have h := if_neg' hp1404 h
     refine g_false rfl _ rfl ((bf hp1404)) <| g_skip rfl ?_
     exact g_go [0, 1] (j2 (⟨#[119, 104, 101, 110]⟩ : ByteArray) h) ⟨rfl, rfl, rfl, rfl, rfl, trivial⟩ (.cons_cons _ (.cons_cons _ (.cons_cons _ (.slnil)))) rfl
   ·have h := if_neg' hp1399 h
    refine g_false rfl _ rfl ((decide_eq_false hp1399)) <| g_exit [.code q22c12] rfl rfl <| g_seq rfl <| g_region rfl rfl <| wl_v 0 rfl (v_move rfl) gn rfl ?_
    obtain ⟨r2073, hv2074, h⟩ := h
    refine wl_s 1 rfl (s_call [.slice A715 n716 c717] rfl Tryd.func50 rfl rfl rfl fun w2070 hL2071 => ?_) gn
    have hp2072 := pmI hL2071 .n (.c 0 rfl (.c 1 rfl .n)) (by kernel_rfl)
    refine Calls.mono (trellisref8_Join_calls w2070 (Fl ([] : List Snap)) x714 A715 n716 c717 (hL2071.argO (dk := k_api_Word) hp2072 [] rfl 0 rfl rfl h718 (me 0 rfl) (Cells.flat _)) (hL2071.tb hp2072 hG (me 1 rfl)) (hL2071.hFl hp2072 (sels [] rfl)) (hL2071.into hp2072 _) r2073 hv2074) ?_
    rintro _ w2075 ⟨rfl, hM2076⟩
    have hL2077 := hL2071.call hp2072 hM2076
    refine ⟨_, _, _, rfl, hL2077, ?_⟩
    refine wl_v 2 rfl (v_assign rfl) gn rfl <| wl_v 3 rfl (v_assign rfl) gn rfl <| w_end 4 rfl ?_
    have h := Out.inr hO1 h
    refine g_retR [.string r2073, .int .i64 0] rfl Tryd.func22 rfl (.tmp rfl (.tmp rfl (.nil))) fun wr hLr => ?_
    have hMr := hLr.pk0 (.c 1 rfl .n)
    show trellisref20_Print_R w F  r (.returned (packV [.string r2073, .int .i64 0])) wr
    rw [h]
    exact ⟨rfl, hMr⟩
  exact g_go [0, 1] (key1 _ h A26 n27 c28 (Ow.weak hL22.env.size h29)) ⟨rfl, rfl, rfl, trivial⟩ (.cons_cons _ (.cons_cons _ (.slnil))) rfl
 ·have h := if_neg' hp20 h
  refine g_true rfl _ rfl ((nt (bf hp20))) <| g_seq rfl <| g_region rfl rfl <| wl_v 0 rfl (v_assign rfl) gn rfl <| wl_v 1 rfl (v_assign rfl) gn rfl <| w_end 2 rfl ?_
  refine g_retR [.string (⟨#[]⟩ : ByteArray), .int .i64 200] rfl Tryd.func22 rfl (.tmp rfl (.tmp rfl (.nil))) fun wr hLr => ?_
  have hMr := hLr.pk0 (.c 1 rfl .n)
  show trellisref20_Print_R w F  r (.returned (packV [.string (⟨#[]⟩ : ByteArray), .int .i64 200])) wr
  rw [h]
  exact ⟨rfl, hMr⟩
abbrev query_Print_1_R (w : World) (F : Nat → Prop) (g4 : Nat) (Tb5 : Nat) (A6 : Option Addr) (n7 : Nat) (c8 : Nat) (z10 : Nat) (r : List api_Word) : Ending → World → Prop := fun e w' => ∃ A0 : Option Addr, ∃ n0 : Nat, ∃ c0 : Nat, e = .returned (.tuple #[]) ∧ B.Loc w w' [.box g4 Tb5 [.slice A0 n0 c0], .own (.slice A0 n0 c0) 84 4 n0 (r.flatMap enc_api_Word)] [St w [[g4], (Value.slice A6 n7 c8).ownBlock.toList]] ∧ Ow z10 A0 n0 c0 r
noncomputable abbrev query_Print_1_C (w : World) (F : Nat → Prop) (g4 : Nat) (Tb5 : Nat) (A6 : Option Addr) (n7 : Nat) (c8 : Nat) (z10 : Nat) (r : List api_Word) : Cx := ⟨Tryd.prog, 56, Tryd.f56, 11, query_Print_1_R w F g4 Tb5 A6 n7 c8 z10 r, w⟩
theorem query_Print_1_calls (w : World) (F : Nat → Prop) (x1 : Int) (x2 : ByteArray) (x3 : List api_Word) (g4 : Nat) (Tb5 : Nat) (z10 : Nat) (A6 : Option Addr) (n7 : Nat) (c8 : Nat) (hz11 : z10 ≤ w.heap.size) (h9 : Ow z10 A6 n7 c8 x3) (hF : ∀ b, F b → b < w.heap.size ∧ ∀ o ∈ ([[g4], (Value.slice A6 n7 c8).ownBlock.toList] : List (List Nat)), b ∉ o) (hL0 : B.Loc w w [.box g4 Tb5 [.slice A6 n7 c8], .own (.slice A6 n7 c8) 84 4 n7 (x3.flatMap enc_api_Word)] [Sm w.heap.size F w [[g4], (Value.slice A6 n7 c8).ownBlock.toList], St w [[g4], (Value.slice A6 n7 c8).ownBlock.toList]]) (r : List api_Word) (h : query_Print_1 x1 x2 x3 r) : Calls Tryd.prog 56 #[.int .i64 x1, .string x2, .pointer (some ⟨g4, 0, none⟩)] w (query_Print_1_R w F g4 Tb5 A6 n7 c8 z10 r) := by
 unfold query_Print_1 at h
 refine calls_of_Loc (vs := [.int .i64 x1, .string x2, .pointer (some ⟨g4, 0, none⟩)]) 11 Tryd.func56 rfl Tryd.ntmps56 rfl hL0 ?_
 show G (query_Print_1_C w F g4 Tb5 A6 n7 c8 z10 r) _ _ _ _
 refine g_region rfl rfl <| wl_v 0 rfl (v_ldB1 0 ld_75 rfl rfl rfl) gn rfl <| wl_v 1 rfl (v_move rfl) gn rfl <| wl_v 2 rfl (v_move rfl) gn rfl <| wl_v 3 rfl (v_build #[.int .i64 x1, .string x2, .int .i64 0, .int .i64 0] bd_84 rfl (by kernel_rfl)) gn rfl ?_
 refine wl_s 4 rfl (s_litO (xs := ([(⟨x1, x2, 0, 0⟩ : api_Word)] : List api_Word)) [.int .i64 x1, .string x2, .int .i64 0, .int .i64 0] bs_75_1 rfl (by kernel_rfl) rfl rfl rfl rfl fun gb13 h14 => ?_) gn
 obtain ⟨x18, hv19, h⟩ := h
 obtain ⟨hb20, h⟩ := h
 refine wl_s 5 rfl (s_app (zs := x18) (cells' := x18.flatMap enc_api_Word) 2 ap_75 rfl rfl rfl h9 hz11 (Src.ownF (hl := hl_api_Word) (h1 := h1_api_Word) 0 rfl h14) (by rw [hv19, List.flatMap_append] <;> rfl) (app_len hv19 h14.hq) hb20 rfl rfl fun A15 c16 h17 => ?_) gn
 refine wl_s 6 rfl (s_stB (vs := [.slice A15 (n7 + 1) c16]) (cs' := [.slice A15 (n7 + 1) c16]) (M' := [.own (.slice (some ⟨gb13, 0, none⟩) 1 1) 84 4 1 (([(⟨x1, x2, 0, 0⟩ : api_Word)] : List api_Word).flatMap enc_api_Word), .box g4 Tb5 [.slice A15 (n7 + 1) c16], .own (.slice A15 (n7 + 1) c16) 84 4 (n7 + 1) (x18.flatMap enc_api_Word)]) 1 sz_75 rfl rfl rfl rfl rfl rfl rfl rfl rfl ?_) gn
 refine w_end 7 rfl ?_
 refine g_endR [] Tryd.func56 rfl (.nil) fun wr hLr => ?_
 have hMr := hLr.pkI (.c 1 rfl (.c 2 rfl .n)) (.c 0 rfl .n) (by kernel_rfl) (.c 1 rfl .n)
 show query_Print_1_R w F g4 Tb5 A6 n7 c8 z10 r (.returned (packV [])) wr
 rw [h]
 exact ⟨A15, n7 + 1, c16, rfl, hMr, h17⟩
noncomputable abbrev q57c6 := Code.snd (Code.snd (Code.snd (bodyOf Tryd.f57)))
noncomputable abbrev q57c14 := Code.snd q57c6
noncomputable abbrev q57c22 := Code.snd (Code.snd (Code.snd (Code.snd (Code.fst q57c6))))
noncomputable abbrev q57c28 := Code.snd q57c22
noncomputable abbrev q57c32 := Code.fst (Code.fst (Code.snd (Code.fst q57c22)))
abbrev query_Print_2_R (w : World) (F : Nat → Prop) (g2 : Nat) (g13 : Nat) (g15 : Nat) (g17 : Nat) (g20 : Nat) (Tb3 : Nat) (Tb14 : Nat) (Tb16 : Nat) (Tb18 : Nat) (Tb21 : Nat) (A22 : Option Addr) (n23 : Nat) (c24 : Nat) (z26 : Nat) (A4 : Option Addr) (n5 : Nat) (c6 : Nat) (A8 : Option Addr) (n9 : Nat) (c10 : Nat) (r : api_Query × Int × (List api_Word)) : Ending → World → Prop := fun e w' => ∃ Ar2 : Option Addr, ∃ nr2 : Nat, ∃ cr2 : Nat, e = .returned (.tuple #[]) ∧ B.Loc w w' [.box g2 Tb3 [.slice A4 n5 c6, .slice A8 n9 c10], .box g13 Tb14 [.int .i64 r.2.1], .box g15 Tb16 [.func (.func 56) #[] #[.pointer (some ⟨g20, 0, none⟩)]], .box g17 Tb18 [.func (.func 57) #[] #[.pointer (some ⟨g2, 0, none⟩), .pointer (some ⟨g13, 0, none⟩), .pointer (some ⟨g15, 0, none⟩), .pointer (some ⟨g17, 0, none⟩)]], .box g20 Tb21 [.slice Ar2 nr2 cr2], .own (.slice Ar2 nr2 cr2) 84 4 nr2 (r.2.2.flatMap enc_api_Word)] [St w [[g2], [g13], [g15], [g17], [g20], (Value.slice A22 n23 c24).ownBlock.toList]] ∧ Ow z26 Ar2 nr2 cr2 r.2.2
noncomputable abbrev query_Print_2_C (w : World) (F : Nat → Prop) (g2 : Nat) (g13 : Nat) (g15 : Nat) (g17 : Nat) (g20 : Nat) (Tb3 : Nat) (Tb14 : Nat) (Tb16 : Nat) (Tb18 : Nat) (Tb21 : Nat) (A22 : Option Addr) (n23 : Nat) (c24 : Nat) (z26 : Nat) (A4 : Option Addr) (n5 : Nat) (c6 : Nat) (A8 : Option Addr) (n9 : Nat) (c10 : Nat) (r : api_Query × Int × (List api_Word)) : Cx := ⟨Tryd.prog, 57, Tryd.f57, 56, query_Print_2_R w F g2 g13 g15 g17 g20 Tb3 Tb14 Tb16 Tb18 Tb21 A22 n23 c24 z26 A4 n5 c6 A8 n9 c10 r, w⟩
def query_Print_2_st (rl : api_Query → Int → (List api_Word) → (api_Query × Int × (List api_Word)) → Prop) : Prop := ∀ (w : World) (F : Nat → Prop) (x1 : api_Query) (x12 : Int) (x19 : List api_Word) (g2 : Nat) (Tb3 : Nat) (A4 : Option Addr) (n5 : Nat) (c6 : Nat) (A8 : Option Addr) (n9 : Nat) (c10 : Nat) (g13 : Nat) (Tb14 : Nat) (g15 : Nat) (Tb16 : Nat) (g17 : Nat) (Tb18 : Nat) (g20 : Nat) (Tb21 : Nat) (z26 : Nat) (A22 : Option Addr) (n23 : Nat) (c24 : Nat) (h7 : Rw k_api_PatNode w (St w [[g2], [g13], [g15], [g17], [g20], (Value.slice A22 n23 c24).ownBlock.toList]).av A4 n5 c6 x1.nodes) (h11 : Rw k_api_Cond w (St w [[g2], [g13], [g15], [g17], [g20], (Value.slice A22 n23 c24).ownBlock.toList]).av A8 n9 c10 x1.conds) (hz27 : z26 ≤ w.heap.size) (h25 : Ow z26 A22 n23 c24 x19) (hF : ∀ b, F b → b < w.heap.size ∧ ∀ o ∈ ([[g2], [g13], [g15], [g17], [g20], (Value.slice A22 n23 c24).ownBlock.toList] : List (List Nat)), b ∉ o) (hL0 : B.Loc w w [.box g2 Tb3 [.slice A4 n5 c6, .slice A8 n9 c10], .box g13 Tb14 [.int .i64 x12], .box g15 Tb16 [.func (.func 56) #[] #[.pointer (some ⟨g20, 0, none⟩)]], .box g17 Tb18 [.func (.func 57) #[] #[.pointer (some ⟨g2, 0, none⟩), .pointer (some ⟨g13, 0, none⟩), .pointer (some ⟨g15, 0, none⟩), .pointer (some ⟨g17, 0, none⟩)]], .box g20 Tb21 [.slice A22 n23 c24], .own (.slice A22 n23 c24) 84 4 n23 (x19.flatMap enc_api_Word)] [Sm w.heap.size F w [[g2], [g13], [g15], [g17], [g20], (Value.slice A22 n23 c24).ownBlock.toList], St w [[g2], [g13], [g15], [g17], [g20], (Value.slice A22 n23 c24).ownBlock.toList]]) (r : api_Query × Int × (List api_Word)) (h : rl x1 x12 x19 r), Calls Tryd.prog 57 #[.pointer (some ⟨g2, 0, none⟩), .pointer (some ⟨g13, 0, none⟩), .pointer (some ⟨g15, 0, none⟩), .pointer (some ⟨g17, 0, none⟩)] w (query_Print_2_R w F g2 g13 g15 g17 g20 Tb3 Tb14 Tb16 Tb18 Tb21 A22 n23 c24 z26 A4 n5 c6 A8 n9 c10 r)
theorem query_Print_2_step (rc_query_Print_2 : api_Query → Int → (List api_Word) → (api_Query × Int × (List api_Word)) → Prop) (ih_query_Print_2 : query_Print_2_st rc_query_Print_2) : query_Print_2_st (query_Print_2_body rc_query_Print_2) := by
 intro w F x1 x12 x19 g2 Tb3 A4 n5 c6 A8 n9 c10 g13 Tb14 g15 Tb16 g17 Tb18 g20 Tb21 z26 A22 n23 c24 h7 h11 hz27 h25 hF hL0 r h
 unfold query_Print_2_body at h
 refine calls_of_Loc (vs := [.pointer (some ⟨g2, 0, none⟩), .pointer (some ⟨g13, 0, none⟩), .pointer (some ⟨g15, 0, none⟩), .pointer (some ⟨g17, 0, none⟩)]) 56 Tryd.func57 rfl Tryd.ntmps57 rfl hL0 ?_
 show G (query_Print_2_C w F g2 g13 g15 g17 g20 Tb3 Tb14 Tb16 Tb18 Tb21 A22 n23 c24 z26 A4 n5 c6 A8 n9 c10 r) _ _ _ _
 refine g_seq rfl <| g_region rfl rfl <| wl_v 0 rfl (v_fldB fo_25_0 rfl) gn rfl <| wl_v 1 rfl (v_ldB1 0 ld_22 rfl rfl rfl) gn rfl <| wl_v 2 rfl (v_ldB1 1 ld_3 rfl rfl rfl) gn rfl ?_
 obtain ⟨hb28, h⟩ := h
 have hr29 := Rw.readF (s := St w [[g2], [g13], [g15], [g17], [g20], (Value.slice A22 n23 c24).ownBlock.toList]) (hl := hl_api_PatNode) (h1 := h1_api_PatNode) h7 hb28
 refine wl_v 3 rfl (v_idxR (s := St w [[g2], [g13], [g15], [g17], [g20], (Value.slice A22 n23 c24).ownBlock.toList]) slE_22 rfl rfl h7 hb28) gn rfl <| wl_v 4 rfl (v_ldA (St w [[g2], [g13], [g15], [g17], [g20], (Value.slice A22 n23 c24).ownBlock.toList]) ld_45 rfl hr29 rfl (me 1 rfl)) gn rfl ?_
 refine wl_s 5 rfl (s_alloc [.string (⟨#[]⟩ : ByteArray), .bool false, .string (⟨#[]⟩ : ByteArray), .string (⟨#[]⟩ : ByteArray), .int .i64 0] zr_45 rfl fun gb30 => ?_) gn
 refine wl_s 6 rfl (s_stB (vs := [.string ((ix x1.nodes x12).name), .bool ((ix x1.nodes x12).lit), .string ((ix x1.nodes x12).field), .string ((ix x1.nodes x12).capture), .int .i64 ((ix x1.nodes x12).kids)]) (cs' := [.string ((ix x1.nodes x12).name), .bool ((ix x1.nodes x12).lit), .string ((ix x1.nodes x12).field), .string ((ix x1.nodes x12).capture), .int .i64 ((ix x1.nodes x12).kids)]) (M' := [.box gb30 45 [.string ((ix x1.nodes x12).name), .bool ((ix x1.nodes x12).lit), .string ((ix x1.nodes x12).field), .string ((ix x1.nodes x12).capture), .int .i64 ((ix x1.nodes x12).kids)], .box g2 Tb3 [.slice A4 n5 c6, .slice A8 n9 c10], .box g13 Tb14 [.int .i64 x12], .box g15 Tb16 [.func (.func 56) #[] #[.pointer (some ⟨g20, 0, none⟩)]], .box g17 Tb18 [.func (.func 57) #[] #[.pointer (some ⟨g2, 0, none⟩), .pointer (some ⟨g13, 0, none⟩), .pointer (some ⟨g15, 0, none⟩), .pointer (some ⟨g17, 0, none⟩)]], .box g20 Tb21 [.slice A22 n23 c24], .own (.slice A22 n23 c24) 84 4 n23 (x19.flatMap enc_api_Word)]) 0 sz_45 rfl rfl rfl rfl rfl rfl rfl rfl rfl ?_) gn
 refine w_end 7 rfl <| g_seq rfl <| g_region rfl rfl <| wl_v 0 rfl (v_ldB1 2 ld_3 rfl rfl rfl) gn rfl <| wl_v 1 rfl (v_bin rfl rfl rfl) gn rfl ?_
 refine wl_s 2 rfl (s_stB (vs := [.int .i64 (w64 (x12 + 1))]) (cs' := [.int .i64 (w64 (x12 + 1))]) (M' := [.box gb30 45 [.string ((ix x1.nodes x12).name), .bool ((ix x1.nodes x12).lit), .string ((ix x1.nodes x12).field), .string ((ix x1.nodes x12).capture), .int .i64 ((ix x1.nodes x12).kids)], .box g2 Tb3 [.slice A4 n5 c6, .slice A8 n9 c10], .box g13 Tb14 [.int .i64 (w64 (x12 + 1))], .box g15 Tb16 [.func (.func 56) #[] #[.pointer (some ⟨g20, 0, none⟩)]], .box g17 Tb18 [.func (.func 57) #[] #[.pointer (some ⟨g2, 0, none⟩), .pointer (some ⟨g13, 0, none⟩), .pointer (some ⟨g15, 0, none⟩), .pointer (some ⟨g17, 0, none⟩)]], .box g20 Tb21 [.slice A22 n23 c24], .own (.slice A22 n23 c24) 84 4 n23 (x19.flatMap enc_api_Word)]) 2 sz_3 rfl rfl rfl rfl rfl rfl rfl rfl rfl ?_) gn
 refine w_end 3 rfl <| g_seq rfl <| g_seq rfl <| g_region rfl rfl <| wl_v 0 rfl (v_fldB fo_45_2 rfl) gn rfl <| wl_v 1 rfl (v_ldB1 0 ld_9 rfl rfl rfl) gn rfl <| wl_v 2 rfl (v_neS rfl rfl) gn rfl <| w_end 3 rfl ?_
 have j1 : ∀ (x60 : List api_Word) (h : query_Print_2_j1 x1 x12 rc_query_Print_2 x60 r) (A61 : Option Addr) (n62 : Nat) (c63 : Nat) (h64 : Ow z26 A61 n62 c63 x60), G (query_Print_2_C w F g2 g13 g15 g17 g20 Tb3 Tb14 Tb16 Tb18 Tb21 A22 n23 c24 z26 A4 n5 c6 A8 n9 c10 r) [.code q57c6] [(2, .pointer (some ⟨g15, 0, none⟩)), (3, .pointer (some ⟨g17, 0, none⟩)), (4, .pointer (some ⟨gb30, 0, none⟩))] [.own (.slice A61 n62 c63) 84 4 n62 (x60.flatMap enc_api_Word), .box gb30 45 [.string ((ix x1.nodes x12).name), .bool ((ix x1.nodes x12).lit), .string ((ix x1.nodes x12).field), .string ((ix x1.nodes x12).capture), .int .i64 ((ix x1.nodes x12).kids)], .box g2 Tb3 [.slice A4 n5 c6, .slice A8 n9 c10], .box g13 Tb14 [.int .i64 (w64 (x12 + 1))], .box g15 Tb16 [.func (.func 56) #[] #[.pointer (some ⟨g20, 0, none⟩)]], .box g17 Tb18 [.func (.func 57) #[] #[.pointer (some ⟨g2, 0, none⟩), .pointer (some ⟨g13, 0, none⟩), .pointer (some ⟨g15, 0, none⟩), .pointer (some ⟨g17, 0, none⟩)]], .box g20 Tb21 [.slice A61 n62 c63]] [Sm w.heap.size F w [[g2], [g13], [g15], [g17], [g20], (Value.slice A22 n23 c24).ownBlock.toList], St w [[g2], [g13], [g15], [g17], [g20], (Value.slice A22 n23 c24).ownBlock.toList]] := by
  intro x60 h A61 n62 c63 h64
  unfold query_Print_2_j1 at h
  refine g_seq rfl <| g_seq rfl <| g_region rfl rfl <| wl_v 0 rfl (v_fldB fo_45_1 rfl) gn rfl <| wl_v 1 rfl (v_ldB1 1 ld_4 rfl rfl rfl) gn rfl <| w_end 2 rfl ?_
  have j2 : ∀ (x241 : List api_Word) (x246 : Int) (h : query_Print_2_j2 x1 x12 x241 x246 r) (A242 : Option Addr) (n243 : Nat) (c244 : Nat) (h245 : Ow z26 A242 n243 c244 x241), G (query_Print_2_C w F g2 g13 g15 g17 g20 Tb3 Tb14 Tb16 Tb18 Tb21 A22 n23 c24 z26 A4 n5 c6 A8 n9 c10 r) [.code q57c14] [(2, .pointer (some ⟨g15, 0, none⟩)), (4, .pointer (some ⟨gb30, 0, none⟩))] [.own (.slice A242 n243 c244) 84 4 n243 (x241.flatMap enc_api_Word), .box g20 Tb21 [.slice A242 n243 c244], .box gb30 45 [.string ((ix x1.nodes x12).name), .bool ((ix x1.nodes x12).lit), .string ((ix x1.nodes x12).field), .string ((ix x1.nodes x12).capture), .int .i64 ((ix x1.nodes x12).kids)], .box g2 Tb3 [.slice A4 n5 c6, .slice A8 n9 c10], .box g13 Tb14 [.int .i64 x246], .box g15 Tb16 [.func (.func 56) #[] #[.pointer (some ⟨g20, 0, none⟩)]], .box g17 Tb18 [.func (.func 57) #[] #[.pointer (some ⟨g2, 0, none⟩), .pointer (some ⟨g13, 0, none⟩), .pointer (some ⟨g15, 0, none⟩), .pointer (some ⟨g17, 0, none⟩)]]] [Sm w.heap.size F w [[g2], [g13], [g15], [g17], [g20], (Value.slice A22 n23 c24).ownBlock.toList], St w [[g2], [g13], [g15], [g17], [g20], (Value.slice A22 n23 c24).ownBlock.toList]] := by
   intro x241 x246 h A242 n243 c244 h245
   unfold query_Print_2_j2 at h
   refine g_seq rfl <| g_region rfl rfl <| wl_v 0 rfl (v_fldB fo_45_3 rfl) gn rfl <| wl_v 1 rfl (v_ldB1 2 ld_9 rfl rfl rfl) gn rfl <| wl_v 2 rfl (v_neS rfl rfl) gn rfl <| w_end 3 rfl ?_
   by_cases hp247 : (ix x1.nodes x12).capture = (⟨#[]⟩ : ByteArray)
   ·have h := if_pos' hp247 h
    refine g_false rfl _ rfl ((nf (seq_t hp247))) <| g_skip rfl ?_
    refine g_endR [] Tryd.func57 rfl (.nil) fun wr hLr => ?_
    have hMr := hLr.pkI (.c 3 rfl (.c 4 rfl (.c 5 rfl (.c 6 rfl (.c 1 rfl (.c 0 rfl .n)))))) (.c 2 rfl .n) (by kernel_rfl) (.c 1 rfl .n)
    show query_Print_2_R w F g2 g13 g15 g17 g20 Tb3 Tb14 Tb16 Tb18 Tb21 A22 n23 c24 z26 A4 n5 c6 A8 n9 c10 r (.returned (packV [])) wr
    rw [h]
    exact ⟨A242, n243, c244, rfl, hMr, h245⟩
   ·have h := if_neg' hp247 h
    refine g_true rfl _ rfl ((nt (seq_f hp247))) <| g_seq rfl <| g_region rfl rfl <| wl_v 0 rfl (v_ldB1 5 ld_85 rfl rfl rfl) gn rfl ?_
    obtain ⟨r251, hv252, h⟩ := h
    refine wl_s 1 rfl (s_callC [.int .i64 5, .string (⟨#[64]⟩ : ByteArray)] [.pointer (some ⟨g20, 0, none⟩)] rfl rfl Tryd.func56 rfl rfl rfl fun w248 hL249 => ?_) gn
    have hp250 := pmI hL249 (.c 1 rfl (.c 0 rfl .n)) (.c 2 rfl (.c 3 rfl (.c 4 rfl (.c 5 rfl (.c 6 rfl .n))))) (by kernel_rfl)
    refine Calls.mono (query_Print_1_calls w248 (Fl ([] : List Snap)) 5 (⟨#[64]⟩ : ByteArray) x241 g20 Tb21 z26 A242 n243 c244 (Nat.le_trans hz27 hL249.env.size) h245 (hL249.hFl hp250 (sels [] rfl)) (hL249.into hp250 _) r251 hv252) ?_
    rintro _ w258 ⟨A253, n254, c255, rfl, hM259, h256⟩
    have hL260 := hL249.call hp250 hM259
    refine ⟨_, _, _, rfl, hL260, ?_⟩
    refine w_end 2 rfl <| g_region rfl rfl <| wl_v 0 rfl (v_ldB1 5 ld_85 rfl rfl rfl) gn rfl <| wl_v 1 rfl (v_fldB fo_45_3 rfl) gn rfl <| wl_v 2 rfl (v_ldB1 2 ld_9 rfl rfl rfl) gn rfl ?_
    obtain ⟨r264, hv265, h⟩ := h
    refine wl_s 3 rfl (s_callC [.int .i64 1, .string ((ix x1.nodes x12).capture)] [.pointer (some ⟨g20, 0, none⟩)] rfl rfl Tryd.func56 rfl rfl rfl fun w261 hL262 => ?_) gn
    have hp263 := pmI hL262 (.c 0 rfl (.c 1 rfl .n)) (.c 2 rfl (.c 3 rfl (.c 4 rfl (.c 5 rfl (.c 6 rfl .n))))) (by kernel_rfl)
    refine Calls.mono (query_Print_1_calls w261 (Fl ([] : List Snap)) 1 ((ix x1.nodes x12).capture) r251 g20 Tb21 z26 A253 n254 c255 (Nat.le_trans hz27 hL262.env.size) h256 (hL262.hFl hp263 (sels [] rfl)) (hL262.into hp263 _) r264 hv265) ?_
    rintro _ w271 ⟨A266, n267, c268, rfl, hM272, h269⟩
    have hL273 := hL262.call hp263 hM272
    refine ⟨_, _, _, rfl, hL273, ?_⟩
    refine w_end 4 rfl ?_
    refine g_endR [] Tryd.func57 rfl (.nil) fun wr hLr => ?_
    have hMr := hLr.pkI (.c 3 rfl (.c 4 rfl (.c 5 rfl (.c 6 rfl (.c 0 rfl (.c 1 rfl .n)))))) (.c 2 rfl .n) (by kernel_rfl) (.c 1 rfl .n)
    show query_Print_2_R w F g2 g13 g15 g17 g20 Tb3 Tb14 Tb16 Tb18 Tb21 A22 n23 c24 z26 A4 n5 c6 A8 n9 c10 r (.returned (packV [])) wr
    rw [h]
    exact ⟨A266, n267, c268, rfl, hMr, h269⟩
  by_cases hp65 : ((ix x1.nodes x12).lit) = true
  ·have h := if_pos' hp65 h
   refine g_true rfl _ rfl (hp65) <| g_region rfl rfl <| wl_v 0 rfl (v_ldB1 4 ld_85 rfl rfl rfl) gn rfl <| wl_v 1 rfl (v_fldB fo_45_0 rfl) gn rfl <| wl_v 2 rfl (v_ldB1 1 ld_9 rfl rfl rfl) gn rfl ?_
   obtain ⟨r277, hv278, h⟩ := h
   refine wl_s 3 rfl (s_callC [.int .i64 2, .string ((ix x1.nodes x12).name)] [.pointer (some ⟨g20, 0, none⟩)] rfl rfl Tryd.func56 rfl rfl rfl fun w274 hL275 => ?_) gn
   have hp276 := pmI hL275 (.c 6 rfl (.c 0 rfl .n)) (.c 1 rfl (.c 2 rfl (.c 3 rfl (.c 4 rfl (.c 5 rfl .n))))) (by kernel_rfl)
   refine Calls.mono (query_Print_1_calls w274 (Fl ([] : List Snap)) 2 ((ix x1.nodes x12).name) x60 g20 Tb21 z26 A61 n62 c63 (Nat.le_trans hz27 hL275.env.size) h64 (hL275.hFl hp276 (sels [] rfl)) (hL275.into hp276 _) r277 hv278) ?_
   rintro _ w284 ⟨A279, n280, c281, rfl, hM285, h282⟩
   have hL286 := hL275.call hp276 hM285
   refine ⟨_, _, _, rfl, hL286, ?_⟩
   refine w_end 4 rfl <| g_front 6 rfl <| g_front 6 rfl <| g_front 6 rfl <| g_front 6 rfl <| g_front 6 rfl <| g_front 5 rfl <| g_front 6 rfl ?_
   exact g_go [0, 1] (j2 r277 (w64 (x12 + 1)) h A279 n280 c281 h282) ⟨rfl, rfl, trivial⟩ (.cons_cons _ (.cons_cons _ (.cons_cons _ (.cons_cons _ (.cons_cons _ (.cons_cons _ (.cons_cons _ (.slnil)))))))) rfl
  ·have h := if_neg' hp65 h
   refine g_false rfl _ rfl ((bf hp65)) <| g_seq rfl <| g_region rfl rfl <| wl_v 0 rfl (v_ldB1 4 ld_85 rfl rfl rfl) gn rfl ?_
   obtain ⟨r290, hv291, h⟩ := h
   refine wl_s 1 rfl (s_callC [.int .i64 5, .string (⟨#[40]⟩ : ByteArray)] [.pointer (some ⟨g20, 0, none⟩)] rfl rfl Tryd.func56 rfl rfl rfl fun w287 hL288 => ?_) gn
   have hp289 := pmI hL288 (.c 6 rfl (.c 0 rfl .n)) (.c 1 rfl (.c 2 rfl (.c 3 rfl (.c 4 rfl (.c 5 rfl .n))))) (by kernel_rfl)
   refine Calls.mono (query_Print_1_calls w287 (Fl ([] : List Snap)) 5 (⟨#[40]⟩ : ByteArray) x60 g20 Tb21 z26 A61 n62 c63 (Nat.le_trans hz27 hL288.env.size) h64 (hL288.hFl hp289 (sels [] rfl)) (hL288.into hp289 _) r290 hv291) ?_
   rintro _ w297 ⟨A292, n293, c294, rfl, hM298, h295⟩
   have hL299 := hL288.call hp289 hM298
   refine ⟨_, _, _, rfl, hL299, ?_⟩
   refine w_end 2 rfl <| g_seq rfl <| g_seq rfl <| g_region rfl rfl <| wl_v 0 rfl (v_fldB fo_45_0 rfl) gn rfl <| wl_v 1 rfl (v_ldB1 2 ld_9 rfl rfl rfl) gn rfl <| wl_v 2 rfl (v_eqS rfl rfl) gn rfl <| w_end 3 rfl ?_
   have j3 : ∀ (x328 : List api_Word) (h : query_Print_2_j3 x1 x12 rc_query_Print_2 x328 r) (A329 : Option Addr) (n330 : Nat) (c331 : Nat) (h332 : Ow z26 A329 n330 c331 x328), G (query_Print_2_C w F g2 g13 g15 g17 g20 Tb3 Tb14 Tb16 Tb18 Tb21 A22 n23 c24 z26 A4 n5 c6 A8 n9 c10 r) [.code q57c22, .code q57c14] [(2, .pointer (some ⟨g15, 0, none⟩)), (3, .pointer (some ⟨g17, 0, none⟩)), (4, .pointer (some ⟨gb30, 0, none⟩))] [.own (.slice A329 n330 c331) 84 4 n330 (x328.flatMap enc_api_Word), .box g20 Tb21 [.slice A329 n330 c331], .box gb30 45 [.string ((ix x1.nodes x12).name), .bool ((ix x1.nodes x12).lit), .string ((ix x1.nodes x12).field), .string ((ix x1.nodes x12).capture), .int .i64 ((ix x1.nodes x12).kids)], .box g2 Tb3 [.slice A4 n5 c6, .slice A8 n9 c10], .box g13 Tb14 [.int .i64 (w64 (x12 + 1))], .box g15 Tb16 [.func (.func 56) #[] #[.pointer (some ⟨g20, 0, none⟩)]], .box g17 Tb18 [.func (.func 57) #[] #[.pointer (some ⟨g2, 0, none⟩), .pointer (some ⟨g13, 0, none⟩), .pointer (some ⟨g15, 0, none⟩), .pointer (some ⟨g17, 0, none⟩)]]] [Sm w.heap.size F w [[g2], [g13], [g15], [g17], [g20], (Value.slice A22 n23 c24).ownBlock.toList], St w [[g2], [g13], [g15], [g17], [g20], (Value.slice A22 n23 c24).ownBlock.toList]] := by
    intro x328 h A329 n330 c331 h332
    unfold query_Print_2_j3 at h
    refine g_seq rfl <| g_seq rfl <| g_region rfl rfl <| wl_v 0 rfl (v_fldB fo_45_4 rfl) gn rfl <| wl_v 1 rfl (v_ldB1 2 ld_3 rfl rfl rfl) gn rfl <| wl_v 2 rfl (v_move rfl) gn rfl <| w_end 3 rfl <| g_block rfl <| g_loop rfl ?_
    have key4 : ∀ s, Rounds (fun (s : Int × (List api_Word) × Int) o => query_Print_2_b4 x1 x12 rc_query_Print_2 s.1 s.2.1 s.2.2 o) s r → (fun (s : Int × (List api_Word) × Int) => ∀ (A365 : Option Addr) (n366 : Nat) (c367 : Nat) (h368 : Ow z26 A365 n366 c367 s.2.1), G (query_Print_2_C w F g2 g13 g15 g17 g20 Tb3 Tb14 Tb16 Tb18 Tb21 A22 n23 c24 z26 A4 n5 c6 A8 n9 c10 r) [.code q57c32, .inLoop q57c32, .inBlock 0, .code q57c28, .code q57c14] [(2, .pointer (some ⟨g15, 0, none⟩)), (3, .pointer (some ⟨g17, 0, none⟩)), (4, .pointer (some ⟨gb30, 0, none⟩)), (39, .int .i64 ((ix x1.nodes x12).kids)), (40, .int .i64 s.1)] [.own (.slice A365 n366 c367) 84 4 n366 (s.2.1.flatMap enc_api_Word), .box g20 Tb21 [.slice A365 n366 c367], .box gb30 45 [.string ((ix x1.nodes x12).name), .bool ((ix x1.nodes x12).lit), .string ((ix x1.nodes x12).field), .string ((ix x1.nodes x12).capture), .int .i64 ((ix x1.nodes x12).kids)], .box g2 Tb3 [.slice A4 n5 c6, .slice A8 n9 c10], .box g13 Tb14 [.int .i64 s.2.2], .box g15 Tb16 [.func (.func 56) #[] #[.pointer (some ⟨g20, 0, none⟩)]], .box g17 Tb18 [.func (.func 57) #[] #[.pointer (some ⟨g2, 0, none⟩), .pointer (some ⟨g13, 0, none⟩), .pointer (some ⟨g15, 0, none⟩), .pointer (some ⟨g17, 0, none⟩)]]] [Sm w.heap.size F w [[g2], [g13], [g15], [g17], [g20], (Value.slice A22 n23 c24).ownBlock.toList], St w [[g2], [g13], [g15], [g17], [g20], (Value.slice A22 n23 c24).ownBlock.toList]]) s := by
     intro s hs
     refine Rounds.ind (mot := (fun (s : Int × (List api_Word) × Int) => ∀ (A365 : Option Addr) (n366 : Nat) (c367 : Nat) (h368 : Ow z26 A365 n366 c367 s.2.1), G (query_Print_2_C w F g2 g13 g15 g17 g20 Tb3 Tb14 Tb16 Tb18 Tb21 A22 n23 c24 z26 A4 n5 c6 A8 n9 c10 r) [.code q57c32, .inLoop q57c32, .inBlock 0, .code q57c28, .code q57c14] [(2, .pointer (some ⟨g15, 0, none⟩)), (3, .pointer (some ⟨g17, 0, none⟩)), (4, .pointer (some ⟨gb30, 0, none⟩)), (39, .int .i64 ((ix x1.nodes x12).kids)), (40, .int .i64 s.1)] [.own (.slice A365 n366 c367) 84 4 n366 (s.2.1.flatMap enc_api_Word), .box g20 Tb21 [.slice A365 n366 c367], .box gb30 45 [.string ((ix x1.nodes x12).name), .bool ((ix x1.nodes x12).lit), .string ((ix x1.nodes x12).field), .string ((ix x1.nodes x12).capture), .int .i64 ((ix x1.nodes x12).kids)], .box g2 Tb3 [.slice A4 n5 c6, .slice A8 n9 c10], .box g13 Tb14 [.int .i64 s.2.2], .box g15 Tb16 [.func (.func 56) #[] #[.pointer (some ⟨g20, 0, none⟩)]], .box g17 Tb18 [.func (.func 57) #[] #[.pointer (some ⟨g2, 0, none⟩), .pointer (some ⟨g13, 0, none⟩), .pointer (some ⟨g15, 0, none⟩), .pointer (some ⟨g17, 0, none⟩)]]] [Sm w.heap.size F w [[g2], [g13], [g15], [g17], [g20], (Value.slice A22 n23 c24).ownBlock.toList], St w [[g2], [g13], [g15], [g17], [g20], (Value.slice A22 n23 c24).ownBlock.toList]])) ?_ hs
     clear hs s
     intro s o1 h hO1
     obtain ⟨x363, x364, x369⟩ := s
     show ∀ (A365 : Option Addr) (n366 : Nat) (c367 : Nat) (h368 : Ow z26 A365 n366 c367 x364), G (query_Print_2_C w F g2 g13 g15 g17 g20 Tb3 Tb14 Tb16 Tb18 Tb21 A22 n23 c24 z26 A4 n5 c6 A8 n9 c10 r) [.code q57c32, .inLoop q57c32, .inBlock 0, .code q57c28, .code q57c14] [(2, .pointer (some ⟨g15, 0, none⟩)), (3, .pointer (some ⟨g17, 0, none⟩)), (4, .pointer (some ⟨gb30, 0, none⟩)), (39, .int .i64 ((ix x1.nodes x12).kids)), (40, .int .i64 x363)] [.own (.slice A365 n366 c367) 84 4 n366 (x364.flatMap enc_api_Word), .box g20 Tb21 [.slice A365 n366 c367], .box gb30 45 [.string ((ix x1.nodes x12).name), .bool ((ix x1.nodes x12).lit), .string ((ix x1.nodes x12).field), .string ((ix x1.nodes x12).capture), .int .i64 ((ix x1.nodes x12).kids)], .box g2 Tb3 [.slice A4 n5 c6, .slice A8 n9 c10], .box g13 Tb14 [.int .i64 x369], .box g15 Tb16 [.func (.func 56) #[] #[.pointer (some ⟨g20, 0, none⟩)]], .box g17 Tb18 [.func (.func 57) #[] #[.pointer (some ⟨g2, 0, none⟩), .pointer (some ⟨g13, 0, none⟩), .pointer (some ⟨g15, 0, none⟩), .pointer (some ⟨g17, 0, none⟩)]]] [Sm w.heap.size F w [[g2], [g13], [g15], [g17], [g20], (Value.slice A22 n23 c24).ownBlock.toList], St w [[g2], [g13], [g15], [g17], [g20], (Value.slice A22 n23 c24).ownBlock.toList]]
     intro A365 n366 c367 h368
     have h : query_Print_2_b4 x1 x12 rc_query_Print_2 x363 x364 x369 o1 := h
     unfold query_Print_2_b4 at h
     refine g_seq rfl <| g_region rfl rfl <| wl_v 0 rfl (v_bin rfl rfl rfl) gn rfl <| w_end 1 rfl <| g_seq rfl ?_
     by_cases hp399 : x363 < (ix x1.nodes x12).kids
     ·have h := if_pos' hp399 h
      refine g_true rfl _ rfl ((decide_eq_true hp399)) <| g_skip rfl <| g_seq rfl <| g_block rfl <| g_region rfl rfl <| wl_v 0 rfl (v_ldB1 6 ld_1 rfl rfl rfl) gn rfl ?_
      obtain ⟨r403, hv404, h⟩ := h
      refine wl_s 1 rfl (s_callC [] [.pointer (some ⟨g2, 0, none⟩), .pointer (some ⟨g13, 0, none⟩), .pointer (some ⟨g15, 0, none⟩), .pointer (some ⟨g17, 0, none⟩)] rfl rfl Tryd.func57 rfl rfl rfl fun w400 hL401 => ?_) gn
      have hp402 := pmI hL401 (.c 3 rfl (.c 4 rfl (.c 5 rfl (.c 6 rfl (.c 1 rfl (.c 0 rfl .n)))))) (.c 2 rfl .n) (by kernel_rfl)
      refine Calls.mono (ih_query_Print_2 w400 (Fl ([] : List Snap)) x1 x369 x364 g2 Tb3 A4 n5 c6 A8 n9 c10 g13 Tb14 g15 Tb16 g17 Tb18 g20 Tb21 z26 A365 n366 c367 (Rw.mono h7 (hL401.toSt hp402 (me 1 rfl))) (Rw.mono h11 (hL401.toSt hp402 (me 1 rfl))) (Nat.le_trans hz27 hL401.env.size) h368 (hL401.hFl hp402 (sels [] rfl)) (hL401.into hp402 _) r403 hv404) ?_
      rintro _ w410 ⟨A405, n406, c407, rfl, hM411, h408⟩
      have hL412 := hL401.call hp402 hM411
      refine ⟨_, _, _, rfl, hL412, ?_⟩
      refine w_end 2 rfl <| g_inBlock <| g_region rfl rfl <| wl_v 0 rfl (v_bin rfl rfl rfl) gn rfl <| wl_v 1 rfl (v_move rfl) gn rfl <| w_end 2 rfl <| g_inLoop <| g_front 3 rfl <| g_front 3 rfl <| g_front 3 rfl <| g_front 3 rfl <| g_front 6 rfl ?_
      refine g_front 5 rfl <| g_front 6 rfl ?_
      have ih := Out.inl hO1 h
      exact g_go [0, 1] (ih A405 n406 c407 h408) ⟨rfl, rfl, rfl, rfl, rfl, trivial⟩ (.cons_cons _ (.cons_cons _ (.cons_cons _ (.cons_cons _ (.cons_cons _ (.cons_cons _ (.cons_cons _ (.slnil)))))))) rfl
     ·have h := if_neg' hp399 h
      refine g_false rfl _ rfl ((decide_eq_false hp399)) <| g_exit [.code q57c28, .code q57c14] rfl rfl <| g_region rfl rfl <| wl_v 0 rfl (v_ldB1 5 ld_85 rfl rfl rfl) gn rfl ?_
      obtain ⟨r416, hv417, h⟩ := h
      refine wl_s 1 rfl (s_callC [.int .i64 5, .string (⟨#[41]⟩ : ByteArray)] [.pointer (some ⟨g20, 0, none⟩)] rfl rfl Tryd.func56 rfl rfl rfl fun w413 hL414 => ?_) gn
      have hp415 := pmI hL414 (.c 1 rfl (.c 0 rfl .n)) (.c 2 rfl (.c 3 rfl (.c 4 rfl (.c 5 rfl (.c 6 rfl .n))))) (by kernel_rfl)
      refine Calls.mono (query_Print_1_calls w413 (Fl ([] : List Snap)) 5 (⟨#[41]⟩ : ByteArray) x364 g20 Tb21 z26 A365 n366 c367 (Nat.le_trans hz27 hL414.env.size) h368 (hL414.hFl hp415 (sels [] rfl)) (hL414.into hp415 _) r416 hv417) ?_
      rintro _ w423 ⟨A418, n419, c420, rfl, hM424, h421⟩
      have hL425 := hL414.call hp415 hM424
      refine ⟨_, _, _, rfl, hL425, ?_⟩
      refine w_end 2 rfl ?_
      obtain ⟨q426, hq427, h⟩ := h
      have hq427 := Out.inr hO1 hq427
      rw [← hq427] at h
      refine g_front 6 rfl <| g_front 6 rfl <| g_front 6 rfl <| g_front 6 rfl <| g_front 6 rfl <| g_front 5 rfl <| g_front 6 rfl ?_
      exact g_go [0, 1] (j2 r416 x369 h A418 n419 c420 h421) ⟨rfl, rfl, trivial⟩ (.cons_cons _ (.cons_cons _ (.cons_cons _ (.cons_cons _ (.cons_cons _ (.cons_cons _ (.cons_cons _ (.slnil)))))))) rfl
    exact g_go [0, 1] (key4 _ h A329 n330 c331 h332) ⟨rfl, rfl, rfl, rfl, rfl, trivial⟩ (.cons_cons _ (.cons_cons _ (.cons_cons _ (.cons_cons _ (.cons_cons _ (.cons_cons _ (.cons_cons _ (.slnil)))))))) rfl
   by_cases hp300 : (ix x1.nodes x12).name = (⟨#[]⟩ : ByteArray)
   ·have h := if_pos' hp300 h
    refine g_true rfl _ rfl ((seq_t hp300)) <| g_region rfl rfl <| wl_v 0 rfl (v_ldB1 5 ld_85 rfl rfl rfl) gn rfl ?_
    obtain ⟨r431, hv432, h⟩ := h
    refine wl_s 1 rfl (s_callC [.int .i64 1, .string (⟨#[95]⟩ : ByteArray)] [.pointer (some ⟨g20, 0, none⟩)] rfl rfl Tryd.func56 rfl rfl rfl fun w428 hL429 => ?_) gn
    have hp430 := pmI hL429 (.c 0 rfl (.c 1 rfl .n)) (.c 2 rfl (.c 3 rfl (.c 4 rfl (.c 5 rfl (.c 6 rfl .n))))) (by kernel_rfl)
    refine Calls.mono (query_Print_1_calls w428 (Fl ([] : List Snap)) 1 (⟨#[95]⟩ : ByteArray) r290 g20 Tb21 z26 A292 n293 c294 (Nat.le_trans hz27 hL429.env.size) h295 (hL429.hFl hp430 (sels [] rfl)) (hL429.into hp430 _) r431 hv432) ?_
    rintro _ w438 ⟨A433, n434, c435, rfl, hM439, h436⟩
    have hL440 := hL429.call hp430 hM439
    refine ⟨_, _, _, rfl, hL440, ?_⟩
    refine w_end 2 rfl <| g_front 6 rfl <| g_front 6 rfl <| g_front 6 rfl <| g_front 6 rfl <| g_front 6 rfl <| g_front 5 rfl <| g_front 6 rfl ?_
    exact g_go [0, 1] (j3 r431 h A433 n434 c435 h436) ⟨rfl, rfl, rfl, trivial⟩ (.cons_cons _ (.cons_cons _ (.cons_cons _ (.cons_cons _ (.cons_cons _ (.cons_cons _ (.cons_cons _ (.slnil)))))))) rfl
   ·have h := if_neg' hp300 h
    refine g_false rfl _ rfl ((seq_f hp300)) <| g_region rfl rfl <| wl_v 0 rfl (v_ldB1 5 ld_85 rfl rfl rfl) gn rfl <| wl_v 1 rfl (v_fldB fo_45_0 rfl) gn rfl <| wl_v 2 rfl (v_ldB1 2 ld_9 rfl rfl rfl) gn rfl ?_
    obtain ⟨r444, hv445, h⟩ := h
    refine wl_s 3 rfl (s_callC [.int .i64 1, .string ((ix x1.nodes x12).name)] [.pointer (some ⟨g20, 0, none⟩)] rfl rfl Tryd.func56 rfl rfl rfl fun w441 hL442 => ?_) gn
    have hp443 := pmI hL442 (.c 0 rfl (.c 1 rfl .n)) (.c 2 rfl (.c 3 rfl (.c 4 rfl (.c 5 rfl (.c 6 rfl .n))))) (by kernel_rfl)
    refine Calls.mono (query_Print_1_calls w441 (Fl ([] : List Snap)) 1 ((ix x1.nodes x12).name) r290 g20 Tb21 z26 A292 n293 c294 (Nat.le_trans hz27 hL442.env.size) h295 (hL442.hFl hp443 (sels [] rfl)) (hL442.into hp443 _) r444 hv445) ?_
    rintro _ w451 ⟨A446, n447, c448, rfl, hM452, h449⟩
    have hL453 := hL442.call hp443 hM452
    refine ⟨_, _, _, rfl, hL453, ?_⟩
    refine w_end 4 rfl <| g_front 6 rfl <| g_front 6 rfl <| g_front 6 rfl <| g_front 6 rfl <| g_front 6 rfl <| g_front 5 rfl <| g_front 6 rfl ?_
    exact g_go [0, 1] (j3 r444 h A446 n447 c448 h449) ⟨rfl, rfl, rfl, trivial⟩ (.cons_cons _ (.cons_cons _ (.cons_cons _ (.cons_cons _ (.cons_cons _ (.cons_cons _ (.cons_cons _ (.slnil)))))))) rfl
 by_cases hp32 : (ix x1.nodes x12).field = (⟨#[]⟩ : ByteArray)
 ·have h := if_pos' hp32 h
  refine g_false rfl _ rfl ((nf (seq_t hp32))) <| g_skip rfl <| g_front 5 rfl <| g_front 5 rfl <| g_front 5 rfl <| g_front 5 rfl <| g_front 5 rfl <| g_front 5 rfl <| g_front 6 rfl ?_
  exact g_go [0, 1] (j1 x19 h A22 n23 c24 h25) ⟨rfl, rfl, rfl, trivial⟩ (.cons_cons _ (.cons_cons _ (.cons_cons _ (.cons_cons _ (.cons_cons _ (.cons_cons _ (.cons_cons _ (.slnil)))))))) rfl
 ·have h := if_neg' hp32 h
  refine g_true rfl _ rfl ((nt (seq_f hp32))) <| g_seq rfl <| g_region rfl rfl <| wl_v 0 rfl (v_ldB1 3 ld_85 rfl rfl rfl) gn rfl <| wl_v 1 rfl (v_fldB fo_45_2 rfl) gn rfl <| wl_v 2 rfl (v_ldB1 0 ld_9 rfl rfl rfl) gn rfl ?_
  obtain ⟨r457, hv458, h⟩ := h
  refine wl_s 3 rfl (s_callC [.int .i64 1, .string ((ix x1.nodes x12).field)] [.pointer (some ⟨g20, 0, none⟩)] rfl rfl Tryd.func56 rfl rfl rfl fun w454 hL455 => ?_) gn
  have hp456 := pmI hL455 (.c 5 rfl (.c 6 rfl .n)) (.c 0 rfl (.c 1 rfl (.c 2 rfl (.c 3 rfl (.c 4 rfl .n))))) (by kernel_rfl)
  refine Calls.mono (query_Print_1_calls w454 (Fl ([] : List Snap)) 1 ((ix x1.nodes x12).field) x19 g20 Tb21 z26 A22 n23 c24 (Nat.le_trans hz27 hL455.env.size) h25 (hL455.hFl hp456 (sels [] rfl)) (hL455.into hp456 _) r457 hv458) ?_
  rintro _ w464 ⟨A459, n460, c461, rfl, hM465, h462⟩
  have hL466 := hL455.call hp456 hM465
  refine ⟨_, _, _, rfl, hL466, ?_⟩
  refine w_end 4 rfl <| g_region rfl rfl <| wl_v 0 rfl (v_ldB1 5 ld_85 rfl rfl rfl) gn rfl ?_
  obtain ⟨r470, hv471, h⟩ := h
  refine wl_s 1 rfl (s_callC [.int .i64 5, .string (⟨#[58]⟩ : ByteArray)] [.pointer (some ⟨g20, 0, none⟩)] rfl rfl Tryd.func56 rfl rfl rfl fun w467 hL468 => ?_) gn
  have hp469 := pmI hL468 (.c 0 rfl (.c 1 rfl .n)) (.c 2 rfl (.c 3 rfl (.c 4 rfl (.c 5 rfl (.c 6 rfl .n))))) (by kernel_rfl)
  refine Calls.mono (query_Print_1_calls w467 (Fl ([] : List Snap)) 5 (⟨#[58]⟩ : ByteArray) r457 g20 Tb21 z26 A459 n460 c461 (Nat.le_trans hz27 hL468.env.size) h462 (hL468.hFl hp469 (sels [] rfl)) (hL468.into hp469 _) r470 hv471) ?_
  rintro _ w477 ⟨A472, n473, c474, rfl, hM478, h475⟩
  have hL479 := hL468.call hp469 hM478
  refine ⟨_, _, _, rfl, hL479, ?_⟩
  refine w_end 2 rfl <| g_front 0 rfl <| g_front 6 rfl <| g_front 6 rfl <| g_front 6 rfl <| g_front 6 rfl <| g_front 6 rfl <| g_front 6 rfl ?_
  exact g_go [0, 1] (j1 r470 h A472 n473 c474 h475) ⟨rfl, rfl, rfl, trivial⟩ (.cons_cons _ (.cons_cons _ (.cons_cons _ (.cons_cons _ (.cons_cons _ (.cons_cons _ (.cons_cons _ (.slnil)))))))) rfl
theorem query_Print_2_ind : ∀ n, query_Print_2_st (query_Print_2_n n)
 | 0 => fun w F x1 x12 x19 g2 Tb3 A4 n5 c6 A8 n9 c10 g13 Tb14 g15 Tb16 g17 Tb18 g20 Tb21 z26 A22 n23 c24 h7 h11 hz27 h25 hF hL0 r h => h.elim
 | n + 1 => by
  have ih := query_Print_2_ind n
  exact query_Print_2_step _ ih
theorem query_Print_2_calls (w : World) (F : Nat → Prop) (x1 : api_Query) (x12 : Int) (x19 : List api_Word) (g2 : Nat) (Tb3 : Nat) (A4 : Option Addr) (n5 : Nat) (c6 : Nat) (A8 : Option Addr) (n9 : Nat) (c10 : Nat) (g13 : Nat) (Tb14 : Nat) (g15 : Nat) (Tb16 : Nat) (g17 : Nat) (Tb18 : Nat) (g20 : Nat) (Tb21 : Nat) (z26 : Nat) (A22 : Option Addr) (n23 : Nat) (c24 : Nat) (h7 : Rw k_api_PatNode w (St w [[g2], [g13], [g15], [g17], [g20], (Value.slice A22 n23 c24).ownBlock.toList]).av A4 n5 c6 x1.nodes) (h11 : Rw k_api_Cond w (St w [[g2], [g13], [g15], [g17], [g20], (Value.slice A22 n23 c24).ownBlock.toList]).av A8 n9 c10 x1.conds) (hz27 : z26 ≤ w.heap.size) (h25 : Ow z26 A22 n23 c24 x19) (hF : ∀ b, F b → b < w.heap.size ∧ ∀ o ∈ ([[g2], [g13], [g15], [g17], [g20], (Value.slice A22 n23 c24).ownBlock.toList] : List (List Nat)), b ∉ o) (hL0 : B.Loc w w [.box g2 Tb3 [.slice A4 n5 c6, .slice A8 n9 c10], .box g13 Tb14 [.int .i64 x12], .box g15 Tb16 [.func (.func 56) #[] #[.pointer (some ⟨g20, 0, none⟩)]], .box g17 Tb18 [.func (.func 57) #[] #[.pointer (some ⟨g2, 0, none⟩), .pointer (some ⟨g13, 0, none⟩), .pointer (some ⟨g15, 0, none⟩), .pointer (some ⟨g17, 0, none⟩)]], .box g20 Tb21 [.slice A22 n23 c24], .own (.slice A22 n23 c24) 84 4 n23 (x19.flatMap enc_api_Word)] [Sm w.heap.size F w [[g2], [g13], [g15], [g17], [g20], (Value.slice A22 n23 c24).ownBlock.toList], St w [[g2], [g13], [g15], [g17], [g20], (Value.slice A22 n23 c24).ownBlock.toList]]) (r : api_Query × Int × (List api_Word)) (h : query_Print_2 x1 x12 x19 r) : Calls Tryd.prog 57 #[.pointer (some ⟨g2, 0, none⟩), .pointer (some ⟨g13, 0, none⟩), .pointer (some ⟨g15, 0, none⟩), .pointer (some ⟨g17, 0, none⟩)] w (query_Print_2_R w F g2 g13 g15 g17 g20 Tb3 Tb14 Tb16 Tb18 Tb21 A22 n23 c24 z26 A4 n5 c6 A8 n9 c10 r) := by
 obtain ⟨n, h⟩ := h
 exact (query_Print_2_ind n) w F x1 x12 x19 g2 Tb3 A4 n5 c6 A8 n9 c10 g13 Tb14 g15 Tb16 g17 Tb18 g20 Tb21 z26 A22 n23 c24 h7 h11 hz27 h25 hF hL0 r h
abbrev strings_Join_R (w : World) (F : Nat → Prop) (r : ByteArray) : Ending → World → Prop := fun e w' => e = .returned (.string r) ∧ B.Loc w w' [] [St w []]
theorem strings_Join_calls (w : World) (F : Nat → Prop) (x1 : List ByteArray) (x6 : ByteArray) (A2 : Option Addr) (n3 : Nat) (c4 : Nat) (h5 : Rw kStr w (St w []).av A2 n3 c4 x1) (hF : ∀ b, F b → b < w.heap.size ∧ ∀ o ∈ ([] : List (List Nat)), b ∉ o) (hL0 : B.Loc w w [] [Sm w.heap.size F w [], St w []]) (r : ByteArray) (h : strings_Join x1 x6 r) : Calls Tryd.prog 80 #[.slice A2 n3 c4, .string x6] w (strings_Join_R w F  r) := by
 unfold strings_Join at h
 obtain ⟨h1, h2, rfl⟩ := h
 refine Calls.mono (join_calls Tryd.strings_Join_none Tryd.strings_Join (fun b hb => hb.1) h5 h1 h2) ?_
 rintro e w' ⟨rfl, hb⟩
 exact ⟨rfl, Loc.of_below hb⟩
noncomputable abbrev q58c6 := Code.snd (Code.snd (Code.snd (bodyOf Tryd.f58)))
noncomputable abbrev q58c10 := Code.fst (Code.fst (Code.snd (Code.fst (Code.snd (Code.snd (bodyOf Tryd.f58))))))
abbrev words_Join_R (w : World) (F : Nat → Prop) (r : ByteArray) : Ending → World → Prop := fun e w' => e = .returned (.string r) ∧ B.Loc w w' [] [St w []]
noncomputable abbrev words_Join_C (w : World) (F : Nat → Prop) (r : ByteArray) : Cx := ⟨Tryd.prog, 58, Tryd.f58, 23, words_Join_R w F  r, w⟩
theorem words_Join_calls (w : World) (F : Nat → Prop) (x1 : List api_Word) (A2 : Option Addr) (n3 : Nat) (c4 : Nat) (h5 : Rw k_api_Word w (St w []).av A2 n3 c4 x1) (hG : Tb Tryd.prog (St w [])) (hF : ∀ b, F b → b < w.heap.size ∧ ∀ o ∈ ([] : List (List Nat)), b ∉ o) (hL0 : B.Loc w w [] [Sm w.heap.size F w [], St w []]) (r : ByteArray) (h : words_Join x1 r) : Calls Tryd.prog 58 #[.slice A2 n3 c4] w (words_Join_R w F  r) := by
 unfold words_Join at h
 refine calls_of_Loc (vs := [.slice A2 n3 c4]) 23 Tryd.func58 rfl Tryd.ntmps58 rfl hL0 ?_
 show G (words_Join_C w F r) _ _ _ _
 refine g_seq rfl <| g_region rfl rfl <| wl_v 0 rfl (v_assign rfl) gn rfl <| w_end 1 rfl <| g_seq rfl <| g_region rfl rfl <| wl_v 0 rfl (v_assign rfl) gn rfl <| w_end 1 rfl <| g_seq rfl <| g_seq rfl <| g_region rfl rfl <| wl_v 0 rfl (v_move rfl) gn rfl ?_
 refine wl_v 1 rfl (v_lenQ un_75 rfl h5.hq) gn rfl <| wl_v 2 rfl (v_move rfl) gn rfl <| w_end 3 rfl <| g_block rfl <| g_loop rfl ?_
 have key1 : ∀ s, Rounds (fun (s : (List ByteArray) × Int) o => words_Join_b1 x1 s.1 s.2 o) s r → (fun (s : (List ByteArray) × Int) => ∀ (A48 : Option Addr) (n49 : Nat) (c50 : Nat) (h51 : Ow w.heap.size A48 n49 c50 s.1), G (words_Join_C w F r) [.code q58c10, .inLoop q58c10, .inBlock 0, .code q58c6] [(3, .slice A48 n49 c50), (6, .slice A2 n3 c4), (7, .int .i64 (x1.length : Int)), (8, .int .i64 s.2)] [.own (.slice A48 n49 c50) 9 1 n49 (s.1.flatMap eS)] [Sm w.heap.size F w [], St w []]) s := by
  intro s hs
  refine Rounds.ind (mot := (fun (s : (List ByteArray) × Int) => ∀ (A48 : Option Addr) (n49 : Nat) (c50 : Nat) (h51 : Ow w.heap.size A48 n49 c50 s.1), G (words_Join_C w F r) [.code q58c10, .inLoop q58c10, .inBlock 0, .code q58c6] [(3, .slice A48 n49 c50), (6, .slice A2 n3 c4), (7, .int .i64 (x1.length : Int)), (8, .int .i64 s.2)] [.own (.slice A48 n49 c50) 9 1 n49 (s.1.flatMap eS)] [Sm w.heap.size F w [], St w []])) ?_ hs
  clear hs s
  intro s o1 h hO1
  obtain ⟨x47, x52⟩ := s
  show ∀ (A48 : Option Addr) (n49 : Nat) (c50 : Nat) (h51 : Ow w.heap.size A48 n49 c50 x47), G (words_Join_C w F r) [.code q58c10, .inLoop q58c10, .inBlock 0, .code q58c6] [(3, .slice A48 n49 c50), (6, .slice A2 n3 c4), (7, .int .i64 (x1.length : Int)), (8, .int .i64 x52)] [.own (.slice A48 n49 c50) 9 1 n49 (x47.flatMap eS)] [Sm w.heap.size F w [], St w []]
  intro A48 n49 c50 h51
  have h : words_Join_b1 x1 x47 x52 o1 := h
  unfold words_Join_b1 at h
  refine g_seq rfl <| g_region rfl rfl <| wl_v 0 rfl (v_bin rfl rfl rfl) gn rfl <| w_end 1 rfl <| g_seq rfl ?_
  by_cases hp92 : x52 < (x1.length : Int)
  ·have h := if_pos' hp92 h
   refine g_true rfl _ rfl ((decide_eq_true hp92)) <| g_skip rfl <| g_seq rfl <| g_block rfl <| g_seq rfl <| g_region rfl rfl ?_
   obtain ⟨hb93, h⟩ := h
   have hr94 := Rw.readF (s := St w []) (hl := hl_api_Word) (h1 := h1_api_Word) h5 hb93
   refine wl_v 0 rfl (v_idxR (s := St w []) slE_75 rfl rfl h5 hb93) gn rfl <| wl_v 1 rfl (v_ldA (St w []) ld_84 rfl hr94 rfl (me 1 rfl)) gn rfl ?_
   refine wl_s 2 rfl (s_alloc [.int .i64 0, .string (⟨#[]⟩ : ByteArray), .int .i64 0, .int .i64 0] zr_84 rfl fun gb95 => ?_) gn
   refine wl_s 3 rfl (s_stB (vs := [.int .i64 ((ix x1 x52).kind), .string ((ix x1 x52).text), .int .i64 ((ix x1 x52).n), .int .i64 ((ix x1 x52).at_)]) (cs' := [.int .i64 ((ix x1 x52).kind), .string ((ix x1 x52).text), .int .i64 ((ix x1 x52).n), .int .i64 ((ix x1 x52).at_)]) (M' := [.box gb95 84 [.int .i64 ((ix x1 x52).kind), .string ((ix x1 x52).text), .int .i64 ((ix x1 x52).n), .int .i64 ((ix x1 x52).at_)], .own (.slice A48 n49 c50) 9 1 n49 (x47.flatMap eS)]) 0 sz_84 rfl rfl rfl rfl rfl rfl rfl rfl rfl ?_) gn
   refine w_end 4 rfl <| g_seq rfl <| g_seq rfl <| g_region rfl rfl <| wl_v 0 rfl (v_ldB [.int .i64 ((ix x1 x52).kind), .string ((ix x1 x52).text), .int .i64 ((ix x1 x52).n), .int .i64 ((ix x1 x52).at_)] 0 ld_84 rfl rfl rfl rfl) gn rfl ?_
   obtain ⟨r100, hv101, h⟩ := h
   refine wl_s 1 rfl (s_call [.agg #[.int .i64 ((ix x1 x52).kind), .string ((ix x1 x52).text), .int .i64 ((ix x1 x52).n), .int .i64 ((ix x1 x52).at_)]] rfl Tryd.func78 rfl rfl rfl fun w97 hL98 => ?_) gn
   have hp99 := pmI hL98 .n (.c 0 rfl (.c 1 rfl .n)) (by kernel_rfl)
   refine Calls.mono (words_sound_calls w97 (Fl ([] : List Snap)) (ix x1 x52) (hL98.hFl hp99 (sels [] rfl)) (hL98.into hp99 _) r100 hv101) ?_
   rintro _ w102 ⟨rfl, hM103⟩
   have hL104 := hL98.call hp99 hM103
   refine ⟨_, _, _, rfl, hL104, ?_⟩
   refine wl_v 2 rfl (v_not rfl) gn rfl <| w_end 3 rfl ?_
   by_cases hp105 : r100 = true
   ·have h := if_pos' hp105 h
    refine g_false rfl _ rfl ((nf hp105)) <| g_skip rfl <| g_region rfl rfl <| wl_v 0 rfl (v_move rfl) gn rfl <| wl_v 1 rfl (v_ldB [.int .i64 ((ix x1 x52).kind), .string ((ix x1 x52).text), .int .i64 ((ix x1 x52).n), .int .i64 ((ix x1 x52).at_)] 0 ld_84 rfl rfl rfl rfl) gn rfl ?_
    obtain ⟨r109, hv110, h⟩ := h
    refine wl_s 2 rfl (s_call [.agg #[.int .i64 ((ix x1 x52).kind), .string ((ix x1 x52).text), .int .i64 ((ix x1 x52).n), .int .i64 ((ix x1 x52).at_)]] rfl Tryd.func79 rfl rfl rfl fun w106 hL107 => ?_) gn
    have hp108 := pmI hL107 .n (.c 0 rfl (.c 1 rfl .n)) (by kernel_rfl)
    refine Calls.mono (words_Spell_calls w106 (Fl ([] : List Snap)) (ix x1 x52) (hL107.tb hp108 hG (me 1 rfl)) (hL107.hFl hp108 (sels [] rfl)) (hL107.into hp108 _) r109 hv110) ?_
    rintro _ w111 ⟨rfl, hM112⟩
    have hL113 := hL107.call hp108 hM112
    refine ⟨_, _, _, rfl, hL113, ?_⟩
    refine wl_s 3 rfl (s_litO (xs := ([r109] : List ByteArray)) [.string r109] bs_106_1 rfl (by kernel_rfl) rfl rfl rfl rfl fun gb115 h116 => ?_) gn
    obtain ⟨x120, hv121, h⟩ := h
    obtain ⟨hb122, h⟩ := h
    refine wl_s 4 rfl (s_app (zs := x120) (cells' := x120.flatMap eS) 2 ap_106 rfl rfl rfl h51 (Nat.le_refl _) (Src.ownF (hl := hlS) (h1 := hone_str) 0 rfl h116) (by rw [hv121, List.flatMap_append] <;> rfl) (app_len hv121 h116.hq) hb122 rfl rfl fun A117 c118 h119 => ?_) gn
    refine wl_v 5 rfl (v_assign rfl) gn rfl <| w_end 6 rfl <| g_inBlock <| g_region rfl rfl <| wl_v 0 rfl (v_bin rfl rfl rfl) gn rfl <| wl_v 1 rfl (v_move rfl) gn rfl <| w_end 2 rfl <| g_inLoop ?_
    have ih := Out.inl hO1 h
    exact g_go [0, 1] (ih A117 (n49 + 1) c118 h119) ⟨rfl, rfl, rfl, rfl, trivial⟩ (.cons _ (.cons _ (.cons_cons _ (.slnil)))) rfl
   ·have h := if_neg' hp105 h
    refine g_true rfl _ rfl ((nt (bf hp105))) <| g_seq rfl <| g_region rfl rfl <| wl_v 0 rfl (v_assign rfl) gn rfl <| w_end 1 rfl ?_
    have h := Out.inr hO1 h
    refine g_retR [.string (⟨#[]⟩ : ByteArray)] rfl Tryd.func58 rfl (.tmp rfl (.nil)) fun wr hLr => ?_
    have hMr := hLr.pk0 (.c 1 rfl .n)
    show words_Join_R w F  r (.returned (packV [.string (⟨#[]⟩ : ByteArray)])) wr
    rw [h]
    exact ⟨rfl, hMr⟩
  ·have h := if_neg' hp92 h
   refine g_false rfl _ rfl ((decide_eq_false hp92)) <| g_exit [.code q58c6] rfl rfl <| g_seq rfl <| g_region rfl rfl <| wl_v 0 rfl (v_move rfl) gn rfl ?_
   obtain ⟨r126, hv127, h⟩ := h
   refine wl_s 1 rfl (s_call [.slice A48 n49 c50, .string (⟨#[32]⟩ : ByteArray)] rfl Tryd.func80 rfl rfl rfl fun w123 hL124 => ?_) gn
   have hp125 := pmI hL124 .n (.c 0 rfl .n) (by kernel_rfl)
   refine Calls.mono (strings_Join_calls w123 (Fl ([] : List Snap)) x47 (⟨#[32]⟩ : ByteArray) A48 n49 c50 (hL124.argO (dk := kStr) hp125 [] rfl 0 rfl rfl h51 (me 0 rfl) (Cells.flat _)) (hL124.hFl hp125 (sels [] rfl)) (hL124.into hp125 _) r126 hv127) ?_
   rintro _ w128 ⟨rfl, hM129⟩
   have hL130 := hL124.call hp125 hM129
   refine ⟨_, _, _, rfl, hL130, ?_⟩
   refine wl_v 2 rfl (v_assign rfl) gn rfl <| w_end 3 rfl ?_
   have h := Out.inr hO1 h
   refine g_retR [.string r126] rfl Tryd.func58 rfl (.tmp rfl (.nil)) fun wr hLr => ?_
   have hMr := hLr.pk0 (.c 1 rfl .n)
   show words_Join_R w F  r (.returned (packV [.string r126])) wr
   rw [h]
   exact ⟨rfl, hMr⟩
 refine g_nil 9 1 ?_
 exact g_go [0, 1] (key1 _ h none 0 0 (Ow.nil (z := w.heap.size))) ⟨rfl, rfl, rfl, rfl, trivial⟩ (.cons_cons _ (.slnil)) rfl
noncomputable abbrev q25c22 := Code.snd (Code.snd (Code.snd (Code.snd (Code.snd (Code.snd (Code.snd (Code.snd (Code.snd (bodyOf Tryd.f25)))))))))
noncomputable abbrev q25c26 := Code.fst (Code.fst (Code.snd (Code.fst (Code.snd (Code.snd (Code.snd (Code.snd (Code.snd (Code.snd (Code.snd (Code.snd (bodyOf Tryd.f25))))))))))))
noncomputable abbrev q25c34 := Code.snd (Code.snd (Code.snd q25c26))
noncomputable abbrev q25c39 := Code.snd (Code.snd (Code.fst (Code.fst (Code.snd (Code.snd q25c26)))))
abbrev query_Print_R (w : World) (F : Nat → Prop) (r : ByteArray × Int) : Ending → World → Prop := fun e w' => e = .returned (.tuple #[.string r.1, .int .i64 r.2]) ∧ B.Loc w w' [] [St w []]
noncomputable abbrev query_Print_C (w : World) (F : Nat → Prop) (r : ByteArray × Int) : Cx := ⟨Tryd.prog, 25, Tryd.f25, 54, query_Print_R w F  r, w⟩
theorem query_Print_calls (w : World) (F : Nat → Prop) (x1 : api_Query) (A2 : Option Addr) (n3 : Nat) (c4 : Nat) (A6 : Option Addr) (n7 : Nat) (c8 : Nat) (h5 : Rw k_api_PatNode w (St w []).av A2 n3 c4 x1.nodes) (h9 : Rw k_api_Cond w (St w []).av A6 n7 c8 x1.conds) (hG : Tb Tryd.prog (St w [])) (hF : ∀ b, F b → b < w.heap.size ∧ ∀ o ∈ ([] : List (List Nat)), b ∉ o) (hL0 : B.Loc w w [] [Sm w.heap.size F w [], St w []]) (r : ByteArray × Int) (h : query_Print x1 r) : Calls Tryd.prog 25 #[.agg #[.slice A2 n3 c4, .slice A6 n7 c8]] w (query_Print_R w F  r) := by
 unfold query_Print at h
 refine calls_of_Loc (vs := [.agg #[.slice A2 n3 c4, .slice A6 n7 c8]]) 54 Tryd.func25 rfl Tryd.ntmps25 rfl hL0 ?_
 show G (query_Print_C w F r) _ _ _ _
 refine g_seq rfl <| g_region rfl rfl ?_
 refine wl_s 0 rfl (s_box [.slice A2 n3 c4, .slice A6 n7 c8] rfl rfl rfl fun gb10 => ?_) gn
 refine wl_v 1 rfl (v_assign rfl) gn rfl <| wl_v 2 rfl (v_assign rfl) gn rfl <| w_end 3 rfl <| g_seq rfl <| g_seq rfl <| g_region rfl rfl <| wl_v 0 rfl (v_ldB [.slice A2 n3 c4, .slice A6 n7 c8] 0 ld_25 rfl rfl rfl rfl) gn rfl ?_
 obtain ⟨r15, hv16, h⟩ := h
 refine wl_s 1 rfl (s_call [.agg #[.slice A2 n3 c4, .slice A6 n7 c8]] rfl Tryd.func24 rfl rfl rfl fun w12 hL13 => ?_) gn
 have hp14 := pmI hL13 .n (.c 0 rfl .n) (by kernel_rfl)
 refine Calls.mono (query_Shaped_calls w12 (Fl ([] : List Snap)) x1 A2 n3 c4 A6 n7 c8 (Rw.mono h5 (hL13.toSt hp14 (me 1 rfl))) (Rw.mono h9 (hL13.toSt hp14 (me 1 rfl))) (hL13.tb hp14 hG (me 1 rfl)) (hL13.hFl hp14 (sels [] rfl)) (hL13.into hp14 _) r15 hv16) ?_
 rintro _ w17 ⟨rfl, hM18⟩
 have hL19 := hL13.call hp14 hM18
 refine ⟨_, _, _, rfl, hL19, ?_⟩
 refine wl_v 2 rfl (v_not rfl) gn rfl <| w_end 3 rfl ?_
 by_cases hp20 : r15 = true
 ·have h := if_pos' hp20 h
  refine g_false rfl _ rfl ((nf hp20)) <| g_skip rfl <| g_seq rfl <| g_region rfl rfl ?_
  refine wl_s 0 rfl (s_alloc [.slice none 0 0] zr_75 rfl fun gb21 => ?_) gn
  refine w_end 1 rfl <| g_seq rfl <| g_region rfl rfl <| wl_v 0 rfl (v_makeFunc [.pointer (some ⟨gb21, 0, none⟩)] rfl) gn rfl ?_
  refine wl_s 1 rfl (s_alloc [.nilFunc] zr_85 rfl fun gb23 => ?_) gn
  refine wl_s 2 rfl (s_stB (vs := [.func (.func 56) #[] #[.pointer (some ⟨gb21, 0, none⟩)]]) (cs' := [.func (.func 56) #[] #[.pointer (some ⟨gb21, 0, none⟩)]]) (M' := [.box gb23 85 [.func (.func 56) #[] #[.pointer (some ⟨gb21, 0, none⟩)]], .box gb21 75 [.slice none 0 0], .box gb10 25 [.slice A2 n3 c4, .slice A6 n7 c8]]) 0 sz_85 rfl rfl rfl rfl rfl rfl rfl rfl rfl ?_) gn
  refine w_end 3 rfl <| g_seq rfl <| g_region rfl rfl ?_
  refine wl_s 0 rfl (s_alloc [.int .i64 0] zr_3 rfl fun gb25 => ?_) gn
  refine wl_s 1 rfl (s_stB (vs := [.int .i64 0]) (cs' := [.int .i64 0]) (M' := [.box gb25 3 [.int .i64 0], .box gb23 85 [.func (.func 56) #[] #[.pointer (some ⟨gb21, 0, none⟩)]], .box gb21 75 [.slice none 0 0], .box gb10 25 [.slice A2 n3 c4, .slice A6 n7 c8]]) 0 sz_3 rfl rfl rfl rfl rfl rfl rfl rfl rfl ?_) gn
  refine w_end 2 rfl <| g_seq rfl <| g_region rfl rfl ?_
  refine wl_s 0 rfl (s_alloc [.nilFunc] zr_1 rfl fun gb27 => ?_) gn
  refine w_end 1 rfl <| g_seq rfl <| g_region rfl rfl <| wl_v 0 rfl (v_makeFunc [.pointer (some ⟨gb10, 0, none⟩), .pointer (some ⟨gb25, 0, none⟩), .pointer (some ⟨gb23, 0, none⟩), .pointer (some ⟨gb27, 0, none⟩)] rfl) gn rfl ?_
  refine wl_s 1 rfl (s_stB (vs := [.func (.func 57) #[] #[.pointer (some ⟨gb10, 0, none⟩), .pointer (some ⟨gb25, 0, none⟩), .pointer (some ⟨gb23, 0, none⟩), .pointer (some ⟨gb27, 0, none⟩)]]) (cs' := [.func (.func 57) #[] #[.pointer (some ⟨gb10, 0, none⟩), .pointer (some ⟨gb25, 0, none⟩), .pointer (some ⟨gb23, 0, none⟩), .pointer (some ⟨gb27, 0, none⟩)]]) (M' := [.box gb27 1 [.func (.func 57) #[] #[.pointer (some ⟨gb10, 0, none⟩), .pointer (some ⟨gb25, 0, none⟩), .pointer (some ⟨gb23, 0, none⟩), .pointer (some ⟨gb27, 0, none⟩)]], .box gb25 3 [.int .i64 0], .box gb23 85 [.func (.func 56) #[] #[.pointer (some ⟨gb21, 0, none⟩)]], .box gb21 75 [.slice none 0 0], .box gb10 25 [.slice A2 n3 c4, .slice A6 n7 c8]]) 0 sz_1 rfl rfl rfl rfl rfl rfl rfl rfl rfl ?_) gn
  refine w_end 2 rfl <| g_seq rfl <| g_region rfl rfl <| wl_v 0 rfl (v_ldB1 0 ld_1 rfl rfl rfl) gn rfl ?_
  obtain ⟨r33, hv34, h⟩ := h
  refine w_nil 84 4 ?_
  refine wl_s 1 rfl (s_callC [] [.pointer (some ⟨gb10, 0, none⟩), .pointer (some ⟨gb25, 0, none⟩), .pointer (some ⟨gb23, 0, none⟩), .pointer (some ⟨gb27, 0, none⟩)] rfl rfl Tryd.func57 rfl rfl rfl fun w29 hL30 => ?_) gn
  have hp31 := pmI hL30 (.c 5 rfl (.c 2 rfl (.c 3 rfl (.c 1 rfl (.c 4 rfl (.c 0 rfl .n)))))) .n (by kernel_rfl)
  refine Calls.mono (query_Print_2_calls w29 (Fl ([] : List Snap)) x1 0 ([] : List api_Word) gb10 25 A2 n3 c4 A6 n7 c8 gb25 3 gb23 85 gb27 1 gb21 75 w.heap.size none 0 0 (Rw.mono h5 (hL30.toSt hp31 (me 1 rfl))) (Rw.mono h9 (hL30.toSt hp31 (me 1 rfl))) hL30.env.size (Ow.nil (z := w.heap.size)) (hL30.hFl hp31 (sels [] rfl)) (hL30.into hp31 _) r33 hv34) ?_
  rintro _ w40 ⟨A35, n36, c37, rfl, hM41, h38⟩
  have hL42 := hL30.call hp31 hM41
  refine ⟨_, _, _, rfl, hL42, ?_⟩
  refine w_end 2 rfl <| g_seq rfl <| g_seq rfl <| g_region rfl rfl <| wl_v 0 rfl (v_fldB fo_25_1 rfl) gn rfl <| wl_v 1 rfl (v_ldB1 0 ld_23 rfl rfl rfl) gn rfl <| wl_v 2 rfl (v_lenQ un_23 rfl h9.hq) gn rfl <| wl_v 3 rfl (v_move rfl) gn rfl <| w_end 4 rfl <| g_block rfl <| g_loop rfl ?_
  have key1 : ∀ s, Rounds (fun (s : Int × (List api_Word)) o => query_Print_b1 x1 s.1 s.2 o) s r → (fun (s : Int × (List api_Word)) => ∀ (A197 : Option Addr) (n198 : Nat) (c199 : Nat) (h200 : Ow w.heap.size A197 n198 c199 s.2), G (query_Print_C w F r) [.code q25c26, .inLoop q25c26, .inBlock 0, .code q25c22] [(4, .pointer (some ⟨gb21, 0, none⟩)), (5, .pointer (some ⟨gb23, 0, none⟩)), (18, .slice A6 n7 c8), (19, .int .i64 (x1.conds.length : Int)), (20, .int .i64 s.1)] [.own (.slice A197 n198 c199) 84 4 n198 (s.2.flatMap enc_api_Word), .box gb23 85 [.func (.func 56) #[] #[.pointer (some ⟨gb21, 0, none⟩)]], .box gb21 75 [.slice A197 n198 c199]] [Sm w.heap.size F w [], St w []]) s := by
   intro s hs
   refine Rounds.ind (mot := (fun (s : Int × (List api_Word)) => ∀ (A197 : Option Addr) (n198 : Nat) (c199 : Nat) (h200 : Ow w.heap.size A197 n198 c199 s.2), G (query_Print_C w F r) [.code q25c26, .inLoop q25c26, .inBlock 0, .code q25c22] [(4, .pointer (some ⟨gb21, 0, none⟩)), (5, .pointer (some ⟨gb23, 0, none⟩)), (18, .slice A6 n7 c8), (19, .int .i64 (x1.conds.length : Int)), (20, .int .i64 s.1)] [.own (.slice A197 n198 c199) 84 4 n198 (s.2.flatMap enc_api_Word), .box gb23 85 [.func (.func 56) #[] #[.pointer (some ⟨gb21, 0, none⟩)]], .box gb21 75 [.slice A197 n198 c199]] [Sm w.heap.size F w [], St w []])) ?_ hs
   clear hs s
   intro s o1 h hO1
   obtain ⟨x195, x196⟩ := s
   show ∀ (A197 : Option Addr) (n198 : Nat) (c199 : Nat) (h200 : Ow w.heap.size A197 n198 c199 x196), G (query_Print_C w F r) [.code q25c26, .inLoop q25c26, .inBlock 0, .code q25c22] [(4, .pointer (some ⟨gb21, 0, none⟩)), (5, .pointer (some ⟨gb23, 0, none⟩)), (18, .slice A6 n7 c8), (19, .int .i64 (x1.conds.length : Int)), (20, .int .i64 x195)] [.own (.slice A197 n198 c199) 84 4 n198 (x196.flatMap enc_api_Word), .box gb23 85 [.func (.func 56) #[] #[.pointer (some ⟨gb21, 0, none⟩)]], .box gb21 75 [.slice A197 n198 c199]] [Sm w.heap.size F w [], St w []]
   intro A197 n198 c199 h200
   have h : query_Print_b1 x1 x195 x196 o1 := h
   unfold query_Print_b1 at h
   refine g_seq rfl <| g_region rfl rfl <| wl_v 0 rfl (v_bin rfl rfl rfl) gn rfl <| w_end 1 rfl <| g_seq rfl ?_
   by_cases hp352 : x195 < (x1.conds.length : Int)
   ·have h := if_pos' hp352 h
    refine g_true rfl _ rfl ((decide_eq_true hp352)) <| g_skip rfl <| g_seq rfl <| g_block rfl <| g_seq rfl <| g_region rfl rfl ?_
    obtain ⟨hb353, h⟩ := h
    have hr354 := Rw.readF (s := St w []) (hl := hl_api_Cond) (h1 := h1_api_Cond) h9 hb353
    refine wl_v 0 rfl (v_idxR (s := St w []) slE_23 rfl rfl h9 hb353) gn rfl <| wl_v 1 rfl (v_ldA (St w []) ld_47 rfl hr354 rfl (me 1 rfl)) gn rfl ?_
    refine wl_s 2 rfl (s_alloc [.bool false, .string (⟨#[]⟩ : ByteArray), .string (⟨#[]⟩ : ByteArray), .string (⟨#[]⟩ : ByteArray)] zr_47 rfl fun gb355 => ?_) gn
    refine wl_s 3 rfl (s_stB (vs := [.bool ((ix x1.conds x195).not), .string ((ix x1.conds x195).a), .string ((ix x1.conds x195).b), .string ((ix x1.conds x195).text)]) (cs' := [.bool ((ix x1.conds x195).not), .string ((ix x1.conds x195).a), .string ((ix x1.conds x195).b), .string ((ix x1.conds x195).text)]) (M' := [.box gb355 47 [.bool ((ix x1.conds x195).not), .string ((ix x1.conds x195).a), .string ((ix x1.conds x195).b), .string ((ix x1.conds x195).text)], .own (.slice A197 n198 c199) 84 4 n198 (x196.flatMap enc_api_Word), .box gb23 85 [.func (.func 56) #[] #[.pointer (some ⟨gb21, 0, none⟩)]], .box gb21 75 [.slice A197 n198 c199]]) 0 sz_47 rfl rfl rfl rfl rfl rfl rfl rfl rfl ?_) gn
    refine w_end 4 rfl <| g_seq rfl <| g_seq rfl <| g_region rfl rfl <| wl_v 0 rfl (v_fldB fo_47_0 rfl) gn rfl <| wl_v 1 rfl (v_ldB1 0 ld_4 rfl rfl rfl) gn rfl <| w_end 2 rfl ?_
    have j2 : ∀ (x385 : List api_Word) (h : query_Print_j2 x1 x195 x385 o1) (A386 : Option Addr) (n387 : Nat) (c388 : Nat) (h389 : Ow w.heap.size A386 n387 c388 x385), G (query_Print_C w F r) [.code q25c39, .inBlock 1, .code q25c34, .inLoop q25c26, .inBlock 0, .code q25c22] [(4, .pointer (some ⟨gb21, 0, none⟩)), (5, .pointer (some ⟨gb23, 0, none⟩)), (9, .pointer (some ⟨gb355, 0, none⟩)), (18, .slice A6 n7 c8), (19, .int .i64 (x1.conds.length : Int)), (20, .int .i64 x195)] [.own (.slice A386 n387 c388) 84 4 n387 (x385.flatMap enc_api_Word), .box gb21 75 [.slice A386 n387 c388], .box gb355 47 [.bool ((ix x1.conds x195).not), .string ((ix x1.conds x195).a), .string ((ix x1.conds x195).b), .string ((ix x1.conds x195).text)], .box gb23 85 [.func (.func 56) #[] #[.pointer (some ⟨gb21, 0, none⟩)]]] [Sm w.heap.size F w [], St w []] := by
     intro x385 h A386 n387 c388 h389
     unfold query_Print_j2 at h
     refine g_seq rfl <| g_region rfl rfl <| wl_v 0 rfl (v_ldB1 3 ld_85 rfl rfl rfl) gn rfl ?_
     obtain ⟨r393, hv394, h⟩ := h
     refine wl_s 1 rfl (s_callC [.int .i64 5, .string (⟨#[64]⟩ : ByteArray)] [.pointer (some ⟨gb21, 0, none⟩)] rfl rfl Tryd.func56 rfl rfl rfl fun w390 hL391 => ?_) gn
     have hp392 := pmI hL391 (.c 1 rfl (.c 0 rfl .n)) (.c 2 rfl (.c 3 rfl .n)) (by kernel_rfl)
     refine Calls.mono (query_Print_1_calls w390 (Fl ([] : List Snap)) 5 (⟨#[64]⟩ : ByteArray) x385 gb21 75 w.heap.size A386 n387 c388 hL391.env.size h389 (hL391.hFl hp392 (sels [] rfl)) (hL391.into hp392 _) r393 hv394) ?_
     rintro _ w400 ⟨A395, n396, c397, rfl, hM401, h398⟩
     have hL402 := hL391.call hp392 hM401
     refine ⟨_, _, _, rfl, hL402, ?_⟩
     refine w_end 2 rfl <| g_seq rfl <| g_region rfl rfl <| wl_v 0 rfl (v_ldB1 3 ld_85 rfl rfl rfl) gn rfl <| wl_v 1 rfl (v_fldB fo_47_1 rfl) gn rfl <| wl_v 2 rfl (v_ldB1 2 ld_9 rfl rfl rfl) gn rfl ?_
     obtain ⟨r406, hv407, h⟩ := h
     refine wl_s 3 rfl (s_callC [.int .i64 1, .string ((ix x1.conds x195).a)] [.pointer (some ⟨gb21, 0, none⟩)] rfl rfl Tryd.func56 rfl rfl rfl fun w403 hL404 => ?_) gn
     have hp405 := pmI hL404 (.c 0 rfl (.c 1 rfl .n)) (.c 2 rfl (.c 3 rfl .n)) (by kernel_rfl)
     refine Calls.mono (query_Print_1_calls w403 (Fl ([] : List Snap)) 1 ((ix x1.conds x195).a) r393 gb21 75 w.heap.size A395 n396 c397 hL404.env.size h398 (hL404.hFl hp405 (sels [] rfl)) (hL404.into hp405 _) r406 hv407) ?_
     rintro _ w413 ⟨A408, n409, c410, rfl, hM414, h411⟩
     have hL415 := hL404.call hp405 hM414
     refine ⟨_, _, _, rfl, hL415, ?_⟩
     refine w_end 4 rfl <| g_seq rfl <| g_region rfl rfl <| wl_v 0 rfl (v_ldB1 3 ld_85 rfl rfl rfl) gn rfl ?_
     obtain ⟨r419, hv420, h⟩ := h
     refine wl_s 1 rfl (s_callC [.int .i64 5, .string (⟨#[61]⟩ : ByteArray)] [.pointer (some ⟨gb21, 0, none⟩)] rfl rfl Tryd.func56 rfl rfl rfl fun w416 hL417 => ?_) gn
     have hp418 := pmI hL417 (.c 0 rfl (.c 1 rfl .n)) (.c 2 rfl (.c 3 rfl .n)) (by kernel_rfl)
     refine Calls.mono (query_Print_1_calls w416 (Fl ([] : List Snap)) 5 (⟨#[61]⟩ : ByteArray) r406 gb21 75 w.heap.size A408 n409 c410 hL417.env.size h411 (hL417.hFl hp418 (sels [] rfl)) (hL417.into hp418 _) r419 hv420) ?_
     rintro _ w426 ⟨A421, n422, c423, rfl, hM427, h424⟩
     have hL428 := hL417.call hp418 hM427
     refine ⟨_, _, _, rfl, hL428, ?_⟩
     refine w_end 2 rfl <| g_seq rfl <| g_seq rfl <| g_region rfl rfl <| wl_v 0 rfl (v_fldB fo_47_2 rfl) gn rfl <| wl_v 1 rfl (v_ldB1 2 ld_9 rfl rfl rfl) gn rfl <| wl_v 2 rfl (v_eqS rfl rfl) gn rfl <| w_end 3 rfl ?_
     by_cases hp429 : (ix x1.conds x195).b = (⟨#[]⟩ : ByteArray)
     ·have h := if_pos' hp429 h
      refine g_true rfl _ rfl ((seq_t hp429)) <| g_seq rfl <| g_region rfl rfl <| wl_v 0 rfl (v_ldB1 3 ld_85 rfl rfl rfl) gn rfl <| wl_v 1 rfl (v_fldB fo_47_3 rfl) gn rfl <| wl_v 2 rfl (v_ldB1 2 ld_9 rfl rfl rfl) gn rfl ?_
      obtain ⟨r433, hv434, h⟩ := h
      refine wl_s 3 rfl (s_callC [.int .i64 2, .string ((ix x1.conds x195).text)] [.pointer (some ⟨gb21, 0, none⟩)] rfl rfl Tryd.func56 rfl rfl rfl fun w430 hL431 => ?_) gn
      have hp432 := pmI hL431 (.c 0 rfl (.c 1 rfl .n)) (.c 2 rfl (.c 3 rfl .n)) (by kernel_rfl)
      refine Calls.mono (query_Print_1_calls w430 (Fl ([] : List Snap)) 2 ((ix x1.conds x195).text) r419 gb21 75 w.heap.size A421 n422 c423 hL431.env.size h424 (hL431.hFl hp432 (sels [] rfl)) (hL431.into hp432 _) r433 hv434) ?_
      rintro _ w440 ⟨A435, n436, c437, rfl, hM441, h438⟩
      have hL442 := hL431.call hp432 hM441
      refine ⟨_, _, _, rfl, hL442, ?_⟩
      refine w_end 4 rfl <| g_exit [.code q25c34, .inLoop q25c26, .inBlock 0, .code q25c22] rfl rfl <| g_region rfl rfl <| wl_v 0 rfl (v_bin rfl rfl rfl) gn rfl <| wl_v 1 rfl (v_move rfl) gn rfl <| w_end 2 rfl <| g_inLoop <| g_front 0 rfl <| g_front 3 rfl <| g_front 2 rfl ?_
      have ih := Out.inl hO1 h
      exact g_go [0, 1] (ih A435 n436 c437 h438) ⟨rfl, rfl, rfl, rfl, rfl, trivial⟩ (.cons_cons _ (.cons_cons _ (.cons_cons _ (.cons _ (.slnil))))) rfl
     ·have h := if_neg' hp429 h
      refine g_false rfl _ rfl ((seq_f hp429)) <| g_skip rfl <| g_seq rfl <| g_region rfl rfl <| wl_v 0 rfl (v_ldB1 3 ld_85 rfl rfl rfl) gn rfl ?_
      obtain ⟨r446, hv447, h⟩ := h
      refine wl_s 1 rfl (s_callC [.int .i64 5, .string (⟨#[64]⟩ : ByteArray)] [.pointer (some ⟨gb21, 0, none⟩)] rfl rfl Tryd.func56 rfl rfl rfl fun w443 hL444 => ?_) gn
      have hp445 := pmI hL444 (.c 0 rfl (.c 1 rfl .n)) (.c 2 rfl (.c 3 rfl .n)) (by kernel_rfl)
      refine Calls.mono (query_Print_1_calls w443 (Fl ([] : List Snap)) 5 (⟨#[64]⟩ : ByteArray) r419 gb21 75 w.heap.size A421 n422 c423 hL444.env.size h424 (hL444.hFl hp445 (sels [] rfl)) (hL444.into hp445 _) r446 hv447) ?_
      rintro _ w453 ⟨A448, n449, c450, rfl, hM454, h451⟩
      have hL455 := hL444.call hp445 hM454
      refine ⟨_, _, _, rfl, hL455, ?_⟩
      refine w_end 2 rfl <| g_region rfl rfl <| wl_v 0 rfl (v_ldB1 3 ld_85 rfl rfl rfl) gn rfl <| wl_v 1 rfl (v_fldB fo_47_2 rfl) gn rfl <| wl_v 2 rfl (v_ldB1 2 ld_9 rfl rfl rfl) gn rfl ?_
      obtain ⟨r459, hv460, h⟩ := h
      refine wl_s 3 rfl (s_callC [.int .i64 1, .string ((ix x1.conds x195).b)] [.pointer (some ⟨gb21, 0, none⟩)] rfl rfl Tryd.func56 rfl rfl rfl fun w456 hL457 => ?_) gn
      have hp458 := pmI hL457 (.c 0 rfl (.c 1 rfl .n)) (.c 2 rfl (.c 3 rfl .n)) (by kernel_rfl)
      refine Calls.mono (query_Print_1_calls w456 (Fl ([] : List Snap)) 1 ((ix x1.conds x195).b) r446 gb21 75 w.heap.size A448 n449 c450 hL457.env.size h451 (hL457.hFl hp458 (sels [] rfl)) (hL457.into hp458 _) r459 hv460) ?_
      rintro _ w466 ⟨A461, n462, c463, rfl, hM467, h464⟩
      have hL468 := hL457.call hp458 hM467
      refine ⟨_, _, _, rfl, hL468, ?_⟩
      refine w_end 4 rfl <| g_inBlock <| g_region rfl rfl <| wl_v 0 rfl (v_bin rfl rfl rfl) gn rfl <| wl_v 1 rfl (v_move rfl) gn rfl <| w_end 2 rfl <| g_inLoop <| g_front 0 rfl <| g_front 3 rfl <| g_front 2 rfl ?_
      have ih := Out.inl hO1 h
      exact g_go [0, 1] (ih A461 n462 c463 h464) ⟨rfl, rfl, rfl, rfl, rfl, trivial⟩ (.cons_cons _ (.cons_cons _ (.cons_cons _ (.cons _ (.slnil))))) rfl
    by_cases hp357 : ((ix x1.conds x195).not) = true
    ·have h := if_pos' hp357 h
     refine g_true rfl _ rfl (hp357) <| g_region rfl rfl <| wl_v 0 rfl (v_ldB1 2 ld_85 rfl rfl rfl) gn rfl ?_
     obtain ⟨r472, hv473, h⟩ := h
     refine wl_s 1 rfl (s_callC [.int .i64 1, .string (⟨#[117, 110, 108, 101, 115, 115]⟩ : ByteArray)] [.pointer (some ⟨gb21, 0, none⟩)] rfl rfl Tryd.func56 rfl rfl rfl fun w469 hL470 => ?_) gn
     have hp471 := pmI hL470 (.c 3 rfl (.c 1 rfl .n)) (.c 0 rfl (.c 2 rfl .n)) (by kernel_rfl)
     refine Calls.mono (query_Print_1_calls w469 (Fl ([] : List Snap)) 1 (⟨#[117, 110, 108, 101, 115, 115]⟩ : ByteArray) x196 gb21 75 w.heap.size A197 n198 c199 hL470.env.size h200 (hL470.hFl hp471 (sels [] rfl)) (hL470.into hp471 _) r472 hv473) ?_
     rintro _ w479 ⟨A474, n475, c476, rfl, hM480, h477⟩
     have hL481 := hL470.call hp471 hM480
     refine ⟨_, _, _, rfl, hL481, ?_⟩
     refine w_end 2 rfl <| g_front 3 rfl <| g_front 3 rfl <| g_front 2 rfl <| g_front 3 rfl ?_
     exact g_go [0, 1] (j2 r472 h A474 n475 c476 h477) ⟨rfl, rfl, rfl, rfl, rfl, rfl, trivial⟩ (.cons_cons _ (.cons_cons _ (.cons_cons _ (.cons_cons _ (.slnil))))) rfl
    ·have h := if_neg' hp357 h
     refine g_false rfl _ rfl ((bf hp357)) <| g_region rfl rfl <| wl_v 0 rfl (v_ldB1 2 ld_85 rfl rfl rfl) gn rfl ?_
     obtain ⟨r485, hv486, h⟩ := h
     refine wl_s 1 rfl (s_callC [.int .i64 1, .string (⟨#[119, 104, 101, 110]⟩ : ByteArray)] [.pointer (some ⟨gb21, 0, none⟩)] rfl rfl Tryd.func56 rfl rfl rfl fun w482 hL483 => ?_) gn
     have hp484 := pmI hL483 (.c 3 rfl (.c 1 rfl .n)) (.c 0 rfl (.c 2 rfl .n)) (by kernel_rfl)
     refine Calls.mono (query_Print_1_calls w482 (Fl ([] : List Snap)) 1 (⟨#[119, 104, 101, 110]⟩ : ByteArray) x196 gb21 75 w.heap.size A197 n198 c199 hL483.env.size h200 (hL483.hFl hp484 (sels [] rfl)) (hL483.into hp484 _) r485 hv486) ?_
     rintro _ w492 ⟨A487, n488, c489, rfl, hM493, h490⟩
     have hL494 := hL483.call hp484 hM493
     refine ⟨_, _, _, rfl, hL494, ?_⟩
     refine w_end 2 rfl <| g_front 3 rfl <| g_front 3 rfl <| g_front 2 rfl <| g_front 3 rfl ?_
     exact g_go [0, 1] (j2 r485 h A487 n488 c489 h490) ⟨rfl, rfl, rfl, rfl, rfl, rfl, trivial⟩ (.cons_cons _ (.cons_cons _ (.cons_cons _ (.cons_cons _ (.slnil))))) rfl
   ·have h := if_neg' hp352 h
    refine g_false rfl _ rfl ((decide_eq_false hp352)) <| g_exit [.code q25c22] rfl rfl <| g_seq rfl <| g_region rfl rfl <| wl_v 0 rfl (v_ldB1 2 ld_75 rfl rfl rfl) gn rfl ?_
    obtain ⟨r498, hv499, h⟩ := h
    refine wl_s 1 rfl (s_call [.slice A197 n198 c199] rfl Tryd.func58 rfl rfl rfl fun w495 hL496 => ?_) gn
    have hp497 := pmI hL496 .n (.c 0 rfl (.c 1 rfl (.c 2 rfl .n))) (by kernel_rfl)
    refine Calls.mono (words_Join_calls w495 (Fl ([] : List Snap)) x196 A197 n198 c199 (hL496.argO (dk := k_api_Word) hp497 [] rfl 0 rfl rfl h200 (me 0 rfl) (Cells.flat _)) (hL496.tb hp497 hG (me 1 rfl)) (hL496.hFl hp497 (sels [] rfl)) (hL496.into hp497 _) r498 hv499) ?_
    rintro _ w500 ⟨rfl, hM501⟩
    have hL502 := hL496.call hp497 hM501
    refine ⟨_, _, _, rfl, hL502, ?_⟩
    refine wl_v 2 rfl (v_assign rfl) gn rfl <| wl_v 3 rfl (v_assign rfl) gn rfl <| w_end 4 rfl ?_
    have h := Out.inr hO1 h
    refine g_retR [.string r498, .int .i64 0] rfl Tryd.func25 rfl (.tmp rfl (.tmp rfl (.nil))) fun wr hLr => ?_
    have hMr := hLr.pk0 (.c 1 rfl .n)
    show query_Print_R w F  r (.returned (packV [.string r498, .int .i64 0])) wr
    rw [h]
    exact ⟨rfl, hMr⟩
  refine g_front 4 rfl <| g_front 3 rfl <| g_front 5 rfl ?_
  exact g_go [0, 1] (key1 _ h A35 n36 c37 h38) ⟨rfl, rfl, rfl, rfl, rfl, trivial⟩ (.cons_cons _ (.cons_cons _ (.cons_cons _ (.cons _ (.cons _ (.cons _ (.slnil))))))) rfl
 ·have h := if_neg' hp20 h
  refine g_true rfl _ rfl ((nt (bf hp20))) <| g_seq rfl <| g_region rfl rfl <| wl_v 0 rfl (v_assign rfl) gn rfl <| wl_v 1 rfl (v_assign rfl) gn rfl <| w_end 2 rfl ?_
  refine g_retR [.string (⟨#[]⟩ : ByteArray), .int .i64 200] rfl Tryd.func25 rfl (.tmp rfl (.tmp rfl (.nil))) fun wr hLr => ?_
  have hMr := hLr.pk0 (.c 1 rfl .n)
  show query_Print_R w F  r (.returned (packV [.string (⟨#[]⟩ : ByteArray), .int .i64 200])) wr
  rw [h]
  exact ⟨rfl, hMr⟩
abbrev trellislaw20_again_R (w : World) (F : Nat → Prop) (r : Bool) : Ending → World → Prop := fun e w' => e = .returned (.bool r) ∧ B.Loc w w' [] [St w []]
noncomputable abbrev trellislaw20_again_C (w : World) (F : Nat → Prop) (r : Bool) : Cx := ⟨Tryd.prog, 26, Tryd.f26, 44, trellislaw20_again_R w F  r, w⟩
theorem trellislaw20_again_calls (w : World) (F : Nat → Prop) (x1 : api_Query) (A2 : Option Addr) (n3 : Nat) (c4 : Nat) (A6 : Option Addr) (n7 : Nat) (c8 : Nat) (h5 : Rw k_api_PatNode w (St w []).av A2 n3 c4 x1.nodes) (h9 : Rw k_api_Cond w (St w []).av A6 n7 c8 x1.conds) (hG : Tb Tryd.prog (St w [])) (hF : ∀ b, F b → b < w.heap.size ∧ ∀ o ∈ ([] : List (List Nat)), b ∉ o) (hL0 : B.Loc w w [] [Sm w.heap.size F w [], St w []]) (r : Bool) (h : trellislaw20_again x1 r) : Calls Tryd.prog 26 #[.agg #[.slice A2 n3 c4, .slice A6 n7 c8]] w (trellislaw20_again_R w F  r) := by
 unfold trellislaw20_again at h
 refine calls_of_Loc (vs := [.agg #[.slice A2 n3 c4, .slice A6 n7 c8]]) 44 Tryd.func26 rfl Tryd.ntmps26 rfl hL0 ?_
 show G (trellislaw20_again_C w F r) _ _ _ _
 refine g_seq rfl <| g_region rfl rfl ?_
 refine wl_s 0 rfl (s_box [.slice A2 n3 c4, .slice A6 n7 c8] rfl rfl rfl fun gb10 => ?_) gn
 refine wl_v 1 rfl (v_assign rfl) gn rfl <| w_end 2 rfl <| g_seq rfl <| g_region rfl rfl <| wl_v 0 rfl (v_ldB [.slice A2 n3 c4, .slice A6 n7 c8] 0 ld_25 rfl rfl rfl rfl) gn rfl ?_
 obtain ⟨r15, hv16, h⟩ := h
 refine wl_s 1 rfl (s_call [.agg #[.slice A2 n3 c4, .slice A6 n7 c8]] rfl Tryd.func12 rfl rfl rfl fun w12 hL13 => ?_) gn
 have hp14 := pmI hL13 .n (.c 0 rfl .n) (by kernel_rfl)
 refine Calls.mono (trellislaw20_twin_calls w12 (Fl ([] : List Snap)) x1 A2 n3 c4 A6 n7 c8 (Rw.mono h5 (hL13.toSt hp14 (me 1 rfl))) (Rw.mono h9 (hL13.toSt hp14 (me 1 rfl))) (hL13.hFl hp14 (sels [] rfl)) (hL13.into hp14 _) r15 hv16) ?_
 rintro _ w27 ⟨A17, n18, c19, A22, n23, c24, rfl, hM28, h20, h25⟩
 have hL29 := hL13.call hp14 hM28
 refine ⟨_, _, _, rfl, hL29, ?_⟩
 refine wl_s 2 rfl (s_alloc [.slice none 0 0, .slice none 0 0] zr_25 rfl fun gb30 => ?_) gn
 refine wl_s 3 rfl (s_stB (vs := [.slice A17 n18 c19, .slice A22 n23 c24]) (cs' := [.slice A17 n18 c19, .slice A22 n23 c24]) (M' := [.box gb30 25 [.slice A17 n18 c19, .slice A22 n23 c24], .own (.slice A17 n18 c19) 45 5 n18 (r15.nodes.flatMap enc_api_PatNode), .own (.slice A22 n23 c24) 47 4 n23 (r15.conds.flatMap enc_api_Cond), .box gb10 25 [.slice A2 n3 c4, .slice A6 n7 c8]]) 0 sz_25 rfl rfl rfl rfl rfl rfl rfl rfl rfl ?_) gn
 refine w_end 4 rfl <| g_seq rfl <| g_region rfl rfl <| wl_v 0 rfl (v_ldB [.slice A17 n18 c19, .slice A22 n23 c24] 0 ld_25 rfl rfl rfl rfl) gn rfl ?_
 obtain ⟨r35, hv36, h⟩ := h
 refine wl_s 1 rfl (s_call [.agg #[.slice A17 n18 c19, .slice A22 n23 c24]] rfl Tryd.func22 rfl rfl rfl fun w32 hL33 => ?_) gn
 have hp34 := pmI hL33 .n (.c 0 rfl (.c 1 rfl (.c 2 rfl (.c 3 rfl .n)))) (by kernel_rfl)
 refine Calls.mono (trellisref20_Print_calls w32 (Fl ([] : List Snap)) r15 A17 n18 c19 A22 n23 c24 (hL33.argO (dk := k_api_PatNode) hp34 [] rfl 1 rfl rfl (Ow.weak hL13.env.size h20) (me 0 rfl) (Cells.flat _)) (hL33.argO (dk := k_api_Cond) hp34 [] rfl 2 rfl rfl (Ow.weak hL13.env.size h25) (me 0 rfl) (Cells.flat _)) (hL33.tb hp34 hG (me 1 rfl)) (hL33.hFl hp34 (sels [] rfl)) (hL33.into hp34 _) r35 hv36) ?_
 rintro _ w37 ⟨rfl, hM38⟩
 have hL39 := hL33.call hp34 hM38
 refine ⟨_, _, _, rfl, hL39, ?_⟩
 refine wl_v 2 rfl (v_move rfl) gn rfl <| wl_v 3 rfl (v_extract rfl rfl) gn rfl <| wl_v 4 rfl (v_extract rfl rfl) gn rfl <| wl_v 5 rfl (v_assign rfl) gn rfl <| wl_v 6 rfl (v_assign rfl) gn rfl <| w_end 7 rfl <| g_seq rfl <| g_region rfl rfl <| wl_v 0 rfl (v_ldB [.slice A17 n18 c19, .slice A22 n23 c24] 0 ld_25 rfl rfl rfl rfl) gn rfl ?_
 obtain ⟨r43, hv44, h⟩ := h
 refine wl_s 1 rfl (s_call [.agg #[.slice A17 n18 c19, .slice A22 n23 c24]] rfl Tryd.func23 rfl rfl rfl fun w40 hL41 => ?_) gn
 have hp42 := pmI hL41 .n (.c 0 rfl (.c 1 rfl (.c 2 rfl (.c 3 rfl .n)))) (by kernel_rfl)
 refine Calls.mono (trellisref20_Shaped_calls w40 (Fl ([] : List Snap)) r15 A17 n18 c19 A22 n23 c24 (hL41.argO (dk := k_api_PatNode) hp42 [] rfl 1 rfl rfl (Ow.weak hL13.env.size h20) (me 0 rfl) (Cells.flat _)) (hL41.argO (dk := k_api_Cond) hp42 [] rfl 2 rfl rfl (Ow.weak hL13.env.size h25) (me 0 rfl) (Cells.flat _)) (hL41.hFl hp42 (sels [] rfl)) (hL41.into hp42 _) r43 hv44) ?_
 rintro _ w45 ⟨rfl, hM46⟩
 have hL47 := hL41.call hp42 hM46
 refine ⟨_, _, _, rfl, hL47, ?_⟩
 refine wl_v 2 rfl (v_assign rfl) gn rfl <| w_end 3 rfl <| g_seq rfl <| g_region rfl rfl <| wl_v 0 rfl (v_ldB [.slice A2 n3 c4, .slice A6 n7 c8] 3 ld_25 rfl rfl rfl rfl) gn rfl ?_
 obtain ⟨r51, hv52, h⟩ := h
 refine wl_s 1 rfl (s_call [.agg #[.slice A2 n3 c4, .slice A6 n7 c8]] rfl Tryd.func24 rfl rfl rfl fun w48 hL49 => ?_) gn
 have hp50 := pmI hL49 .n (.c 0 rfl (.c 1 rfl (.c 2 rfl (.c 3 rfl .n)))) (by kernel_rfl)
 refine Calls.mono (query_Shaped_calls w48 (Fl ([] : List Snap)) x1 A2 n3 c4 A6 n7 c8 (Rw.mono h5 (hL49.toSt hp50 (me 1 rfl))) (Rw.mono h9 (hL49.toSt hp50 (me 1 rfl))) (hL49.tb hp50 hG (me 1 rfl)) (hL49.hFl hp50 (sels [] rfl)) (hL49.into hp50 _) r51 hv52) ?_
 rintro _ w53 ⟨rfl, hM54⟩
 have hL55 := hL49.call hp50 hM54
 refine ⟨_, _, _, rfl, hL55, ?_⟩
 refine wl_v 2 rfl (v_assign rfl) gn rfl <| w_end 3 rfl <| g_seq rfl <| g_region rfl rfl <| wl_v 0 rfl (v_ldB [.slice A2 n3 c4, .slice A6 n7 c8] 3 ld_25 rfl rfl rfl rfl) gn rfl ?_
 obtain ⟨r59, hv60, h⟩ := h
 refine wl_s 1 rfl (s_call [.agg #[.slice A2 n3 c4, .slice A6 n7 c8]] rfl Tryd.func25 rfl rfl rfl fun w56 hL57 => ?_) gn
 have hp58 := pmI hL57 .n (.c 0 rfl (.c 1 rfl (.c 2 rfl (.c 3 rfl .n)))) (by kernel_rfl)
 refine Calls.mono (query_Print_calls w56 (Fl ([] : List Snap)) x1 A2 n3 c4 A6 n7 c8 (Rw.mono h5 (hL57.toSt hp58 (me 1 rfl))) (Rw.mono h9 (hL57.toSt hp58 (me 1 rfl))) (hL57.tb hp58 hG (me 1 rfl)) (hL57.hFl hp58 (sels [] rfl)) (hL57.into hp58 _) r59 hv60) ?_
 rintro _ w61 ⟨rfl, hM62⟩
 have hL63 := hL57.call hp58 hM62
 refine ⟨_, _, _, rfl, hL63, ?_⟩
 refine wl_v 2 rfl (v_move rfl) gn rfl <| wl_v 3 rfl (v_extract rfl rfl) gn rfl <| wl_v 4 rfl (v_extract rfl rfl) gn rfl <| wl_v 5 rfl (v_assign rfl) gn rfl <| wl_v 6 rfl (v_assign rfl) gn rfl <| w_end 7 rfl <| g_seq rfl <| g_region rfl rfl <| wl_v 0 rfl (v_move rfl) gn rfl <| wl_v 1 rfl (v_move rfl) gn rfl <| wl_v 2 rfl (v_eqB un_4 rfl rfl) gn rfl <| wl_v 3 rfl (v_move rfl) gn rfl ?_
 by_cases hp64 : (r51 == r43) = true
 ·have h := if_pos' hp64 h
  refine w_bool 29 rfl (hp64) <| wl_v 4 rfl (v_move rfl) (gy 29 rfl rfl) rfl <| wl_v 5 rfl (v_move rfl) (gy 29 rfl rfl) rfl <| wl_v 6 rfl (v_eqS rfl rfl) (gy 29 rfl rfl) rfl <| wl_v 7 rfl (v_pick (b := true) rfl rfl) gn rfl <| wl_v 8 rfl (v_move rfl) gn rfl ?_
  by_cases hp65 : r59.1 = r35.1
  ·have h := if_pos' hp65 h
   refine w_bool 34 rfl ((seq_t hp65)) <| wl_v 9 rfl (v_move rfl) (gy 34 rfl rfl) rfl <| wl_v 10 rfl (v_move rfl) (gy 34 rfl rfl) rfl <| wl_v 11 rfl (v_bin rfl rfl rfl) (gy 34 rfl rfl) rfl <| wl_v 12 rfl (v_pick (b := true) rfl rfl) gn rfl <| wl_v 13 rfl (v_move rfl) gn rfl ?_
   by_cases hp66 : r59.2 = r35.2
   ·have h := if_pos' hp66 h
    refine w_bool 39 rfl ((eqi hp66)) <| wl_v 14 rfl (v_ldB [.slice A2 n3 c4, .slice A6 n7 c8] 3 ld_25 rfl rfl rfl rfl) (gy 39 rfl rfl) rfl <| wl_v 15 rfl (v_ldB [.slice A17 n18 c19, .slice A22 n23 c24] 0 ld_25 rfl rfl rfl rfl) (gy 39 rfl rfl) rfl ?_
    obtain ⟨r70, hv71, h⟩ := h
    refine wl_s 16 rfl (s_call [.agg #[.slice A2 n3 c4, .slice A6 n7 c8], .agg #[.slice A17 n18 c19, .slice A22 n23 c24]] rfl Tryd.func29 rfl rfl rfl fun w67 hL68 => ?_) (gy 39 rfl rfl)
    have hp69 := pmI hL68 .n (.c 0 rfl (.c 1 rfl (.c 2 rfl (.c 3 rfl .n)))) (by kernel_rfl)
    refine Calls.mono (trellislaw20_same_calls w67 (Fl ([] : List Snap)) x1 r15 A2 n3 c4 A6 n7 c8 A17 n18 c19 A22 n23 c24 (Rw.mono h5 (hL68.toSt hp69 (me 1 rfl))) (Rw.mono h9 (hL68.toSt hp69 (me 1 rfl))) (hL68.argO (dk := k_api_PatNode) hp69 [] rfl 1 rfl rfl (Ow.weak hL13.env.size h20) (me 0 rfl) (Cells.flat _)) (hL68.argO (dk := k_api_Cond) hp69 [] rfl 2 rfl rfl (Ow.weak hL13.env.size h25) (me 0 rfl) (Cells.flat _)) (hL68.hFl hp69 (sels [] rfl)) (hL68.into hp69 _) r70 hv71) ?_
    rintro _ w72 ⟨rfl, hM73⟩
    have hL74 := hL68.call hp69 hM73
    refine ⟨_, _, _, rfl, hL74, ?_⟩
    refine wl_v 17 rfl (v_pick (b := true) rfl rfl) gn rfl <| wl_v 18 rfl (v_assign rfl) gn rfl <| w_end 19 rfl ?_
    refine g_retR [.bool r70] rfl Tryd.func26 rfl (.tmp rfl (.nil)) fun wr hLr => ?_
    have hMr := hLr.pk0 (.c 1 rfl .n)
    show trellislaw20_again_R w F  r (.returned (packV [.bool r70])) wr
    rw [h]
    exact ⟨rfl, hMr⟩
   ·have h := if_neg' hp66 h
    refine w_bool 39 rfl ((nei hp66)) <| wl_pass 14 rfl (ps 39 rfl rfl rfl) <| wl_pass 15 rfl (ps 39 rfl rfl rfl) <| wl_pass 16 rfl (ps 39 rfl rfl rfl) <| wl_v 17 rfl (v_pick (b := false) rfl rfl) gn rfl <| wl_v 18 rfl (v_assign rfl) gn rfl <| w_end 19 rfl ?_
    refine g_retR [.bool false] rfl Tryd.func26 rfl (.tmp rfl (.nil)) fun wr hLr => ?_
    have hMr := hLr.pk0 (.c 1 rfl .n)
    show trellislaw20_again_R w F  r (.returned (packV [.bool false])) wr
    rw [h]
    exact ⟨rfl, hMr⟩
  ·have h := if_neg' hp65 h
   refine w_bool 34 rfl ((seq_f hp65)) <| wl_pass 9 rfl (ps 34 rfl rfl rfl) <| wl_pass 10 rfl (ps 34 rfl rfl rfl) <| wl_pass 11 rfl (ps 34 rfl rfl rfl) <| wl_v 12 rfl (v_pick (b := false) rfl rfl) gn rfl <| wl_v 13 rfl (v_move rfl) gn rfl <| wl_pass 14 rfl (ps 39 rfl rfl rfl) <| wl_pass 15 rfl (ps 39 rfl rfl rfl) <| wl_pass 16 rfl (ps 39 rfl rfl rfl) <| wl_v 17 rfl (v_pick (b := false) rfl rfl) gn rfl <| wl_v 18 rfl (v_assign rfl) gn rfl <| w_end 19 rfl ?_
   refine g_retR [.bool false] rfl Tryd.func26 rfl (.tmp rfl (.nil)) fun wr hLr => ?_
   have hMr := hLr.pk0 (.c 1 rfl .n)
   show trellislaw20_again_R w F  r (.returned (packV [.bool false])) wr
   rw [h]
   exact ⟨rfl, hMr⟩
 ·have h := if_neg' hp64 h
  refine w_bool 29 rfl ((bf hp64)) <| wl_pass 4 rfl (ps 29 rfl rfl rfl) <| wl_pass 5 rfl (ps 29 rfl rfl rfl) <| wl_pass 6 rfl (ps 29 rfl rfl rfl) <| wl_v 7 rfl (v_pick (b := false) rfl rfl) gn rfl <| wl_v 8 rfl (v_move rfl) gn rfl <| wl_pass 9 rfl (ps 34 rfl rfl rfl) <| wl_pass 10 rfl (ps 34 rfl rfl rfl) <| wl_pass 11 rfl (ps 34 rfl rfl rfl) <| wl_v 12 rfl (v_pick (b := false) rfl rfl) gn rfl <| wl_v 13 rfl (v_move rfl) gn rfl <| wl_pass 14 rfl (ps 39 rfl rfl rfl) ?_
  refine wl_pass 15 rfl (ps 39 rfl rfl rfl) <| wl_pass 16 rfl (ps 39 rfl rfl rfl) <| wl_v 17 rfl (v_pick (b := false) rfl rfl) gn rfl <| wl_v 18 rfl (v_assign rfl) gn rfl <| w_end 19 rfl ?_
  refine g_retR [.bool false] rfl Tryd.func26 rfl (.tmp rfl (.nil)) fun wr hLr => ?_
  have hMr := hLr.pk0 (.c 1 rfl .n)
  show trellislaw20_again_R w F  r (.returned (packV [.bool false])) wr
  rw [h]
  exact ⟨rfl, hMr⟩
end Go.Proofs.YtjookebbmfiidaaDoor.K
