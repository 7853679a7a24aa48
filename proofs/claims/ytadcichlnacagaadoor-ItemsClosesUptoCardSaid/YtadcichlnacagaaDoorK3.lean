/- What the machine's calls do, function by function, printed by my own tool. Condition of each: its relation holds of the answer, and what is handed in lies in memory as told. -/
import Derived.Test.YtadcichlnacagaaDoorK2
set_option linter.unusedVariables false
set_option maxRecDepth 100000
set_option maxHeartbeats 4000000
namespace Go.Proofs.YtadcichlnacagaaDoor.K
open Go.Proofs.YtadcichlnacagaaDoor.B Go.Proofs.YtadcichlnacagaaDoor.R Go.RowKit
noncomputable abbrev Zf2:=Code.snd (Code.snd (Code.snd (Yvq Tryd.f48)))
noncomputable abbrev Zdq:=Code.fst (Code.fst (Code.fst (Code.snd (Code.snd (Yvq Tryd.f48)))))
noncomputable abbrev Zcf:=Code.fst (Code.fst (Code.snd (Code.snd (Code.fst (Code.snd Zdq)))))
noncomputable abbrev Zgb:=Code.snd (Code.snd Zcf)
noncomputable abbrev Zdf:=Code.fst (Code.fst (Code.snd (Code.snd (Code.fst (Code.fst (Code.snd Zcf))))))
noncomputable abbrev Zkk:=Code.snd (Code.snd Zdf)
noncomputable abbrev q48c49:=Code.snd (Code.snd (Code.fst (Code.fst (Code.snd Zdf))))
noncomputable abbrev q48c50:=Code.fst (Code.fst (Code.snd (Code.fst (Code.fst (Code.snd Zdf)))))
noncomputable abbrev q48c51:=Code.snd (Code.fst (Code.snd (Code.fst (Code.fst (Code.snd Zdf)))))
noncomputable abbrev Zi1:=Code.fst (Code.fst (Code.snd (Code.snd q48c49)))
noncomputable abbrev q48c67:=Code.snd (Code.snd Zi1)
noncomputable abbrev q48c71:=Code.fst (Code.fst (Code.fst (Code.fst (Code.snd Zi1))))
abbrev Zd3 (w:World) (F:Nat→Prop) (g2:Nat) (Tb3:Nat) (A29:Option Addr) (n30:Nat) (c31:Nat) (z33:Nat) (r:(List Int) × Yuc):Ending→World→Prop:=fun e w'=>∃ A0:Option Addr,∃ n0:Nat,∃ c0:Nat,∃ A1:Option Addr,∃ n1:Nat,∃ c1:Nat,∃ A2:Option Addr,∃ n2:Nat,∃ c2:Nat,∃ A3:Option Addr,∃ n3:Nat,∃ c3:Nat,∃ A4:Option Addr,∃ n4:Nat,∃ c4:Nat,∃ A5:Option Addr,∃ n5:Nat,∃ c5:Nat,∃ A6:Option Addr,∃ n6:Nat,∃ c6:Nat,e=.returned (.slice A0 n0 c0)∧B.Loc w w' [.box g2 Tb3 [.slice A1 n1 c1,.slice A2 n2 c2,.slice A3 n3 c3,.slice A4 n4 c4,.slice A5 n5 c5,.slice A6 n6 c6,.int .i64 r.2.dots],.own (.slice A0 n0 c0) 76 1 n0 (r.1.flatMap (eI .u64))] [St w [[g2],(Value.slice A29 n30 c31).ownBlock.toList]]∧Ow z33 A0 n0 c0 r.1∧Rw Yuj w' (Nw w w' F [.box g2 Tb3 [.slice A1 n1 c1,.slice A2 n2 c2,.slice A3 n3 c3,.slice A4 n4 c4,.slice A5 n5 c5,.slice A6 n6 c6,.int .i64 r.2.dots],.own (.slice A0 n0 c0) 76 1 n0 (r.1.flatMap (eI .u64))]) A1 n1 c1 r.2.g.terms∧Rw Yuq w' (Nw w w' F [.box g2 Tb3 [.slice A1 n1 c1,.slice A2 n2 c2,.slice A3 n3 c3,.slice A4 n4 c4,.slice A5 n5 c5,.slice A6 n6 c6,.int .i64 r.2.dots],.own (.slice A0 n0 c0) 76 1 n0 (r.1.flatMap (eI .u64))]) A2 n2 c2 r.2.g.syms∧Rw Yun w' (Nw w w' F [.box g2 Tb3 [.slice A1 n1 c1,.slice A2 n2 c2,.slice A3 n3 c3,.slice A4 n4 c4,.slice A5 n5 c5,.slice A6 n6 c6,.int .i64 r.2.dots],.own (.slice A0 n0 c0) 76 1 n0 (r.1.flatMap (eI .u64))]) A3 n3 c3 r.2.g.prods∧Rw Yzi w' (Nw w w' F [.box g2 Tb3 [.slice A1 n1 c1,.slice A2 n2 c2,.slice A3 n3 c3,.slice A4 n4 c4,.slice A5 n5 c5,.slice A6 n6 c6,.int .i64 r.2.dots],.own (.slice A0 n0 c0) 76 1 n0 (r.1.flatMap (eI .u64))]) A4 n4 c4 r.2.none∧Rw (Yw6 .u64) w' (Nw w w' F [.box g2 Tb3 [.slice A1 n1 c1,.slice A2 n2 c2,.slice A3 n3 c3,.slice A4 n4 c4,.slice A5 n5 c5,.slice A6 n6 c6,.int .i64 r.2.dots],.own (.slice A0 n0 c0) 76 1 n0 (r.1.flatMap (eI .u64))]) A5 n5 c5 r.2.first∧Rw (Yw6 .i64) w' (Nw w w' F [.box g2 Tb3 [.slice A1 n1 c1,.slice A2 n2 c2,.slice A3 n3 c3,.slice A4 n4 c4,.slice A5 n5 c5,.slice A6 n6 c6,.int .i64 r.2.dots],.own (.slice A0 n0 c0) 76 1 n0 (r.1.flatMap (eI .u64))]) A6 n6 c6 r.2.at_
noncomputable abbrev Yvu (w:World) (F:Nat→Prop) (g2:Nat) (Tb3:Nat) (A29:Option Addr) (n30:Nat) (c31:Nat) (z33:Nat) (r:(List Int) × Yuc):Cx:=⟨Tryd.prog,48,Tryd.f48,137,Zd3 w F g2 Tb3 A29 n30 c31 z33 r,w⟩
theorem Zbc (w:World) (F:Nat→Prop) (x1:Yuc) (x28:List Int) (g2:Nat) (Tb3:Nat) (A4:Option Addr) (n5:Nat) (c6:Nat) (A8:Option Addr) (n9:Nat) (c10:Nat) (A12:Option Addr) (n13:Nat) (c14:Nat) (A16:Option Addr) (n17:Nat) (c18:Nat) (A20:Option Addr) (n21:Nat) (c22:Nat) (A24:Option Addr) (n25:Nat) (c26:Nat) (z33:Nat) (A29:Option Addr) (n30:Nat) (c31:Nat) (h7:Rw Yuj w F A4 n5 c6 x1.g.terms) (h11:Rw Yuq w F A8 n9 c10 x1.g.syms) (h15:Rw Yun w F A12 n13 c14 x1.g.prods) (h19:Rw Yzi w F A16 n17 c18 x1.none) (h23:Rw (Yw6 .u64) w F A20 n21 c22 x1.first) (h27:Rw (Yw6 .i64) w F A24 n25 c26 x1.at_) (hz34:z33≤w.heap.size) (h32:Ow z33 A29 n30 c31 x28) (hF:∀ b,F b→b < w.heap.size∧∀ o ∈ ([[g2],(Value.slice A29 n30 c31).ownBlock.toList]:List (List Nat)),b ∉ o) (hL0:B.Loc w w [.box g2 Tb3 [.slice A4 n5 c6,.slice A8 n9 c10,.slice A12 n13 c14,.slice A16 n17 c18,.slice A20 n21 c22,.slice A24 n25 c26,.int .i64 x1.dots],.own (.slice A29 n30 c31) 76 1 n30 (x28.flatMap (eI .u64))] [Sm w.heap.size F w [[g2],(Value.slice A29 n30 c31).ownBlock.toList],St w [[g2],(Value.slice A29 n30 c31).ownBlock.toList]]) (r:(List Int) × Yuc) (h:Yxq x1 x28 r):Calls Tryd.prog 48 #[.pointer (some ⟨g2,0,none⟩),.slice A29 n30 c31] w (Zd3 w F g2 Tb3 A29 n30 c31 z33 r):=by
 unfold Yxq at h
 have h7:=Rw.into (bs:=[[g2],(Value.slice A29 n30 c31).ownBlock.toList]) hF h7
 have h11:=Rw.into (bs:=[[g2],(Value.slice A29 n30 c31).ownBlock.toList]) hF h11
 have h15:=Rw.into (bs:=[[g2],(Value.slice A29 n30 c31).ownBlock.toList]) hF h15
 have h19:=Rw.into (bs:=[[g2],(Value.slice A29 n30 c31).ownBlock.toList]) hF h19
 have h23:=Rw.into (bs:=[[g2],(Value.slice A29 n30 c31).ownBlock.toList]) hF h23
 have h27:=Rw.into (bs:=[[g2],(Value.slice A29 n30 c31).ownBlock.toList]) hF h27
 refine Yv5 (vs:=[.pointer (some ⟨g2,0,none⟩),.slice A29 n30 c31]) 137 Tryd.func48 rfl Tryd.ntmps48 rfl hL0 ?_
 show G (Yvu w F g2 Tb3 A29 n30 c31 z33 r) _ _ _ _
 refine Yu9 rfl<|Yu4 rfl rfl<|Yu2 0 rfl (Yu7 rfl) gn rfl<|Yua 1 rfl<|Yu9 rfl<|Yu4 rfl rfl<|Yu2 0 rfl (Yu7 rfl) gn rfl<|Yua 1 rfl<|Yu9 rfl<|Yuw rfl<|Ywm rfl ?_
 have key1:∀ s,Yui (fun (s:(List Int) × Bool × (List Yup) × (List Yvn) × (List Yuf) × (List Bool) × (List Int) × (List Int) × Int) o=>Ywy s.1 s.2.1 s.2.2.1 s.2.2.2.1 s.2.2.2.2.1 s.2.2.2.2.2.1 s.2.2.2.2.2.2.1 s.2.2.2.2.2.2.2.1 s.2.2.2.2.2.2.2.2 o) s r→(fun (s:(List Int) × Bool × (List Yup) × (List Yvn) × (List Yuf) × (List Bool) × (List Int) × (List Int) × Int)=>∀ (h1749:Ow z33 A29 n30 c31 s.1) (A1752:Option Addr) (n1753:Nat) (c1754:Nat) (sw1755:World) (sb1756:List (List Nat)) (h1757:At Yuj (Sm w.heap.size F sw1755 sb1756) A1752 n1753 c1754 s.2.2.1) (A1759:Option Addr) (n1760:Nat) (c1761:Nat) (sw1762:World) (sb1763:List (List Nat)) (h1764:At Yuq (Sm w.heap.size F sw1762 sb1763) A1759 n1760 c1761 s.2.2.2.1) (A1766:Option Addr) (n1767:Nat) (c1768:Nat) (sw1769:World) (sb1770:List (List Nat)) (h1771:At Yun (Sm w.heap.size F sw1769 sb1770) A1766 n1767 c1768 s.2.2.2.2.1) (A1773:Option Addr) (n1774:Nat) (c1775:Nat) (sw1776:World) (sb1777:List (List Nat)) (h1778:At Yzi (Sm w.heap.size F sw1776 sb1777) A1773 n1774 c1775 s.2.2.2.2.2.1) (A1780:Option Addr) (n1781:Nat) (c1782:Nat) (sw1783:World) (sb1784:List (List Nat)) (h1785:At (Yw6 .u64) (Sm w.heap.size F sw1783 sb1784) A1780 n1781 c1782 s.2.2.2.2.2.2.1) (A1787:Option Addr) (n1788:Nat) (c1789:Nat) (sw1790:World) (sb1791:List (List Nat)) (h1792:At (Yw6 .i64) (Sm w.heap.size F sw1790 sb1791) A1787 n1788 c1789 s.2.2.2.2.2.2.2.1),G (Yvu w F g2 Tb3 A29 n30 c31 z33 r) [.code Zdq,.inLoop Zdq,.inBlock 0,.code Zf2] [(0,.pointer (some ⟨g2,0,none⟩)),(1,.slice A29 n30 c31),(5,.bool s.2.1)] [.box g2 Tb3 [.slice A1752 n1753 c1754,.slice A1759 n1760 c1761,.slice A1766 n1767 c1768,.slice A1773 n1774 c1775,.slice A1780 n1781 c1782,.slice A1787 n1788 c1789,.int .i64 s.2.2.2.2.2.2.2.2],.own (.slice A29 n30 c31) 76 1 n30 (s.1.flatMap (eI .u64))] [Sm w.heap.size F sw1755 sb1756,Sm w.heap.size F sw1762 sb1763,Sm w.heap.size F sw1769 sb1770,Sm w.heap.size F sw1776 sb1777,Sm w.heap.size F sw1783 sb1784,Sm w.heap.size F sw1790 sb1791,Sm w.heap.size F w [[g2],(Value.slice A29 n30 c31).ownBlock.toList],St w [[g2],(Value.slice A29 n30 c31).ownBlock.toList]]) s:=by
  intro s hs
  refine Yui.ind (mot:=(fun (s:(List Int) × Bool × (List Yup) × (List Yvn) × (List Yuf) × (List Bool) × (List Int) × (List Int) × Int)=>∀ (h1749:Ow z33 A29 n30 c31 s.1) (A1752:Option Addr) (n1753:Nat) (c1754:Nat) (sw1755:World) (sb1756:List (List Nat)) (h1757:At Yuj (Sm w.heap.size F sw1755 sb1756) A1752 n1753 c1754 s.2.2.1) (A1759:Option Addr) (n1760:Nat) (c1761:Nat) (sw1762:World) (sb1763:List (List Nat)) (h1764:At Yuq (Sm w.heap.size F sw1762 sb1763) A1759 n1760 c1761 s.2.2.2.1) (A1766:Option Addr) (n1767:Nat) (c1768:Nat) (sw1769:World) (sb1770:List (List Nat)) (h1771:At Yun (Sm w.heap.size F sw1769 sb1770) A1766 n1767 c1768 s.2.2.2.2.1) (A1773:Option Addr) (n1774:Nat) (c1775:Nat) (sw1776:World) (sb1777:List (List Nat)) (h1778:At Yzi (Sm w.heap.size F sw1776 sb1777) A1773 n1774 c1775 s.2.2.2.2.2.1) (A1780:Option Addr) (n1781:Nat) (c1782:Nat) (sw1783:World) (sb1784:List (List Nat)) (h1785:At (Yw6 .u64) (Sm w.heap.size F sw1783 sb1784) A1780 n1781 c1782 s.2.2.2.2.2.2.1) (A1787:Option Addr) (n1788:Nat) (c1789:Nat) (sw1790:World) (sb1791:List (List Nat)) (h1792:At (Yw6 .i64) (Sm w.heap.size F sw1790 sb1791) A1787 n1788 c1789 s.2.2.2.2.2.2.2.1),G (Yvu w F g2 Tb3 A29 n30 c31 z33 r) [.code Zdq,.inLoop Zdq,.inBlock 0,.code Zf2] [(0,.pointer (some ⟨g2,0,none⟩)),(1,.slice A29 n30 c31),(5,.bool s.2.1)] [.box g2 Tb3 [.slice A1752 n1753 c1754,.slice A1759 n1760 c1761,.slice A1766 n1767 c1768,.slice A1773 n1774 c1775,.slice A1780 n1781 c1782,.slice A1787 n1788 c1789,.int .i64 s.2.2.2.2.2.2.2.2],.own (.slice A29 n30 c31) 76 1 n30 (s.1.flatMap (eI .u64))] [Sm w.heap.size F sw1755 sb1756,Sm w.heap.size F sw1762 sb1763,Sm w.heap.size F sw1769 sb1770,Sm w.heap.size F sw1776 sb1777,Sm w.heap.size F sw1783 sb1784,Sm w.heap.size F sw1790 sb1791,Sm w.heap.size F w [[g2],(Value.slice A29 n30 c31).ownBlock.toList],St w [[g2],(Value.slice A29 n30 c31).ownBlock.toList]])) ?_ hs
  clear hs s
  intro s o1 h hO1
  obtain ⟨x1748,x1750,x1751,x1758,x1765,x1772,x1779,x1786,x1793⟩:=s
  show ∀ (h1749:Ow z33 A29 n30 c31 x1748) (A1752:Option Addr) (n1753:Nat) (c1754:Nat) (sw1755:World) (sb1756:List (List Nat)) (h1757:At Yuj (Sm w.heap.size F sw1755 sb1756) A1752 n1753 c1754 x1751) (A1759:Option Addr) (n1760:Nat) (c1761:Nat) (sw1762:World) (sb1763:List (List Nat)) (h1764:At Yuq (Sm w.heap.size F sw1762 sb1763) A1759 n1760 c1761 x1758) (A1766:Option Addr) (n1767:Nat) (c1768:Nat) (sw1769:World) (sb1770:List (List Nat)) (h1771:At Yun (Sm w.heap.size F sw1769 sb1770) A1766 n1767 c1768 x1765) (A1773:Option Addr) (n1774:Nat) (c1775:Nat) (sw1776:World) (sb1777:List (List Nat)) (h1778:At Yzi (Sm w.heap.size F sw1776 sb1777) A1773 n1774 c1775 x1772) (A1780:Option Addr) (n1781:Nat) (c1782:Nat) (sw1783:World) (sb1784:List (List Nat)) (h1785:At (Yw6 .u64) (Sm w.heap.size F sw1783 sb1784) A1780 n1781 c1782 x1779) (A1787:Option Addr) (n1788:Nat) (c1789:Nat) (sw1790:World) (sb1791:List (List Nat)) (h1792:At (Yw6 .i64) (Sm w.heap.size F sw1790 sb1791) A1787 n1788 c1789 x1786),G (Yvu w F g2 Tb3 A29 n30 c31 z33 r) [.code Zdq,.inLoop Zdq,.inBlock 0,.code Zf2] [(0,.pointer (some ⟨g2,0,none⟩)),(1,.slice A29 n30 c31),(5,.bool x1750)] [.box g2 Tb3 [.slice A1752 n1753 c1754,.slice A1759 n1760 c1761,.slice A1766 n1767 c1768,.slice A1773 n1774 c1775,.slice A1780 n1781 c1782,.slice A1787 n1788 c1789,.int .i64 x1793],.own (.slice A29 n30 c31) 76 1 n30 (x1748.flatMap (eI .u64))] [Sm w.heap.size F sw1755 sb1756,Sm w.heap.size F sw1762 sb1763,Sm w.heap.size F sw1769 sb1770,Sm w.heap.size F sw1776 sb1777,Sm w.heap.size F sw1783 sb1784,Sm w.heap.size F sw1790 sb1791,Sm w.heap.size F w [[g2],(Value.slice A29 n30 c31).ownBlock.toList],St w [[g2],(Value.slice A29 n30 c31).ownBlock.toList]]
  intro h1749 A1752 n1753 c1754 sw1755 sb1756 h1757 A1759 n1760 c1761 sw1762 sb1763 h1764 A1766 n1767 c1768 sw1769 sb1770 h1771 A1773 n1774 c1775 sw1776 sb1777 h1778 A1780 n1781 c1782 sw1783 sb1784 h1785 A1787 n1788 c1789 sw1790 sb1791 h1792
  have h:Ywy x1748 x1750 x1751 x1758 x1765 x1772 x1779 x1786 x1793 o1:=h
  unfold Ywy at h
  refine Yu9 rfl<|Yu9 rfl<|Yu4 rfl rfl<|Yu2 0 rfl (Yu3 rfl) gn rfl<|Yua 1 rfl ?_
  by_cases hp3507:x1750=true
  ·have h:=Yul hp3507 h
   refine Yv4 rfl _ rfl (hp3507)<|Yv2 rfl<|Yuw rfl<|Yu9 rfl<|Yu4 rfl rfl<|Yu2 0 rfl (Yu7 rfl) gn rfl<|Yua 1 rfl<|Yu9 rfl<|Yu4 rfl rfl<|Yu2 0 rfl (Yu7 rfl) gn rfl<|Yua 1 rfl<|Yuw rfl ?_
   refine Ywm rfl ?_
   have key2:∀ s,Yui (fun (s:(List Int) × Bool × Int × (List Yup) × (List Yvn) × (List Yuf) × (List Bool) × (List Int) × (List Int) × Int) o=>Yws s.1 s.2.1 s.2.2.1 s.2.2.2.1 s.2.2.2.2.1 s.2.2.2.2.2.1 s.2.2.2.2.2.2.1 s.2.2.2.2.2.2.2.1 s.2.2.2.2.2.2.2.2.1 s.2.2.2.2.2.2.2.2.2 o) s o1→(fun (s:(List Int) × Bool × Int × (List Yup) × (List Yvn) × (List Yuf) × (List Bool) × (List Int) × (List Int) × Int)=>∀ (h4064:Ow z33 A29 n30 c31 s.1) (A4068:Option Addr) (n4069:Nat) (c4070:Nat) (sw4071:World) (sb4072:List (List Nat)) (h4073:At Yuj (Sm w.heap.size F sw4071 sb4072) A4068 n4069 c4070 s.2.2.2.1) (A4075:Option Addr) (n4076:Nat) (c4077:Nat) (sw4078:World) (sb4079:List (List Nat)) (h4080:At Yuq (Sm w.heap.size F sw4078 sb4079) A4075 n4076 c4077 s.2.2.2.2.1) (A4082:Option Addr) (n4083:Nat) (c4084:Nat) (sw4085:World) (sb4086:List (List Nat)) (h4087:At Yun (Sm w.heap.size F sw4085 sb4086) A4082 n4083 c4084 s.2.2.2.2.2.1) (A4089:Option Addr) (n4090:Nat) (c4091:Nat) (sw4092:World) (sb4093:List (List Nat)) (h4094:At Yzi (Sm w.heap.size F sw4092 sb4093) A4089 n4090 c4091 s.2.2.2.2.2.2.1) (A4096:Option Addr) (n4097:Nat) (c4098:Nat) (sw4099:World) (sb4100:List (List Nat)) (h4101:At (Yw6 .u64) (Sm w.heap.size F sw4099 sb4100) A4096 n4097 c4098 s.2.2.2.2.2.2.2.1) (A4103:Option Addr) (n4104:Nat) (c4105:Nat) (sw4106:World) (sb4107:List (List Nat)) (h4108:At (Yw6 .i64) (Sm w.heap.size F sw4106 sb4107) A4103 n4104 c4105 s.2.2.2.2.2.2.2.2.1),G (Yvu w F g2 Tb3 A29 n30 c31 z33 r) [.code Zcf,.inLoop Zcf,.inBlock 2,.inBlock 1,.inLoop Zdq,.inBlock 0,.code Zf2] [(0,.pointer (some ⟨g2,0,none⟩)),(1,.slice A29 n30 c31),(5,.bool s.2.1),(6,.int .i64 s.2.2.1)] [.box g2 Tb3 [.slice A4068 n4069 c4070,.slice A4075 n4076 c4077,.slice A4082 n4083 c4084,.slice A4089 n4090 c4091,.slice A4096 n4097 c4098,.slice A4103 n4104 c4105,.int .i64 s.2.2.2.2.2.2.2.2.2],.own (.slice A29 n30 c31) 76 1 n30 (s.1.flatMap (eI .u64))] [Sm w.heap.size F sw4071 sb4072,Sm w.heap.size F sw4078 sb4079,Sm w.heap.size F sw4085 sb4086,Sm w.heap.size F sw4092 sb4093,Sm w.heap.size F sw4099 sb4100,Sm w.heap.size F sw4106 sb4107,Sm w.heap.size F sw1755 sb1756,Sm w.heap.size F sw1762 sb1763,Sm w.heap.size F sw1769 sb1770,Sm w.heap.size F sw1776 sb1777,Sm w.heap.size F sw1783 sb1784,Sm w.heap.size F sw1790 sb1791,Sm w.heap.size F w [[g2],(Value.slice A29 n30 c31).ownBlock.toList],St w [[g2],(Value.slice A29 n30 c31).ownBlock.toList]]) s:=by
    intro s hs
    refine Yui.ind (mot:=(fun (s:(List Int) × Bool × Int × (List Yup) × (List Yvn) × (List Yuf) × (List Bool) × (List Int) × (List Int) × Int)=>∀ (h4064:Ow z33 A29 n30 c31 s.1) (A4068:Option Addr) (n4069:Nat) (c4070:Nat) (sw4071:World) (sb4072:List (List Nat)) (h4073:At Yuj (Sm w.heap.size F sw4071 sb4072) A4068 n4069 c4070 s.2.2.2.1) (A4075:Option Addr) (n4076:Nat) (c4077:Nat) (sw4078:World) (sb4079:List (List Nat)) (h4080:At Yuq (Sm w.heap.size F sw4078 sb4079) A4075 n4076 c4077 s.2.2.2.2.1) (A4082:Option Addr) (n4083:Nat) (c4084:Nat) (sw4085:World) (sb4086:List (List Nat)) (h4087:At Yun (Sm w.heap.size F sw4085 sb4086) A4082 n4083 c4084 s.2.2.2.2.2.1) (A4089:Option Addr) (n4090:Nat) (c4091:Nat) (sw4092:World) (sb4093:List (List Nat)) (h4094:At Yzi (Sm w.heap.size F sw4092 sb4093) A4089 n4090 c4091 s.2.2.2.2.2.2.1) (A4096:Option Addr) (n4097:Nat) (c4098:Nat) (sw4099:World) (sb4100:List (List Nat)) (h4101:At (Yw6 .u64) (Sm w.heap.size F sw4099 sb4100) A4096 n4097 c4098 s.2.2.2.2.2.2.2.1) (A4103:Option Addr) (n4104:Nat) (c4105:Nat) (sw4106:World) (sb4107:List (List Nat)) (h4108:At (Yw6 .i64) (Sm w.heap.size F sw4106 sb4107) A4103 n4104 c4105 s.2.2.2.2.2.2.2.2.1),G (Yvu w F g2 Tb3 A29 n30 c31 z33 r) [.code Zcf,.inLoop Zcf,.inBlock 2,.inBlock 1,.inLoop Zdq,.inBlock 0,.code Zf2] [(0,.pointer (some ⟨g2,0,none⟩)),(1,.slice A29 n30 c31),(5,.bool s.2.1),(6,.int .i64 s.2.2.1)] [.box g2 Tb3 [.slice A4068 n4069 c4070,.slice A4075 n4076 c4077,.slice A4082 n4083 c4084,.slice A4089 n4090 c4091,.slice A4096 n4097 c4098,.slice A4103 n4104 c4105,.int .i64 s.2.2.2.2.2.2.2.2.2],.own (.slice A29 n30 c31) 76 1 n30 (s.1.flatMap (eI .u64))] [Sm w.heap.size F sw4071 sb4072,Sm w.heap.size F sw4078 sb4079,Sm w.heap.size F sw4085 sb4086,Sm w.heap.size F sw4092 sb4093,Sm w.heap.size F sw4099 sb4100,Sm w.heap.size F sw4106 sb4107,Sm w.heap.size F sw1755 sb1756,Sm w.heap.size F sw1762 sb1763,Sm w.heap.size F sw1769 sb1770,Sm w.heap.size F sw1776 sb1777,Sm w.heap.size F sw1783 sb1784,Sm w.heap.size F sw1790 sb1791,Sm w.heap.size F w [[g2],(Value.slice A29 n30 c31).ownBlock.toList],St w [[g2],(Value.slice A29 n30 c31).ownBlock.toList]])) ?_ hs
    clear hs s
    intro s o2 h hO2
    obtain ⟨x4063,x4065,x4066,x4067,x4074,x4081,x4088,x4095,x4102,x4109⟩:=s
    show ∀ (h4064:Ow z33 A29 n30 c31 x4063) (A4068:Option Addr) (n4069:Nat) (c4070:Nat) (sw4071:World) (sb4072:List (List Nat)) (h4073:At Yuj (Sm w.heap.size F sw4071 sb4072) A4068 n4069 c4070 x4067) (A4075:Option Addr) (n4076:Nat) (c4077:Nat) (sw4078:World) (sb4079:List (List Nat)) (h4080:At Yuq (Sm w.heap.size F sw4078 sb4079) A4075 n4076 c4077 x4074) (A4082:Option Addr) (n4083:Nat) (c4084:Nat) (sw4085:World) (sb4086:List (List Nat)) (h4087:At Yun (Sm w.heap.size F sw4085 sb4086) A4082 n4083 c4084 x4081) (A4089:Option Addr) (n4090:Nat) (c4091:Nat) (sw4092:World) (sb4093:List (List Nat)) (h4094:At Yzi (Sm w.heap.size F sw4092 sb4093) A4089 n4090 c4091 x4088) (A4096:Option Addr) (n4097:Nat) (c4098:Nat) (sw4099:World) (sb4100:List (List Nat)) (h4101:At (Yw6 .u64) (Sm w.heap.size F sw4099 sb4100) A4096 n4097 c4098 x4095) (A4103:Option Addr) (n4104:Nat) (c4105:Nat) (sw4106:World) (sb4107:List (List Nat)) (h4108:At (Yw6 .i64) (Sm w.heap.size F sw4106 sb4107) A4103 n4104 c4105 x4102),G (Yvu w F g2 Tb3 A29 n30 c31 z33 r) [.code Zcf,.inLoop Zcf,.inBlock 2,.inBlock 1,.inLoop Zdq,.inBlock 0,.code Zf2] [(0,.pointer (some ⟨g2,0,none⟩)),(1,.slice A29 n30 c31),(5,.bool x4065),(6,.int .i64 x4066)] [.box g2 Tb3 [.slice A4068 n4069 c4070,.slice A4075 n4076 c4077,.slice A4082 n4083 c4084,.slice A4089 n4090 c4091,.slice A4096 n4097 c4098,.slice A4103 n4104 c4105,.int .i64 x4109],.own (.slice A29 n30 c31) 76 1 n30 (x4063.flatMap (eI .u64))] [Sm w.heap.size F sw4071 sb4072,Sm w.heap.size F sw4078 sb4079,Sm w.heap.size F sw4085 sb4086,Sm w.heap.size F sw4092 sb4093,Sm w.heap.size F sw4099 sb4100,Sm w.heap.size F sw4106 sb4107,Sm w.heap.size F sw1755 sb1756,Sm w.heap.size F sw1762 sb1763,Sm w.heap.size F sw1769 sb1770,Sm w.heap.size F sw1776 sb1777,Sm w.heap.size F sw1783 sb1784,Sm w.heap.size F sw1790 sb1791,Sm w.heap.size F w [[g2],(Value.slice A29 n30 c31).ownBlock.toList],St w [[g2],(Value.slice A29 n30 c31).ownBlock.toList]]
    intro h4064 A4068 n4069 c4070 sw4071 sb4072 h4073 A4075 n4076 c4077 sw4078 sb4079 h4080 A4082 n4083 c4084 sw4085 sb4086 h4087 A4089 n4090 c4091 sw4092 sb4093 h4094 A4096 n4097 c4098 sw4099 sb4100 h4101 A4103 n4104 c4105 sw4106 sb4107 h4108
    have h:Yws x4063 x4065 x4066 x4067 x4074 x4081 x4088 x4095 x4102 x4109 o2:=h
    unfold Yws at h
    refine Yu9 rfl<|Yu9 rfl<|Yu4 rfl rfl<|Yu2 0 rfl (Yu3 rfl) gn rfl<|Yu2 1 rfl (Yu3 rfl) gn rfl<|Yu2 2 rfl (Yuy rfl) gn rfl<|Yu2 3 rfl (Yub Zcq rfl) gn rfl<|Yu2 4 rfl (Yub Yvf rfl) gn rfl<|Yu2 5 rfl (Yue 0 Ywb rfl rfl rfl) gn rfl<|Yu2 6 rfl (Yuo Za3 rfl h4087.hq) gn rfl<|Yu2 7 rfl (Yug rfl rfl rfl) gn rfl<|Yua 8 rfl ?_
    by_cases hp4665:x4066 < (x4081.length:Int)
    ·have h:=Yul hp4665 h
     refine Yv4 rfl _ rfl ((decide_eq_true hp4665))<|Yv2 rfl<|Yu9 rfl<|Yuw rfl<|Yu9 rfl<|Yu4 rfl rfl<|Yu2 0 rfl (Yu3 rfl) gn rfl<|Yu2 1 rfl (Yuy rfl) gn rfl<|Yu2 2 rfl (Yub Zcq rfl) gn rfl<|Yu2 3 rfl (Yub Yvf rfl) gn rfl<|Yu2 4 rfl (Yue 0 Ywb rfl rfl rfl) gn rfl<|Yu2 5 rfl (Yu3 rfl) gn rfl ?_
     obtain ⟨hb4666,h⟩:=h
     obtain ⟨ce4668,hK4669,hr4667⟩:=Rw.read (s:=Sm w.heap.size F sw4085 sb4086) h4087 hb4666
     obtain ⟨A4670,n4671,c4672,rfl,h4673⟩:=hK4669
     refine Yu2 6 rfl (Yv7 (s:=Sm w.heap.size F sw4085 sb4086) Yxh rfl rfl h4087 hb4666) gn rfl<|Yu2 7 rfl (Yvo Yw1 rfl) gn rfl<|Yu2 8 rfl (Yvj (kk:=(x4066:Int).toNat * 2) (j:=1) (Sm w.heap.size F sw4085 sb4086) Yyc rfl hr4667 rfl (me 2 rfl)) gn rfl<|Yu2 9 rfl (Yu7 rfl) gn rfl<|Yua 10 rfl<|Yu9 rfl<|Yu4 rfl rfl<|Yu2 0 rfl (Yu7 rfl) gn rfl<|Yua 1 rfl<|Yuw rfl<|Ywm rfl ?_
     have key3:∀ s,Yui (fun (s:(List Int) × Bool × Int × (List Yup) × (List Yvn) × (List Yuf) × (List Bool) × (List Int) × (List Int) × Int) o=>Yww x4081 x4066 s.1 s.2.1 s.2.2.1 s.2.2.2.1 s.2.2.2.2.1 s.2.2.2.2.2.1 s.2.2.2.2.2.2.1 s.2.2.2.2.2.2.2.1 s.2.2.2.2.2.2.2.2.1 s.2.2.2.2.2.2.2.2.2 o) s o2→(fun (s:(List Int) × Bool × Int × (List Yup) × (List Yvn) × (List Yuf) × (List Bool) × (List Int) × (List Int) × Int)=>∀ (h4842:Ow z33 A29 n30 c31 s.1) (A4846:Option Addr) (n4847:Nat) (c4848:Nat) (sw4849:World) (sb4850:List (List Nat)) (h4851:At Yuj (Sm w.heap.size F sw4849 sb4850) A4846 n4847 c4848 s.2.2.2.1) (A4853:Option Addr) (n4854:Nat) (c4855:Nat) (sw4856:World) (sb4857:List (List Nat)) (h4858:At Yuq (Sm w.heap.size F sw4856 sb4857) A4853 n4854 c4855 s.2.2.2.2.1) (A4860:Option Addr) (n4861:Nat) (c4862:Nat) (sw4863:World) (sb4864:List (List Nat)) (h4865:At Yun (Sm w.heap.size F sw4863 sb4864) A4860 n4861 c4862 s.2.2.2.2.2.1) (A4867:Option Addr) (n4868:Nat) (c4869:Nat) (sw4870:World) (sb4871:List (List Nat)) (h4872:At Yzi (Sm w.heap.size F sw4870 sb4871) A4867 n4868 c4869 s.2.2.2.2.2.2.1) (A4874:Option Addr) (n4875:Nat) (c4876:Nat) (sw4877:World) (sb4878:List (List Nat)) (h4879:At (Yw6 .u64) (Sm w.heap.size F sw4877 sb4878) A4874 n4875 c4876 s.2.2.2.2.2.2.2.1) (A4881:Option Addr) (n4882:Nat) (c4883:Nat) (sw4884:World) (sb4885:List (List Nat)) (h4886:At (Yw6 .i64) (Sm w.heap.size F sw4884 sb4885) A4881 n4882 c4883 s.2.2.2.2.2.2.2.2.1),G (Yvu w F g2 Tb3 A29 n30 c31 z33 r) [.code Zdf,.inLoop Zdf,.inBlock 4,.inBlock 3,.code Zgb,.inLoop Zcf,.inBlock 2,.inBlock 1,.inLoop Zdq,.inBlock 0,.code Zf2] [(0,.pointer (some ⟨g2,0,none⟩)),(1,.slice A29 n30 c31),(5,.bool s.2.1),(6,.int .i64 x4066),(7,.slice A4670 n4671 c4672),(8,.int .i64 s.2.2.1)] [.box g2 Tb3 [.slice A4846 n4847 c4848,.slice A4853 n4854 c4855,.slice A4860 n4861 c4862,.slice A4867 n4868 c4869,.slice A4874 n4875 c4876,.slice A4881 n4882 c4883,.int .i64 s.2.2.2.2.2.2.2.2.2],.own (.slice A29 n30 c31) 76 1 n30 (s.1.flatMap (eI .u64))] [Sm w.heap.size F sw4849 sb4850,Sm w.heap.size F sw4856 sb4857,Sm w.heap.size F sw4863 sb4864,Sm w.heap.size F sw4870 sb4871,Sm w.heap.size F sw4877 sb4878,Sm w.heap.size F sw4884 sb4885,Sm w.heap.size F sw4071 sb4072,Sm w.heap.size F sw4078 sb4079,Sm w.heap.size F sw4085 sb4086,Sm w.heap.size F sw4092 sb4093,Sm w.heap.size F sw4099 sb4100,Sm w.heap.size F sw4106 sb4107,Sm w.heap.size F sw1755 sb1756,Sm w.heap.size F sw1762 sb1763,Sm w.heap.size F sw1769 sb1770,Sm w.heap.size F sw1776 sb1777,Sm w.heap.size F sw1783 sb1784,Sm w.heap.size F sw1790 sb1791,Sm w.heap.size F w [[g2],(Value.slice A29 n30 c31).ownBlock.toList],St w [[g2],(Value.slice A29 n30 c31).ownBlock.toList]]) s:=by
      intro s hs
      refine Yui.ind (mot:=(fun (s:(List Int) × Bool × Int × (List Yup) × (List Yvn) × (List Yuf) × (List Bool) × (List Int) × (List Int) × Int)=>∀ (h4842:Ow z33 A29 n30 c31 s.1) (A4846:Option Addr) (n4847:Nat) (c4848:Nat) (sw4849:World) (sb4850:List (List Nat)) (h4851:At Yuj (Sm w.heap.size F sw4849 sb4850) A4846 n4847 c4848 s.2.2.2.1) (A4853:Option Addr) (n4854:Nat) (c4855:Nat) (sw4856:World) (sb4857:List (List Nat)) (h4858:At Yuq (Sm w.heap.size F sw4856 sb4857) A4853 n4854 c4855 s.2.2.2.2.1) (A4860:Option Addr) (n4861:Nat) (c4862:Nat) (sw4863:World) (sb4864:List (List Nat)) (h4865:At Yun (Sm w.heap.size F sw4863 sb4864) A4860 n4861 c4862 s.2.2.2.2.2.1) (A4867:Option Addr) (n4868:Nat) (c4869:Nat) (sw4870:World) (sb4871:List (List Nat)) (h4872:At Yzi (Sm w.heap.size F sw4870 sb4871) A4867 n4868 c4869 s.2.2.2.2.2.2.1) (A4874:Option Addr) (n4875:Nat) (c4876:Nat) (sw4877:World) (sb4878:List (List Nat)) (h4879:At (Yw6 .u64) (Sm w.heap.size F sw4877 sb4878) A4874 n4875 c4876 s.2.2.2.2.2.2.2.1) (A4881:Option Addr) (n4882:Nat) (c4883:Nat) (sw4884:World) (sb4885:List (List Nat)) (h4886:At (Yw6 .i64) (Sm w.heap.size F sw4884 sb4885) A4881 n4882 c4883 s.2.2.2.2.2.2.2.2.1),G (Yvu w F g2 Tb3 A29 n30 c31 z33 r) [.code Zdf,.inLoop Zdf,.inBlock 4,.inBlock 3,.code Zgb,.inLoop Zcf,.inBlock 2,.inBlock 1,.inLoop Zdq,.inBlock 0,.code Zf2] [(0,.pointer (some ⟨g2,0,none⟩)),(1,.slice A29 n30 c31),(5,.bool s.2.1),(6,.int .i64 x4066),(7,.slice A4670 n4671 c4672),(8,.int .i64 s.2.2.1)] [.box g2 Tb3 [.slice A4846 n4847 c4848,.slice A4853 n4854 c4855,.slice A4860 n4861 c4862,.slice A4867 n4868 c4869,.slice A4874 n4875 c4876,.slice A4881 n4882 c4883,.int .i64 s.2.2.2.2.2.2.2.2.2],.own (.slice A29 n30 c31) 76 1 n30 (s.1.flatMap (eI .u64))] [Sm w.heap.size F sw4849 sb4850,Sm w.heap.size F sw4856 sb4857,Sm w.heap.size F sw4863 sb4864,Sm w.heap.size F sw4870 sb4871,Sm w.heap.size F sw4877 sb4878,Sm w.heap.size F sw4884 sb4885,Sm w.heap.size F sw4071 sb4072,Sm w.heap.size F sw4078 sb4079,Sm w.heap.size F sw4085 sb4086,Sm w.heap.size F sw4092 sb4093,Sm w.heap.size F sw4099 sb4100,Sm w.heap.size F sw4106 sb4107,Sm w.heap.size F sw1755 sb1756,Sm w.heap.size F sw1762 sb1763,Sm w.heap.size F sw1769 sb1770,Sm w.heap.size F sw1776 sb1777,Sm w.heap.size F sw1783 sb1784,Sm w.heap.size F sw1790 sb1791,Sm w.heap.size F w [[g2],(Value.slice A29 n30 c31).ownBlock.toList],St w [[g2],(Value.slice A29 n30 c31).ownBlock.toList]])) ?_ hs
      clear hs s
      intro s o3 h hO3
      obtain ⟨x4841,x4843,x4844,x4845,x4852,x4859,x4866,x4873,x4880,x4887⟩:=s
      show ∀ (h4842:Ow z33 A29 n30 c31 x4841) (A4846:Option Addr) (n4847:Nat) (c4848:Nat) (sw4849:World) (sb4850:List (List Nat)) (h4851:At Yuj (Sm w.heap.size F sw4849 sb4850) A4846 n4847 c4848 x4845) (A4853:Option Addr) (n4854:Nat) (c4855:Nat) (sw4856:World) (sb4857:List (List Nat)) (h4858:At Yuq (Sm w.heap.size F sw4856 sb4857) A4853 n4854 c4855 x4852) (A4860:Option Addr) (n4861:Nat) (c4862:Nat) (sw4863:World) (sb4864:List (List Nat)) (h4865:At Yun (Sm w.heap.size F sw4863 sb4864) A4860 n4861 c4862 x4859) (A4867:Option Addr) (n4868:Nat) (c4869:Nat) (sw4870:World) (sb4871:List (List Nat)) (h4872:At Yzi (Sm w.heap.size F sw4870 sb4871) A4867 n4868 c4869 x4866) (A4874:Option Addr) (n4875:Nat) (c4876:Nat) (sw4877:World) (sb4878:List (List Nat)) (h4879:At (Yw6 .u64) (Sm w.heap.size F sw4877 sb4878) A4874 n4875 c4876 x4873) (A4881:Option Addr) (n4882:Nat) (c4883:Nat) (sw4884:World) (sb4885:List (List Nat)) (h4886:At (Yw6 .i64) (Sm w.heap.size F sw4884 sb4885) A4881 n4882 c4883 x4880),G (Yvu w F g2 Tb3 A29 n30 c31 z33 r) [.code Zdf,.inLoop Zdf,.inBlock 4,.inBlock 3,.code Zgb,.inLoop Zcf,.inBlock 2,.inBlock 1,.inLoop Zdq,.inBlock 0,.code Zf2] [(0,.pointer (some ⟨g2,0,none⟩)),(1,.slice A29 n30 c31),(5,.bool x4843),(6,.int .i64 x4066),(7,.slice A4670 n4671 c4672),(8,.int .i64 x4844)] [.box g2 Tb3 [.slice A4846 n4847 c4848,.slice A4853 n4854 c4855,.slice A4860 n4861 c4862,.slice A4867 n4868 c4869,.slice A4874 n4875 c4876,.slice A4881 n4882 c4883,.int .i64 x4887],.own (.slice A29 n30 c31) 76 1 n30 (x4841.flatMap (eI .u64))] [Sm w.heap.size F sw4849 sb4850,Sm w.heap.size F sw4856 sb4857,Sm w.heap.size F sw4863 sb4864,Sm w.heap.size F sw4870 sb4871,Sm w.heap.size F sw4877 sb4878,Sm w.heap.size F sw4884 sb4885,Sm w.heap.size F sw4071 sb4072,Sm w.heap.size F sw4078 sb4079,Sm w.heap.size F sw4085 sb4086,Sm w.heap.size F sw4092 sb4093,Sm w.heap.size F sw4099 sb4100,Sm w.heap.size F sw4106 sb4107,Sm w.heap.size F sw1755 sb1756,Sm w.heap.size F sw1762 sb1763,Sm w.heap.size F sw1769 sb1770,Sm w.heap.size F sw1776 sb1777,Sm w.heap.size F sw1783 sb1784,Sm w.heap.size F sw1790 sb1791,Sm w.heap.size F w [[g2],(Value.slice A29 n30 c31).ownBlock.toList],St w [[g2],(Value.slice A29 n30 c31).ownBlock.toList]]
      intro h4842 A4846 n4847 c4848 sw4849 sb4850 h4851 A4853 n4854 c4855 sw4856 sb4857 h4858 A4860 n4861 c4862 sw4863 sb4864 h4865 A4867 n4868 c4869 sw4870 sb4871 h4872 A4874 n4875 c4876 sw4877 sb4878 h4879 A4881 n4882 c4883 sw4884 sb4885 h4886
      have h:Yww x4081 x4066 x4841 x4843 x4844 x4845 x4852 x4859 x4866 x4873 x4880 x4887 o3:=h
      unfold Yww at h
      refine Yu9 rfl<|Yu9 rfl<|Yu4 rfl rfl<|Yu2 0 rfl (Yu3 rfl) gn rfl<|Yu2 1 rfl (Yu3 rfl) gn rfl<|Yu2 2 rfl (Yuo Za5 rfl h4673.hq) gn rfl<|Yu2 3 rfl (Yug rfl rfl rfl) gn rfl<|Yua 4 rfl ?_
      by_cases hp5054:x4844 < (((ix x4081 x4066).rhs).length:Int)
      ·have h:=Yul hp5054 h
       refine Yv4 rfl _ rfl ((decide_eq_true hp5054))<|Yv2 rfl<|Yu9 rfl<|Yuw rfl<|Yu9 rfl<|Yu4 rfl rfl<|Yu2 0 rfl (Yu3 rfl) gn rfl<|Yu2 1 rfl (Yu3 rfl) gn rfl<|Yu2 2 rfl (Yuy rfl) gn rfl<|Yu2 3 rfl (Yub Zdz rfl) gn rfl<|Yu2 4 rfl (Yue 0 Zew rfl rfl rfl) gn rfl<|Yu2 5 rfl (Yu3 rfl) gn rfl ?_
       obtain ⟨hb5055,h⟩:=h
       have hr5056:=Rw.readF (s:=Sm w.heap.size F sw4884 sb4885) (hl:=(hlI .i64)) (h1:=(Yya .i64)) h4886 hb5055
       refine Yu2 6 rfl (Yv7 (s:=Sm w.heap.size F sw4884 sb4885) Zfx rfl rfl h4886 hb5055) gn rfl<|Yu2 7 rfl (Yvj (kk:=(x4066:Int).toNat * 1) (j:=0) (Sm w.heap.size F sw4884 sb4885) Yvt rfl hr5056 rfl (me 5 rfl)) gn rfl<|Yu2 8 rfl (Yu3 rfl) gn rfl<|Yu2 9 rfl (Yug rfl rfl rfl) gn rfl ?_
       obtain ⟨hb5057,h⟩:=h
       refine Yu2 10 rfl (Yyn Zhu rfl rfl h4842 hb5057) gn rfl<|Yu2 11 rfl (Zbb (.int .u64 (ix x4841 (w64 ((ix x4880 x4066) + x4844)))) 1 Zdt rfl rfl (Zcj (hlI .u64) hb5057 rfl)) gn rfl<|Yu2 12 rfl (Yu7 rfl) gn rfl<|Yua 13 rfl<|Yu9 rfl<|Yu9 rfl ?_
       have j4:∀ (x5064:Bool) (h:Yyp x4841 x4843 x4844 x4845 x4852 x4859 x4866 x4873 x4880 x4887 x4081 x4066 x5064 o3) ,G (Yvu w F g2 Tb3 A29 n30 c31 z33 r) [.code q48c51,.code q48c49,.inBlock 5,.code Zkk,.inLoop Zdf,.inBlock 4,.inBlock 3,.code Zgb,.inLoop Zcf,.inBlock 2,.inBlock 1,.inLoop Zdq,.inBlock 0,.code Zf2] [(0,.pointer (some ⟨g2,0,none⟩)),(1,.slice A29 n30 c31),(5,.bool x4843),(6,.int .i64 x4066),(7,.slice A4670 n4671 c4672),(8,.int .i64 x4844),(9,.int .u64 (ix x4841 (w64 ((ix x4880 x4066) + x4844)))),(66,.bool x5064)] [.box g2 Tb3 [.slice A4846 n4847 c4848,.slice A4853 n4854 c4855,.slice A4860 n4861 c4862,.slice A4867 n4868 c4869,.slice A4874 n4875 c4876,.slice A4881 n4882 c4883,.int .i64 x4887],.own (.slice A29 n30 c31) 76 1 n30 (x4841.flatMap (eI .u64))] [Sm w.heap.size F sw4849 sb4850,Sm w.heap.size F sw4856 sb4857,Sm w.heap.size F sw4863 sb4864,Sm w.heap.size F sw4870 sb4871,Sm w.heap.size F sw4877 sb4878,Sm w.heap.size F sw4884 sb4885,Sm w.heap.size F sw4071 sb4072,Sm w.heap.size F sw4078 sb4079,Sm w.heap.size F sw4085 sb4086,Sm w.heap.size F sw4092 sb4093,Sm w.heap.size F sw4099 sb4100,Sm w.heap.size F sw4106 sb4107,Sm w.heap.size F sw1755 sb1756,Sm w.heap.size F sw1762 sb1763,Sm w.heap.size F sw1769 sb1770,Sm w.heap.size F sw1776 sb1777,Sm w.heap.size F sw1783 sb1784,Sm w.heap.size F sw1790 sb1791,Sm w.heap.size F w [[g2],(Value.slice A29 n30 c31).ownBlock.toList],St w [[g2],(Value.slice A29 n30 c31).ownBlock.toList]]:=by
        intro x5064 h
        unfold Yyp at h
        by_cases hp5065:x5064=true
        ·have h:=Yul hp5065 h
         refine Yv4 rfl _ rfl (hp5065)<|Ywa [.code Zkk,.inLoop Zdf,.inBlock 4,.inBlock 3,.code Zgb,.inLoop Zcf,.inBlock 2,.inBlock 1,.inLoop Zdq,.inBlock 0,.code Zf2] rfl rfl<|Yu4 rfl rfl<|Yu2 0 rfl (Yu3 rfl) gn rfl<|Yu2 1 rfl (Yug rfl rfl rfl) gn rfl<|Yu2 2 rfl (Yu7 rfl) gn rfl<|Yua 3 rfl<|Yv1 ?_
         have ih:=Out.inl hO3 h
         exact Yvh [0,1,2,3,4,5,6,7,8,9,10,11,12,13,14,15,16,17,18,19] (ih h4842 A4846 n4847 c4848 sw4849 sb4850 h4851 A4853 n4854 c4855 sw4856 sb4857 h4858 A4860 n4861 c4862 sw4863 sb4864 h4865 A4867 n4868 c4869 sw4870 sb4871 h4872 A4874 n4875 c4876 sw4877 sb4878 h4879 A4881 n4882 c4883 sw4884 sb4885 h4886) ⟨rfl,rfl,rfl,rfl,rfl,rfl,trivial⟩ (.cons_cons _ (.cons_cons _ (.slnil))) rfl
        ·have h:=Yum hp5065 h
         refine Yur rfl _ rfl ((bf hp5065))<|Yv2 rfl<|Yu9 rfl<|Yu4 rfl rfl<|Yu2 0 rfl (Yu3 rfl) gn rfl<|Yu2 1 rfl (Yu3 rfl) gn rfl<|Yu2 2 rfl (Yu3 rfl) gn rfl<|Yu2 3 rfl (Yug rfl rfl rfl) gn rfl ?_
         obtain ⟨hb5066,h⟩:=h
         have h5067:=Rw.cut (sz:=3) (lv:=w64 (x4844 + 1)) (hv:=((n4671:Nat):Int)) (mv:=((c4672:Nat):Int)) h4673 rfl (by have q:=hb5066; have q1:=h4673.hq; have q2:=h4673.hn; omega) (by have q:=hb5066; have q1:=h4673.hq; have q2:=h4673.hn; omega) (by have q:=hb5066; have q1:=h4673.hq; have q2:=h4673.hn; omega)
         rw [cut_all h4673.hq] at h5067
         refine Yu2 4 rfl (v_cut (sz:=3) (n:=n4671) (c:=c4672) (w64 (x4844 + 1)) ((n4671:Nat):Int) ((c4672:Nat):Int) Yz5 rfl (by_ rfl) bn bn (by have q:=hb5066; have q1:=h4673.hq; have q2:=h4673.hn; omega) (by have q:=hb5066; have q1:=h4673.hq; have q2:=h4673.hn; omega) (by have q:=hb5066; have q1:=h4673.hq; have q2:=h4673.hn; omega) h4673.hn rfl) gn rfl<|Yu2 5 rfl (Yu3 rfl) gn rfl ?_
         obtain ⟨r5071,hv5072,h⟩:=h
         refine Yve 6 rfl (Yvz [.pointer (some ⟨g2,0,none⟩),.slice (if (((c4672:Nat):Int):Int).toNat=(w64 (x4844 + 1):Int).toNat then A4670 else A4670.map (·.add ((w64 (x4844 + 1):Int).toNat * 3))) ((((n4671:Nat):Int):Int).toNat - (w64 (x4844 + 1):Int).toNat) ((((c4672:Nat):Int):Int).toNat - (w64 (x4844 + 1):Int).toNat),.int .u64 (ix x4841 (w64 ((ix x4880 x4066) + x4844)))] rfl Tryd.func66 rfl rfl rfl fun w5068 hL5069=>?_) gn
         have hp5070:=pmI hL5069 (.c 0 rfl .n) (.c 1 rfl .n) (by kernel_rfl)
         refine Calls.mono (Zfo w5068 (Fl ([Sm w.heap.size F sw4849 sb4850,Sm w.heap.size F sw4856 sb4857,Sm w.heap.size F sw4863 sb4864,Sm w.heap.size F sw4870 sb4871,Sm w.heap.size F sw4877 sb4878,Sm w.heap.size F sw4884 sb4885]:List Yva)) (⟨(⟨x4845,x4852,x4859⟩:Yu5),x4866,x4873,x4880,x4887⟩:Yuc) (((ix x4081 x4066).rhs).drop (w64 (x4844 + 1):Int).toNat) (ix x4841 (w64 ((ix x4880 x4066) + x4844))) g2 Tb3 A4846 n4847 c4848 A4853 n4854 c4855 A4860 n4861 c4862 A4867 n4868 c4869 A4874 n4875 c4876 A4881 n4882 c4883 (if (((c4672:Nat):Int):Int).toNat=(w64 (x4844 + 1):Int).toNat then A4670 else A4670.map (·.add ((w64 (x4844 + 1):Int).toNat * 3))) ((((n4671:Nat):Int):Int).toNat - (w64 (x4844 + 1):Int).toNat) ((((c4672:Nat):Int):Int).toNat - (w64 (x4844 + 1):Int).toNat) (Rw.mono h4851 (hL5069.toFl (me 0 rfl) (me 0 rfl))) (Rw.mono h4858 (hL5069.toFl (me 1 rfl) (me 1 rfl))) (Rw.mono h4865 (hL5069.toFl (me 2 rfl) (me 2 rfl))) (Rw.mono h4872 (hL5069.toFl (me 3 rfl) (me 3 rfl))) (Rw.mono h4879 (hL5069.toFl (me 4 rfl) (me 4 rfl))) (Rw.mono h4886 (hL5069.toFl (me 5 rfl) (me 5 rfl))) (Rw.mono h5067 (hL5069.toSt hp5070 (me 8 rfl))) (hL5069.hFl hp5070 (Yvm [0,1,2,3,4,5] rfl)) (hL5069.into hp5070 _) r5071 hv5072) ?_
         rintro _ w5097 ⟨A5073,n5074,c5075,A5077,n5078,c5079,A5081,n5082,c5083,A5085,n5086,c5087,A5089,n5090,c5091,A5093,n5094,c5095,rfl,hM5098,h5076,h5080,h5084,h5088,h5092,h5096⟩
         obtain ⟨sb5101,hL5099,hv5100⟩:=hL5069.callB (Sl:=([Sm w.heap.size F sw4849 sb4850,Sm w.heap.size F sw4856 sb4857,Sm w.heap.size F sw4863 sb4864,Sm w.heap.size F sw4870 sb4871,Sm w.heap.size F sw4877 sb4878,Sm w.heap.size F sw4884 sb4885]:List Yva)) hp5070 hM5098 F (Yvm [0,1,2,3,4,5] rfl) ⟨Sm.ok,Sm.ok,Sm.ok,Sm.ok,Sm.ok,Sm.ok,trivial⟩
         have h5076:At Yuj (Sm w.heap.size F w5097 sb5101) A5073 n5074 c5075 r5071.2.g.terms:=Rw.mono h5076 hv5100
         have h5080:At Yuq (Sm w.heap.size F w5097 sb5101) A5077 n5078 c5079 r5071.2.g.syms:=Rw.mono h5080 hv5100
         have h5084:At Yun (Sm w.heap.size F w5097 sb5101) A5081 n5082 c5083 r5071.2.g.prods:=Rw.mono h5084 hv5100
         have h5088:At Yzi (Sm w.heap.size F w5097 sb5101) A5085 n5086 c5087 r5071.2.none:=Rw.mono h5088 hv5100
         have h5092:At (Yw6 .u64) (Sm w.heap.size F w5097 sb5101) A5089 n5090 c5091 r5071.2.first:=Rw.mono h5092 hv5100
         have h5096:At (Yw6 .i64) (Sm w.heap.size F w5097 sb5101) A5093 n5094 c5095 r5071.2.at_:=Rw.mono h5096 hv5100
         refine ⟨_,_,_,rfl,hL5099,?_⟩
         refine Yu2 7 rfl (Yu7 rfl) gn rfl<|Yua 8 rfl<|Yu9 rfl<|Yu4 rfl rfl<|Yu2 0 rfl (Yu7 rfl) gn rfl<|Yua 1 rfl<|Yuw rfl<|Ywm rfl ?_
         have key5:∀ s,Yui (fun (s:(List Int) × Bool × Int) o=>Ywe r5071 x4844 x4081 x4066 s.1 s.2.1 s.2.2 o) s o3→(fun (s:(List Int) × Bool × Int)=>∀ (h5140:Ow z33 A29 n30 c31 s.1),G (Yvu w F g2 Tb3 A29 n30 c31 z33 r) [.code Zi1,.inLoop Zi1,.inBlock 6,.inBlock 5,.code Zkk,.inLoop Zdf,.inBlock 4,.inBlock 3,.code Zgb,.inLoop Zcf,.inBlock 2,.inBlock 1,.inLoop Zdq,.inBlock 0,.code Zf2] [(0,.pointer (some ⟨g2,0,none⟩)),(1,.slice A29 n30 c31),(5,.bool s.2.1),(6,.int .i64 x4066),(7,.slice A4670 n4671 c4672),(8,.int .i64 x4844),(10,.int .u64 r5071.1),(11,.int .i64 s.2.2)] [.box g2 Tb3 [.slice A5073 n5074 c5075,.slice A5077 n5078 c5079,.slice A5081 n5082 c5083,.slice A5085 n5086 c5087,.slice A5089 n5090 c5091,.slice A5093 n5094 c5095,.int .i64 r5071.2.dots],.own (.slice A29 n30 c31) 76 1 n30 (s.1.flatMap (eI .u64))] [Sm w.heap.size F w5097 sb5101,Sm w.heap.size F sw4849 sb4850,Sm w.heap.size F sw4856 sb4857,Sm w.heap.size F sw4863 sb4864,Sm w.heap.size F sw4870 sb4871,Sm w.heap.size F sw4877 sb4878,Sm w.heap.size F sw4884 sb4885,Sm w.heap.size F sw4071 sb4072,Sm w.heap.size F sw4078 sb4079,Sm w.heap.size F sw4085 sb4086,Sm w.heap.size F sw4092 sb4093,Sm w.heap.size F sw4099 sb4100,Sm w.heap.size F sw4106 sb4107,Sm w.heap.size F sw1755 sb1756,Sm w.heap.size F sw1762 sb1763,Sm w.heap.size F sw1769 sb1770,Sm w.heap.size F sw1776 sb1777,Sm w.heap.size F sw1783 sb1784,Sm w.heap.size F sw1790 sb1791,Sm w.heap.size F w [[g2],(Value.slice A29 n30 c31).ownBlock.toList],St w [[g2],(Value.slice A29 n30 c31).ownBlock.toList]]) s:=by
          intro s hs
          refine Yui.ind (mot:=(fun (s:(List Int) × Bool × Int)=>∀ (h5140:Ow z33 A29 n30 c31 s.1),G (Yvu w F g2 Tb3 A29 n30 c31 z33 r) [.code Zi1,.inLoop Zi1,.inBlock 6,.inBlock 5,.code Zkk,.inLoop Zdf,.inBlock 4,.inBlock 3,.code Zgb,.inLoop Zcf,.inBlock 2,.inBlock 1,.inLoop Zdq,.inBlock 0,.code Zf2] [(0,.pointer (some ⟨g2,0,none⟩)),(1,.slice A29 n30 c31),(5,.bool s.2.1),(6,.int .i64 x4066),(7,.slice A4670 n4671 c4672),(8,.int .i64 x4844),(10,.int .u64 r5071.1),(11,.int .i64 s.2.2)] [.box g2 Tb3 [.slice A5073 n5074 c5075,.slice A5077 n5078 c5079,.slice A5081 n5082 c5083,.slice A5085 n5086 c5087,.slice A5089 n5090 c5091,.slice A5093 n5094 c5095,.int .i64 r5071.2.dots],.own (.slice A29 n30 c31) 76 1 n30 (s.1.flatMap (eI .u64))] [Sm w.heap.size F w5097 sb5101,Sm w.heap.size F sw4849 sb4850,Sm w.heap.size F sw4856 sb4857,Sm w.heap.size F sw4863 sb4864,Sm w.heap.size F sw4870 sb4871,Sm w.heap.size F sw4877 sb4878,Sm w.heap.size F sw4884 sb4885,Sm w.heap.size F sw4071 sb4072,Sm w.heap.size F sw4078 sb4079,Sm w.heap.size F sw4085 sb4086,Sm w.heap.size F sw4092 sb4093,Sm w.heap.size F sw4099 sb4100,Sm w.heap.size F sw4106 sb4107,Sm w.heap.size F sw1755 sb1756,Sm w.heap.size F sw1762 sb1763,Sm w.heap.size F sw1769 sb1770,Sm w.heap.size F sw1776 sb1777,Sm w.heap.size F sw1783 sb1784,Sm w.heap.size F sw1790 sb1791,Sm w.heap.size F w [[g2],(Value.slice A29 n30 c31).ownBlock.toList],St w [[g2],(Value.slice A29 n30 c31).ownBlock.toList]])) ?_ hs
          clear hs s
          intro s o4 h hO4
          obtain ⟨x5139,x5141,x5142⟩:=s
          show ∀ (h5140:Ow z33 A29 n30 c31 x5139),G (Yvu w F g2 Tb3 A29 n30 c31 z33 r) [.code Zi1,.inLoop Zi1,.inBlock 6,.inBlock 5,.code Zkk,.inLoop Zdf,.inBlock 4,.inBlock 3,.code Zgb,.inLoop Zcf,.inBlock 2,.inBlock 1,.inLoop Zdq,.inBlock 0,.code Zf2] [(0,.pointer (some ⟨g2,0,none⟩)),(1,.slice A29 n30 c31),(5,.bool x5141),(6,.int .i64 x4066),(7,.slice A4670 n4671 c4672),(8,.int .i64 x4844),(10,.int .u64 r5071.1),(11,.int .i64 x5142)] [.box g2 Tb3 [.slice A5073 n5074 c5075,.slice A5077 n5078 c5079,.slice A5081 n5082 c5083,.slice A5085 n5086 c5087,.slice A5089 n5090 c5091,.slice A5093 n5094 c5095,.int .i64 r5071.2.dots],.own (.slice A29 n30 c31) 76 1 n30 (x5139.flatMap (eI .u64))] [Sm w.heap.size F w5097 sb5101,Sm w.heap.size F sw4849 sb4850,Sm w.heap.size F sw4856 sb4857,Sm w.heap.size F sw4863 sb4864,Sm w.heap.size F sw4870 sb4871,Sm w.heap.size F sw4877 sb4878,Sm w.heap.size F sw4884 sb4885,Sm w.heap.size F sw4071 sb4072,Sm w.heap.size F sw4078 sb4079,Sm w.heap.size F sw4085 sb4086,Sm w.heap.size F sw4092 sb4093,Sm w.heap.size F sw4099 sb4100,Sm w.heap.size F sw4106 sb4107,Sm w.heap.size F sw1755 sb1756,Sm w.heap.size F sw1762 sb1763,Sm w.heap.size F sw1769 sb1770,Sm w.heap.size F sw1776 sb1777,Sm w.heap.size F sw1783 sb1784,Sm w.heap.size F sw1790 sb1791,Sm w.heap.size F w [[g2],(Value.slice A29 n30 c31).ownBlock.toList],St w [[g2],(Value.slice A29 n30 c31).ownBlock.toList]]
          intro h5140
          have h:Ywe r5071 x4844 x4081 x4066 x5139 x5141 x5142 o4:=h
          unfold Ywe at h
          refine Yu9 rfl<|Yu9 rfl<|Yu4 rfl rfl<|Yu2 0 rfl (Yu3 rfl) gn rfl<|Yu2 1 rfl (Yu3 rfl) gn rfl<|Yu2 2 rfl (Yuy rfl) gn rfl<|Yu2 3 rfl (Yub Zcq rfl) gn rfl<|Yu2 4 rfl (Yub Yvf rfl) gn rfl<|Yu2 5 rfl (Yue 0 Ywb rfl rfl rfl) gn rfl<|Yu2 6 rfl (Yuo Za3 rfl h5084.hq) gn rfl<|Yu2 7 rfl (Yug rfl rfl rfl) gn rfl<|Yua 8 rfl ?_
          by_cases hp5179:x5142 < (r5071.2.g.prods.length:Int)
          ·have h:=Yul hp5179 h
           refine Yv4 rfl _ rfl ((decide_eq_true hp5179))<|Yv2 rfl<|Yu9 rfl<|Yuw rfl<|Yu9 rfl<|Yu9 rfl ?_
           obtain ⟨hb5180,h⟩:=h
           obtain ⟨hb5188,h⟩:=h
           have hns:Region.noSelect (Code.ops q48c71)=true:=by kernel_rfl
           refine Yvr [] 22 rfl rfl mix rfl (.c 0 rfl (.c 1 rfl (.c 2 rfl (.c 3 rfl (.c 4 rfl (.c 5 rfl (.c 6 rfl (.c 7 rfl (.c 8 rfl (.c 9 rfl (.c 10 rfl (.c 11 rfl (.c 12 rfl (.c 13 rfl (.c 14 rfl (.c 15 rfl (.c 16 rfl (.c 17 rfl (.c 18 rfl (.c 19 rfl (.c 20 rfl .n)))))))))))))))))))))<|wfv 0 rfl (Yu3 rfl) gn hns rfl<|wfv 1 rfl (Yuy rfl) gn hns rfl<|wfv 2 rfl (Yub Zcq rfl) gn hns rfl<|wfv 3 rfl (Yub Yvf rfl) gn hns rfl<|wfv 4 rfl (Yue 0 Ywb rfl rfl rfl) gn hns rfl<|wfv 5 rfl (Yu3 rfl) gn hns rfl ?_
           obtain ⟨ce5199,hK5200,hr5198⟩:=Rw.read (s:=Sm w.heap.size F w5097 sb5101) h5084 hb5180
           obtain ⟨A5201,n5202,c5203,rfl,h5204⟩:=hK5200
           refine wfv 6 rfl (Yv7 (s:=Sm w.heap.size F w5097 sb5101) Yxh rfl rfl h5084 hb5180) gn hns rfl<|wfv 7 rfl (Yvo Yx3 rfl) gn hns rfl<|wfv 8 rfl (Yvj (kk:=(x5142:Int).toNat * 2) (j:=0) (Sm w.heap.size F w5097 sb5101) Yvt rfl hr5198 rfl (me 0 rfl)) gn hns rfl<|wfv 9 rfl (Yu3 rfl) gn hns rfl<|wfv 10 rfl (Yuy rfl) gn hns rfl<|wfv 11 rfl (Yub Zcq rfl) gn hns rfl<|wfv 12 rfl (Yub Yw7 rfl) gn hns rfl<|wfv 13 rfl (Yue 0 Yz4 rfl rfl rfl) gn hns rfl<|wfv 14 rfl (Yuo Yze rfl h5076.hq) gn hns rfl<|wfv 15 rfl (Yug rfl rfl rfl) gn hns rfl<|wfv 16 rfl (Yu3 rfl) gn hns rfl<|wfv 17 rfl (Yu3 rfl) gn hns rfl ?_
           have hr5205:=Rw.readF (s:=Sm w.heap.size F sw4085 sb4086) (hl:=Yvw) (h1:=Yvy) h4673 hb5188
           refine wfv 18 rfl (Yv7 (s:=Sm w.heap.size F sw4085 sb4086) Yz5 rfl rfl h4673 hb5188) gn hns rfl<|wfv 19 rfl (Yvo Yyd rfl) gn hns rfl<|wfv 20 rfl (Yvj (kk:=(x4844:Int).toNat * 3) (j:=0) (Sm w.heap.size F sw4085 sb4086) Yvt rfl hr5205 rfl (me 9 rfl)) gn hns rfl<|wfv 21 rfl (Yug rfl rfl rfl) gn hns rfl<|Yvx (by kernel_rfl) ?_
           by_cases hp5206:w64 (((ix r5071.2.g.prods x5142).lhs) + (r5071.2.g.terms.length:Int))=(ix ((ix x4081 x4066).rhs) x4844).sym
           ·have h:=Yul hp5206 h
            refine Yur rfl _ rfl ((Zgg hp5206))<|Yv2 rfl<|Yu9 rfl<|Yu4 rfl rfl<|Yu2 0 rfl (Yu3 rfl) gn rfl<|Yu2 1 rfl (Yu3 rfl) gn rfl<|Yu2 2 rfl (Yuy rfl) gn rfl<|Yu2 3 rfl (Yub Zdz rfl) gn rfl<|Yu2 4 rfl (Yue 0 Zew rfl rfl rfl) gn rfl<|Yu2 5 rfl (Yu3 rfl) gn rfl ?_
            obtain ⟨hb5207,h⟩:=h
            have hr5208:=Rw.readF (s:=Sm w.heap.size F w5097 sb5101) (hl:=(hlI .i64)) (h1:=(Yya .i64)) h5096 hb5207
            refine Yu2 6 rfl (Yv7 (s:=Sm w.heap.size F w5097 sb5101) Zfx rfl rfl h5096 hb5207) gn rfl<|Yu2 7 rfl (Yvj (kk:=(x5142:Int).toNat * 1) (j:=0) (Sm w.heap.size F w5097 sb5101) Yvt rfl hr5208 rfl (me 0 rfl)) gn rfl ?_
            obtain ⟨hb5209,h⟩:=h
            refine Yu2 8 rfl (Yyn Zhu rfl rfl h5140 hb5209) gn rfl<|Yu2 9 rfl (Zbb (.int .u64 (ix x5139 (ix r5071.2.at_ x5142))) 1 Zdt rfl rfl (Zcj (hlI .u64) hb5209 rfl)) gn rfl<|Yu2 10 rfl (Yu7 rfl) gn rfl<|Yua 11 rfl<|Yu9 rfl<|Yu4 rfl rfl<|Yu2 0 rfl (Yu3 rfl) gn rfl<|Yu2 1 rfl (Yu3 rfl) gn rfl<|Yu2 2 rfl (Yuy rfl) gn rfl<|Yu2 3 rfl (Yub Zdz rfl) gn rfl<|Yu2 4 rfl (Yue 0 Zew rfl rfl rfl) gn rfl<|Yu2 5 rfl (Yu3 rfl) gn rfl ?_
            have hr5210:=Rw.readF (s:=Sm w.heap.size F w5097 sb5101) (hl:=(hlI .i64)) (h1:=(Yya .i64)) h5096 hb5207
            refine Yu2 6 rfl (Yv7 (s:=Sm w.heap.size F w5097 sb5101) Zfx rfl rfl h5096 hb5207) gn rfl<|Yu2 7 rfl (Yvj (kk:=(x5142:Int).toNat * 1) (j:=0) (Sm w.heap.size F w5097 sb5101) Yvt rfl hr5210 rfl (me 0 rfl)) gn rfl<|Yu2 8 rfl (Yu3 rfl) gn rfl<|Yu2 9 rfl (Yu3 rfl) gn rfl<|Yu2 10 rfl (Yug rfl rfl rfl) gn rfl<|Yu2 11 rfl (Yyn Zhu rfl rfl h5140 hb5209) gn rfl ?_
            obtain ⟨x5211,hv5212,h⟩:=h
            refine Yve 12 rfl (Zgm (enc:=(eI .u64)) (o:=0) (z:=(bits .or .u64 (ix x5139 (ix r5071.2.at_ x5142)) r5071.1)) (vs:=[.int .u64 (bits .or .u64 (ix x5139 (ix r5071.2.at_ x5142)) r5071.1)]) (i:=(ix r5071.2.at_ x5142)) 1 (hlI .u64) Zjs rfl rfl rfl rfl rfl h5140 hb5209 rfl rfl rfl hv5212 fun h5213=>?_) gn
            refine Yua 13 rfl<|Yu4 rfl rfl<|Yu2 0 rfl (Yu3 rfl) gn rfl<|Yu2 1 rfl (Yu3 rfl) gn rfl ?_
            by_cases hp5214:x5141=true
            ·have h:=Yul hp5214 h
             refine Yvi 129 rfl (hp5214)<|Yu6 2 rfl (ps 129 rfl rfl rfl)<|Yu6 3 rfl (ps 129 rfl rfl rfl)<|Yu6 4 rfl (ps 129 rfl rfl rfl)<|Yu6 5 rfl (ps 129 rfl rfl rfl)<|Yu6 6 rfl (ps 129 rfl rfl rfl)<|Yu2 7 rfl (Yuk (b:=true) rfl rfl) gn rfl<|Yu2 8 rfl (Yu7 rfl) gn rfl<|Yua 9 rfl<|Yux<|Yu4 rfl rfl<|Yu2 0 rfl (Yu3 rfl) gn rfl ?_
             refine Yu2 1 rfl (Yug rfl rfl rfl) gn rfl<|Yu2 2 rfl (Yu7 rfl) gn rfl<|Yua 3 rfl<|Yv1 ?_
             have ih:=Out.inl hO4 h
             exact Yvh [0,1,2,3,4,5,6,7,8,9,10,11,12,13,14,15,16,17,18,19,20] (ih h5213) ⟨rfl,rfl,rfl,rfl,rfl,rfl,rfl,rfl,trivial⟩ (.cons_cons _ (.cons_cons _ (.slnil))) rfl
            ·have h:=Yum hp5214 h
             refine Yvi 129 rfl ((bf hp5214))<|Yu2 2 rfl (Yu3 rfl) (gy 129 rfl rfl) rfl<|Yu2 3 rfl (Yu3 rfl) (gy 129 rfl rfl) rfl<|Yu2 4 rfl (Yug rfl rfl rfl) (gy 129 rfl rfl) rfl<|Yu2 5 rfl (Yu3 rfl) (gy 129 rfl rfl) rfl<|Yu2 6 rfl (Yug rfl rfl rfl) (gy 129 rfl rfl) rfl<|Yu2 7 rfl (Yuk (b:=false) rfl rfl) gn rfl<|Yu2 8 rfl (Yu7 rfl) gn rfl<|Yua 9 rfl<|Yux<|Yu4 rfl rfl<|Yu2 0 rfl (Yu3 rfl) gn rfl ?_
             refine Yu2 1 rfl (Yug rfl rfl rfl) gn rfl<|Yu2 2 rfl (Yu7 rfl) gn rfl<|Yua 3 rfl<|Yv1 ?_
             have ih:=Out.inl hO4 h
             exact Yvh [0,1,2,3,4,5,6,7,8,9,10,11,12,13,14,15,16,17,18,19,20] (ih h5213) ⟨rfl,rfl,rfl,rfl,rfl,rfl,rfl,rfl,trivial⟩ (.cons_cons _ (.cons_cons _ (.slnil))) rfl
           ·have h:=Yum hp5206 h
            refine Yv4 rfl _ rfl ((Zkm hp5206))<|Ywa [.code q48c67,.inLoop Zi1,.inBlock 6,.inBlock 5,.code Zkk,.inLoop Zdf,.inBlock 4,.inBlock 3,.code Zgb,.inLoop Zcf,.inBlock 2,.inBlock 1,.inLoop Zdq,.inBlock 0,.code Zf2] rfl rfl<|Yu4 rfl rfl<|Yu2 0 rfl (Yu3 rfl) gn rfl<|Yu2 1 rfl (Yug rfl rfl rfl) gn rfl<|Yu2 2 rfl (Yu7 rfl) gn rfl<|Yua 3 rfl<|Yv1 ?_
            have ih:=Out.inl hO4 h
            exact Yvh [0,1,2,3,4,5,6,7,8,9,10,11,12,13,14,15,16,17,18,19,20] (ih h5140) ⟨rfl,rfl,rfl,rfl,rfl,rfl,rfl,rfl,trivial⟩ (.cons_cons _ (.cons_cons _ (.slnil))) rfl
          ·have h:=Yum hp5179 h
           refine Yur rfl _ rfl ((decide_eq_false hp5179))<|Ywa [.inBlock 5,.code Zkk,.inLoop Zdf,.inBlock 4,.inBlock 3,.code Zgb,.inLoop Zcf,.inBlock 2,.inBlock 1,.inLoop Zdq,.inBlock 0,.code Zf2] rfl rfl<|Yux<|Yu4 rfl rfl<|Yu2 0 rfl (Yu3 rfl) gn rfl<|Yu2 1 rfl (Yug rfl rfl rfl) gn rfl<|Yu2 2 rfl (Yu7 rfl) gn rfl<|Yua 3 rfl<|Yv1 ?_
           have h:=Out.inr hO4 h
           have ih:=Out.inl hO3 h
           exact Yvh [0,0,0,0,0,0,7,8,9,10,11,12,13,14,15,16,17,18,19,20] (ih h5140 A5073 n5074 c5075 w5097 sb5101 h5076 A5077 n5078 c5079 w5097 sb5101 h5080 A5081 n5082 c5083 w5097 sb5101 h5084 A5085 n5086 c5087 w5097 sb5101 h5088 A5089 n5090 c5091 w5097 sb5101 h5092 A5093 n5094 c5095 w5097 sb5101 h5096) ⟨rfl,rfl,rfl,rfl,rfl,rfl,trivial⟩ (.cons_cons _ (.cons_cons _ (.slnil))) rfl
         exact Yvh [0,1,2,3,4,5,6,7,8,9,10,11,12,13,14,15,16,17,18,19,20] (key5 _ h h4842) ⟨rfl,rfl,rfl,rfl,rfl,rfl,rfl,rfl,trivial⟩ (.cons_cons _ (.cons_cons _ (.slnil))) rfl
       by_cases hp5215:ix x4841 (w64 ((ix x4880 x4066) + x4844))=0
       ·have h:=Yul hp5215 h
        have hns:Region.noSelect (Code.ops q48c50)=true:=by kernel_rfl
        refine Yvr [] 16 rfl rfl mix rfl (.c 0 rfl (.c 1 rfl (.c 2 rfl (.c 3 rfl (.c 4 rfl (.c 5 rfl (.c 6 rfl (.c 7 rfl (.c 8 rfl (.c 9 rfl (.c 10 rfl (.c 11 rfl (.c 12 rfl (.c 13 rfl (.c 14 rfl (.c 15 rfl (.c 16 rfl (.c 17 rfl (.c 18 rfl (.c 19 rfl .n))))))))))))))))))))<|wfv 0 rfl (Yu3 rfl) gn hns rfl<|wfv 1 rfl (Yug rfl rfl rfl) gn hns rfl<|wfv 2 rfl (Yu3 rfl) gn hns rfl<|Yv8 53 rfl ((eqi hp5215))<|wfp 3 rfl (ps 53 rfl rfl rfl) hns rfl<|wfp 4 rfl (ps 53 rfl rfl rfl) hns rfl<|wfp 5 rfl (ps 53 rfl rfl rfl) hns rfl<|wfp 6 rfl (ps 53 rfl rfl rfl) hns rfl<|wfp 7 rfl (ps 53 rfl rfl rfl) hns rfl<|wfp 8 rfl (ps 53 rfl rfl rfl) hns rfl<|wfp 9 rfl (ps 53 rfl rfl rfl) hns rfl ?_
        refine wfp 10 rfl (ps 53 rfl rfl rfl) hns rfl<|wfp 11 rfl (ps 53 rfl rfl rfl) hns rfl<|wfp 12 rfl (ps 53 rfl rfl rfl) hns rfl<|wfp 13 rfl (ps 53 rfl rfl rfl) hns rfl<|wfp 14 rfl (ps 53 rfl rfl rfl) hns rfl<|wfv 15 rfl (Yuk (b:=true) rfl rfl) gn hns rfl<|Yvx (by kernel_rfl) ?_
        exact Yvh [0,1,2,3,4,5,6,7,8,9,10,11,12,13,14,15,16,17,18,19] (j4 true h) ⟨rfl,rfl,rfl,rfl,rfl,rfl,rfl,rfl,trivial⟩ (.cons_cons _ (.cons_cons _ (.slnil))) rfl
       ·have h:=Yum hp5215 h
        obtain ⟨hb5216,h⟩:=h
        have hns:Region.noSelect (Code.ops q48c50)=true:=by kernel_rfl
        refine Yvr [] 16 rfl rfl mix rfl (.c 0 rfl (.c 1 rfl (.c 2 rfl (.c 3 rfl (.c 4 rfl (.c 5 rfl (.c 6 rfl (.c 7 rfl (.c 8 rfl (.c 9 rfl (.c 10 rfl (.c 11 rfl (.c 12 rfl (.c 13 rfl (.c 14 rfl (.c 15 rfl (.c 16 rfl (.c 17 rfl (.c 18 rfl (.c 19 rfl .n))))))))))))))))))))<|wfv 0 rfl (Yu3 rfl) gn hns rfl<|wfv 1 rfl (Yug rfl rfl rfl) gn hns rfl<|wfv 2 rfl (Yu3 rfl) gn hns rfl<|Yv8 53 rfl ((nei hp5215))<|wfv 3 rfl (Yu3 rfl) (gy 53 rfl rfl) hns rfl<|wfv 4 rfl (Yu3 rfl) (gy 53 rfl rfl) hns rfl ?_
        have hr5219:=Rw.readF (s:=Sm w.heap.size F sw4085 sb4086) (hl:=Yvw) (h1:=Yvy) h4673 hb5216
        refine wfv 5 rfl (Yv7 (s:=Sm w.heap.size F sw4085 sb4086) Yz5 rfl rfl h4673 hb5216) (gy 53 rfl rfl) hns rfl<|wfv 6 rfl (Yvo Yyd rfl) (gy 53 rfl rfl) hns rfl<|wfv 7 rfl (Yvj (kk:=(x4844:Int).toNat * 3) (j:=0) (Sm w.heap.size F sw4085 sb4086) Yvt rfl hr5219 rfl (me 8 rfl)) (gy 53 rfl rfl) hns rfl<|wfv 8 rfl (Yu3 rfl) (gy 53 rfl rfl) hns rfl<|wfv 9 rfl (Yuy rfl) (gy 53 rfl rfl) hns rfl<|wfv 10 rfl (Yub Zcq rfl) (gy 53 rfl rfl) hns rfl<|wfv 11 rfl (Yub Yw7 rfl) (gy 53 rfl rfl) hns rfl<|wfv 12 rfl (Yue 0 Yz4 rfl rfl rfl) (gy 53 rfl rfl) hns rfl<|wfv 13 rfl (Yuo Yze rfl h4851.hq) (gy 53 rfl rfl) hns rfl<|wfv 14 rfl (Yug rfl rfl rfl) (gy 53 rfl rfl) hns rfl<|wfv 15 rfl (Yuk (b:=false) rfl rfl) gn hns rfl<|Yvx (by kernel_rfl) ?_
        exact Yvh [0,1,2,3,4,5,6,7,8,9,10,11,12,13,14,15,16,17,18,19] (j4 (decide ((ix ((ix x4081 x4066).rhs) x4844).sym < (x4845.length:Int))) h) ⟨rfl,rfl,rfl,rfl,rfl,rfl,rfl,rfl,trivial⟩ (.cons_cons _ (.cons_cons _ (.slnil))) rfl
      ·have h:=Yum hp5054 h
       refine Yur rfl _ rfl ((decide_eq_false hp5054))<|Ywa [.inBlock 3,.code Zgb,.inLoop Zcf,.inBlock 2,.inBlock 1,.inLoop Zdq,.inBlock 0,.code Zf2] rfl rfl<|Yux<|Yu4 rfl rfl<|Yu2 0 rfl (Yu3 rfl) gn rfl<|Yu2 1 rfl (Yug rfl rfl rfl) gn rfl<|Yu2 2 rfl (Yu7 rfl) gn rfl<|Yua 3 rfl<|Yv1 ?_
       have h:=Out.inr hO3 h
       have ih:=Out.inl hO2 h
       exact Yvh [0,1,2,3,4,5,12,13,14,15,16,17,18,19] (ih h4842 A4846 n4847 c4848 sw4849 sb4850 h4851 A4853 n4854 c4855 sw4856 sb4857 h4858 A4860 n4861 c4862 sw4863 sb4864 h4865 A4867 n4868 c4869 sw4870 sb4871 h4872 A4874 n4875 c4876 sw4877 sb4878 h4879 A4881 n4882 c4883 sw4884 sb4885 h4886) ⟨rfl,rfl,rfl,rfl,trivial⟩ (.cons_cons _ (.cons_cons _ (.slnil))) rfl
     exact Yvh [0,1,2,3,4,5,0,1,2,3,4,5,6,7,8,9,10,11,12,13] (key3 _ h h4064 A4068 n4069 c4070 sw4071 sb4072 h4073 A4075 n4076 c4077 sw4078 sb4079 h4080 A4082 n4083 c4084 sw4085 sb4086 h4087 A4089 n4090 c4091 sw4092 sb4093 h4094 A4096 n4097 c4098 sw4099 sb4100 h4101 A4103 n4104 c4105 sw4106 sb4107 h4108) ⟨rfl,rfl,rfl,rfl,rfl,rfl,trivial⟩ (.cons_cons _ (.cons_cons _ (.slnil))) rfl
    ·have h:=Yum hp4665 h
     refine Yur rfl _ rfl ((decide_eq_false hp4665))<|Ywa [.inBlock 1,.inLoop Zdq,.inBlock 0,.code Zf2] rfl rfl<|Yux<|Yv1 ?_
     have h:=Out.inr hO2 h
     have ih:=Out.inl hO1 h
     exact Yvh [0,1,2,3,4,5,12,13] (ih h4064 A4068 n4069 c4070 sw4071 sb4072 h4073 A4075 n4076 c4077 sw4078 sb4079 h4080 A4082 n4083 c4084 sw4085 sb4086 h4087 A4089 n4090 c4091 sw4092 sb4093 h4094 A4096 n4097 c4098 sw4099 sb4100 h4101 A4103 n4104 c4105 sw4106 sb4107 h4108) ⟨rfl,rfl,rfl,trivial⟩ (.cons_cons _ (.cons_cons _ (.slnil))) rfl
   exact Yvh [0,1,2,3,4,5,0,1,2,3,4,5,6,7] (key2 _ h h1749 A1752 n1753 c1754 sw1755 sb1756 h1757 A1759 n1760 c1761 sw1762 sb1763 h1764 A1766 n1767 c1768 sw1769 sb1770 h1771 A1773 n1774 c1775 sw1776 sb1777 h1778 A1780 n1781 c1782 sw1783 sb1784 h1785 A1787 n1788 c1789 sw1790 sb1791 h1792) ⟨rfl,rfl,rfl,rfl,trivial⟩ (.cons_cons _ (.cons_cons _ (.slnil))) rfl
  ·have h:=Yum hp3507 h
   refine Yur rfl _ rfl ((bf hp3507))<|Ywa [.code Zf2] rfl rfl<|Yu9 rfl<|Yu4 rfl rfl<|Yu2 0 rfl (Yu3 rfl) gn rfl<|Yu2 1 rfl (Yu7 rfl) gn rfl<|Yua 2 rfl ?_
   have h:=Out.inr hO1 h
   refine Yvb [.slice A29 n30 c31] rfl Tryd.func48 rfl (.tmp rfl (.nil)) fun wr hLr=>?_
   have hMr:=hLr.pkI (.c 0 rfl (.c 1 rfl .n)) .n (by kernel_rfl) (.c 7 rfl .n)
   have hMi:=hLr.selI (.c 0 rfl (.c 1 rfl .n))
   show Zd3 w F g2 Tb3 A29 n30 c31 z33 r (.returned (Yvl [.slice A29 n30 c31])) wr
   rw [h]
   exact ⟨A29,n30,c31,A1752,n1753,c1754,A1759,n1760,c1761,A1766,n1767,c1768,A1773,n1774,c1775,A1780,n1781,c1782,A1787,n1788,c1789,rfl,hMr,h1749,(hLr.outR (s:=Sm w.heap.size F sw1755 sb1756) hMi (me 0 rfl) Sm.ok h1757),(hLr.outR (s:=Sm w.heap.size F sw1762 sb1763) hMi (me 1 rfl) Sm.ok h1764),(hLr.outR (s:=Sm w.heap.size F sw1769 sb1770) hMi (me 2 rfl) Sm.ok h1771),(hLr.outR (s:=Sm w.heap.size F sw1776 sb1777) hMi (me 3 rfl) Sm.ok h1778),(hLr.outR (s:=Sm w.heap.size F sw1783 sb1784) hMi (me 4 rfl) Sm.ok h1785),(hLr.outR (s:=Sm w.heap.size F sw1790 sb1791) hMi (me 5 rfl) Sm.ok h1792)⟩
 exact Yvh [0,0,0,0,0,0,0,1] (key1 _ h h32 A4 n5 c6 w [[g2],(Value.slice A29 n30 c31).ownBlock.toList] h7 A8 n9 c10 w [[g2],(Value.slice A29 n30 c31).ownBlock.toList] h11 A12 n13 c14 w [[g2],(Value.slice A29 n30 c31).ownBlock.toList] h15 A16 n17 c18 w [[g2],(Value.slice A29 n30 c31).ownBlock.toList] h19 A20 n21 c22 w [[g2],(Value.slice A29 n30 c31).ownBlock.toList] h23 A24 n25 c26 w [[g2],(Value.slice A29 n30 c31).ownBlock.toList] h27) ⟨rfl,rfl,rfl,trivial⟩ (.cons_cons _ (.cons_cons _ (.slnil))) rfl
noncomputable abbrev Zhm:=Code.snd (Code.snd (Code.snd (Yvq Tryd.f47)))
noncomputable abbrev Zdg:=Code.fst (Code.fst (Code.snd (Code.fst (Code.snd (Code.snd (Yvq Tryd.f47))))))
noncomputable abbrev Zi2:=Code.snd (Code.snd Zdg)
noncomputable abbrev Zfi:=Code.fst (Code.fst (Code.snd (Code.fst (Code.fst (Code.snd Zdg)))))
noncomputable abbrev Znu:=Code.snd (Code.snd Zfi)
noncomputable abbrev Zhz:=Code.fst (Code.fst (Code.snd (Code.snd (Code.fst (Code.fst (Code.snd Zfi))))))
noncomputable abbrev q47c40:=Code.snd Zhz
noncomputable abbrev q47c42:=Code.snd (Code.fst Zhz)
abbrev Zd1 (w:World) (F:Nat→Prop) (g2:Nat) (Tb3:Nat) (r:(List Yud) × Yuc):Ending→World→Prop:=fun e w'=>∃ A0:Option Addr,∃ n0:Nat,∃ c0:Nat,∃ A1:Option Addr,∃ n1:Nat,∃ c1:Nat,∃ A2:Option Addr,∃ n2:Nat,∃ c2:Nat,∃ A3:Option Addr,∃ n3:Nat,∃ c3:Nat,∃ A4:Option Addr,∃ n4:Nat,∃ c4:Nat,∃ A5:Option Addr,∃ n5:Nat,∃ c5:Nat,∃ A6:Option Addr,∃ n6:Nat,∃ c6:Nat,e=.returned (.slice A0 n0 c0)∧B.Loc w w' [.box g2 Tb3 [.slice A1 n1 c1,.slice A2 n2 c2,.slice A3 n3 c3,.slice A4 n4 c4,.slice A5 n5 c5,.slice A6 n6 c6,.int .i64 r.2.dots],.own (.slice A0 n0 c0) 31 3 n0 (r.1.flatMap Yv0)] [St w [[g2]]]∧Ow w.heap.size A0 n0 c0 r.1∧Rw Yuj w' (Nw w w' F [.box g2 Tb3 [.slice A1 n1 c1,.slice A2 n2 c2,.slice A3 n3 c3,.slice A4 n4 c4,.slice A5 n5 c5,.slice A6 n6 c6,.int .i64 r.2.dots],.own (.slice A0 n0 c0) 31 3 n0 (r.1.flatMap Yv0)]) A1 n1 c1 r.2.g.terms∧Rw Yuq w' (Nw w w' F [.box g2 Tb3 [.slice A1 n1 c1,.slice A2 n2 c2,.slice A3 n3 c3,.slice A4 n4 c4,.slice A5 n5 c5,.slice A6 n6 c6,.int .i64 r.2.dots],.own (.slice A0 n0 c0) 31 3 n0 (r.1.flatMap Yv0)]) A2 n2 c2 r.2.g.syms∧Rw Yun w' (Nw w w' F [.box g2 Tb3 [.slice A1 n1 c1,.slice A2 n2 c2,.slice A3 n3 c3,.slice A4 n4 c4,.slice A5 n5 c5,.slice A6 n6 c6,.int .i64 r.2.dots],.own (.slice A0 n0 c0) 31 3 n0 (r.1.flatMap Yv0)]) A3 n3 c3 r.2.g.prods∧Rw Yzi w' (Nw w w' F [.box g2 Tb3 [.slice A1 n1 c1,.slice A2 n2 c2,.slice A3 n3 c3,.slice A4 n4 c4,.slice A5 n5 c5,.slice A6 n6 c6,.int .i64 r.2.dots],.own (.slice A0 n0 c0) 31 3 n0 (r.1.flatMap Yv0)]) A4 n4 c4 r.2.none∧Rw (Yw6 .u64) w' (Nw w w' F [.box g2 Tb3 [.slice A1 n1 c1,.slice A2 n2 c2,.slice A3 n3 c3,.slice A4 n4 c4,.slice A5 n5 c5,.slice A6 n6 c6,.int .i64 r.2.dots],.own (.slice A0 n0 c0) 31 3 n0 (r.1.flatMap Yv0)]) A5 n5 c5 r.2.first∧Rw (Yw6 .i64) w' (Nw w w' F [.box g2 Tb3 [.slice A1 n1 c1,.slice A2 n2 c2,.slice A3 n3 c3,.slice A4 n4 c4,.slice A5 n5 c5,.slice A6 n6 c6,.int .i64 r.2.dots],.own (.slice A0 n0 c0) 31 3 n0 (r.1.flatMap Yv0)]) A6 n6 c6 r.2.at_
noncomputable abbrev Yw8 (w:World) (F:Nat→Prop) (g2:Nat) (Tb3:Nat) (r:(List Yud) × Yuc):Cx:=⟨Tryd.prog,47,Tryd.f47,73,Zd1 w F g2 Tb3 r,w⟩
theorem Zdr (w:World) (F:Nat→Prop) (x1:Yuc) (x28:List Int) (g2:Nat) (Tb3:Nat) (A4:Option Addr) (n5:Nat) (c6:Nat) (A8:Option Addr) (n9:Nat) (c10:Nat) (A12:Option Addr) (n13:Nat) (c14:Nat) (A16:Option Addr) (n17:Nat) (c18:Nat) (A20:Option Addr) (n21:Nat) (c22:Nat) (A24:Option Addr) (n25:Nat) (c26:Nat) (A29:Option Addr) (n30:Nat) (c31:Nat) (h7:Rw Yuj w F A4 n5 c6 x1.g.terms) (h11:Rw Yuq w F A8 n9 c10 x1.g.syms) (h15:Rw Yun w F A12 n13 c14 x1.g.prods) (h19:Rw Yzi w F A16 n17 c18 x1.none) (h23:Rw (Yw6 .u64) w F A20 n21 c22 x1.first) (h27:Rw (Yw6 .i64) w F A24 n25 c26 x1.at_) (h32:Rw (Yw6 .u64) w (St w [[g2]]).av A29 n30 c31 x28) (hF:∀ b,F b→b < w.heap.size∧∀ o ∈ ([[g2]]:List (List Nat)),b ∉ o) (hL0:B.Loc w w [.box g2 Tb3 [.slice A4 n5 c6,.slice A8 n9 c10,.slice A12 n13 c14,.slice A16 n17 c18,.slice A20 n21 c22,.slice A24 n25 c26,.int .i64 x1.dots]] [Sm w.heap.size F w [[g2]],St w [[g2]]]) (r:(List Yud) × Yuc) (h:Yyw x1 x28 r):Calls Tryd.prog 47 #[.pointer (some ⟨g2,0,none⟩),.slice A29 n30 c31] w (Zd1 w F g2 Tb3 r):=by
 unfold Yyw at h
 have h7:=Rw.into (bs:=[[g2]]) hF h7
 have h11:=Rw.into (bs:=[[g2]]) hF h11
 have h15:=Rw.into (bs:=[[g2]]) hF h15
 have h19:=Rw.into (bs:=[[g2]]) hF h19
 have h23:=Rw.into (bs:=[[g2]]) hF h23
 have h27:=Rw.into (bs:=[[g2]]) hF h27
 refine Yv5 (vs:=[.pointer (some ⟨g2,0,none⟩),.slice A29 n30 c31]) 73 Tryd.func47 rfl Tryd.ntmps47 rfl hL0 ?_
 show G (Yw8 w F g2 Tb3 r) _ _ _ _
 refine Yu9 rfl<|Yu4 rfl rfl<|Yu2 0 rfl (Yu7 rfl) gn rfl<|Yua 1 rfl<|Yu9 rfl<|Yu4 rfl rfl<|Yu2 0 rfl (Yu7 rfl) gn rfl<|Yua 1 rfl<|Yu9 rfl<|Yu9 rfl<|Yu4 rfl rfl<|Yu2 0 rfl (Yu7 rfl) gn rfl ?_
 refine Yua 1 rfl<|Yuw rfl<|Ywm rfl ?_
 have key1:∀ s,Yui (fun (s:(List Yud) × Int) o=>Ywt x1 x28 s.1 s.2 o) s r→(fun (s:(List Yud) × Int)=>∀ (A311:Option Addr) (n312:Nat) (c313:Nat) (h314:Ow w.heap.size A311 n312 c313 s.1),G (Yw8 w F g2 Tb3 r) [.code Zdg,.inLoop Zdg,.inBlock 0,.code Zhm] [(0,.pointer (some ⟨g2,0,none⟩)),(1,.slice A29 n30 c31),(5,.slice A311 n312 c313),(6,.int .i64 s.2)] [.own (.slice A311 n312 c313) 31 3 n312 (s.1.flatMap Yv0),.box g2 Tb3 [.slice A4 n5 c6,.slice A8 n9 c10,.slice A12 n13 c14,.slice A16 n17 c18,.slice A20 n21 c22,.slice A24 n25 c26,.int .i64 x1.dots]] [Sm w.heap.size F w [[g2]],St w [[g2]]]) s:=by
  intro s hs
  refine Yui.ind (mot:=(fun (s:(List Yud) × Int)=>∀ (A311:Option Addr) (n312:Nat) (c313:Nat) (h314:Ow w.heap.size A311 n312 c313 s.1),G (Yw8 w F g2 Tb3 r) [.code Zdg,.inLoop Zdg,.inBlock 0,.code Zhm] [(0,.pointer (some ⟨g2,0,none⟩)),(1,.slice A29 n30 c31),(5,.slice A311 n312 c313),(6,.int .i64 s.2)] [.own (.slice A311 n312 c313) 31 3 n312 (s.1.flatMap Yv0),.box g2 Tb3 [.slice A4 n5 c6,.slice A8 n9 c10,.slice A12 n13 c14,.slice A16 n17 c18,.slice A20 n21 c22,.slice A24 n25 c26,.int .i64 x1.dots]] [Sm w.heap.size F w [[g2]],St w [[g2]]])) ?_ hs
  clear hs s
  intro s o1 h hO1
  obtain ⟨x310,x315⟩:=s
  show ∀ (A311:Option Addr) (n312:Nat) (c313:Nat) (h314:Ow w.heap.size A311 n312 c313 x310),G (Yw8 w F g2 Tb3 r) [.code Zdg,.inLoop Zdg,.inBlock 0,.code Zhm] [(0,.pointer (some ⟨g2,0,none⟩)),(1,.slice A29 n30 c31),(5,.slice A311 n312 c313),(6,.int .i64 x315)] [.own (.slice A311 n312 c313) 31 3 n312 (x310.flatMap Yv0),.box g2 Tb3 [.slice A4 n5 c6,.slice A8 n9 c10,.slice A12 n13 c14,.slice A16 n17 c18,.slice A20 n21 c22,.slice A24 n25 c26,.int .i64 x1.dots]] [Sm w.heap.size F w [[g2]],St w [[g2]]]
  intro A311 n312 c313 h314
  have h:Ywt x1 x28 x310 x315 o1:=h
  unfold Ywt at h
  refine Yu9 rfl<|Yu9 rfl<|Yu4 rfl rfl<|Yu2 0 rfl (Yu3 rfl) gn rfl<|Yu2 1 rfl (Yu3 rfl) gn rfl<|Yu2 2 rfl (Yuy rfl) gn rfl<|Yu2 3 rfl (Yub Zcq rfl) gn rfl<|Yu2 4 rfl (Yub Yvf rfl) gn rfl<|Yu2 5 rfl (Yue 1 Ywb rfl rfl rfl) gn rfl<|Yu2 6 rfl (Yuo Za3 rfl h15.hq) gn rfl<|Yu2 7 rfl (Yug rfl rfl rfl) gn rfl<|Yua 8 rfl ?_
  by_cases hp591:x315 < (x1.g.prods.length:Int)
  ·have h:=Yul hp591 h
   refine Yv4 rfl _ rfl ((decide_eq_true hp591))<|Yv2 rfl<|Yu9 rfl<|Yuw rfl<|Yu9 rfl<|Yu4 rfl rfl<|Yu2 0 rfl (Yu7 rfl) gn rfl<|Yua 1 rfl<|Yuw rfl<|Ywm rfl ?_
   have key2:∀ s,Yui (fun (s:(List Yud) × Int) o=>Ywv x315 x1 x28 s.1 s.2 o) s o1→(fun (s:(List Yud) × Int)=>∀ (A683:Option Addr) (n684:Nat) (c685:Nat) (h686:Ow w.heap.size A683 n684 c685 s.1),G (Yw8 w F g2 Tb3 r) [.code Zfi,.inLoop Zfi,.inBlock 2,.inBlock 1,.code Zi2,.inLoop Zdg,.inBlock 0,.code Zhm] [(0,.pointer (some ⟨g2,0,none⟩)),(1,.slice A29 n30 c31),(5,.slice A683 n684 c685),(6,.int .i64 x315),(7,.int .i64 s.2)] [.own (.slice A683 n684 c685) 31 3 n684 (s.1.flatMap Yv0),.box g2 Tb3 [.slice A4 n5 c6,.slice A8 n9 c10,.slice A12 n13 c14,.slice A16 n17 c18,.slice A20 n21 c22,.slice A24 n25 c26,.int .i64 x1.dots]] [Sm w.heap.size F w [[g2]],St w [[g2]]]) s:=by
    intro s hs
    refine Yui.ind (mot:=(fun (s:(List Yud) × Int)=>∀ (A683:Option Addr) (n684:Nat) (c685:Nat) (h686:Ow w.heap.size A683 n684 c685 s.1),G (Yw8 w F g2 Tb3 r) [.code Zfi,.inLoop Zfi,.inBlock 2,.inBlock 1,.code Zi2,.inLoop Zdg,.inBlock 0,.code Zhm] [(0,.pointer (some ⟨g2,0,none⟩)),(1,.slice A29 n30 c31),(5,.slice A683 n684 c685),(6,.int .i64 x315),(7,.int .i64 s.2)] [.own (.slice A683 n684 c685) 31 3 n684 (s.1.flatMap Yv0),.box g2 Tb3 [.slice A4 n5 c6,.slice A8 n9 c10,.slice A12 n13 c14,.slice A16 n17 c18,.slice A20 n21 c22,.slice A24 n25 c26,.int .i64 x1.dots]] [Sm w.heap.size F w [[g2]],St w [[g2]]])) ?_ hs
    clear hs s
    intro s o2 h hO2
    obtain ⟨x682,x687⟩:=s
    show ∀ (A683:Option Addr) (n684:Nat) (c685:Nat) (h686:Ow w.heap.size A683 n684 c685 x682),G (Yw8 w F g2 Tb3 r) [.code Zfi,.inLoop Zfi,.inBlock 2,.inBlock 1,.code Zi2,.inLoop Zdg,.inBlock 0,.code Zhm] [(0,.pointer (some ⟨g2,0,none⟩)),(1,.slice A29 n30 c31),(5,.slice A683 n684 c685),(6,.int .i64 x315),(7,.int .i64 x687)] [.own (.slice A683 n684 c685) 31 3 n684 (x682.flatMap Yv0),.box g2 Tb3 [.slice A4 n5 c6,.slice A8 n9 c10,.slice A12 n13 c14,.slice A16 n17 c18,.slice A20 n21 c22,.slice A24 n25 c26,.int .i64 x1.dots]] [Sm w.heap.size F w [[g2]],St w [[g2]]]
    intro A683 n684 c685 h686
    have h:Ywv x315 x1 x28 x682 x687 o2:=h
    unfold Ywv at h
    refine Yu9 rfl<|Yu9 rfl<|Yu4 rfl rfl<|Yu2 0 rfl (Yu3 rfl) gn rfl<|Yu2 1 rfl (Yu3 rfl) gn rfl<|Yu2 2 rfl (Yuy rfl) gn rfl<|Yu2 3 rfl (Yub Zcq rfl) gn rfl<|Yu2 4 rfl (Yub Yvf rfl) gn rfl<|Yu2 5 rfl (Yue 1 Ywb rfl rfl rfl) gn rfl<|Yu2 6 rfl (Yu3 rfl) gn rfl ?_
    obtain ⟨hb777,h⟩:=h
    obtain ⟨ce779,hK780,hr778⟩:=Rw.read (s:=Sm w.heap.size F w [[g2]]) h15 hb777
    obtain ⟨A781,n782,c783,rfl,h784⟩:=hK780
    refine Yu2 7 rfl (Yv7 (s:=Sm w.heap.size F w [[g2]]) Yxh rfl rfl h15 hb777) gn rfl<|Yu2 8 rfl (Yvo Yw1 rfl) gn rfl<|Yu2 9 rfl (Yvj (kk:=(x315:Int).toNat * 2) (j:=1) (Sm w.heap.size F w [[g2]]) Yyc rfl hr778 rfl (me 0 rfl)) gn rfl<|Yu2 10 rfl (Yuo Za5 rfl h784.hq) gn rfl<|Yu2 11 rfl (Yug rfl rfl rfl) gn rfl<|Yua 12 rfl ?_
    by_cases hp785:x687≤(((ix x1.g.prods x315).rhs).length:Int)
    ·have h:=Yul hp785 h
     refine Yv4 rfl _ rfl ((decide_eq_true hp785))<|Yv2 rfl<|Yu9 rfl<|Yuw rfl<|Yu9 rfl<|Yu4 rfl rfl<|Yu2 0 rfl (Yu3 rfl) gn rfl<|Yu2 1 rfl (Yu3 rfl) gn rfl<|Yu2 2 rfl (Yuy rfl) gn rfl<|Yu2 3 rfl (Yub Zdz rfl) gn rfl<|Yu2 4 rfl (Yue 1 Zew rfl rfl rfl) gn rfl<|Yu2 5 rfl (Yu3 rfl) gn rfl ?_
     obtain ⟨hb786,h⟩:=h
     have hr787:=Rw.readF (s:=Sm w.heap.size F w [[g2]]) (hl:=(hlI .i64)) (h1:=(Yya .i64)) h27 hb786
     refine Yu2 6 rfl (Yv7 (s:=Sm w.heap.size F w [[g2]]) Zfx rfl rfl h27 hb786) gn rfl<|Yu2 7 rfl (Yvj (kk:=(x315:Int).toNat * 1) (j:=0) (Sm w.heap.size F w [[g2]]) Yvt rfl hr787 rfl (me 0 rfl)) gn rfl<|Yu2 8 rfl (Yu3 rfl) gn rfl<|Yu2 9 rfl (Yug rfl rfl rfl) gn rfl ?_
     obtain ⟨hb788,h⟩:=h
     have hr789:=Rw.readF (s:=St w [[g2]]) (hl:=(hlI .u64)) (h1:=(Yya .u64)) h32 hb788
     refine Yu2 10 rfl (Yv7 (s:=St w [[g2]]) Zhu rfl rfl h32 hb788) gn rfl<|Yu2 11 rfl (Yvj (kk:=(w64 ((ix x1.at_ x315) + x687):Int).toNat * 1) (j:=0) (St w [[g2]]) Zdt rfl hr789 rfl (me 1 rfl)) gn rfl<|Yu2 12 rfl (Yu7 rfl) gn rfl<|Yua 13 rfl<|Yu9 rfl<|Yu4 rfl rfl<|Yu2 0 rfl (Yu7 rfl) gn rfl<|Yua 1 rfl<|Yuw rfl<|Ywm rfl ?_
     have key3:∀ s,Yui (fun (s:(List Yud) × Int) o=>Yw0 x1 x28 x315 x687 s.1 s.2 o) s o2→(fun (s:(List Yud) × Int)=>∀ (A815:Option Addr) (n816:Nat) (c817:Nat) (h818:Ow w.heap.size A815 n816 c817 s.1),G (Yw8 w F g2 Tb3 r) [.code Zhz,.inLoop Zhz,.inBlock 4,.inBlock 3,.code Znu,.inLoop Zfi,.inBlock 2,.inBlock 1,.code Zi2,.inLoop Zdg,.inBlock 0,.code Zhm] [(0,.pointer (some ⟨g2,0,none⟩)),(1,.slice A29 n30 c31),(5,.slice A815 n816 c817),(6,.int .i64 x315),(7,.int .i64 x687),(8,.int .u64 (ix x28 (w64 ((ix x1.at_ x315) + x687)))),(9,.int .i64 s.2)] [.own (.slice A815 n816 c817) 31 3 n816 (s.1.flatMap Yv0),.box g2 Tb3 [.slice A4 n5 c6,.slice A8 n9 c10,.slice A12 n13 c14,.slice A16 n17 c18,.slice A20 n21 c22,.slice A24 n25 c26,.int .i64 x1.dots]] [Sm w.heap.size F w [[g2]],St w [[g2]]]) s:=by
      intro s hs
      refine Yui.ind (mot:=(fun (s:(List Yud) × Int)=>∀ (A815:Option Addr) (n816:Nat) (c817:Nat) (h818:Ow w.heap.size A815 n816 c817 s.1),G (Yw8 w F g2 Tb3 r) [.code Zhz,.inLoop Zhz,.inBlock 4,.inBlock 3,.code Znu,.inLoop Zfi,.inBlock 2,.inBlock 1,.code Zi2,.inLoop Zdg,.inBlock 0,.code Zhm] [(0,.pointer (some ⟨g2,0,none⟩)),(1,.slice A29 n30 c31),(5,.slice A815 n816 c817),(6,.int .i64 x315),(7,.int .i64 x687),(8,.int .u64 (ix x28 (w64 ((ix x1.at_ x315) + x687)))),(9,.int .i64 s.2)] [.own (.slice A815 n816 c817) 31 3 n816 (s.1.flatMap Yv0),.box g2 Tb3 [.slice A4 n5 c6,.slice A8 n9 c10,.slice A12 n13 c14,.slice A16 n17 c18,.slice A20 n21 c22,.slice A24 n25 c26,.int .i64 x1.dots]] [Sm w.heap.size F w [[g2]],St w [[g2]]])) ?_ hs
      clear hs s
      intro s o3 h hO3
      obtain ⟨x814,x819⟩:=s
      show ∀ (A815:Option Addr) (n816:Nat) (c817:Nat) (h818:Ow w.heap.size A815 n816 c817 x814),G (Yw8 w F g2 Tb3 r) [.code Zhz,.inLoop Zhz,.inBlock 4,.inBlock 3,.code Znu,.inLoop Zfi,.inBlock 2,.inBlock 1,.code Zi2,.inLoop Zdg,.inBlock 0,.code Zhm] [(0,.pointer (some ⟨g2,0,none⟩)),(1,.slice A29 n30 c31),(5,.slice A815 n816 c817),(6,.int .i64 x315),(7,.int .i64 x687),(8,.int .u64 (ix x28 (w64 ((ix x1.at_ x315) + x687)))),(9,.int .i64 x819)] [.own (.slice A815 n816 c817) 31 3 n816 (x814.flatMap Yv0),.box g2 Tb3 [.slice A4 n5 c6,.slice A8 n9 c10,.slice A12 n13 c14,.slice A16 n17 c18,.slice A20 n21 c22,.slice A24 n25 c26,.int .i64 x1.dots]] [Sm w.heap.size F w [[g2]],St w [[g2]]]
      intro A815 n816 c817 h818
      have h:Yw0 x1 x28 x315 x687 x814 x819 o3:=h
      unfold Yw0 at h
      refine Yu9 rfl<|Yu9 rfl ?_
      have j4:∀ (x845:Bool) (h:Yxa x819 x28 x1 x315 x687 x814 x845 o3) ,G (Yw8 w F g2 Tb3 r) [.code q47c42,.code q47c40,.inLoop Zhz,.inBlock 4,.inBlock 3,.code Znu,.inLoop Zfi,.inBlock 2,.inBlock 1,.code Zi2,.inLoop Zdg,.inBlock 0,.code Zhm] [(0,.pointer (some ⟨g2,0,none⟩)),(1,.slice A29 n30 c31),(5,.slice A815 n816 c817),(6,.int .i64 x315),(7,.int .i64 x687),(8,.int .u64 (ix x28 (w64 ((ix x1.at_ x315) + x687)))),(9,.int .i64 x819),(57,.bool x845)] [.own (.slice A815 n816 c817) 31 3 n816 (x814.flatMap Yv0),.box g2 Tb3 [.slice A4 n5 c6,.slice A8 n9 c10,.slice A12 n13 c14,.slice A16 n17 c18,.slice A20 n21 c22,.slice A24 n25 c26,.int .i64 x1.dots]] [Sm w.heap.size F w [[g2]],St w [[g2]]]:=by
       intro x845 h
       unfold Yxa at h
       by_cases hp846:x845=true
       ·have h:=Yul hp846 h
        refine Yv4 rfl _ rfl (hp846)<|Yv2 rfl<|Yu9 rfl<|Yuw rfl<|Yu9 rfl<|Yu4 rfl rfl<|Yu2 0 rfl (Yu3 rfl) gn rfl<|Yu2 1 rfl (Yu3 rfl) gn rfl ?_
        obtain ⟨r850,hv851,h⟩:=h
        refine Yve 2 rfl (Yvz [.int .i64 x819] rfl Tryd.func65 rfl rfl rfl fun w847 hL848=>?_) gn
        have hp849:=pmI hL848 .n (.c 0 rfl (.c 1 rfl .n)) (by kernel_rfl)
        refine Calls.mono (Zez w847 (Fl ([]:List Yva)) x819 (hL848.hFl hp849 (Yvm [] rfl)) (hL848.into hp849 _) r850 hv851) ?_
        rintro _ w852 ⟨rfl,hM853⟩
        have hL854:=hL848.call hp849 hM853
        refine ⟨_,_,_,rfl,hL854,?_⟩
        refine Yu2 3 rfl (Yug rfl rfl rfl) gn rfl<|Yu2 4 rfl (Yug rfl rfl rfl) gn rfl<|Yua 5 rfl ?_
        by_cases hp855:bits .and .u64 (ix x28 (w64 ((ix x1.at_ x315) + x687))) r850=0
        ·have h:=Yul hp855 h
         refine Yur rfl _ rfl ((Zgg hp855))<|Yv2 rfl<|Yux<|Yu4 rfl rfl<|Yu2 0 rfl (Yu3 rfl) gn rfl<|Yu2 1 rfl (Yug rfl rfl rfl) gn rfl<|Yu2 2 rfl (Yu7 rfl) gn rfl<|Yua 3 rfl<|Yv1 ?_
         have ih:=Out.inl hO3 h
         exact Yvh [0,1] (ih A815 n816 c817 h818) ⟨rfl,rfl,rfl,rfl,rfl,rfl,rfl,trivial⟩ (.cons_cons _ (.cons_cons _ (.slnil))) rfl
        ·have h:=Yum hp855 h
         refine Yv4 rfl _ rfl ((Zkm hp855))<|Yu4 rfl rfl<|Yu2 0 rfl (Yu3 rfl) gn rfl<|Yu2 1 rfl (Yu3 rfl) gn rfl<|Yu2 2 rfl (Yu3 rfl) gn rfl<|Yu2 3 rfl (Yu3 rfl) gn rfl<|Yu2 4 rfl (Zap #[.int .i64 x315,.int .i64 x687,.int .i64 x819] bd_31 rfl (by kernel_rfl)) gn rfl ?_
         refine Yve 5 rfl (Zdd (xs:=([(⟨x315,x687,x819⟩:Yud)]:List Yud)) [.int .i64 x315,.int .i64 x687,.int .i64 x819] Zsp rfl (by kernel_rfl) rfl rfl rfl rfl fun gb857 h858=>?_) gn
         obtain ⟨x862,hv863,h⟩:=h
         obtain ⟨hb864,h⟩:=h
         refine Yve 6 rfl (Zdj (zs:=x862) (cells':=x862.flatMap Yv0) 1 ap_27 rfl rfl rfl h818 (Nat.le_refl _) (Src.ownF (hl:=Yyz) (h1:=Yyy) 0 rfl h858) (by rw [hv863,List.flatMap_append] <;> rfl) (Yzh hv863 h858.hq) hb864 rfl rfl fun A859 c860 h861=>?_) gn
         refine Yu2 7 rfl (Yu7 rfl) gn rfl<|Yua 8 rfl<|Yux<|Yu4 rfl rfl<|Yu2 0 rfl (Yu3 rfl) gn rfl<|Yu2 1 rfl (Yug rfl rfl rfl) gn rfl<|Yu2 2 rfl (Yu7 rfl) gn rfl<|Yua 3 rfl<|Yv1 ?_
         have ih:=Out.inl hO3 h
         exact Yvh [0,1] (ih A859 (n816 + 1) c860 h861) ⟨rfl,rfl,rfl,rfl,rfl,rfl,rfl,trivial⟩ (.cons _ (.cons_cons _ (.cons_cons _ (.slnil)))) rfl
       ·have h:=Yum hp846 h
        refine Yur rfl _ rfl ((bf hp846))<|Ywa [.inBlock 3,.code Znu,.inLoop Zfi,.inBlock 2,.inBlock 1,.code Zi2,.inLoop Zdg,.inBlock 0,.code Zhm] rfl rfl<|Yux<|Yu4 rfl rfl<|Yu2 0 rfl (Yu3 rfl) gn rfl<|Yu2 1 rfl (Yug rfl rfl rfl) gn rfl<|Yu2 2 rfl (Yu7 rfl) gn rfl<|Yua 3 rfl<|Yv1 ?_
        have h:=Out.inr hO3 h
        have ih:=Out.inl hO2 h
        exact Yvh [0,1] (ih A815 n816 c817 h818) ⟨rfl,rfl,rfl,rfl,rfl,trivial⟩ (.cons_cons _ (.cons_cons _ (.slnil))) rfl
      refine Yu4 rfl rfl<|Yu2 0 rfl (Yu3 rfl) gn rfl<|Yu2 1 rfl (Yu3 rfl) gn rfl<|Yu2 2 rfl (Yuy rfl) gn rfl<|Yu2 3 rfl (Yub Zcq rfl) gn rfl<|Yu2 4 rfl (Yub Yw7 rfl) gn rfl<|Yu2 5 rfl (Yue 1 Yz4 rfl rfl rfl) gn rfl<|Yu2 6 rfl (Yuo Yze rfl h7.hq) gn rfl<|Yu2 7 rfl (Yug rfl rfl rfl) gn rfl<|Yu2 8 rfl (Yu3 rfl) gn rfl ?_
      by_cases hp865:x819 < (x1.g.terms.length:Int)
      ·have h:=Yul hp865 h
       refine Yvi 54 rfl ((decide_eq_true hp865))<|Yu2 9 rfl (Yu3 rfl) (gy 54 rfl rfl) rfl<|Yu2 10 rfl (Yug rfl rfl rfl) (gy 54 rfl rfl) rfl<|Yu2 11 rfl (Yuk (b:=true) rfl rfl) gn rfl<|Yua 12 rfl ?_
       exact Yvh [0,1] (j4 ((ix x28 (w64 ((ix x1.at_ x315) + x687))) != 0) h) ⟨rfl,rfl,rfl,rfl,rfl,rfl,rfl,rfl,trivial⟩ (.cons_cons _ (.cons_cons _ (.slnil))) rfl
      ·have h:=Yum hp865 h
       refine Yvi 54 rfl ((decide_eq_false hp865))<|Yu6 9 rfl (ps 54 rfl rfl rfl)<|Yu6 10 rfl (ps 54 rfl rfl rfl)<|Yu2 11 rfl (Yuk (b:=false) rfl rfl) gn rfl<|Yua 12 rfl ?_
       exact Yvh [0,1] (j4 false h) ⟨rfl,rfl,rfl,rfl,rfl,rfl,rfl,rfl,trivial⟩ (.cons_cons _ (.cons_cons _ (.slnil))) rfl
     exact Yvh [0,1] (key3 _ h A683 n684 c685 h686) ⟨rfl,rfl,rfl,rfl,rfl,rfl,rfl,trivial⟩ (.cons_cons _ (.cons_cons _ (.slnil))) rfl
    ·have h:=Yum hp785 h
     refine Yur rfl _ rfl ((decide_eq_false hp785))<|Ywa [.inBlock 1,.code Zi2,.inLoop Zdg,.inBlock 0,.code Zhm] rfl rfl<|Yux<|Yu4 rfl rfl<|Yu2 0 rfl (Yu3 rfl) gn rfl<|Yu2 1 rfl (Yug rfl rfl rfl) gn rfl<|Yu2 2 rfl (Yu7 rfl) gn rfl<|Yua 3 rfl<|Yv1 ?_
     have h:=Out.inr hO2 h
     have ih:=Out.inl hO1 h
     exact Yvh [0,1] (ih A683 n684 c685 h686) ⟨rfl,rfl,rfl,rfl,trivial⟩ (.cons_cons _ (.cons_cons _ (.slnil))) rfl
   exact Yvh [0,1] (key2 _ h A311 n312 c313 h314) ⟨rfl,rfl,rfl,rfl,rfl,trivial⟩ (.cons_cons _ (.cons_cons _ (.slnil))) rfl
  ·have h:=Yum hp591 h
   refine Yur rfl _ rfl ((decide_eq_false hp591))<|Ywa [.code Zhm] rfl rfl<|Yu9 rfl<|Yu4 rfl rfl<|Yu2 0 rfl (Yu3 rfl) gn rfl<|Yu2 1 rfl (Yu7 rfl) gn rfl<|Yua 2 rfl ?_
   have h:=Out.inr hO1 h
   refine Yvb [.slice A311 n312 c313] rfl Tryd.func47 rfl (.tmp rfl (.nil)) fun wr hLr=>?_
   have hMr:=hLr.pkI (.c 1 rfl (.c 0 rfl .n)) .n (by kernel_rfl) (.c 1 rfl .n)
   have hMi:=hLr.selI (.c 1 rfl (.c 0 rfl .n))
   show Zd1 w F g2 Tb3 r (.returned (Yvl [.slice A311 n312 c313])) wr
   rw [h]
   exact ⟨A311,n312,c313,A4,n5,c6,A8,n9,c10,A12,n13,c14,A16,n17,c18,A20,n21,c22,A24,n25,c26,rfl,hMr,h314,(hLr.outR (s:=Sm w.heap.size F w [[g2]]) hMi (me 0 rfl) Sm.ok h7),(hLr.outR (s:=Sm w.heap.size F w [[g2]]) hMi (me 0 rfl) Sm.ok h11),(hLr.outR (s:=Sm w.heap.size F w [[g2]]) hMi (me 0 rfl) Sm.ok h15),(hLr.outR (s:=Sm w.heap.size F w [[g2]]) hMi (me 0 rfl) Sm.ok h19),(hLr.outR (s:=Sm w.heap.size F w [[g2]]) hMi (me 0 rfl) Sm.ok h23),(hLr.outR (s:=Sm w.heap.size F w [[g2]]) hMi (me 0 rfl) Sm.ok h27)⟩
 refine Zf4 31 3 ?_
 exact Yvh [0,1] (key1 _ h none 0 0 (Ow.nil (z:=w.heap.size))) ⟨rfl,rfl,rfl,rfl,trivial⟩ (.cons_cons _ (.cons_cons _ (.slnil))) rfl
abbrev Zaq (w:World) (F:Nat→Prop) (r:List Yud):Ending→World→Prop:=fun e w'=>∃ A0:Option Addr,∃ n0:Nat,∃ c0:Nat,e=.returned (.slice A0 n0 c0)∧B.Loc w w' [.own (.slice A0 n0 c0) 31 3 n0 (r.flatMap Yv0)] [St w []]∧Ow w.heap.size A0 n0 c0 r
noncomputable abbrev Zi4 (w:World) (F:Nat→Prop) (r:List Yud):Cx:=⟨Tryd.prog,30,Tryd.f30,22,Zaq w F  r,w⟩
theorem Zga (w:World) (F:Nat→Prop) (x1:Yu5) (x14:List Yud) (A2:Option Addr) (n3:Nat) (c4:Nat) (A6:Option Addr) (n7:Nat) (c8:Nat) (A10:Option Addr) (n11:Nat) (c12:Nat) (A15:Option Addr) (n16:Nat) (c17:Nat) (h5:Rw Yuj w (St w []).av A2 n3 c4 x1.terms) (h9:Rw Yuq w (St w []).av A6 n7 c8 x1.syms) (h13:Rw Yun w (St w []).av A10 n11 c12 x1.prods) (h18:Rw Yxu w (St w []).av A15 n16 c17 x14) (hF:∀ b,F b→b < w.heap.size∧∀ o ∈ ([]:List (List Nat)),b ∉ o) (hL0:B.Loc w w [] [Sm w.heap.size F w [],St w []]) (r:List Yud) (h:Zac x1 x14 r):Calls Tryd.prog 30 #[.agg #[.slice A2 n3 c4,.slice A6 n7 c8,.slice A10 n11 c12],.slice A15 n16 c17] w (Zaq w F  r):=by
 unfold Zac at h
 refine Yv5 (vs:=[.agg #[.slice A2 n3 c4,.slice A6 n7 c8,.slice A10 n11 c12],.slice A15 n16 c17]) 22 Tryd.func30 rfl Tryd.ntmps30 rfl hL0 ?_
 show G (Zi4 w F r) _ _ _ _
 refine Yu9 rfl<|Yu4 rfl rfl ?_
 refine Yve 0 rfl (Zas [.slice A2 n3 c4,.slice A6 n7 c8,.slice A10 n11 c12] rfl rfl rfl fun gb19=>?_) gn
 refine Yu2 1 rfl (Yu7 rfl) gn rfl<|Yua 2 rfl<|Yu9 rfl<|Yu4 rfl rfl<|Yu2 0 rfl (Yyr [.slice A2 n3 c4,.slice A6 n7 c8,.slice A10 n11 c12] 0 Yys rfl rfl rfl rfl) gn rfl ?_
 obtain ⟨r24,hv25,h⟩:=h
 refine Yve 1 rfl (Yvz [.agg #[.slice A2 n3 c4,.slice A6 n7 c8,.slice A10 n11 c12]] rfl Tryd.func18 rfl rfl rfl fun w21 hL22=>?_) gn
 have hp23:=pmI hL22 .n (.c 0 rfl .n) (by kernel_rfl)
 refine Calls.mono (Ze1 w21 (Fl ([]:List Yva)) x1 A2 n3 c4 A6 n7 c8 A10 n11 c12 (Rw.mono h5 (hL22.toSt hp23 (me 1 rfl))) (Rw.mono h9 (hL22.toSt hp23 (me 1 rfl))) (Rw.mono h13 (hL22.toSt hp23 (me 1 rfl))) (hL22.hFl hp23 (Yvm [] rfl)) (hL22.into hp23 _) r24 hv25) ?_
 rintro _ w26 ⟨rfl,hM27⟩
 have hL28:=hL22.call hp23 hM27
 refine ⟨_,_,_,rfl,hL28,?_⟩
 refine Yu2 2 rfl (Yu7 rfl) gn rfl<|Yua 3 rfl<|Yu9 rfl<|Yu9 rfl<|Yu4 rfl rfl<|Yu2 0 rfl (Yu3 rfl) gn rfl<|Yu2 1 rfl (Zf9 rfl) gn rfl<|Yua 2 rfl ?_
 by_cases hp29:r24=true
 ·have h:=Yul hp29 h
  refine Yur rfl _ rfl ((nf hp29))<|Yv2 rfl<|Yu9 rfl<|Yu4 rfl rfl<|Yu2 0 rfl (Yyr [.slice A2 n3 c4,.slice A6 n7 c8,.slice A10 n11 c12] 0 Yys rfl rfl rfl rfl) gn rfl ?_
  obtain ⟨r33,hv34,h⟩:=h
  refine Yve 1 rfl (Yvz [.agg #[.slice A2 n3 c4,.slice A6 n7 c8,.slice A10 n11 c12]] rfl Tryd.func45 rfl rfl rfl fun w30 hL31=>?_) gn
  have hp32:=pmI hL31 .n (.c 0 rfl .n) (by kernel_rfl)
  refine Calls.mono (Zd8 w30 (Fl ([St w []]:List Yva)) x1 A2 n3 c4 A6 n7 c8 A10 n11 c12 (Rw.mono h5 (hL31.toFl (me 1 rfl) (me 0 rfl))) (Rw.mono h9 (hL31.toFl (me 1 rfl) (me 0 rfl))) (Rw.mono h13 (hL31.toFl (me 1 rfl) (me 0 rfl))) (hL31.hFl hp32 (Yvm [1] rfl)) (hL31.into hp32 _) r33 hv34) ?_
  rintro _ w62 ⟨gb67,A47,n48,c49,A52,n53,c54,A57,n58,c59,A35,n36,c37,A39,n40,c41,A43,n44,c45,rfl,hM63,h50,h55,h60,h38,h42,h46⟩
  obtain ⟨sv66,hL64,hv65⟩:=hL31.callN (Sl:=([St w []]:List Yva)) hp32 hM63 (Yvm [1] rfl)
  have h38:At Yuj (sv66) A35 n36 c37 r33.g.terms:=Rw.mono h38 hv65
  have h42:At Yuq (sv66) A39 n40 c41 r33.g.syms:=Rw.mono h42 hv65
  have h46:At Yun (sv66) A43 n44 c45 r33.g.prods:=Rw.mono h46 hv65
  refine ⟨_,_,_,rfl,hL64,?_⟩
  refine Yu2 2 rfl (Yu7 rfl) gn rfl<|Yua 3 rfl<|Yu9 rfl<|Yu4 rfl rfl<|Yu2 0 rfl (Yu3 rfl) gn rfl<|Yu2 1 rfl (Yu3 rfl) gn rfl ?_
  obtain ⟨r81,hv82,h⟩:=h
  refine Ze5 (F:=F) (dk:=Yzi) (Sm w.heap.size F w []) 1 rfl (Ow.weak hL31.env.size h50) (me 1 rfl) Sm.ok (Cells.flat _) fun sw73 sb74 h72=>?_
  refine Ze5 (F:=F) (dk:=(Yw6 .u64)) (Sm w.heap.size F w []) 1 rfl (Ow.weak hL31.env.size h55) (me 2 rfl) Sm.ok (Cells.flat _) fun sw76 sb77 h75=>?_
  refine Ze5 (F:=F) (dk:=(Yw6 .i64)) (Sm w.heap.size F w []) 1 rfl (Ow.weak hL31.env.size h60) (me 3 rfl) Sm.ok (Cells.flat _) fun sw79 sb80 h78=>?_
  refine Yve 2 rfl (Yvz [.pointer (some ⟨gb67,0,none⟩),.slice A15 n16 c17] rfl Tryd.func46 rfl rfl rfl fun w69 hL70=>?_) gn
  have hp71:=pmI hL70 (.c 0 rfl .n) (.c 1 rfl .n) (by kernel_rfl)
  refine Calls.mono (Zf8 w69 (Fl ([sv66,Sm w.heap.size F sw73 sb74,Sm w.heap.size F sw76 sb77,Sm w.heap.size F sw79 sb80]:List Yva)) r33 x14 gb67 123 A35 n36 c37 A39 n40 c41 A43 n44 c45 A47 n48 c49 A52 n53 c54 A57 n58 c59 A15 n16 c17 (Rw.mono h38 (hL70.toFl (me 3 rfl) (me 0 rfl))) (Rw.mono h42 (hL70.toFl (me 3 rfl) (me 0 rfl))) (Rw.mono h46 (hL70.toFl (me 3 rfl) (me 0 rfl))) (Rw.mono h72 (hL70.toFl (me 2 rfl) (me 1 rfl))) (Rw.mono h75 (hL70.toFl (me 1 rfl) (me 2 rfl))) (Rw.mono h78 (hL70.toFl (me 0 rfl) (me 3 rfl))) (Rw.mono h18 (hL70.toSt hp71 (me 5 rfl))) (hL70.hFl hp71 (Yvm [3,2,1,0] rfl)) (hL70.into hp71 _) r81 hv82) ?_
  rintro _ w112 ⟨A83,n84,c85,A88,n89,c90,A92,n93,c94,A96,n97,c98,A100,n101,c102,A104,n105,c106,A108,n109,c110,rfl,hM113,h86,h91,h95,h99,h103,h107,h111⟩
  obtain ⟨sv116,hL114,hv115⟩:=hL70.callN (Sl:=([sv66,Sm w.heap.size F sw73 sb74,Sm w.heap.size F sw76 sb77,Sm w.heap.size F sw79 sb80]:List Yva)) hp71 hM113 (Yvm [3,2,1,0] rfl)
  have h91:At Yuj (sv116) A88 n89 c90 r81.2.g.terms:=Rw.mono h91 hv115
  have h95:At Yuq (sv116) A92 n93 c94 r81.2.g.syms:=Rw.mono h95 hv115
  have h99:At Yun (sv116) A96 n97 c98 r81.2.g.prods:=Rw.mono h99 hv115
  have h103:At Yzi (sv116) A100 n101 c102 r81.2.none:=Rw.mono h103 hv115
  have h107:At (Yw6 .u64) (sv116) A104 n105 c106 r81.2.first:=Rw.mono h107 hv115
  have h111:At (Yw6 .i64) (sv116) A108 n109 c110 r81.2.at_:=Rw.mono h111 hv115
  refine ⟨_,_,_,rfl,hL114,?_⟩
  refine Yu2 3 rfl (Yu7 rfl) gn rfl<|Yua 4 rfl<|Yu9 rfl<|Yu4 rfl rfl<|Yu2 0 rfl (Yu3 rfl) gn rfl<|Yu2 1 rfl (Yu3 rfl) gn rfl<|Yu2 2 rfl (Yu3 rfl) gn rfl ?_
  obtain ⟨r120,hv121,h⟩:=h
  refine Yve 3 rfl (Yvz [.pointer (some ⟨gb67,0,none⟩),.slice A83 n84 c85] rfl Tryd.func48 rfl rfl rfl fun w117 hL118=>?_) gn
  have hp119:=pmI hL118 (.c 0 rfl (.c 1 rfl .n)) (.c 2 rfl .n) (by kernel_rfl)
  refine Calls.mono (Zbc w117 (Fl ([sv116]:List Yva)) r81.2 r81.1 gb67 123 A88 n89 c90 A92 n93 c94 A96 n97 c98 A100 n101 c102 A104 n105 c106 A108 n109 c110 w.heap.size A83 n84 c85 (Rw.mono h91 (hL118.toFl (me 0 rfl) (me 0 rfl))) (Rw.mono h95 (hL118.toFl (me 0 rfl) (me 0 rfl))) (Rw.mono h99 (hL118.toFl (me 0 rfl) (me 0 rfl))) (Rw.mono h103 (hL118.toFl (me 0 rfl) (me 0 rfl))) (Rw.mono h107 (hL118.toFl (me 0 rfl) (me 0 rfl))) (Rw.mono h111 (hL118.toFl (me 0 rfl) (me 0 rfl))) hL118.env.size (Ow.weak hL70.env.size h86) (hL118.hFl hp119 (Yvm [0] rfl)) (hL118.into hp119 _) r120 hv121) ?_
  rintro _ w151 ⟨A122,n123,c124,A127,n128,c129,A131,n132,c133,A135,n136,c137,A139,n140,c141,A143,n144,c145,A147,n148,c149,rfl,hM152,h125,h130,h134,h138,h142,h146,h150⟩
  obtain ⟨sv155,hL153,hv154⟩:=hL118.callN (Sl:=([sv116]:List Yva)) hp119 hM152 (Yvm [0] rfl)
  have h130:At Yuj (sv155) A127 n128 c129 r120.2.g.terms:=Rw.mono h130 hv154
  have h134:At Yuq (sv155) A131 n132 c133 r120.2.g.syms:=Rw.mono h134 hv154
  have h138:At Yun (sv155) A135 n136 c137 r120.2.g.prods:=Rw.mono h138 hv154
  have h142:At Yzi (sv155) A139 n140 c141 r120.2.none:=Rw.mono h142 hv154
  have h146:At (Yw6 .u64) (sv155) A143 n144 c145 r120.2.first:=Rw.mono h146 hv154
  have h150:At (Yw6 .i64) (sv155) A147 n148 c149 r120.2.at_:=Rw.mono h150 hv154
  refine ⟨_,_,_,rfl,hL153,?_⟩
  obtain ⟨r159,hv160,h⟩:=h
  refine Yve 4 rfl (Yvz [.pointer (some ⟨gb67,0,none⟩),.slice A122 n123 c124] rfl Tryd.func47 rfl rfl rfl fun w156 hL157=>?_) gn
  have hp158:=pmI hL157 (.c 0 rfl .n) (.c 1 rfl (.c 2 rfl .n)) (by kernel_rfl)
  refine Calls.mono (Zdr w156 (Fl ([sv155]:List Yva)) r120.2 r120.1 gb67 123 A127 n128 c129 A131 n132 c133 A135 n136 c137 A139 n140 c141 A143 n144 c145 A147 n148 c149 A122 n123 c124 (Rw.mono h130 (hL157.toFl (me 0 rfl) (me 0 rfl))) (Rw.mono h134 (hL157.toFl (me 0 rfl) (me 0 rfl))) (Rw.mono h138 (hL157.toFl (me 0 rfl) (me 0 rfl))) (Rw.mono h142 (hL157.toFl (me 0 rfl) (me 0 rfl))) (Rw.mono h146 (hL157.toFl (me 0 rfl) (me 0 rfl))) (Rw.mono h150 (hL157.toFl (me 0 rfl) (me 0 rfl))) (hL157.argO (dk:=(Yw6 .u64)) hp158 [0] rfl 1 rfl rfl h125 (me 6 rfl) (Cells.flat _)) (hL157.hFl hp158 (Yvm [0] rfl)) (hL157.into hp158 _) r159 hv160) ?_
  rintro _ w190 ⟨A161,n162,c163,A166,n167,c168,A170,n171,c172,A174,n175,c176,A178,n179,c180,A182,n183,c184,A186,n187,c188,rfl,hM191,h164,h169,h173,h177,h181,h185,h189⟩
  obtain ⟨sv194,hL192,hv193⟩:=hL157.callN (Sl:=([sv155]:List Yva)) hp158 hM191 (Yvm [0] rfl)
  have h169:At Yuj (sv194) A166 n167 c168 r159.2.g.terms:=Rw.mono h169 hv193
  have h173:At Yuq (sv194) A170 n171 c172 r159.2.g.syms:=Rw.mono h173 hv193
  have h177:At Yun (sv194) A174 n175 c176 r159.2.g.prods:=Rw.mono h177 hv193
  have h181:At Yzi (sv194) A178 n179 c180 r159.2.none:=Rw.mono h181 hv193
  have h185:At (Yw6 .u64) (sv194) A182 n183 c184 r159.2.first:=Rw.mono h185 hv193
  have h189:At (Yw6 .i64) (sv194) A186 n187 c188 r159.2.at_:=Rw.mono h189 hv193
  refine ⟨_,_,_,rfl,hL192,?_⟩
  refine Yu2 5 rfl (Yu7 rfl) gn rfl<|Yua 6 rfl ?_
  refine Yvb [.slice A161 n162 c163] rfl Tryd.func30 rfl (.tmp rfl (.nil)) fun wr hLr=>?_
  have hMr:=hLr.pkI (.c 1 rfl .n) (.c 0 rfl (.c 2 rfl (.c 3 rfl .n))) (by kernel_rfl) (.c 8 rfl .n)
  show Zaq w F  r (.returned (Yvl [.slice A161 n162 c163])) wr
  rw [h]
  exact ⟨A161,n162,c163,rfl,hMr,(Ow.weak hL157.env.size h164)⟩
 ·have h:=Yum hp29 h
  refine Yv4 rfl _ rfl ((nt (bf hp29)))<|Yu9 rfl<|Yu4 rfl rfl<|Yu2 0 rfl (Yu7 rfl) gn rfl<|Yua 1 rfl<|Zf4 31 3 ?_
  refine Yvb [.slice none 0 0] rfl Tryd.func30 rfl (.tmp rfl (.nil)) fun wr hLr=>?_
  have hMr:=hLr.pkI (.c 0 rfl .n) (.c 1 rfl .n) (by kernel_rfl) (.c 1 rfl .n)
  show Zaq w F  r (.returned (Yvl [.slice none 0 0])) wr
  rw [h]
  exact ⟨none,0,0,rfl,hMr,(Ow.nil (z:=w.heap.size))⟩
noncomputable abbrev Zky:=Code.snd (Code.snd (Code.snd (Code.snd (Yvq Tryd.f49))))
noncomputable abbrev Zfj:=Code.fst (Code.fst (Code.snd (Code.fst (Code.snd (Code.snd (Code.snd (Yvq Tryd.f49)))))))
noncomputable abbrev Znp:=Code.snd (Code.snd Zfj)
noncomputable abbrev Zhv:=Code.fst (Code.fst (Code.snd (Code.snd (Code.fst (Code.fst (Code.snd Zfj))))))
noncomputable abbrev q49c35:=Code.snd (Code.snd Zhv)
noncomputable abbrev q49c38:=Code.snd (Code.fst (Code.fst (Code.snd Zhv)))
noncomputable abbrev q49c41:=Code.fst (Code.fst q49c38)
abbrev Zb7 (w:World) (F:Nat→Prop) (g2:Nat) (Tb3:Nat) (r:(List Int) × Bool × Yuc):Ending→World→Prop:=fun e w'=>∃ A0:Option Addr,∃ n0:Nat,∃ c0:Nat,∃ A1:Option Addr,∃ n1:Nat,∃ c1:Nat,∃ A2:Option Addr,∃ n2:Nat,∃ c2:Nat,∃ A3:Option Addr,∃ n3:Nat,∃ c3:Nat,∃ A4:Option Addr,∃ n4:Nat,∃ c4:Nat,∃ A5:Option Addr,∃ n5:Nat,∃ c5:Nat,∃ A6:Option Addr,∃ n6:Nat,∃ c6:Nat,e=.returned (.tuple #[.slice A0 n0 c0,.bool r.2.1])∧B.Loc w w' [.box g2 Tb3 [.slice A1 n1 c1,.slice A2 n2 c2,.slice A3 n3 c3,.slice A4 n4 c4,.slice A5 n5 c5,.slice A6 n6 c6,.int .i64 r.2.2.dots],.own (.slice A0 n0 c0) 76 1 n0 (r.1.flatMap (eI .u64))] [St w [[g2]]]∧Ow w.heap.size A0 n0 c0 r.1∧Rw Yuj w' (Nw w w' F [.box g2 Tb3 [.slice A1 n1 c1,.slice A2 n2 c2,.slice A3 n3 c3,.slice A4 n4 c4,.slice A5 n5 c5,.slice A6 n6 c6,.int .i64 r.2.2.dots],.own (.slice A0 n0 c0) 76 1 n0 (r.1.flatMap (eI .u64))]) A1 n1 c1 r.2.2.g.terms∧Rw Yuq w' (Nw w w' F [.box g2 Tb3 [.slice A1 n1 c1,.slice A2 n2 c2,.slice A3 n3 c3,.slice A4 n4 c4,.slice A5 n5 c5,.slice A6 n6 c6,.int .i64 r.2.2.dots],.own (.slice A0 n0 c0) 76 1 n0 (r.1.flatMap (eI .u64))]) A2 n2 c2 r.2.2.g.syms∧Rw Yun w' (Nw w w' F [.box g2 Tb3 [.slice A1 n1 c1,.slice A2 n2 c2,.slice A3 n3 c3,.slice A4 n4 c4,.slice A5 n5 c5,.slice A6 n6 c6,.int .i64 r.2.2.dots],.own (.slice A0 n0 c0) 76 1 n0 (r.1.flatMap (eI .u64))]) A3 n3 c3 r.2.2.g.prods∧Rw Yzi w' (Nw w w' F [.box g2 Tb3 [.slice A1 n1 c1,.slice A2 n2 c2,.slice A3 n3 c3,.slice A4 n4 c4,.slice A5 n5 c5,.slice A6 n6 c6,.int .i64 r.2.2.dots],.own (.slice A0 n0 c0) 76 1 n0 (r.1.flatMap (eI .u64))]) A4 n4 c4 r.2.2.none∧Rw (Yw6 .u64) w' (Nw w w' F [.box g2 Tb3 [.slice A1 n1 c1,.slice A2 n2 c2,.slice A3 n3 c3,.slice A4 n4 c4,.slice A5 n5 c5,.slice A6 n6 c6,.int .i64 r.2.2.dots],.own (.slice A0 n0 c0) 76 1 n0 (r.1.flatMap (eI .u64))]) A5 n5 c5 r.2.2.first∧Rw (Yw6 .i64) w' (Nw w w' F [.box g2 Tb3 [.slice A1 n1 c1,.slice A2 n2 c2,.slice A3 n3 c3,.slice A4 n4 c4,.slice A5 n5 c5,.slice A6 n6 c6,.int .i64 r.2.2.dots],.own (.slice A0 n0 c0) 76 1 n0 (r.1.flatMap (eI .u64))]) A6 n6 c6 r.2.2.at_
noncomputable abbrev Yxn (w:World) (F:Nat→Prop) (g2:Nat) (Tb3:Nat) (r:(List Int) × Bool × Yuc):Cx:=⟨Tryd.prog,49,Tryd.f49,94,Zb7 w F g2 Tb3 r,w⟩
theorem Zgu (w:World) (F:Nat→Prop) (x1:Yuc) (x28:List Int) (x33:Int) (g2:Nat) (Tb3:Nat) (A4:Option Addr) (n5:Nat) (c6:Nat) (A8:Option Addr) (n9:Nat) (c10:Nat) (A12:Option Addr) (n13:Nat) (c14:Nat) (A16:Option Addr) (n17:Nat) (c18:Nat) (A20:Option Addr) (n21:Nat) (c22:Nat) (A24:Option Addr) (n25:Nat) (c26:Nat) (A29:Option Addr) (n30:Nat) (c31:Nat) (h7:Rw Yuj w F A4 n5 c6 x1.g.terms) (h11:Rw Yuq w F A8 n9 c10 x1.g.syms) (h15:Rw Yun w F A12 n13 c14 x1.g.prods) (h19:Rw Yzi w F A16 n17 c18 x1.none) (h23:Rw (Yw6 .u64) w F A20 n21 c22 x1.first) (h27:Rw (Yw6 .i64) w F A24 n25 c26 x1.at_) (h32:Rw (Yw6 .u64) w (St w [[g2]]).av A29 n30 c31 x28) (hF:∀ b,F b→b < w.heap.size∧∀ o ∈ ([[g2]]:List (List Nat)),b ∉ o) (hL0:B.Loc w w [.box g2 Tb3 [.slice A4 n5 c6,.slice A8 n9 c10,.slice A12 n13 c14,.slice A16 n17 c18,.slice A20 n21 c22,.slice A24 n25 c26,.int .i64 x1.dots]] [Sm w.heap.size F w [[g2]],St w [[g2]]]) (r:(List Int) × Bool × Yuc) (h:Yzk x1 x28 x33 r):Calls Tryd.prog 49 #[.pointer (some ⟨g2,0,none⟩),.slice A29 n30 c31,.int .i64 x33] w (Zb7 w F g2 Tb3 r):=by
 unfold Yzk at h
 have h7:=Rw.into (bs:=[[g2]]) hF h7
 have h11:=Rw.into (bs:=[[g2]]) hF h11
 have h15:=Rw.into (bs:=[[g2]]) hF h15
 have h19:=Rw.into (bs:=[[g2]]) hF h19
 have h23:=Rw.into (bs:=[[g2]]) hF h23
 have h27:=Rw.into (bs:=[[g2]]) hF h27
 refine Yv5 (vs:=[.pointer (some ⟨g2,0,none⟩),.slice A29 n30 c31,.int .i64 x33]) 94 Tryd.func49 rfl Tryd.ntmps49 rfl hL0 ?_
 show G (Yxn w F g2 Tb3 r) _ _ _ _
 refine Yu9 rfl<|Yu4 rfl rfl<|Yu2 0 rfl (Yu7 rfl) gn rfl<|Yu2 1 rfl (Yu7 rfl) gn rfl<|Yua 2 rfl<|Yu9 rfl<|Yu4 rfl rfl<|Yu2 0 rfl (Yu3 rfl) gn rfl<|Yu2 1 rfl (Yuy rfl) gn rfl<|Yu2 2 rfl (Yub Ziv rfl) gn rfl<|Yu2 3 rfl (Yue 0 Yvt rfl rfl rfl) gn rfl ?_
 obtain ⟨hb34,h⟩:=h
 obtain ⟨x38,hv39,h⟩:=h
 refine Yve 4 rfl (Zib (enc:=(eI .u64)) (z:=0) mk_92 rfl (by decide) rfl rfl hb34.1 hb34.2 (by decide) hv39 rfl fun A35 h36=>?_) gn
 refine Yu2 5 rfl (Yu7 rfl) gn rfl<|Yua 6 rfl<|Yu9 rfl<|Yu4 rfl rfl<|Yu2 0 rfl (Yu7 rfl) gn rfl<|Yua 1 rfl<|Yu9 rfl<|Yu9 rfl<|Yu4 rfl rfl<|Yu2 0 rfl (Yu7 rfl) gn rfl<|Yua 1 rfl<|Yuw rfl ?_
 refine Ywm rfl ?_
 have key1:∀ s,Yui (fun (s:(List Int) × Bool × Int) o=>Ywu x1 x33 x28 s.1 s.2.1 s.2.2 o) s r→(fun (s:(List Int) × Bool × Int)=>∀ (h161:Ow w.heap.size A35 (x1.dots:Int).toNat (x1.dots:Int).toNat s.1),G (Yxn w F g2 Tb3 r) [.code Zfj,.inLoop Zfj,.inBlock 0,.code Zky] [(0,.pointer (some ⟨g2,0,none⟩)),(1,.slice A29 n30 c31),(2,.int .i64 x33),(8,.slice A35 ((x1.dots:Int).toNat) ((x1.dots:Int).toNat)),(9,.bool s.2.1),(10,.int .i64 s.2.2)] [.own (.slice A35 ((x1.dots:Int).toNat) ((x1.dots:Int).toNat)) 76 1 ((x1.dots:Int).toNat) (s.1.flatMap (eI .u64)),.box g2 Tb3 [.slice A4 n5 c6,.slice A8 n9 c10,.slice A12 n13 c14,.slice A16 n17 c18,.slice A20 n21 c22,.slice A24 n25 c26,.int .i64 x1.dots]] [Sm w.heap.size F w [[g2]],St w [[g2]]]) s:=by
  intro s hs
  refine Yui.ind (mot:=(fun (s:(List Int) × Bool × Int)=>∀ (h161:Ow w.heap.size A35 (x1.dots:Int).toNat (x1.dots:Int).toNat s.1),G (Yxn w F g2 Tb3 r) [.code Zfj,.inLoop Zfj,.inBlock 0,.code Zky] [(0,.pointer (some ⟨g2,0,none⟩)),(1,.slice A29 n30 c31),(2,.int .i64 x33),(8,.slice A35 ((x1.dots:Int).toNat) ((x1.dots:Int).toNat)),(9,.bool s.2.1),(10,.int .i64 s.2.2)] [.own (.slice A35 ((x1.dots:Int).toNat) ((x1.dots:Int).toNat)) 76 1 ((x1.dots:Int).toNat) (s.1.flatMap (eI .u64)),.box g2 Tb3 [.slice A4 n5 c6,.slice A8 n9 c10,.slice A12 n13 c14,.slice A16 n17 c18,.slice A20 n21 c22,.slice A24 n25 c26,.int .i64 x1.dots]] [Sm w.heap.size F w [[g2]],St w [[g2]]])) ?_ hs
  clear hs s
  intro s o1 h hO1
  obtain ⟨x160,x162,x163⟩:=s
  show ∀ (h161:Ow w.heap.size A35 (x1.dots:Int).toNat (x1.dots:Int).toNat x160),G (Yxn w F g2 Tb3 r) [.code Zfj,.inLoop Zfj,.inBlock 0,.code Zky] [(0,.pointer (some ⟨g2,0,none⟩)),(1,.slice A29 n30 c31),(2,.int .i64 x33),(8,.slice A35 ((x1.dots:Int).toNat) ((x1.dots:Int).toNat)),(9,.bool x162),(10,.int .i64 x163)] [.own (.slice A35 ((x1.dots:Int).toNat) ((x1.dots:Int).toNat)) 76 1 ((x1.dots:Int).toNat) (x160.flatMap (eI .u64)),.box g2 Tb3 [.slice A4 n5 c6,.slice A8 n9 c10,.slice A12 n13 c14,.slice A16 n17 c18,.slice A20 n21 c22,.slice A24 n25 c26,.int .i64 x1.dots]] [Sm w.heap.size F w [[g2]],St w [[g2]]]
  intro h161
  have h:Ywu x1 x33 x28 x160 x162 x163 o1:=h
  unfold Ywu at h
  refine Yu9 rfl<|Yu9 rfl<|Yu4 rfl rfl<|Yu2 0 rfl (Yu3 rfl) gn rfl<|Yu2 1 rfl (Yu3 rfl) gn rfl<|Yu2 2 rfl (Yuy rfl) gn rfl<|Yu2 3 rfl (Yub Zcq rfl) gn rfl<|Yu2 4 rfl (Yub Yvf rfl) gn rfl<|Yu2 5 rfl (Yue 1 Ywb rfl rfl rfl) gn rfl<|Yu2 6 rfl (Yuo Za3 rfl h15.hq) gn rfl<|Yu2 7 rfl (Yug rfl rfl rfl) gn rfl<|Yua 8 rfl ?_
  by_cases hp323:x163 < (x1.g.prods.length:Int)
  ·have h:=Yul hp323 h
   refine Yv4 rfl _ rfl ((decide_eq_true hp323))<|Yv2 rfl<|Yu9 rfl<|Yuw rfl<|Yu9 rfl<|Yu4 rfl rfl<|Yu2 0 rfl (Yu3 rfl) gn rfl<|Yu2 1 rfl (Yuy rfl) gn rfl<|Yu2 2 rfl (Yub Zcq rfl) gn rfl<|Yu2 3 rfl (Yub Yvf rfl) gn rfl<|Yu2 4 rfl (Yue 1 Ywb rfl rfl rfl) gn rfl<|Yu2 5 rfl (Yu3 rfl) gn rfl ?_
   obtain ⟨hb324,h⟩:=h
   obtain ⟨ce326,hK327,hr325⟩:=Rw.read (s:=Sm w.heap.size F w [[g2]]) h15 hb324
   obtain ⟨A328,n329,c330,rfl,h331⟩:=hK327
   refine Yu2 6 rfl (Yv7 (s:=Sm w.heap.size F w [[g2]]) Yxh rfl rfl h15 hb324) gn rfl<|Yu2 7 rfl (Yvo Yw1 rfl) gn rfl<|Yu2 8 rfl (Yvj (kk:=(x163:Int).toNat * 2) (j:=1) (Sm w.heap.size F w [[g2]]) Yyc rfl hr325 rfl (me 0 rfl)) gn rfl<|Yu2 9 rfl (Yu7 rfl) gn rfl<|Yua 10 rfl<|Yu9 rfl<|Yu4 rfl rfl<|Yu2 0 rfl (Yu7 rfl) gn rfl<|Yua 1 rfl<|Yuw rfl<|Ywm rfl ?_
   have key2:∀ s,Yui (fun (s:(List Int) × Bool × Int) o=>Ywf x1 x163 x33 x28 s.1 s.2.1 s.2.2 o) s o1→(fun (s:(List Int) × Bool × Int)=>∀ (h369:Ow w.heap.size A35 (x1.dots:Int).toNat (x1.dots:Int).toNat s.1),G (Yxn w F g2 Tb3 r) [.code Zhv,.inLoop Zhv,.inBlock 2,.inBlock 1,.code Znp,.inLoop Zfj,.inBlock 0,.code Zky] [(0,.pointer (some ⟨g2,0,none⟩)),(1,.slice A29 n30 c31),(2,.int .i64 x33),(8,.slice A35 ((x1.dots:Int).toNat) ((x1.dots:Int).toNat)),(9,.bool s.2.1),(10,.int .i64 x163),(11,.slice A328 n329 c330),(12,.int .i64 s.2.2)] [.own (.slice A35 ((x1.dots:Int).toNat) ((x1.dots:Int).toNat)) 76 1 ((x1.dots:Int).toNat) (s.1.flatMap (eI .u64)),.box g2 Tb3 [.slice A4 n5 c6,.slice A8 n9 c10,.slice A12 n13 c14,.slice A16 n17 c18,.slice A20 n21 c22,.slice A24 n25 c26,.int .i64 x1.dots]] [Sm w.heap.size F w [[g2]],St w [[g2]]]) s:=by
    intro s hs
    refine Yui.ind (mot:=(fun (s:(List Int) × Bool × Int)=>∀ (h369:Ow w.heap.size A35 (x1.dots:Int).toNat (x1.dots:Int).toNat s.1),G (Yxn w F g2 Tb3 r) [.code Zhv,.inLoop Zhv,.inBlock 2,.inBlock 1,.code Znp,.inLoop Zfj,.inBlock 0,.code Zky] [(0,.pointer (some ⟨g2,0,none⟩)),(1,.slice A29 n30 c31),(2,.int .i64 x33),(8,.slice A35 ((x1.dots:Int).toNat) ((x1.dots:Int).toNat)),(9,.bool s.2.1),(10,.int .i64 x163),(11,.slice A328 n329 c330),(12,.int .i64 s.2.2)] [.own (.slice A35 ((x1.dots:Int).toNat) ((x1.dots:Int).toNat)) 76 1 ((x1.dots:Int).toNat) (s.1.flatMap (eI .u64)),.box g2 Tb3 [.slice A4 n5 c6,.slice A8 n9 c10,.slice A12 n13 c14,.slice A16 n17 c18,.slice A20 n21 c22,.slice A24 n25 c26,.int .i64 x1.dots]] [Sm w.heap.size F w [[g2]],St w [[g2]]])) ?_ hs
    clear hs s
    intro s o2 h hO2
    obtain ⟨x368,x370,x371⟩:=s
    show ∀ (h369:Ow w.heap.size A35 (x1.dots:Int).toNat (x1.dots:Int).toNat x368),G (Yxn w F g2 Tb3 r) [.code Zhv,.inLoop Zhv,.inBlock 2,.inBlock 1,.code Znp,.inLoop Zfj,.inBlock 0,.code Zky] [(0,.pointer (some ⟨g2,0,none⟩)),(1,.slice A29 n30 c31),(2,.int .i64 x33),(8,.slice A35 ((x1.dots:Int).toNat) ((x1.dots:Int).toNat)),(9,.bool x370),(10,.int .i64 x163),(11,.slice A328 n329 c330),(12,.int .i64 x371)] [.own (.slice A35 ((x1.dots:Int).toNat) ((x1.dots:Int).toNat)) 76 1 ((x1.dots:Int).toNat) (x368.flatMap (eI .u64)),.box g2 Tb3 [.slice A4 n5 c6,.slice A8 n9 c10,.slice A12 n13 c14,.slice A16 n17 c18,.slice A20 n21 c22,.slice A24 n25 c26,.int .i64 x1.dots]] [Sm w.heap.size F w [[g2]],St w [[g2]]]
    intro h369
    have h:Ywf x1 x163 x33 x28 x368 x370 x371 o2:=h
    unfold Ywf at h
    refine Yu9 rfl<|Yu9 rfl<|Yu4 rfl rfl<|Yu2 0 rfl (Yu3 rfl) gn rfl<|Yu2 1 rfl (Yu3 rfl) gn rfl<|Yu2 2 rfl (Yuo Za5 rfl h331.hq) gn rfl<|Yu2 3 rfl (Yug rfl rfl rfl) gn rfl<|Yua 4 rfl ?_
    by_cases hp407:x371 < (((ix x1.g.prods x163).rhs).length:Int)
    ·have h:=Yul hp407 h
     refine Yv4 rfl _ rfl ((decide_eq_true hp407))<|Yv2 rfl<|Yu9 rfl<|Yuw rfl<|Yu9 rfl ?_
     have j3:∀ (x416:Bool) (h:Yxe x163 x1 x371 x28 x368 x370 x416 o2) ,G (Yxn w F g2 Tb3 r) [.code q49c38,.inBlock 3,.code q49c35,.inLoop Zhv,.inBlock 2,.inBlock 1,.code Znp,.inLoop Zfj,.inBlock 0,.code Zky] [(0,.pointer (some ⟨g2,0,none⟩)),(1,.slice A29 n30 c31),(2,.int .i64 x33),(8,.slice A35 ((x1.dots:Int).toNat) ((x1.dots:Int).toNat)),(9,.bool x370),(10,.int .i64 x163),(11,.slice A328 n329 c330),(12,.int .i64 x371),(64,.bool x416)] [.own (.slice A35 ((x1.dots:Int).toNat) ((x1.dots:Int).toNat)) 76 1 ((x1.dots:Int).toNat) (x368.flatMap (eI .u64)),.box g2 Tb3 [.slice A4 n5 c6,.slice A8 n9 c10,.slice A12 n13 c14,.slice A16 n17 c18,.slice A20 n21 c22,.slice A24 n25 c26,.int .i64 x1.dots]] [Sm w.heap.size F w [[g2]],St w [[g2]]]:=by
      intro x416 h
      unfold Yxe at h
      by_cases hp417:x416=true
      ·have h:=Yul hp417 h
       refine Yv4 rfl _ rfl (hp417)<|Yu9 rfl ?_
       obtain ⟨hb418,h⟩:=h
       obtain ⟨hb421,h⟩:=h
       obtain ⟨hb423,h⟩:=h
       obtain ⟨x424,hv425,h⟩:=h
       have hns:Region.noSelect (Code.ops q49c41)=true:=by kernel_rfl
       refine Yvr [24] 25 rfl rfl mix rfl (.c 0 rfl (.c 1 rfl .n))<|wfv 0 rfl (Yu3 rfl) gn hns (by kernel_rfl)<|wfv 1 rfl (Yu3 rfl) gn hns (by kernel_rfl)<|wfv 2 rfl (Yuy rfl) gn hns (by kernel_rfl)<|wfv 3 rfl (Yub Zdz rfl) gn hns (by kernel_rfl)<|wfv 4 rfl (Yue 1 Zew rfl rfl rfl) gn hns (by kernel_rfl)<|wfv 5 rfl (Yu3 rfl) gn hns (by kernel_rfl) ?_
       have hr431:=Rw.readF (s:=Sm w.heap.size F w [[g2]]) (hl:=(hlI .i64)) (h1:=(Yya .i64)) h27 hb418
       refine wfv 6 rfl (Yv7 (s:=Sm w.heap.size F w [[g2]]) Zfx rfl rfl h27 hb418) gn hns (by kernel_rfl)<|wfv 7 rfl (Yvj (kk:=(x163:Int).toNat * 1) (j:=0) (Sm w.heap.size F w [[g2]]) Yvt rfl hr431 rfl (me 0 rfl)) gn hns (by kernel_rfl)<|wfv 8 rfl (Yu3 rfl) gn hns (by kernel_rfl)<|wfv 9 rfl (Yug rfl rfl rfl) gn hns (by kernel_rfl)<|wfv 10 rfl (Yug rfl rfl rfl) gn hns (by kernel_rfl)<|wfv 11 rfl (Yu3 rfl) gn hns (by kernel_rfl)<|wfv 12 rfl (Yu3 rfl) gn hns (by kernel_rfl)<|wfv 13 rfl (Yuy rfl) gn hns (by kernel_rfl)<|wfv 14 rfl (Yub Zdz rfl) gn hns (by kernel_rfl)<|wfv 15 rfl (Yue 1 Zew rfl rfl rfl) gn hns (by kernel_rfl)<|wfv 16 rfl (Yu3 rfl) gn hns (by kernel_rfl) ?_
       have hr432:=Rw.readF (s:=Sm w.heap.size F w [[g2]]) (hl:=(hlI .i64)) (h1:=(Yya .i64)) h27 hb418
       refine wfv 17 rfl (Yv7 (s:=Sm w.heap.size F w [[g2]]) Zfx rfl rfl h27 hb418) gn hns (by kernel_rfl)<|wfv 18 rfl (Yvj (kk:=(x163:Int).toNat * 1) (j:=0) (Sm w.heap.size F w [[g2]]) Yvt rfl hr432 rfl (me 0 rfl)) gn hns (by kernel_rfl)<|wfv 19 rfl (Yu3 rfl) gn hns (by kernel_rfl)<|wfv 20 rfl (Yug rfl rfl rfl) gn hns (by kernel_rfl) ?_
       have hr433:=Rw.readF (s:=St w [[g2]]) (hl:=(hlI .u64)) (h1:=(Yya .u64)) h32 hb421
       refine wfv 21 rfl (Yv7 (s:=St w [[g2]]) Zhu rfl rfl h32 hb421) gn hns (by kernel_rfl)<|wfv 22 rfl (Yvj (kk:=(w64 ((ix x1.at_ x163) + x371):Int).toNat * 1) (j:=0) (St w [[g2]]) Zdt rfl hr433 rfl (me 1 rfl)) gn hns (by kernel_rfl)<|wfv 23 rfl (Yyn Zhu rfl rfl h369 hb423) gn hns (by kernel_rfl) ?_
       refine Ywl [24] (by kernel_rfl) rfl ⟨Zi7 24 rfl gn rfl (Zgm (enc:=(eI .u64)) (o:=0) (z:=(ix x28 (w64 ((ix x1.at_ x163) + x371)))) (vs:=[.int .u64 (ix x28 (w64 ((ix x1.at_ x163) + x371)))]) (i:=(w64 ((w64 ((ix x1.at_ x163) + x371)) + 1))) 0 (hlI .u64) Zjs rfl rfl rfl rfl rfl h369 hb423 rfl rfl rfl hv425 fun h434=>?_),trivial⟩
       unfold NxL
       refine Yvx (by kernel_rfl)<|Yu4 rfl rfl<|Yu2 0 rfl (Yu7 rfl) gn rfl<|Yua 1 rfl<|Yux<|Yu4 rfl rfl<|Yu2 0 rfl (Yu3 rfl) gn rfl<|Yu2 1 rfl (Yug rfl rfl rfl) gn rfl<|Yu2 2 rfl (Yu7 rfl) gn rfl<|Yua 3 rfl<|Yv1 ?_
       have ih:=Out.inl hO2 h
       exact Yvh [0,1] (ih h434) ⟨rfl,rfl,rfl,rfl,rfl,rfl,rfl,rfl,trivial⟩ (.cons_cons _ (.cons_cons _ (.slnil))) rfl
      ·have h:=Yum hp417 h
       refine Yur rfl _ rfl ((bf hp417))<|Yv2 rfl<|Yux<|Yu4 rfl rfl<|Yu2 0 rfl (Yu3 rfl) gn rfl<|Yu2 1 rfl (Yug rfl rfl rfl) gn rfl<|Yu2 2 rfl (Yu7 rfl) gn rfl<|Yua 3 rfl<|Yv1 ?_
       have ih:=Out.inl hO2 h
       exact Yvh [0,1] (ih h369) ⟨rfl,rfl,rfl,rfl,rfl,rfl,rfl,rfl,trivial⟩ (.cons_cons _ (.cons_cons _ (.slnil))) rfl
     refine Yu4 rfl rfl<|Yu2 0 rfl (Yu3 rfl) gn rfl<|Yu2 1 rfl (Yu3 rfl) gn rfl ?_
     obtain ⟨hb435,h⟩:=h
     have hr436:=Rw.readF (s:=Sm w.heap.size F w [[g2]]) (hl:=Yvw) (h1:=Yvy) h331 hb435
     refine Yu2 2 rfl (Yv7 (s:=Sm w.heap.size F w [[g2]]) Yz5 rfl rfl h331 hb435) gn rfl<|Yu2 3 rfl (Yvo Yyd rfl) gn rfl<|Yu2 4 rfl (Yvj (kk:=(x371:Int).toNat * 3) (j:=0) (Sm w.heap.size F w [[g2]]) Yvt rfl hr436 rfl (me 0 rfl)) gn rfl<|Yu2 5 rfl (Yu3 rfl) gn rfl<|Yu2 6 rfl (Yug rfl rfl rfl) gn rfl<|Yu2 7 rfl (Yu3 rfl) gn rfl ?_
     by_cases hp437:(ix ((ix x1.g.prods x163).rhs) x371).sym=x33
     ·have h:=Yul hp437 h
      refine Yvi 50 rfl ((eqi hp437))<|Yu2 8 rfl (Yu3 rfl) (gy 50 rfl rfl) rfl<|Yu2 9 rfl (Yu3 rfl) (gy 50 rfl rfl) rfl<|Yu2 10 rfl (Yuy rfl) (gy 50 rfl rfl) rfl<|Yu2 11 rfl (Yub Zdz rfl) (gy 50 rfl rfl) rfl<|Yu2 12 rfl (Yue 1 Zew rfl rfl rfl) (gy 50 rfl rfl) rfl<|Yu2 13 rfl (Yu3 rfl) (gy 50 rfl rfl) rfl ?_
      obtain ⟨hb438,h⟩:=h
      have hr439:=Rw.readF (s:=Sm w.heap.size F w [[g2]]) (hl:=(hlI .i64)) (h1:=(Yya .i64)) h27 hb438
      refine Yu2 14 rfl (Yv7 (s:=Sm w.heap.size F w [[g2]]) Zfx rfl rfl h27 hb438) (gy 50 rfl rfl) rfl<|Yu2 15 rfl (Yvj (kk:=(x163:Int).toNat * 1) (j:=0) (Sm w.heap.size F w [[g2]]) Yvt rfl hr439 rfl (me 0 rfl)) (gy 50 rfl rfl) rfl<|Yu2 16 rfl (Yu3 rfl) (gy 50 rfl rfl) rfl<|Yu2 17 rfl (Yug rfl rfl rfl) (gy 50 rfl rfl) rfl ?_
      obtain ⟨hb440,h⟩:=h
      have hr441:=Rw.readF (s:=St w [[g2]]) (hl:=(hlI .u64)) (h1:=(Yya .u64)) h32 hb440
      refine Yu2 18 rfl (Yv7 (s:=St w [[g2]]) Zhu rfl rfl h32 hb440) (gy 50 rfl rfl) rfl<|Yu2 19 rfl (Yvj (kk:=(w64 ((ix x1.at_ x163) + x371):Int).toNat * 1) (j:=0) (St w [[g2]]) Zdt rfl hr441 rfl (me 1 rfl)) (gy 50 rfl rfl) rfl<|Yu2 20 rfl (Yug rfl rfl rfl) (gy 50 rfl rfl) rfl<|Yu2 21 rfl (Yuk (b:=true) rfl rfl) gn rfl<|Yua 22 rfl ?_
      exact Yvh [0,1] (j3 ((ix x28 (w64 ((ix x1.at_ x163) + x371))) != 0) h) ⟨rfl,rfl,rfl,rfl,rfl,rfl,rfl,rfl,rfl,trivial⟩ (.cons_cons _ (.cons_cons _ (.slnil))) rfl
     ·have h:=Yum hp437 h
      refine Yvi 50 rfl ((nei hp437))<|Yu6 8 rfl (ps 50 rfl rfl rfl)<|Yu6 9 rfl (ps 50 rfl rfl rfl)<|Yu6 10 rfl (ps 50 rfl rfl rfl)<|Yu6 11 rfl (ps 50 rfl rfl rfl)<|Yu6 12 rfl (ps 50 rfl rfl rfl)<|Yu6 13 rfl (ps 50 rfl rfl rfl)<|Yu6 14 rfl (ps 50 rfl rfl rfl)<|Yu6 15 rfl (ps 50 rfl rfl rfl)<|Yu6 16 rfl (ps 50 rfl rfl rfl)<|Yu6 17 rfl (ps 50 rfl rfl rfl)<|Yu6 18 rfl (ps 50 rfl rfl rfl) ?_
      refine Yu6 19 rfl (ps 50 rfl rfl rfl)<|Yu6 20 rfl (ps 50 rfl rfl rfl)<|Yu2 21 rfl (Yuk (b:=false) rfl rfl) gn rfl<|Yua 22 rfl ?_
      exact Yvh [0,1] (j3 false h) ⟨rfl,rfl,rfl,rfl,rfl,rfl,rfl,rfl,rfl,trivial⟩ (.cons_cons _ (.cons_cons _ (.slnil))) rfl
    ·have h:=Yum hp407 h
     refine Yur rfl _ rfl ((decide_eq_false hp407))<|Ywa [.inBlock 1,.code Znp,.inLoop Zfj,.inBlock 0,.code Zky] rfl rfl<|Yux<|Yu4 rfl rfl<|Yu2 0 rfl (Yu3 rfl) gn rfl<|Yu2 1 rfl (Yug rfl rfl rfl) gn rfl<|Yu2 2 rfl (Yu7 rfl) gn rfl<|Yua 3 rfl<|Yv1 ?_
     have h:=Out.inr hO2 h
     have ih:=Out.inl hO1 h
     exact Yvh [0,1] (ih h369) ⟨rfl,rfl,rfl,rfl,rfl,rfl,trivial⟩ (.cons_cons _ (.cons_cons _ (.slnil))) rfl
   exact Yvh [0,1] (key2 _ h h161) ⟨rfl,rfl,rfl,rfl,rfl,rfl,rfl,rfl,trivial⟩ (.cons_cons _ (.cons_cons _ (.slnil))) rfl
  ·have h:=Yum hp323 h
   refine Yur rfl _ rfl ((decide_eq_false hp323))<|Ywa [.code Zky] rfl rfl<|Yu9 rfl<|Yu9 rfl<|Yu4 rfl rfl<|Yu2 0 rfl (Yu3 rfl) gn rfl<|Yu2 1 rfl (Zf9 rfl) gn rfl<|Yua 2 rfl ?_
   by_cases hp442:x162=true
   ·have h:=Yul hp442 h
    refine Yur rfl _ rfl ((nf hp442))<|Yv2 rfl<|Yu9 rfl<|Yu4 rfl rfl<|Yu2 0 rfl (Yu3 rfl) gn rfl<|Yu2 1 rfl (Yu3 rfl) gn rfl ?_
    obtain ⟨r446,hv447,h⟩:=h
    refine Yve 2 rfl (Yvz [.pointer (some ⟨g2,0,none⟩),.slice A35 ((x1.dots:Int).toNat) ((x1.dots:Int).toNat)] rfl Tryd.func48 rfl rfl rfl fun w443 hL444=>?_) gn
    have hp445:=pmI hL444 (.c 1 rfl (.c 0 rfl .n)) .n (by kernel_rfl)
    refine Calls.mono (Zbc w443 (Fl ([Sm w.heap.size F w [[g2]]]:List Yva)) x1 x160 g2 Tb3 A4 n5 c6 A8 n9 c10 A12 n13 c14 A16 n17 c18 A20 n21 c22 A24 n25 c26 w.heap.size A35 ((x1.dots:Int).toNat) ((x1.dots:Int).toNat) (Rw.mono h7 (hL444.toFl (me 0 rfl) (me 0 rfl))) (Rw.mono h11 (hL444.toFl (me 0 rfl) (me 0 rfl))) (Rw.mono h15 (hL444.toFl (me 0 rfl) (me 0 rfl))) (Rw.mono h19 (hL444.toFl (me 0 rfl) (me 0 rfl))) (Rw.mono h23 (hL444.toFl (me 0 rfl) (me 0 rfl))) (Rw.mono h27 (hL444.toFl (me 0 rfl) (me 0 rfl))) hL444.env.size h161 (hL444.hFl hp445 (Yvm [0] rfl)) (hL444.into hp445 _) r446 hv447) ?_
    rintro _ w477 ⟨A448,n449,c450,A453,n454,c455,A457,n458,c459,A461,n462,c463,A465,n466,c467,A469,n470,c471,A473,n474,c475,rfl,hM478,h451,h456,h460,h464,h468,h472,h476⟩
    obtain ⟨sb481,hL479,hv480⟩:=hL444.callB (Sl:=([Sm w.heap.size F w [[g2]]]:List Yva)) hp445 hM478 F (Yvm [0] rfl) ⟨Sm.ok,trivial⟩
    have h456:At Yuj (Sm w.heap.size F w477 sb481) A453 n454 c455 r446.2.g.terms:=Rw.mono h456 hv480
    have h460:At Yuq (Sm w.heap.size F w477 sb481) A457 n458 c459 r446.2.g.syms:=Rw.mono h460 hv480
    have h464:At Yun (Sm w.heap.size F w477 sb481) A461 n462 c463 r446.2.g.prods:=Rw.mono h464 hv480
    have h468:At Yzi (Sm w.heap.size F w477 sb481) A465 n466 c467 r446.2.none:=Rw.mono h468 hv480
    have h472:At (Yw6 .u64) (Sm w.heap.size F w477 sb481) A469 n470 c471 r446.2.first:=Rw.mono h472 hv480
    have h476:At (Yw6 .i64) (Sm w.heap.size F w477 sb481) A473 n474 c475 r446.2.at_:=Rw.mono h476 hv480
    refine ⟨_,_,_,rfl,hL479,?_⟩
    refine Yu2 3 rfl (Yu7 rfl) gn rfl<|Yu2 4 rfl (Yu7 rfl) gn rfl<|Yua 5 rfl ?_
    have h:=Out.inr hO1 h
    refine Yvb [.slice A448 n449 c450,.bool true] rfl Tryd.func49 rfl (.tmp rfl (.tmp rfl (.nil))) fun wr hLr=>?_
    have hMr:=hLr.pkI (.c 0 rfl (.c 1 rfl .n)) .n (by kernel_rfl) (.c 2 rfl .n)
    have hMi:=hLr.selI (.c 0 rfl (.c 1 rfl .n))
    show Zb7 w F g2 Tb3 r (.returned (Yvl [.slice A448 n449 c450,.bool true])) wr
    rw [h]
    exact ⟨A448,n449,c450,A453,n454,c455,A457,n458,c459,A461,n462,c463,A465,n466,c467,A469,n470,c471,A473,n474,c475,rfl,hMr,h451,(hLr.outR (s:=Sm w.heap.size F w477 sb481) hMi (me 0 rfl) Sm.ok h456),(hLr.outR (s:=Sm w.heap.size F w477 sb481) hMi (me 0 rfl) Sm.ok h460),(hLr.outR (s:=Sm w.heap.size F w477 sb481) hMi (me 0 rfl) Sm.ok h464),(hLr.outR (s:=Sm w.heap.size F w477 sb481) hMi (me 0 rfl) Sm.ok h468),(hLr.outR (s:=Sm w.heap.size F w477 sb481) hMi (me 0 rfl) Sm.ok h472),(hLr.outR (s:=Sm w.heap.size F w477 sb481) hMi (me 0 rfl) Sm.ok h476)⟩
   ·have h:=Yum hp442 h
    refine Yv4 rfl _ rfl ((nt (bf hp442)))<|Yu9 rfl<|Yu4 rfl rfl<|Yu2 0 rfl (Yu7 rfl) gn rfl<|Yu2 1 rfl (Yu7 rfl) gn rfl<|Yua 2 rfl<|Zf4 76 1 ?_
    have h:=Out.inr hO1 h
    refine Yvb [.slice none 0 0,.bool false] rfl Tryd.func49 rfl (.tmp rfl (.tmp rfl (.nil))) fun wr hLr=>?_
    have hMr:=hLr.pkI (.c 2 rfl (.c 0 rfl .n)) (.c 1 rfl .n) (by kernel_rfl) (.c 1 rfl .n)
    have hMi:=hLr.selI (.c 2 rfl (.c 0 rfl .n))
    show Zb7 w F g2 Tb3 r (.returned (Yvl [.slice none 0 0,.bool false])) wr
    rw [h]
    exact ⟨none,0,0,A4,n5,c6,A8,n9,c10,A12,n13,c14,A16,n17,c18,A20,n21,c22,A24,n25,c26,rfl,hMr,(Ow.nil (z:=w.heap.size)),(hLr.outR (s:=Sm w.heap.size F w [[g2]]) hMi (me 0 rfl) Sm.ok h7),(hLr.outR (s:=Sm w.heap.size F w [[g2]]) hMi (me 0 rfl) Sm.ok h11),(hLr.outR (s:=Sm w.heap.size F w [[g2]]) hMi (me 0 rfl) Sm.ok h15),(hLr.outR (s:=Sm w.heap.size F w [[g2]]) hMi (me 0 rfl) Sm.ok h19),(hLr.outR (s:=Sm w.heap.size F w [[g2]]) hMi (me 0 rfl) Sm.ok h23),(hLr.outR (s:=Sm w.heap.size F w [[g2]]) hMi (me 0 rfl) Sm.ok h27)⟩
 exact Yvh [0,1] (key1 _ h h36) ⟨rfl,rfl,rfl,rfl,rfl,rfl,trivial⟩ (.cons_cons _ (.cons_cons _ (.slnil))) rfl
abbrev Zal (w:World) (F:Nat→Prop) (r:List Yud):Ending→World→Prop:=fun e w'=>∃ A0:Option Addr,∃ n0:Nat,∃ c0:Nat,e=.returned (.slice A0 n0 c0)∧B.Loc w w' [.own (.slice A0 n0 c0) 31 3 n0 (r.flatMap Yv0)] [St w []]∧Ow w.heap.size A0 n0 c0 r
noncomputable abbrev Zjq (w:World) (F:Nat→Prop) (r:List Yud):Cx:=⟨Tryd.prog,31,Tryd.f31,35,Zal w F  r,w⟩
theorem Zhh (w:World) (F:Nat→Prop) (x1:Yu5) (x14:List Yud) (x19:Int) (A2:Option Addr) (n3:Nat) (c4:Nat) (A6:Option Addr) (n7:Nat) (c8:Nat) (A10:Option Addr) (n11:Nat) (c12:Nat) (A15:Option Addr) (n16:Nat) (c17:Nat) (h5:Rw Yuj w (St w []).av A2 n3 c4 x1.terms) (h9:Rw Yuq w (St w []).av A6 n7 c8 x1.syms) (h13:Rw Yun w (St w []).av A10 n11 c12 x1.prods) (h18:Rw Yxu w (St w []).av A15 n16 c17 x14) (hF:∀ b,F b→b < w.heap.size∧∀ o ∈ ([]:List (List Nat)),b ∉ o) (hL0:B.Loc w w [] [Sm w.heap.size F w [],St w []]) (r:List Yud) (h:Zbo x1 x14 x19 r):Calls Tryd.prog 31 #[.agg #[.slice A2 n3 c4,.slice A6 n7 c8,.slice A10 n11 c12],.slice A15 n16 c17,.int .i64 x19] w (Zal w F  r):=by
 unfold Zbo at h
 refine Yv5 (vs:=[.agg #[.slice A2 n3 c4,.slice A6 n7 c8,.slice A10 n11 c12],.slice A15 n16 c17,.int .i64 x19]) 35 Tryd.func31 rfl Tryd.ntmps31 rfl hL0 ?_
 show G (Zjq w F r) _ _ _ _
 refine Yu9 rfl<|Yu4 rfl rfl ?_
 refine Yve 0 rfl (Zas [.slice A2 n3 c4,.slice A6 n7 c8,.slice A10 n11 c12] rfl rfl rfl fun gb20=>?_) gn
 refine Yu2 1 rfl (Yu7 rfl) gn rfl<|Yua 2 rfl<|Yu9 rfl<|Yu4 rfl rfl<|Yu2 0 rfl (Yyr [.slice A2 n3 c4,.slice A6 n7 c8,.slice A10 n11 c12] 0 Yys rfl rfl rfl rfl) gn rfl ?_
 obtain ⟨r25,hv26,h⟩:=h
 refine Yve 1 rfl (Yvz [.agg #[.slice A2 n3 c4,.slice A6 n7 c8,.slice A10 n11 c12]] rfl Tryd.func18 rfl rfl rfl fun w22 hL23=>?_) gn
 have hp24:=pmI hL23 .n (.c 0 rfl .n) (by kernel_rfl)
 refine Calls.mono (Ze1 w22 (Fl ([]:List Yva)) x1 A2 n3 c4 A6 n7 c8 A10 n11 c12 (Rw.mono h5 (hL23.toSt hp24 (me 1 rfl))) (Rw.mono h9 (hL23.toSt hp24 (me 1 rfl))) (Rw.mono h13 (hL23.toSt hp24 (me 1 rfl))) (hL23.hFl hp24 (Yvm [] rfl)) (hL23.into hp24 _) r25 hv26) ?_
 rintro _ w27 ⟨rfl,hM28⟩
 have hL29:=hL23.call hp24 hM28
 refine ⟨_,_,_,rfl,hL29,?_⟩
 refine Yu2 2 rfl (Yu7 rfl) gn rfl<|Yua 3 rfl<|Yu9 rfl<|Yu9 rfl<|Yu4 rfl rfl<|Yu2 0 rfl (Yu3 rfl) gn rfl<|Yu2 1 rfl (Zf9 rfl) gn rfl<|Yua 2 rfl ?_
 by_cases hp30:r25=true
 ·have h:=Yul hp30 h
  refine Yur rfl _ rfl ((nf hp30))<|Yv2 rfl<|Yu9 rfl<|Yu4 rfl rfl<|Yu2 0 rfl (Yyr [.slice A2 n3 c4,.slice A6 n7 c8,.slice A10 n11 c12] 0 Yys rfl rfl rfl rfl) gn rfl ?_
  obtain ⟨r34,hv35,h⟩:=h
  refine Yve 1 rfl (Yvz [.agg #[.slice A2 n3 c4,.slice A6 n7 c8,.slice A10 n11 c12]] rfl Tryd.func45 rfl rfl rfl fun w31 hL32=>?_) gn
  have hp33:=pmI hL32 .n (.c 0 rfl .n) (by kernel_rfl)
  refine Calls.mono (Zd8 w31 (Fl ([St w []]:List Yva)) x1 A2 n3 c4 A6 n7 c8 A10 n11 c12 (Rw.mono h5 (hL32.toFl (me 1 rfl) (me 0 rfl))) (Rw.mono h9 (hL32.toFl (me 1 rfl) (me 0 rfl))) (Rw.mono h13 (hL32.toFl (me 1 rfl) (me 0 rfl))) (hL32.hFl hp33 (Yvm [1] rfl)) (hL32.into hp33 _) r34 hv35) ?_
  rintro _ w63 ⟨gb68,A48,n49,c50,A53,n54,c55,A58,n59,c60,A36,n37,c38,A40,n41,c42,A44,n45,c46,rfl,hM64,h51,h56,h61,h39,h43,h47⟩
  obtain ⟨sv67,hL65,hv66⟩:=hL32.callN (Sl:=([St w []]:List Yva)) hp33 hM64 (Yvm [1] rfl)
  have h39:At Yuj (sv67) A36 n37 c38 r34.g.terms:=Rw.mono h39 hv66
  have h43:At Yuq (sv67) A40 n41 c42 r34.g.syms:=Rw.mono h43 hv66
  have h47:At Yun (sv67) A44 n45 c46 r34.g.prods:=Rw.mono h47 hv66
  refine ⟨_,_,_,rfl,hL65,?_⟩
  refine Yu2 2 rfl (Yu7 rfl) gn rfl<|Yua 3 rfl<|Yu9 rfl<|Yu4 rfl rfl<|Yu2 0 rfl (Yu3 rfl) gn rfl<|Yu2 1 rfl (Yu3 rfl) gn rfl ?_
  obtain ⟨r82,hv83,h⟩:=h
  refine Ze5 (F:=F) (dk:=Yzi) (Sm w.heap.size F w []) 1 rfl (Ow.weak hL32.env.size h51) (me 1 rfl) Sm.ok (Cells.flat _) fun sw74 sb75 h73=>?_
  refine Ze5 (F:=F) (dk:=(Yw6 .u64)) (Sm w.heap.size F w []) 1 rfl (Ow.weak hL32.env.size h56) (me 2 rfl) Sm.ok (Cells.flat _) fun sw77 sb78 h76=>?_
  refine Ze5 (F:=F) (dk:=(Yw6 .i64)) (Sm w.heap.size F w []) 1 rfl (Ow.weak hL32.env.size h61) (me 3 rfl) Sm.ok (Cells.flat _) fun sw80 sb81 h79=>?_
  refine Yve 2 rfl (Yvz [.pointer (some ⟨gb68,0,none⟩),.slice A15 n16 c17] rfl Tryd.func46 rfl rfl rfl fun w70 hL71=>?_) gn
  have hp72:=pmI hL71 (.c 0 rfl .n) (.c 1 rfl .n) (by kernel_rfl)
  refine Calls.mono (Zf8 w70 (Fl ([sv67,Sm w.heap.size F sw74 sb75,Sm w.heap.size F sw77 sb78,Sm w.heap.size F sw80 sb81]:List Yva)) r34 x14 gb68 123 A36 n37 c38 A40 n41 c42 A44 n45 c46 A48 n49 c50 A53 n54 c55 A58 n59 c60 A15 n16 c17 (Rw.mono h39 (hL71.toFl (me 3 rfl) (me 0 rfl))) (Rw.mono h43 (hL71.toFl (me 3 rfl) (me 0 rfl))) (Rw.mono h47 (hL71.toFl (me 3 rfl) (me 0 rfl))) (Rw.mono h73 (hL71.toFl (me 2 rfl) (me 1 rfl))) (Rw.mono h76 (hL71.toFl (me 1 rfl) (me 2 rfl))) (Rw.mono h79 (hL71.toFl (me 0 rfl) (me 3 rfl))) (Rw.mono h18 (hL71.toSt hp72 (me 5 rfl))) (hL71.hFl hp72 (Yvm [3,2,1,0] rfl)) (hL71.into hp72 _) r82 hv83) ?_
  rintro _ w113 ⟨A84,n85,c86,A89,n90,c91,A93,n94,c95,A97,n98,c99,A101,n102,c103,A105,n106,c107,A109,n110,c111,rfl,hM114,h87,h92,h96,h100,h104,h108,h112⟩
  obtain ⟨sv117,hL115,hv116⟩:=hL71.callN (Sl:=([sv67,Sm w.heap.size F sw74 sb75,Sm w.heap.size F sw77 sb78,Sm w.heap.size F sw80 sb81]:List Yva)) hp72 hM114 (Yvm [3,2,1,0] rfl)
  have h92:At Yuj (sv117) A89 n90 c91 r82.2.g.terms:=Rw.mono h92 hv116
  have h96:At Yuq (sv117) A93 n94 c95 r82.2.g.syms:=Rw.mono h96 hv116
  have h100:At Yun (sv117) A97 n98 c99 r82.2.g.prods:=Rw.mono h100 hv116
  have h104:At Yzi (sv117) A101 n102 c103 r82.2.none:=Rw.mono h104 hv116
  have h108:At (Yw6 .u64) (sv117) A105 n106 c107 r82.2.first:=Rw.mono h108 hv116
  have h112:At (Yw6 .i64) (sv117) A109 n110 c111 r82.2.at_:=Rw.mono h112 hv116
  refine ⟨_,_,_,rfl,hL115,?_⟩
  refine Yu2 3 rfl (Yu7 rfl) gn rfl<|Yua 4 rfl<|Yu9 rfl<|Yu4 rfl rfl<|Yu2 0 rfl (Yu3 rfl) gn rfl<|Yu2 1 rfl (Yu3 rfl) gn rfl<|Yu2 2 rfl (Yu3 rfl) gn rfl ?_
  obtain ⟨r121,hv122,h⟩:=h
  refine Yve 3 rfl (Yvz [.pointer (some ⟨gb68,0,none⟩),.slice A84 n85 c86] rfl Tryd.func48 rfl rfl rfl fun w118 hL119=>?_) gn
  have hp120:=pmI hL119 (.c 0 rfl (.c 1 rfl .n)) (.c 2 rfl .n) (by kernel_rfl)
  refine Calls.mono (Zbc w118 (Fl ([sv117]:List Yva)) r82.2 r82.1 gb68 123 A89 n90 c91 A93 n94 c95 A97 n98 c99 A101 n102 c103 A105 n106 c107 A109 n110 c111 w.heap.size A84 n85 c86 (Rw.mono h92 (hL119.toFl (me 0 rfl) (me 0 rfl))) (Rw.mono h96 (hL119.toFl (me 0 rfl) (me 0 rfl))) (Rw.mono h100 (hL119.toFl (me 0 rfl) (me 0 rfl))) (Rw.mono h104 (hL119.toFl (me 0 rfl) (me 0 rfl))) (Rw.mono h108 (hL119.toFl (me 0 rfl) (me 0 rfl))) (Rw.mono h112 (hL119.toFl (me 0 rfl) (me 0 rfl))) hL119.env.size (Ow.weak hL71.env.size h87) (hL119.hFl hp120 (Yvm [0] rfl)) (hL119.into hp120 _) r121 hv122) ?_
  rintro _ w152 ⟨A123,n124,c125,A128,n129,c130,A132,n133,c134,A136,n137,c138,A140,n141,c142,A144,n145,c146,A148,n149,c150,rfl,hM153,h126,h131,h135,h139,h143,h147,h151⟩
  obtain ⟨sv156,hL154,hv155⟩:=hL119.callN (Sl:=([sv117]:List Yva)) hp120 hM153 (Yvm [0] rfl)
  have h131:At Yuj (sv156) A128 n129 c130 r121.2.g.terms:=Rw.mono h131 hv155
  have h135:At Yuq (sv156) A132 n133 c134 r121.2.g.syms:=Rw.mono h135 hv155
  have h139:At Yun (sv156) A136 n137 c138 r121.2.g.prods:=Rw.mono h139 hv155
  have h143:At Yzi (sv156) A140 n141 c142 r121.2.none:=Rw.mono h143 hv155
  have h147:At (Yw6 .u64) (sv156) A144 n145 c146 r121.2.first:=Rw.mono h147 hv155
  have h151:At (Yw6 .i64) (sv156) A148 n149 c150 r121.2.at_:=Rw.mono h151 hv155
  refine ⟨_,_,_,rfl,hL154,?_⟩
  refine Yu2 4 rfl (Yu3 rfl) gn rfl ?_
  obtain ⟨r160,hv161,h⟩:=h
  refine Yve 5 rfl (Yvz [.pointer (some ⟨gb68,0,none⟩),.slice A123 n124 c125,.int .i64 x19] rfl Tryd.func49 rfl rfl rfl fun w157 hL158=>?_) gn
  have hp159:=pmI hL158 (.c 0 rfl .n) (.c 1 rfl (.c 2 rfl .n)) (by kernel_rfl)
  refine Calls.mono (Zgu w157 (Fl ([sv156]:List Yva)) r121.2 r121.1 x19 gb68 123 A128 n129 c130 A132 n133 c134 A136 n137 c138 A140 n141 c142 A144 n145 c146 A148 n149 c150 A123 n124 c125 (Rw.mono h131 (hL158.toFl (me 0 rfl) (me 0 rfl))) (Rw.mono h135 (hL158.toFl (me 0 rfl) (me 0 rfl))) (Rw.mono h139 (hL158.toFl (me 0 rfl) (me 0 rfl))) (Rw.mono h143 (hL158.toFl (me 0 rfl) (me 0 rfl))) (Rw.mono h147 (hL158.toFl (me 0 rfl) (me 0 rfl))) (Rw.mono h151 (hL158.toFl (me 0 rfl) (me 0 rfl))) (hL158.argO (dk:=(Yw6 .u64)) hp159 [0] rfl 1 rfl rfl h126 (me 6 rfl) (Cells.flat _)) (hL158.hFl hp159 (Yvm [0] rfl)) (hL158.into hp159 _) r160 hv161) ?_
  rintro _ w191 ⟨A162,n163,c164,A167,n168,c169,A171,n172,c173,A175,n176,c177,A179,n180,c181,A183,n184,c185,A187,n188,c189,rfl,hM192,h165,h170,h174,h178,h182,h186,h190⟩
  obtain ⟨sv195,hL193,hv194⟩:=hL158.callN (Sl:=([sv156]:List Yva)) hp159 hM192 (Yvm [0] rfl)
  have h170:At Yuj (sv195) A167 n168 c169 r160.2.2.g.terms:=Rw.mono h170 hv194
  have h174:At Yuq (sv195) A171 n172 c173 r160.2.2.g.syms:=Rw.mono h174 hv194
  have h178:At Yun (sv195) A175 n176 c177 r160.2.2.g.prods:=Rw.mono h178 hv194
  have h182:At Yzi (sv195) A179 n180 c181 r160.2.2.none:=Rw.mono h182 hv194
  have h186:At (Yw6 .u64) (sv195) A183 n184 c185 r160.2.2.first:=Rw.mono h186 hv194
  have h190:At (Yw6 .i64) (sv195) A187 n188 c189 r160.2.2.at_:=Rw.mono h190 hv194
  refine ⟨_,_,_,rfl,hL193,?_⟩
  refine Yu2 6 rfl (Yu3 rfl) gn rfl<|Yu2 7 rfl (Zja rfl rfl) gn rfl<|Yu2 8 rfl (Zja rfl rfl) gn rfl<|Yu2 9 rfl (Yu7 rfl) gn rfl<|Yu2 10 rfl (Yu7 rfl) gn rfl<|Yua 11 rfl<|Yu9 rfl<|Yu9 rfl<|Yu4 rfl rfl<|Yu2 0 rfl (Yu3 rfl) gn rfl<|Yu2 1 rfl (Zf9 rfl) gn rfl<|Yua 2 rfl ?_
  by_cases hp196:r160.2.1=true
  ·have h:=Yul hp196 h
   refine Yur rfl _ rfl ((nf hp196))<|Yv2 rfl<|Yu9 rfl<|Yu4 rfl rfl<|Yu2 0 rfl (Yu3 rfl) gn rfl<|Yu2 1 rfl (Yu3 rfl) gn rfl ?_
   obtain ⟨r200,hv201,h⟩:=h
   refine Yve 2 rfl (Yvz [.pointer (some ⟨gb68,0,none⟩),.slice A162 n163 c164] rfl Tryd.func47 rfl rfl rfl fun w197 hL198=>?_) gn
   have hp199:=pmI hL198 (.c 0 rfl .n) (.c 1 rfl (.c 2 rfl (.c 3 rfl .n))) (by kernel_rfl)
   refine Calls.mono (Zdr w197 (Fl ([sv195]:List Yva)) r160.2.2 r160.1 gb68 123 A167 n168 c169 A171 n172 c173 A175 n176 c177 A179 n180 c181 A183 n184 c185 A187 n188 c189 A162 n163 c164 (Rw.mono h170 (hL198.toFl (me 0 rfl) (me 0 rfl))) (Rw.mono h174 (hL198.toFl (me 0 rfl) (me 0 rfl))) (Rw.mono h178 (hL198.toFl (me 0 rfl) (me 0 rfl))) (Rw.mono h182 (hL198.toFl (me 0 rfl) (me 0 rfl))) (Rw.mono h186 (hL198.toFl (me 0 rfl) (me 0 rfl))) (Rw.mono h190 (hL198.toFl (me 0 rfl) (me 0 rfl))) (hL198.argO (dk:=(Yw6 .u64)) hp199 [0] rfl 1 rfl rfl (Ow.weak hL158.env.size h165) (me 7 rfl) (Cells.flat _)) (hL198.hFl hp199 (Yvm [0] rfl)) (hL198.into hp199 _) r200 hv201) ?_
   rintro _ w231 ⟨A202,n203,c204,A207,n208,c209,A211,n212,c213,A215,n216,c217,A219,n220,c221,A223,n224,c225,A227,n228,c229,rfl,hM232,h205,h210,h214,h218,h222,h226,h230⟩
   obtain ⟨sv235,hL233,hv234⟩:=hL198.callN (Sl:=([sv195]:List Yva)) hp199 hM232 (Yvm [0] rfl)
   have h210:At Yuj (sv235) A207 n208 c209 r200.2.g.terms:=Rw.mono h210 hv234
   have h214:At Yuq (sv235) A211 n212 c213 r200.2.g.syms:=Rw.mono h214 hv234
   have h218:At Yun (sv235) A215 n216 c217 r200.2.g.prods:=Rw.mono h218 hv234
   have h222:At Yzi (sv235) A219 n220 c221 r200.2.none:=Rw.mono h222 hv234
   have h226:At (Yw6 .u64) (sv235) A223 n224 c225 r200.2.first:=Rw.mono h226 hv234
   have h230:At (Yw6 .i64) (sv235) A227 n228 c229 r200.2.at_:=Rw.mono h230 hv234
   refine ⟨_,_,_,rfl,hL233,?_⟩
   refine Yu2 3 rfl (Yu7 rfl) gn rfl<|Yua 4 rfl ?_
   refine Yvb [.slice A202 n203 c204] rfl Tryd.func31 rfl (.tmp rfl (.nil)) fun wr hLr=>?_
   have hMr:=hLr.pkI (.c 1 rfl .n) (.c 0 rfl (.c 2 rfl (.c 3 rfl (.c 4 rfl .n)))) (by kernel_rfl) (.c 9 rfl .n)
   show Zal w F  r (.returned (Yvl [.slice A202 n203 c204])) wr
   rw [h]
   exact ⟨A202,n203,c204,rfl,hMr,(Ow.weak hL198.env.size h205)⟩
  ·have h:=Yum hp196 h
   refine Yv4 rfl _ rfl ((nt (bf hp196)))<|Yu9 rfl<|Yu4 rfl rfl<|Yu2 0 rfl (Yu7 rfl) gn rfl<|Yua 1 rfl<|Zf4 31 3 ?_
   refine Yvb [.slice none 0 0] rfl Tryd.func31 rfl (.tmp rfl (.nil)) fun wr hLr=>?_
   have hMr:=hLr.pkI (.c 0 rfl .n) (.c 1 rfl (.c 2 rfl (.c 3 rfl (.c 4 rfl .n)))) (by kernel_rfl) (.c 8 rfl .n)
   show Zal w F  r (.returned (Yvl [.slice none 0 0])) wr
   rw [h]
   exact ⟨none,0,0,rfl,hMr,(Ow.nil (z:=w.heap.size))⟩
 ·have h:=Yum hp30 h
  refine Yv4 rfl _ rfl ((nt (bf hp30)))<|Yu9 rfl<|Yu4 rfl rfl<|Yu2 0 rfl (Yu7 rfl) gn rfl<|Yua 1 rfl<|Zf4 31 3 ?_
  refine Yvb [.slice none 0 0] rfl Tryd.func31 rfl (.tmp rfl (.nil)) fun wr hLr=>?_
  have hMr:=hLr.pkI (.c 0 rfl .n) (.c 1 rfl .n) (by kernel_rfl) (.c 1 rfl .n)
  show Zal w F  r (.returned (Yvl [.slice none 0 0])) wr
  rw [h]
  exact ⟨none,0,0,rfl,hMr,(Ow.nil (z:=w.heap.size))⟩
end Go.Proofs.YtadcichlnacagaaDoor.K
