/- What the machine's calls do, function by function, printed by my own tool. Condition of each: its relation holds of the answer, and what is handed in lies in memory as told. -/
import Derived.Test.YtjookebbmfiidaaDoorK6
set_option linter.unusedVariables false
set_option maxRecDepth 100000
set_option maxHeartbeats 4000000
namespace Go.Proofs.YtjookebbmfiidaaDoor.K
open Go.Proofs.YtjookebbmfiidaaDoor.B Go.Proofs.YtjookebbmfiidaaDoor.R Go.RowKit
noncomputable abbrev q61c4 := Code.snd (Code.snd (Dq Tryd.f61))
noncomputable abbrev Xhk := Code.snd (Code.snd (Code.snd (Code.snd q61c4)))
noncomputable abbrev Xhy := Code.snd Xhk
noncomputable abbrev Xjr := Code.fst (Code.fst Xhk)
noncomputable abbrev q61c37 := Code.snd (Code.fst Xhk)
noncomputable abbrev q61c40 := Code.fst (Code.fst q61c37)
abbrev Ib (w : World) (F : Nat → Prop) (g2 : Nat) (Tb3 : Nat) (A8 : Option Addr) (n9 : Nat) (c10 : Nat) (z12 : Nat) (A14 : Option Addr) (n15 : Nat) (c16 : Nat) (z18 : Nat) (r : Ah) : Ending → World → Prop := fun e w' => ∃ A1 : Option Addr, ∃ n1 : Nat, ∃ c1 : Nat, ∃ A2 : Option Addr, ∃ n2 : Nat, ∃ c2 : Nat, ∃ A0 : Option Addr, ∃ n0 : Nat, ∃ c0 : Nat, e = .returned (.tuple #[]) ∧ B.Loc w w' [.box g2 Tb3 [.slice A0 n0 c0, .int .i64 r.at_, .int .i64 r.end_, .slice A1 n1 c1, .slice A2 n2 c2, .int .i64 r.code, .int .i64 r.place], .own (.slice A1 n1 c1) 45 5 n1 (r.q.nodes.flatMap Ar), .own (.slice A2 n2 c2) 47 4 n2 (r.q.conds.flatMap Bg)] [St w [[g2], (Value.slice A8 n9 c10).ownBlock.toList, (Value.slice A14 n15 c16).ownBlock.toList]] ∧ Ow z12 A1 n1 c1 r.q.nodes ∧ Ow z18 A2 n2 c2 r.q.conds ∧ Rw Cc w' (Nw w w' F [.box g2 Tb3 [.slice A0 n0 c0, .int .i64 r.at_, .int .i64 r.end_, .slice A1 n1 c1, .slice A2 n2 c2, .int .i64 r.code, .int .i64 r.place], .own (.slice A1 n1 c1) 45 5 n1 (r.q.nodes.flatMap Ar), .own (.slice A2 n2 c2) 47 4 n2 (r.q.conds.flatMap Bg)]) A0 n0 c0 r.words
noncomputable abbrev Ou (w : World) (F : Nat → Prop) (g2 : Nat) (Tb3 : Nat) (A8 : Option Addr) (n9 : Nat) (c10 : Nat) (z12 : Nat) (A14 : Option Addr) (n15 : Nat) (c16 : Nat) (z18 : Nat) (r : Ah) : Cx := ⟨Tryd.prog, 61, Tryd.f61, 125, Ib w F g2 Tb3 A8 n9 c10 z12 A14 n15 c16 z18 r, w⟩
theorem Yi (w : World) (F : Nat → Prop) (x1 : Ah) (g2 : Nat) (Tb3 : Nat) (A4 : Option Addr) (n5 : Nat) (c6 : Nat) (z12 : Nat) (A8 : Option Addr) (n9 : Nat) (c10 : Nat) (z18 : Nat) (A14 : Option Addr) (n15 : Nat) (c16 : Nat) (h7 : Rw Cc w F A4 n5 c6 x1.words) (hz13 : z12 ≤ w.heap.size) (h11 : Ow z12 A8 n9 c10 x1.q.nodes) (hz19 : z18 ≤ w.heap.size) (h17 : Ow z18 A14 n15 c16 x1.q.conds) (hF : ∀ b, F b → b < w.heap.size ∧ ∀ o ∈ ([[g2], (Value.slice A8 n9 c10).ownBlock.toList, (Value.slice A14 n15 c16).ownBlock.toList] : List (List Nat)), b ∉ o) (hL0 : B.Loc w w [.box g2 Tb3 [.slice A4 n5 c6, .int .i64 x1.at_, .int .i64 x1.end_, .slice A8 n9 c10, .slice A14 n15 c16, .int .i64 x1.code, .int .i64 x1.place], .own (.slice A8 n9 c10) 45 5 n9 (x1.q.nodes.flatMap Ar), .own (.slice A14 n15 c16) 47 4 n15 (x1.q.conds.flatMap Bg)] [Sm w.heap.size F w [[g2], (Value.slice A8 n9 c10).ownBlock.toList, (Value.slice A14 n15 c16).ownBlock.toList], St w [[g2], (Value.slice A8 n9 c10).ownBlock.toList, (Value.slice A14 n15 c16).ownBlock.toList]]) (r : Ah) (h : Ie x1 r) : Calls Tryd.prog 61 #[.pointer (some ⟨g2, 0, none⟩)] w (Ib w F g2 Tb3 A8 n9 c10 z12 A14 n15 c16 z18 r) := by
 unfold Ie at h
 have h7 := Rw.into (bs := [[g2], (Value.slice A8 n9 c10).ownBlock.toList, (Value.slice A14 n15 c16).ownBlock.toList]) hF h7
 refine Cb (vs := [.pointer (some ⟨g2, 0, none⟩)]) 125 Tryd.func61 rfl Tryd.ntmps61 rfl hL0 ?_
 show G (Ou w F g2 Tb3 A8 n9 c10 z12 A14 n15 c16 z18 r) _ _ _ _
 refine Ai rfl <| Ac rfl rfl ?_
 refine Ci 0 rfl (Gx [.bool false, .string (⟨#[]⟩ : ByteArray), .string (⟨#[]⟩ : ByteArray), .string (⟨#[]⟩ : ByteArray)] zr_47 rfl fun gb20 => ?_) gn
 refine Aj 1 rfl <| Ai rfl <| Dt rfl <| Ai rfl <| Ac rfl rfl <| Aa 0 rfl (Ae rfl) gn rfl <| Aa 1 rfl (Ae rfl) gn rfl <| Aa 2 rfl (Bc rfl) gn rfl <| Aa 3 rfl (Au Ea rfl) gn rfl <| Aa 4 rfl (Am 1 He rfl rfl rfl) gn rfl ?_
 obtain ⟨r25, hv26, h⟩ := h
 refine Ci 5 rfl (D6 [.pointer (some ⟨g2, 0, none⟩), .int .i64 x1.at_, .int .i64 1, .string (⟨#[117, 110, 108, 101, 115, 115]⟩ : ByteArray)] rfl Tryd.func91 rfl rfl rfl fun w22 hL23 => ?_) gn
 have hp24 := pmI hL23 (.c 1 rfl (.c 2 rfl (.c 3 rfl .n))) (.c 0 rfl .n) (by kernel_rfl)
 refine Calls.mono (Gi w22 (Fl ([Sm w.heap.size F w [[g2], (Value.slice A8 n9 c10).ownBlock.toList, (Value.slice A14 n15 c16).ownBlock.toList]] : List C9)) x1 x1.at_ 1 (⟨#[117, 110, 108, 101, 115, 115]⟩ : ByteArray) g2 Tb3 A4 n5 c6 z12 A8 n9 c10 z18 A14 n15 c16 (Rw.mono h7 (hL23.toFl (me 0 rfl) (me 0 rfl))) (Nat.le_trans hz13 hL23.env.size) h11 (Nat.le_trans hz19 hL23.env.size) h17 (hL23.hFl hp24 (Bh [0] rfl)) (hL23.into hp24 _) r25 hv26) ?_
 rintro _ w41 ⟨A31, n32, c33, A36, n37, c38, A27, n28, c29, rfl, hM42, h34, h39, h30⟩
 obtain ⟨sb45, hL43, hv44⟩ := hL23.callB (Sl := ([Sm w.heap.size F w [[g2], (Value.slice A8 n9 c10).ownBlock.toList, (Value.slice A14 n15 c16).ownBlock.toList]] : List C9)) hp24 hM42 F (Bh [0] rfl) ⟨Sm.ok, trivial⟩
 have h30 : At Cc (Sm w.heap.size F w41 sb45) A27 n28 c29 r25.2.words := Rw.mono h30 hv44
 refine ⟨_, _, _, rfl, hL43, ?_⟩
 refine Aa 6 rfl (Af rfl) gn rfl <| Aj 7 rfl ?_
 have j1 : ∀ (x97 : List Ak) (x104 : Int) (x105 : Int) (x106 : List Ag) (x111 : List Bi) (x116 : Int) (x117 : Int) (x118 : Bool) (h : Ho x97 x104 x105 x106 x111 x116 x117 x118 r) (A98 : Option Addr) (n99 : Nat) (c100 : Nat) (sw101 : World) (sb102 : List (List Nat)) (h103 : At Cc (Sm w.heap.size F sw101 sb102) A98 n99 c100 x97) (A107 : Option Addr) (n108 : Nat) (c109 : Nat) (h110 : Ow z12 A107 n108 c109 x106) (A112 : Option Addr) (n113 : Nat) (c114 : Nat) (h115 : Ow z18 A112 n113 c114 x111), G (Ou w F g2 Tb3 A8 n9 c10 z12 A14 n15 c16 z18 r) [.inBlock 0, .code q61c4] [(0, .pointer (some ⟨g2, 0, none⟩)), (2, .pointer (some ⟨gb20, 0, none⟩))] [.own (.slice A107 n108 c109) 45 5 n108 (x106.flatMap Ar), .own (.slice A112 n113 c114) 47 4 n113 (x111.flatMap Bg), .box g2 Tb3 [.slice A98 n99 c100, .int .i64 x104, .int .i64 x105, .slice A107 n108 c109, .slice A112 n113 c114, .int .i64 x116, .int .i64 x117], .box gb20 47 [.bool x118, .string (⟨#[]⟩ : ByteArray), .string (⟨#[]⟩ : ByteArray), .string (⟨#[]⟩ : ByteArray)]] [Sm w.heap.size F sw101 sb102, Sm w.heap.size F w41 sb45, Sm w.heap.size F w [[g2], (Value.slice A8 n9 c10).ownBlock.toList, (Value.slice A14 n15 c16).ownBlock.toList], St w [[g2], (Value.slice A8 n9 c10).ownBlock.toList, (Value.slice A14 n15 c16).ownBlock.toList]] := by
  intro x97 x104 x105 x106 x111 x116 x117 x118 h A98 n99 c100 sw101 sb102 h103 A107 n108 c109 h110 A112 n113 c114 h115
  unfold Ho at h
  refine D8 <| Ai rfl <| Ai rfl <| Ac rfl rfl <| Aa 0 rfl (Ae rfl) gn rfl <| Aa 1 rfl (Bc rfl) gn rfl <| Aa 2 rfl (Au O6 rfl) gn rfl <| Aa 3 rfl (Au Rk rfl) gn rfl <| Aa 4 rfl (Am 2 Xba rfl rfl rfl) gn rfl <| Aa 5 rfl (Dp Xet rfl h115.hq) gn rfl <| Aa 6 rfl (Bf rfl rfl rfl) gn rfl <| Aj 7 rfl ?_
  by_cases hp119 : (x111.length : Int) = 16
  ·have h := Aq hp119 h
   refine Bv rfl _ rfl ((eqi hp119)) <| Ai rfl <| Ac rfl rfl <| Aa 0 rfl (Ae rfl) gn rfl <| Aa 1 rfl (Ae rfl) gn rfl <| Aa 2 rfl (Bc rfl) gn rfl <| Aa 3 rfl (Au Ea rfl) gn rfl <| Aa 4 rfl (Am 2 He rfl rfl rfl) gn rfl ?_
   obtain ⟨r123, hv124, h⟩ := h
   refine Ci 5 rfl (D6 [.pointer (some ⟨g2, 0, none⟩), .int .i64 202, .int .i64 x104] rfl Tryd.func88 rfl rfl rfl fun w120 hL121 => ?_) gn
   have hp122 := pmI hL121 (.c 2 rfl (.c 0 rfl (.c 1 rfl .n))) (.c 3 rfl .n) (by kernel_rfl)
   refine Calls.mono (Ff w120 (Fl ([Sm w.heap.size F sw101 sb102] : List C9)) (⟨x97, x104, x105, (⟨x106, x111⟩ : Aw), x116, x117⟩ : Ah) 202 x104 g2 Tb3 A98 n99 c100 z12 A107 n108 c109 z18 A112 n113 c114 (Rw.mono h103 (hL121.toFl (me 0 rfl) (me 0 rfl))) (Nat.le_trans hz13 hL121.env.size) h110 (Nat.le_trans hz19 hL121.env.size) h115 (hL121.hFl hp122 (Bh [0] rfl)) (hL121.into hp122 _) r123 hv124) ?_
   rintro _ w139 ⟨A129, n130, c131, A134, n135, c136, A125, n126, c127, rfl, hM140, h132, h137, h128⟩
   obtain ⟨sb143, hL141, hv142⟩ := hL121.callB (Sl := ([Sm w.heap.size F sw101 sb102] : List C9)) hp122 hM140 F (Bh [0] rfl) ⟨Sm.ok, trivial⟩
   have h128 : At Cc (Sm w.heap.size F w139 sb143) A125 n126 c127 r123.words := Rw.mono h128 hv142
   refine ⟨_, _, _, rfl, hL141, ?_⟩
   refine Aj 6 rfl ?_
   refine Bq [] rfl Tryd.func61 rfl (.nil) fun wr hLr => ?_
   have hMr := hLr.pkI (.c 0 rfl (.c 1 rfl (.c 2 rfl .n))) (.c 3 rfl .n) (by kernel_rfl) (.c 4 rfl .n)
   have hMi := hLr.selI (.c 0 rfl (.c 1 rfl (.c 2 rfl .n)))
   show Ib w F g2 Tb3 A8 n9 c10 z12 A14 n15 c16 z18 r (.returned (Cf [])) wr
   rw [h]
   exact ⟨A129, n130, c131, A134, n135, c136, A125, n126, c127, rfl, hMr, h132, h137, (hLr.outR (s := Sm w.heap.size F w139 sb143) hMi (me 0 rfl) Sm.ok h128)⟩
  ·have h := Ap hp119 h
   refine Bj rfl _ rfl ((nei hp119)) <| Ce rfl <| Ai rfl <| Ac rfl rfl <| Aa 0 rfl (Ae rfl) gn rfl <| Aa 1 rfl (Bc rfl) gn rfl <| Aa 2 rfl (Au Ea rfl) gn rfl <| Aa 3 rfl (Am 2 He rfl rfl rfl) gn rfl <| Aa 4 rfl (Bf rfl rfl rfl) gn rfl <| Aa 5 rfl (Bc rfl) gn rfl <| Aa 6 rfl (Au Ea rfl) gn rfl ?_
   refine Ci 7 rfl (Fh (vs := [.int .i64 (w64 (x104 + 1))]) (cs' := [.slice A98 n99 c100, .int .i64 (w64 (x104 + 1)), .int .i64 x105, .slice A107 n108 c109, .slice A112 n113 c114, .int .i64 x116, .int .i64 x117]) (M' := [.own (.slice A107 n108 c109) 45 5 n108 (x106.flatMap Ar), .own (.slice A112 n113 c114) 47 4 n113 (x111.flatMap Bg), .box g2 Tb3 [.slice A98 n99 c100, .int .i64 (w64 (x104 + 1)), .int .i64 x105, .slice A107 n108 c109, .slice A112 n113 c114, .int .i64 x116, .int .i64 x117], .box gb20 47 [.bool x118, .string (⟨#[]⟩ : ByteArray), .string (⟨#[]⟩ : ByteArray), .string (⟨#[]⟩ : ByteArray)]]) 2 Zp rfl rfl rfl rfl rfl rfl rfl rfl rfl ?_) gn
   refine Aj 8 rfl <| Ai rfl <| Ac rfl rfl <| Aa 0 rfl (Ae rfl) gn rfl ?_
   obtain ⟨r147, hv148, h⟩ := h
   refine Ci 1 rfl (D6 [.pointer (some ⟨g2, 0, none⟩)] rfl Tryd.func92 rfl rfl rfl fun w144 hL145 => ?_) gn
   have hp146 := pmI hL145 (.c 2 rfl (.c 0 rfl (.c 1 rfl .n))) (.c 3 rfl .n) (by kernel_rfl)
   refine Calls.mono (Qq w144 (Fl ([Sm w.heap.size F sw101 sb102] : List C9)) (⟨x97, w64 (x104 + 1), x105, (⟨x106, x111⟩ : Aw), x116, x117⟩ : Ah) g2 Tb3 A98 n99 c100 z12 A107 n108 c109 z18 A112 n113 c114 (Rw.mono h103 (hL145.toFl (me 0 rfl) (me 0 rfl))) (Nat.le_trans hz13 hL145.env.size) h110 (Nat.le_trans hz19 hL145.env.size) h115 (hL145.hFl hp146 (Bh [0] rfl)) (hL145.into hp146 _) r147 hv148) ?_
   rintro _ w163 ⟨A153, n154, c155, A158, n159, c160, A149, n150, c151, rfl, hM164, h156, h161, h152⟩
   obtain ⟨sb167, hL165, hv166⟩ := hL145.callB (Sl := ([Sm w.heap.size F sw101 sb102] : List C9)) hp146 hM164 F (Bh [0] rfl) ⟨Sm.ok, trivial⟩
   have h152 : At Cc (Sm w.heap.size F w163 sb167) A149 n150 c151 r147.2.words := Rw.mono h152 hv166
   refine ⟨_, _, _, rfl, hL165, ?_⟩
   refine Aa 2 rfl (Au Xc5 rfl) gn rfl ?_
   refine Ci 3 rfl (Fh (vs := [.string r147.1]) (cs' := [.bool x118, .string r147.1, .string (⟨#[]⟩ : ByteArray), .string (⟨#[]⟩ : ByteArray)]) (M' := [.box g2 Tb3 [.slice A149 n150 c151, .int .i64 r147.2.at_, .int .i64 r147.2.end_, .slice A153 n154 c155, .slice A158 n159 c160, .int .i64 r147.2.code, .int .i64 r147.2.place], .own (.slice A153 n154 c155) 45 5 n154 (r147.2.q.nodes.flatMap Ar), .own (.slice A158 n159 c160) 47 4 n159 (r147.2.q.conds.flatMap Bg), .box gb20 47 [.bool x118, .string r147.1, .string (⟨#[]⟩ : ByteArray), .string (⟨#[]⟩ : ByteArray)]]) 3 sz_9 rfl rfl rfl rfl rfl rfl rfl rfl rfl ?_) gn
   refine Aj 4 rfl <| Ai rfl <| Ai rfl <| Ac rfl rfl <| Aa 0 rfl (Ae rfl) gn rfl <| Aa 1 rfl (Bc rfl) gn rfl <| Aa 2 rfl (Au Pq rfl) gn rfl <| Aa 3 rfl (Am 0 Y4 rfl rfl rfl) gn rfl <| Aa 4 rfl (Bf rfl rfl rfl) gn rfl <| Aj 5 rfl ?_
   have j2 : ∀ (x194 : List Ak) (x201 : Int) (x202 : Int) (x203 : List Ag) (x208 : List Bi) (x213 : Int) (x214 : Int) (h : F6 x118 r147 x194 x201 x202 x203 x208 x213 x214 r) (A195 : Option Addr) (n196 : Nat) (c197 : Nat) (sw198 : World) (sb199 : List (List Nat)) (h200 : At Cc (Sm w.heap.size F sw198 sb199) A195 n196 c197 x194) (A204 : Option Addr) (n205 : Nat) (c206 : Nat) (h207 : Ow z12 A204 n205 c206 x203) (A209 : Option Addr) (n210 : Nat) (c211 : Nat) (h212 : Ow z18 A209 n210 c211 x208), G (Ou w F g2 Tb3 A8 n9 c10 z12 A14 n15 c16 z18 r) [.code Xhk] [(0, .pointer (some ⟨g2, 0, none⟩)), (2, .pointer (some ⟨gb20, 0, none⟩))] [.own (.slice A204 n205 c206) 45 5 n205 (x203.flatMap Ar), .own (.slice A209 n210 c211) 47 4 n210 (x208.flatMap Bg), .box g2 Tb3 [.slice A195 n196 c197, .int .i64 x201, .int .i64 x202, .slice A204 n205 c206, .slice A209 n210 c211, .int .i64 x213, .int .i64 x214], .box gb20 47 [.bool x118, .string r147.1, .string (⟨#[]⟩ : ByteArray), .string (⟨#[]⟩ : ByteArray)]] [Sm w.heap.size F sw198 sb199, Sm w.heap.size F w163 sb167, Sm w.heap.size F sw101 sb102, Sm w.heap.size F w41 sb45, Sm w.heap.size F w [[g2], (Value.slice A8 n9 c10).ownBlock.toList, (Value.slice A14 n15 c16).ownBlock.toList], St w [[g2], (Value.slice A8 n9 c10).ownBlock.toList, (Value.slice A14 n15 c16).ownBlock.toList]] := by
    intro x194 x201 x202 x203 x208 x213 x214 h A195 n196 c197 sw198 sb199 h200 A204 n205 c206 h207 A209 n210 c211 h212
    unfold F6 at h
    refine Ai rfl <| Ai rfl ?_
    have j3 : ∀ (x222 : Bool) (h : Fv x201 x194 x208 x118 r147 x202 x203 x213 x214 x222 r) , G (Ou w F g2 Tb3 A8 n9 c10 z12 A14 n15 c16 z18 r) [.code q61c37, .code Xhy] [(0, .pointer (some ⟨g2, 0, none⟩)), (2, .pointer (some ⟨gb20, 0, none⟩)), (85, .bool x222)] [.own (.slice A204 n205 c206) 45 5 n205 (x203.flatMap Ar), .own (.slice A209 n210 c211) 47 4 n210 (x208.flatMap Bg), .box g2 Tb3 [.slice A195 n196 c197, .int .i64 x201, .int .i64 x202, .slice A204 n205 c206, .slice A209 n210 c211, .int .i64 x213, .int .i64 x214], .box gb20 47 [.bool x118, .string r147.1, .string (⟨#[]⟩ : ByteArray), .string (⟨#[]⟩ : ByteArray)]] [Sm w.heap.size F sw198 sb199, Sm w.heap.size F w163 sb167, Sm w.heap.size F sw101 sb102, Sm w.heap.size F w41 sb45, Sm w.heap.size F w [[g2], (Value.slice A8 n9 c10).ownBlock.toList, (Value.slice A14 n15 c16).ownBlock.toList], St w [[g2], (Value.slice A8 n9 c10).ownBlock.toList, (Value.slice A14 n15 c16).ownBlock.toList]] := by
     intro x222 h
     unfold Fv at h
     by_cases hp223 : x222 = true
     ·have h := Aq hp223 h
      refine Bv rfl _ rfl (hp223) <| Ai rfl ?_
      obtain ⟨hb224, h⟩ := h
      have hns : Region.noSelect (Code.ops q61c40) = true := by kernel_rfl
      refine Fe [12] 13 rfl rfl mix rfl (.c 0 rfl (.c 1 rfl (.c 2 rfl (.c 3 rfl (.c 4 rfl (.c 5 rfl .n)))))) <| wfv 0 rfl (Ae rfl) gn hns (by kernel_rfl) <| wfv 1 rfl (Bc rfl) gn hns (by kernel_rfl) <| wfv 2 rfl (Au Gs rfl) gn hns (by kernel_rfl) <| wfv 3 rfl (Am 2 Lc rfl rfl rfl) gn hns (by kernel_rfl) <| wfv 4 rfl (Ae rfl) gn hns (by kernel_rfl) <| wfv 5 rfl (Bc rfl) gn hns (by kernel_rfl) <| wfv 6 rfl (Au Ea rfl) gn hns (by kernel_rfl) <| wfv 7 rfl (Am 2 He rfl rfl rfl) gn hns (by kernel_rfl) ?_
      have hr227 := Rw.readF (s := Sm w.heap.size F sw198 sb199) (hl := Ec) (h1 := Eb) h200 hb224
      refine wfv 8 rfl (Gh (s := Sm w.heap.size F sw198 sb199) Pj rfl rfl h200 hb224) gn hns (by kernel_rfl) <| wfv 9 rfl (Jl J9 rfl) gn hns (by kernel_rfl) <| wfv 10 rfl (Ip (kk := (x201 : Int).toNat * 4) (j := 1) (Sm w.heap.size F sw198 sb199) Gj rfl hr227 rfl (me 0 rfl)) gn hns (by kernel_rfl) <| wfv 11 rfl (Au Xef rfl) gn hns (by kernel_rfl) ?_
      refine Cm [12] (by kernel_rfl) rfl ⟨Qz 12 rfl gn rfl (Fh (vs := [.string ((ix x194 x201).text)]) (cs' := [.bool x118, .string r147.1, .string (⟨#[]⟩ : ByteArray), .string ((ix x194 x201).text)]) (M' := [.own (.slice A204 n205 c206) 45 5 n205 (x203.flatMap Ar), .own (.slice A209 n210 c211) 47 4 n210 (x208.flatMap Bg), .box g2 Tb3 [.slice A195 n196 c197, .int .i64 x201, .int .i64 x202, .slice A204 n205 c206, .slice A209 n210 c211, .int .i64 x213, .int .i64 x214], .box gb20 47 [.bool x118, .string r147.1, .string (⟨#[]⟩ : ByteArray), .string ((ix x194 x201).text)]]) 3 sz_9 rfl rfl rfl rfl rfl rfl rfl rfl rfl ?_), trivial⟩
      unfold NxL
      refine Dv (by kernel_rfl) <| Ac rfl rfl <| Aa 0 rfl (Ae rfl) gn rfl <| Aa 1 rfl (Bc rfl) gn rfl <| Aa 2 rfl (Au Ea rfl) gn rfl <| Aa 3 rfl (Am 2 He rfl rfl rfl) gn rfl <| Aa 4 rfl (Bf rfl rfl rfl) gn rfl <| Aa 5 rfl (Bc rfl) gn rfl <| Aa 6 rfl (Au Ea rfl) gn rfl ?_
      refine Ci 7 rfl (Fh (vs := [.int .i64 (w64 (x201 + 1))]) (cs' := [.slice A195 n196 c197, .int .i64 (w64 (x201 + 1)), .int .i64 x202, .slice A204 n205 c206, .slice A209 n210 c211, .int .i64 x213, .int .i64 x214]) (M' := [.own (.slice A204 n205 c206) 45 5 n205 (x203.flatMap Ar), .own (.slice A209 n210 c211) 47 4 n210 (x208.flatMap Bg), .box g2 Tb3 [.slice A195 n196 c197, .int .i64 (w64 (x201 + 1)), .int .i64 x202, .slice A204 n205 c206, .slice A209 n210 c211, .int .i64 x213, .int .i64 x214], .box gb20 47 [.bool x118, .string r147.1, .string (⟨#[]⟩ : ByteArray), .string ((ix x194 x201).text)]]) 2 Zp rfl rfl rfl rfl rfl rfl rfl rfl rfl ?_) gn
      refine Aj 8 rfl ?_
      obtain ⟨x234, hv235, h⟩ := h
      obtain ⟨hb236, h⟩ := h
      have hns : Region.noSelect (Code.ops Xhy) = true := by kernel_rfl
      refine Uh [.own (.slice A204 n205 c206) 45 5 n205 (x203.flatMap Ar), .box g2 Tb3 [.slice A195 n196 c197, .int .i64 (w64 (x201 + 1)), .int .i64 x202, .slice A204 n205 c206, .slice A209 n210 c211, .int .i64 x213, .int .i64 x214], .box gb20 47 [.bool x118, .string r147.1, .string (⟨#[]⟩ : ByteArray), .string ((ix x194 x201).text)]] [Sm w.heap.size F sw198 sb199, Sm w.heap.size F w163 sb167, Sm w.heap.size F sw101 sb102, Sm w.heap.size F w41 sb45, Sm w.heap.size F w [[g2], (Value.slice A8 n9 c10).ownBlock.toList, (Value.slice A14 n15 c16).ownBlock.toList], St w [[g2], (Value.slice A8 n9 c10).ownBlock.toList, (Value.slice A14 n15 c16).ownBlock.toList]] [12] 13 rfl rfl mix rfl (.cons_cons _ (.cons _ (.cons_cons _ (.cons_cons _ (.slnil))))) (Bh [0, 1, 2, 3, 4, 5] rfl) <| wfv 0 rfl (Ae rfl) gn hns (by kernel_rfl) <| wfv 1 rfl (Ae rfl) gn hns (by kernel_rfl) <| wfv 2 rfl (Bc rfl) gn hns (by kernel_rfl) <| wfv 3 rfl (Au O6 rfl) gn hns (by kernel_rfl) <| wfv 4 rfl (Au Rk rfl) gn hns (by kernel_rfl) <| wfv 5 rfl (Am 1 Xba rfl rfl rfl) gn hns (by kernel_rfl) <| wfv 6 rfl (Nj [.bool x118, .string r147.1, .string (⟨#[]⟩ : ByteArray), .string ((ix x194 x201).text)] 2 Xgc rfl rfl rfl rfl) gn hns (by kernel_rfl) ?_
      refine Cm [7] (by kernel_rfl) rfl ⟨Eo 7 rfl gn rfl (Hy (xs := ([(⟨x118, r147.1, (⟨#[]⟩ : ByteArray), (ix x194 x201).text⟩ : Bi)] : List Bi)) [.bool x118, .string r147.1, .string (⟨#[]⟩ : ByteArray), .string ((ix x194 x201).text)] Xhz rfl (by kernel_rfl) rfl rfl rfl rfl fun gb249 h250 => ?_), trivial⟩
      refine ⟨Bh [1, 3, 4] rfl, Bh [0, 1, 2, 3, 4, 5] rfl, ?_⟩
      refine Cm [8] (by kernel_rfl) rfl ⟨Eo 8 rfl gn rfl (Nh (zs := x234) (cells' := x234.flatMap Bg) 2 ap_23 rfl rfl rfl h212 hz19 (Src.ownF (hl := Qu) (h1 := Qs) 0 rfl h250) (by rw [hv235, List.flatMap_append] <;> rfl) (Gq hv235 h250.hq) hb236 rfl rfl fun A254 c255 h256 => ?_), trivial⟩
      refine ⟨Bh [1, 3, 4] rfl, Bh [0, 1, 2, 3, 4, 5] rfl, ?_⟩
      refine wfv 9 rfl (Bc rfl) gn hns (by kernel_rfl) <| wfv 10 rfl (Au O6 rfl) gn hns (by kernel_rfl) <| wfv 11 rfl (Au Rk rfl) gn hns (by kernel_rfl) ?_
      refine Cm [12] (by kernel_rfl) rfl ⟨Qz 12 rfl gn rfl (Fh (vs := [.slice A254 (n210 + 1) c255]) (cs' := [.slice A195 n196 c197, .int .i64 (w64 (x201 + 1)), .int .i64 x202, .slice A204 n205 c206, .slice A254 (n210 + 1) c255, .int .i64 x213, .int .i64 x214]) (M' := [.own (.slice (some ⟨gb249, 0, none⟩) 1 1) 47 4 1 (([(⟨x118, r147.1, (⟨#[]⟩ : ByteArray), (ix x194 x201).text⟩ : Bi)] : List Bi).flatMap Bg), .own (.slice A204 n205 c206) 45 5 n205 (x203.flatMap Ar), .own (.slice A254 (n210 + 1) c255) 47 4 (n210 + 1) (x234.flatMap Bg), .box g2 Tb3 [.slice A195 n196 c197, .int .i64 (w64 (x201 + 1)), .int .i64 x202, .slice A204 n205 c206, .slice A254 (n210 + 1) c255, .int .i64 x213, .int .i64 x214], .box gb20 47 [.bool x118, .string r147.1, .string (⟨#[]⟩ : ByteArray), .string ((ix x194 x201).text)]]) 3 sz_23 rfl rfl rfl rfl rfl rfl rfl rfl rfl ?_), trivial⟩
      unfold NxL
      refine Dv (by kernel_rfl) ?_
      refine Vy [] Tryd.func61 rfl (.nil) fun wr hLr => ?_
      have hMr := hLr.pkI (.c 3 rfl (.c 1 rfl (.c 2 rfl .n))) (.c 0 rfl (.c 4 rfl .n)) (by kernel_rfl) (.c 5 rfl .n)
      have hMi := hLr.selI (.c 3 rfl (.c 1 rfl (.c 2 rfl .n)))
      show Ib w F g2 Tb3 A8 n9 c10 z12 A14 n15 c16 z18 r (.returned (Cf [])) wr
      rw [h]
      exact ⟨A204, n205, c206, A254, n210 + 1, c255, A195, n196, c197, rfl, hMr, h207, h256, (hLr.outR (s := Sm w.heap.size F sw198 sb199) hMi (me 0 rfl) Sm.ok h200)⟩
     ·have h := Ap hp223 h
      refine Bj rfl _ rfl ((bf hp223)) <| Ai rfl <| Ac rfl rfl <| Aa 0 rfl (Ae rfl) gn rfl <| Aa 1 rfl (Bc rfl) gn rfl <| Aa 2 rfl (Au Pq rfl) gn rfl <| Aa 3 rfl (Am 2 Y4 rfl rfl rfl) gn rfl <| Aa 4 rfl (Bf rfl rfl rfl) gn rfl <| Aj 5 rfl ?_
      by_cases hp257 : x213 = 0
      ·have h := Aq hp257 h
       refine Bv rfl _ rfl ((eqi hp257)) <| Ac rfl rfl <| Aa 0 rfl (Ae rfl) gn rfl ?_
       obtain ⟨r261, hv262, h⟩ := h
       refine Ci 1 rfl (D6 [.pointer (some ⟨g2, 0, none⟩)] rfl Tryd.func92 rfl rfl rfl fun w258 hL259 => ?_) gn
       have hp260 := pmI hL259 (.c 2 rfl (.c 0 rfl (.c 1 rfl .n))) (.c 3 rfl .n) (by kernel_rfl)
       refine Calls.mono (Qq w258 (Fl ([Sm w.heap.size F sw198 sb199] : List C9)) (⟨x194, x201, x202, (⟨x203, x208⟩ : Aw), x213, x214⟩ : Ah) g2 Tb3 A195 n196 c197 z12 A204 n205 c206 z18 A209 n210 c211 (Rw.mono h200 (hL259.toFl (me 0 rfl) (me 0 rfl))) (Nat.le_trans hz13 hL259.env.size) h207 (Nat.le_trans hz19 hL259.env.size) h212 (hL259.hFl hp260 (Bh [0] rfl)) (hL259.into hp260 _) r261 hv262) ?_
       rintro _ w277 ⟨A267, n268, c269, A272, n273, c274, A263, n264, c265, rfl, hM278, h270, h275, h266⟩
       obtain ⟨sb281, hL279, hv280⟩ := hL259.callB (Sl := ([Sm w.heap.size F sw198 sb199] : List C9)) hp260 hM278 F (Bh [0] rfl) ⟨Sm.ok, trivial⟩
       have h266 : At Cc (Sm w.heap.size F w277 sb281) A263 n264 c265 r261.2.words := Rw.mono h266 hv280
       refine ⟨_, _, _, rfl, hL279, ?_⟩
       refine Aa 2 rfl (Au Z5 rfl) gn rfl ?_
       refine Ci 3 rfl (Fh (vs := [.string r261.1]) (cs' := [.bool x118, .string r147.1, .string r261.1, .string (⟨#[]⟩ : ByteArray)]) (M' := [.box g2 Tb3 [.slice A263 n264 c265, .int .i64 r261.2.at_, .int .i64 r261.2.end_, .slice A267 n268 c269, .slice A272 n273 c274, .int .i64 r261.2.code, .int .i64 r261.2.place], .own (.slice A267 n268 c269) 45 5 n268 (r261.2.q.nodes.flatMap Ar), .own (.slice A272 n273 c274) 47 4 n273 (r261.2.q.conds.flatMap Bg), .box gb20 47 [.bool x118, .string r147.1, .string r261.1, .string (⟨#[]⟩ : ByteArray)]]) 3 sz_9 rfl rfl rfl rfl rfl rfl rfl rfl rfl ?_) gn
       refine Aj 4 rfl ?_
       obtain ⟨x288, hv289, h⟩ := h
       obtain ⟨hb290, h⟩ := h
       have hns : Region.noSelect (Code.ops Xhy) = true := by kernel_rfl
       refine Uh [.box g2 Tb3 [.slice A263 n264 c265, .int .i64 r261.2.at_, .int .i64 r261.2.end_, .slice A267 n268 c269, .slice A272 n273 c274, .int .i64 r261.2.code, .int .i64 r261.2.place], .own (.slice A267 n268 c269) 45 5 n268 (r261.2.q.nodes.flatMap Ar), .box gb20 47 [.bool x118, .string r147.1, .string r261.1, .string (⟨#[]⟩ : ByteArray)]] [Sm w.heap.size F w277 sb281, Sm w.heap.size F sw198 sb199, Sm w.heap.size F w163 sb167, Sm w.heap.size F sw101 sb102, Sm w.heap.size F w41 sb45, Sm w.heap.size F w [[g2], (Value.slice A8 n9 c10).ownBlock.toList, (Value.slice A14 n15 c16).ownBlock.toList], St w [[g2], (Value.slice A8 n9 c10).ownBlock.toList, (Value.slice A14 n15 c16).ownBlock.toList]] [12] 13 rfl rfl mix rfl (.cons_cons _ (.cons_cons _ (.cons _ (.cons_cons _ (.slnil))))) (Bh [0, 1, 2, 3, 4, 5, 6] rfl) <| wfv 0 rfl (Ae rfl) gn hns (by kernel_rfl) <| wfv 1 rfl (Ae rfl) gn hns (by kernel_rfl) <| wfv 2 rfl (Bc rfl) gn hns (by kernel_rfl) <| wfv 3 rfl (Au O6 rfl) gn hns (by kernel_rfl) <| wfv 4 rfl (Au Rk rfl) gn hns (by kernel_rfl) <| wfv 5 rfl (Am 0 Xba rfl rfl rfl) gn hns (by kernel_rfl) <| wfv 6 rfl (Nj [.bool x118, .string r147.1, .string r261.1, .string (⟨#[]⟩ : ByteArray)] 2 Xgc rfl rfl rfl rfl) gn hns (by kernel_rfl) ?_
       refine Cm [7] (by kernel_rfl) rfl ⟨Eo 7 rfl gn rfl (Hy (xs := ([(⟨x118, r147.1, r261.1, (⟨#[]⟩ : ByteArray)⟩ : Bi)] : List Bi)) [.bool x118, .string r147.1, .string r261.1, .string (⟨#[]⟩ : ByteArray)] Xhz rfl (by kernel_rfl) rfl rfl rfl rfl fun gb303 h304 => ?_), trivial⟩
       refine ⟨Bh [1, 2, 4] rfl, Bh [0, 1, 2, 3, 4, 5, 6] rfl, ?_⟩
       refine Cm [8] (by kernel_rfl) rfl ⟨Eo 8 rfl gn rfl (Nh (zs := x288) (cells' := x288.flatMap Bg) 3 ap_23 rfl rfl rfl h275 hz19 (Src.ownF (hl := Qu) (h1 := Qs) 0 rfl h304) (by rw [hv289, List.flatMap_append] <;> rfl) (Gq hv289 h304.hq) hb290 rfl rfl fun A308 c309 h310 => ?_), trivial⟩
       refine ⟨Bh [1, 2, 4] rfl, Bh [0, 1, 2, 3, 4, 5, 6] rfl, ?_⟩
       refine wfv 9 rfl (Bc rfl) gn hns (by kernel_rfl) <| wfv 10 rfl (Au O6 rfl) gn hns (by kernel_rfl) <| wfv 11 rfl (Au Rk rfl) gn hns (by kernel_rfl) ?_
       refine Cm [12] (by kernel_rfl) rfl ⟨Qz 12 rfl gn rfl (Fh (vs := [.slice A308 (n273 + 1) c309]) (cs' := [.slice A263 n264 c265, .int .i64 r261.2.at_, .int .i64 r261.2.end_, .slice A267 n268 c269, .slice A308 (n273 + 1) c309, .int .i64 r261.2.code, .int .i64 r261.2.place]) (M' := [.own (.slice (some ⟨gb303, 0, none⟩) 1 1) 47 4 1 (([(⟨x118, r147.1, r261.1, (⟨#[]⟩ : ByteArray)⟩ : Bi)] : List Bi).flatMap Bg), .box g2 Tb3 [.slice A263 n264 c265, .int .i64 r261.2.at_, .int .i64 r261.2.end_, .slice A267 n268 c269, .slice A308 (n273 + 1) c309, .int .i64 r261.2.code, .int .i64 r261.2.place], .own (.slice A267 n268 c269) 45 5 n268 (r261.2.q.nodes.flatMap Ar), .own (.slice A308 (n273 + 1) c309) 47 4 (n273 + 1) (x288.flatMap Bg), .box gb20 47 [.bool x118, .string r147.1, .string r261.1, .string (⟨#[]⟩ : ByteArray)]]) 1 sz_23 rfl rfl rfl rfl rfl rfl rfl rfl rfl ?_), trivial⟩
       unfold NxL
       refine Dv (by kernel_rfl) ?_
       refine Vy [] Tryd.func61 rfl (.nil) fun wr hLr => ?_
       have hMr := hLr.pkI (.c 1 rfl (.c 2 rfl (.c 3 rfl .n))) (.c 0 rfl (.c 4 rfl .n)) (by kernel_rfl) (.c 6 rfl .n)
       have hMi := hLr.selI (.c 1 rfl (.c 2 rfl (.c 3 rfl .n)))
       show Ib w F g2 Tb3 A8 n9 c10 z12 A14 n15 c16 z18 r (.returned (Cf [])) wr
       rw [h]
       exact ⟨A267, n268, c269, A308, n273 + 1, c309, A263, n264, c265, rfl, hMr, h270, h310, (hLr.outR (s := Sm w.heap.size F w277 sb281) hMi (me 0 rfl) Sm.ok h266)⟩
      ·have h := Ap hp257 h
       refine Bj rfl _ rfl ((nei hp257)) <| Ce rfl ?_
       obtain ⟨x317, hv318, h⟩ := h
       obtain ⟨hb319, h⟩ := h
       have hns : Region.noSelect (Code.ops Xhy) = true := by kernel_rfl
       refine Uh [.own (.slice A204 n205 c206) 45 5 n205 (x203.flatMap Ar), .box g2 Tb3 [.slice A195 n196 c197, .int .i64 x201, .int .i64 x202, .slice A204 n205 c206, .slice A209 n210 c211, .int .i64 x213, .int .i64 x214], .box gb20 47 [.bool x118, .string r147.1, .string (⟨#[]⟩ : ByteArray), .string (⟨#[]⟩ : ByteArray)]] [Sm w.heap.size F sw198 sb199, Sm w.heap.size F w163 sb167, Sm w.heap.size F sw101 sb102, Sm w.heap.size F w41 sb45, Sm w.heap.size F w [[g2], (Value.slice A8 n9 c10).ownBlock.toList, (Value.slice A14 n15 c16).ownBlock.toList], St w [[g2], (Value.slice A8 n9 c10).ownBlock.toList, (Value.slice A14 n15 c16).ownBlock.toList]] [12] 13 rfl rfl mix rfl (.cons_cons _ (.cons _ (.cons_cons _ (.cons_cons _ (.slnil))))) (Bh [0, 1, 2, 3, 4, 5] rfl) <| wfv 0 rfl (Ae rfl) gn hns (by kernel_rfl) <| wfv 1 rfl (Ae rfl) gn hns (by kernel_rfl) <| wfv 2 rfl (Bc rfl) gn hns (by kernel_rfl) <| wfv 3 rfl (Au O6 rfl) gn hns (by kernel_rfl) <| wfv 4 rfl (Au Rk rfl) gn hns (by kernel_rfl) <| wfv 5 rfl (Am 1 Xba rfl rfl rfl) gn hns (by kernel_rfl) <| wfv 6 rfl (Nj [.bool x118, .string r147.1, .string (⟨#[]⟩ : ByteArray), .string (⟨#[]⟩ : ByteArray)] 2 Xgc rfl rfl rfl rfl) gn hns (by kernel_rfl) ?_
       refine Cm [7] (by kernel_rfl) rfl ⟨Eo 7 rfl gn rfl (Hy (xs := ([(⟨x118, r147.1, (⟨#[]⟩ : ByteArray), (⟨#[]⟩ : ByteArray)⟩ : Bi)] : List Bi)) [.bool x118, .string r147.1, .string (⟨#[]⟩ : ByteArray), .string (⟨#[]⟩ : ByteArray)] Xhz rfl (by kernel_rfl) rfl rfl rfl rfl fun gb332 h333 => ?_), trivial⟩
       refine ⟨Bh [1, 3, 4] rfl, Bh [0, 1, 2, 3, 4, 5] rfl, ?_⟩
       refine Cm [8] (by kernel_rfl) rfl ⟨Eo 8 rfl gn rfl (Nh (zs := x317) (cells' := x317.flatMap Bg) 2 ap_23 rfl rfl rfl h212 hz19 (Src.ownF (hl := Qu) (h1 := Qs) 0 rfl h333) (by rw [hv318, List.flatMap_append] <;> rfl) (Gq hv318 h333.hq) hb319 rfl rfl fun A337 c338 h339 => ?_), trivial⟩
       refine ⟨Bh [1, 3, 4] rfl, Bh [0, 1, 2, 3, 4, 5] rfl, ?_⟩
       refine wfv 9 rfl (Bc rfl) gn hns (by kernel_rfl) <| wfv 10 rfl (Au O6 rfl) gn hns (by kernel_rfl) <| wfv 11 rfl (Au Rk rfl) gn hns (by kernel_rfl) ?_
       refine Cm [12] (by kernel_rfl) rfl ⟨Qz 12 rfl gn rfl (Fh (vs := [.slice A337 (n210 + 1) c338]) (cs' := [.slice A195 n196 c197, .int .i64 x201, .int .i64 x202, .slice A204 n205 c206, .slice A337 (n210 + 1) c338, .int .i64 x213, .int .i64 x214]) (M' := [.own (.slice (some ⟨gb332, 0, none⟩) 1 1) 47 4 1 (([(⟨x118, r147.1, (⟨#[]⟩ : ByteArray), (⟨#[]⟩ : ByteArray)⟩ : Bi)] : List Bi).flatMap Bg), .own (.slice A204 n205 c206) 45 5 n205 (x203.flatMap Ar), .own (.slice A337 (n210 + 1) c338) 47 4 (n210 + 1) (x317.flatMap Bg), .box g2 Tb3 [.slice A195 n196 c197, .int .i64 x201, .int .i64 x202, .slice A204 n205 c206, .slice A337 (n210 + 1) c338, .int .i64 x213, .int .i64 x214], .box gb20 47 [.bool x118, .string r147.1, .string (⟨#[]⟩ : ByteArray), .string (⟨#[]⟩ : ByteArray)]]) 3 sz_23 rfl rfl rfl rfl rfl rfl rfl rfl rfl ?_), trivial⟩
       unfold NxL
       refine Dv (by kernel_rfl) ?_
       refine Vy [] Tryd.func61 rfl (.nil) fun wr hLr => ?_
       have hMr := hLr.pkI (.c 3 rfl (.c 1 rfl (.c 2 rfl .n))) (.c 0 rfl (.c 4 rfl .n)) (by kernel_rfl) (.c 5 rfl .n)
       have hMi := hLr.selI (.c 3 rfl (.c 1 rfl (.c 2 rfl .n)))
       show Ib w F g2 Tb3 A8 n9 c10 z12 A14 n15 c16 z18 r (.returned (Cf [])) wr
       rw [h]
       exact ⟨A204, n205, c206, A337, n210 + 1, c338, A195, n196, c197, rfl, hMr, h207, h339, (hLr.outR (s := Sm w.heap.size F sw198 sb199) hMi (me 0 rfl) Sm.ok h200)⟩
    by_cases hp340 : x213 = 0
    ·have h := Aq hp340 h
     by_cases hp341 : x201 < (x194.length : Int)
     ·have h := Aq hp341 h
      obtain ⟨hb342, h⟩ := h
      have hns : Region.noSelect (Code.ops Xjr) = true := by kernel_rfl
      refine Fe [] 31 rfl rfl mix rfl (.c 0 rfl (.c 1 rfl (.c 2 rfl (.c 3 rfl (.c 4 rfl (.c 5 rfl .n)))))) <| wfv 0 rfl (Ae rfl) gn hns rfl <| wfv 1 rfl (Bc rfl) gn hns rfl <| wfv 2 rfl (Au Pq rfl) gn hns rfl <| wfv 3 rfl (Am 2 Y4 rfl rfl rfl) gn hns rfl <| wfv 4 rfl (Bf rfl rfl rfl) gn hns rfl <| wfv 5 rfl (Ae rfl) gn hns rfl <| H9 60 rfl ((eqi hp340)) <| wfv 6 rfl (Ae rfl) (gy 60 rfl rfl) hns rfl <| wfv 7 rfl (Bc rfl) (gy 60 rfl rfl) hns rfl <| wfv 8 rfl (Au Ea rfl) (gy 60 rfl rfl) hns rfl <| wfv 9 rfl (Am 2 He rfl rfl rfl) (gy 60 rfl rfl) hns rfl ?_
      refine wfv 10 rfl (Ae rfl) (gy 60 rfl rfl) hns rfl <| wfv 11 rfl (Bc rfl) (gy 60 rfl rfl) hns rfl <| wfv 12 rfl (Au Gs rfl) (gy 60 rfl rfl) hns rfl <| wfv 13 rfl (Am 2 Lc rfl rfl rfl) (gy 60 rfl rfl) hns rfl <| wfv 14 rfl (Dp Y1 rfl h200.hq) (gy 60 rfl rfl) hns rfl <| wfv 15 rfl (Bf rfl rfl rfl) (gy 60 rfl rfl) hns rfl <| wfv 16 rfl (Bd (b := true) rfl rfl) gn hns rfl <| wfv 17 rfl (Ae rfl) gn hns rfl <| H9 72 rfl ((decide_eq_true hp341)) <| wfv 18 rfl (Ae rfl) (gy 72 rfl rfl) hns rfl <| wfv 19 rfl (Bc rfl) (gy 72 rfl rfl) hns rfl <| wfv 20 rfl (Au Gs rfl) (gy 72 rfl rfl) hns rfl ?_
      refine wfv 21 rfl (Am 2 Lc rfl rfl rfl) (gy 72 rfl rfl) hns rfl <| wfv 22 rfl (Ae rfl) (gy 72 rfl rfl) hns rfl <| wfv 23 rfl (Bc rfl) (gy 72 rfl rfl) hns rfl <| wfv 24 rfl (Au Ea rfl) (gy 72 rfl rfl) hns rfl <| wfv 25 rfl (Am 2 He rfl rfl rfl) (gy 72 rfl rfl) hns rfl ?_
      have hr345 := Rw.readF (s := Sm w.heap.size F sw198 sb199) (hl := Ec) (h1 := Eb) h200 hb342
      refine wfv 26 rfl (Gh (s := Sm w.heap.size F sw198 sb199) Pj rfl rfl h200 hb342) (gy 72 rfl rfl) hns rfl <| wfv 27 rfl (Jl Ud rfl) (gy 72 rfl rfl) hns rfl <| wfv 28 rfl (Ip (kk := (x201 : Int).toNat * 4) (j := 0) (Sm w.heap.size F sw198 sb199) Xa8 rfl hr345 rfl (me 0 rfl)) (gy 72 rfl rfl) hns rfl <| wfv 29 rfl (Bf rfl rfl rfl) (gy 72 rfl rfl) hns rfl <| wfv 30 rfl (Bd (b := true) rfl rfl) gn hns rfl <| Dv (by kernel_rfl) ?_
      exact D7 [0, 1, 2, 3, 4, 5] (j3 (((ix x194 x201).kind) == 2) h) ⟨rfl, rfl, rfl, trivial⟩ (.cons_cons _ (.cons_cons _ (.cons_cons _ (.cons_cons _ (.slnil))))) rfl
     ·have h := Ap hp341 h
      have hns : Region.noSelect (Code.ops Xjr) = true := by kernel_rfl
      refine Fe [] 31 rfl rfl mix rfl (.c 0 rfl (.c 1 rfl (.c 2 rfl (.c 3 rfl (.c 4 rfl (.c 5 rfl .n)))))) <| wfv 0 rfl (Ae rfl) gn hns rfl <| wfv 1 rfl (Bc rfl) gn hns rfl <| wfv 2 rfl (Au Pq rfl) gn hns rfl <| wfv 3 rfl (Am 2 Y4 rfl rfl rfl) gn hns rfl <| wfv 4 rfl (Bf rfl rfl rfl) gn hns rfl <| wfv 5 rfl (Ae rfl) gn hns rfl <| H9 60 rfl ((eqi hp340)) <| wfv 6 rfl (Ae rfl) (gy 60 rfl rfl) hns rfl <| wfv 7 rfl (Bc rfl) (gy 60 rfl rfl) hns rfl <| wfv 8 rfl (Au Ea rfl) (gy 60 rfl rfl) hns rfl <| wfv 9 rfl (Am 2 He rfl rfl rfl) (gy 60 rfl rfl) hns rfl ?_
      refine wfv 10 rfl (Ae rfl) (gy 60 rfl rfl) hns rfl <| wfv 11 rfl (Bc rfl) (gy 60 rfl rfl) hns rfl <| wfv 12 rfl (Au Gs rfl) (gy 60 rfl rfl) hns rfl <| wfv 13 rfl (Am 2 Lc rfl rfl rfl) (gy 60 rfl rfl) hns rfl <| wfv 14 rfl (Dp Y1 rfl h200.hq) (gy 60 rfl rfl) hns rfl <| wfv 15 rfl (Bf rfl rfl rfl) (gy 60 rfl rfl) hns rfl <| wfv 16 rfl (Bd (b := true) rfl rfl) gn hns rfl <| wfv 17 rfl (Ae rfl) gn hns rfl <| H9 72 rfl ((decide_eq_false hp341)) <| wfp 18 rfl (ps 72 rfl rfl rfl) hns rfl <| wfp 19 rfl (ps 72 rfl rfl rfl) hns rfl <| wfp 20 rfl (ps 72 rfl rfl rfl) hns rfl ?_
      refine wfp 21 rfl (ps 72 rfl rfl rfl) hns rfl <| wfp 22 rfl (ps 72 rfl rfl rfl) hns rfl <| wfp 23 rfl (ps 72 rfl rfl rfl) hns rfl <| wfp 24 rfl (ps 72 rfl rfl rfl) hns rfl <| wfp 25 rfl (ps 72 rfl rfl rfl) hns rfl <| wfp 26 rfl (ps 72 rfl rfl rfl) hns rfl <| wfp 27 rfl (ps 72 rfl rfl rfl) hns rfl <| wfp 28 rfl (ps 72 rfl rfl rfl) hns rfl <| wfp 29 rfl (ps 72 rfl rfl rfl) hns rfl <| wfv 30 rfl (Bd (b := false) rfl rfl) gn hns rfl <| Dv (by kernel_rfl) ?_
      exact D7 [0, 1, 2, 3, 4, 5] (j3 false h) ⟨rfl, rfl, rfl, trivial⟩ (.cons_cons _ (.cons_cons _ (.cons_cons _ (.cons_cons _ (.slnil))))) rfl
    ·have h := Ap hp340 h
     have hns : Region.noSelect (Code.ops Xjr) = true := by kernel_rfl
     refine Fe [] 31 rfl rfl mix rfl (.c 0 rfl (.c 1 rfl (.c 2 rfl (.c 3 rfl (.c 4 rfl (.c 5 rfl .n)))))) <| wfv 0 rfl (Ae rfl) gn hns rfl <| wfv 1 rfl (Bc rfl) gn hns rfl <| wfv 2 rfl (Au Pq rfl) gn hns rfl <| wfv 3 rfl (Am 2 Y4 rfl rfl rfl) gn hns rfl <| wfv 4 rfl (Bf rfl rfl rfl) gn hns rfl <| wfv 5 rfl (Ae rfl) gn hns rfl <| H9 60 rfl ((nei hp340)) <| wfp 6 rfl (ps 60 rfl rfl rfl) hns rfl <| wfp 7 rfl (ps 60 rfl rfl rfl) hns rfl <| wfp 8 rfl (ps 60 rfl rfl rfl) hns rfl <| wfp 9 rfl (ps 60 rfl rfl rfl) hns rfl ?_
     refine wfp 10 rfl (ps 60 rfl rfl rfl) hns rfl <| wfp 11 rfl (ps 60 rfl rfl rfl) hns rfl <| wfp 12 rfl (ps 60 rfl rfl rfl) hns rfl <| wfp 13 rfl (ps 60 rfl rfl rfl) hns rfl <| wfp 14 rfl (ps 60 rfl rfl rfl) hns rfl <| wfp 15 rfl (ps 60 rfl rfl rfl) hns rfl <| wfv 16 rfl (Bd (b := false) rfl rfl) gn hns rfl <| wfv 17 rfl (Ae rfl) gn hns rfl <| wfp 18 rfl (ps 72 rfl rfl rfl) hns rfl <| wfp 19 rfl (ps 72 rfl rfl rfl) hns rfl <| wfp 20 rfl (ps 72 rfl rfl rfl) hns rfl <| wfp 21 rfl (ps 72 rfl rfl rfl) hns rfl ?_
     refine wfp 22 rfl (ps 72 rfl rfl rfl) hns rfl <| wfp 23 rfl (ps 72 rfl rfl rfl) hns rfl <| wfp 24 rfl (ps 72 rfl rfl rfl) hns rfl <| wfp 25 rfl (ps 72 rfl rfl rfl) hns rfl <| wfp 26 rfl (ps 72 rfl rfl rfl) hns rfl <| wfp 27 rfl (ps 72 rfl rfl rfl) hns rfl <| wfp 28 rfl (ps 72 rfl rfl rfl) hns rfl <| wfp 29 rfl (ps 72 rfl rfl rfl) hns rfl <| wfv 30 rfl (Bd (b := false) rfl rfl) gn hns rfl <| Dv (by kernel_rfl) ?_
     exact D7 [0, 1, 2, 3, 4, 5] (j3 false h) ⟨rfl, rfl, rfl, trivial⟩ (.cons_cons _ (.cons_cons _ (.cons_cons _ (.cons_cons _ (.slnil))))) rfl
   by_cases hp168 : r147.2.code = 0
   ·have h := Aq hp168 h
    refine Bv rfl _ rfl ((eqi hp168)) <| Ac rfl rfl <| Aa 0 rfl (Ae rfl) gn rfl ?_
    obtain ⟨r349, hv350, h⟩ := h
    refine Ci 1 rfl (D6 [.pointer (some ⟨g2, 0, none⟩), .string (⟨#[61]⟩ : ByteArray)] rfl Tryd.func90 rfl rfl rfl fun w346 hL347 => ?_) gn
    have hp348 := pmI hL347 (.c 0 rfl (.c 1 rfl (.c 2 rfl .n))) (.c 3 rfl .n) (by kernel_rfl)
    refine Calls.mono (Hl w346 (Fl ([Sm w.heap.size F w163 sb167] : List C9)) r147.2 (⟨#[61]⟩ : ByteArray) g2 Tb3 A149 n150 c151 z12 A153 n154 c155 z18 A158 n159 c160 (Rw.mono h152 (hL347.toFl (me 0 rfl) (me 0 rfl))) (Nat.le_trans hz13 hL347.env.size) h156 (Nat.le_trans hz19 hL347.env.size) h161 (hL347.hFl hp348 (Bh [0] rfl)) (hL347.into hp348 _) r349 hv350) ?_
    rintro _ w365 ⟨A355, n356, c357, A360, n361, c362, A351, n352, c353, rfl, hM366, h358, h363, h354⟩
    obtain ⟨sb369, hL367, hv368⟩ := hL347.callB (Sl := ([Sm w.heap.size F w163 sb167] : List C9)) hp348 hM366 F (Bh [0] rfl) ⟨Sm.ok, trivial⟩
    have h354 : At Cc (Sm w.heap.size F w365 sb369) A351 n352 c353 r349.words := Rw.mono h354 hv368
    refine ⟨_, _, _, rfl, hL367, ?_⟩
    refine Aj 2 rfl <| Az 3 rfl <| Az 1 rfl <| Az 3 rfl <| Az 3 rfl ?_
    exact D7 [0, 1, 2, 3, 4, 5] (j2 r349.words r349.at_ r349.end_ r349.q.nodes r349.q.conds r349.code r349.place h A351 n352 c353 w365 sb369 h354 A355 n356 c357 h358 A360 n361 c362 h363) ⟨rfl, rfl, trivial⟩ (.cons_cons _ (.cons_cons _ (.cons_cons _ (.cons_cons _ (.slnil))))) rfl
   ·have h := Ap hp168 h
    refine Bj rfl _ rfl ((nei hp168)) <| Ce rfl <| Az 3 rfl <| Az 1 rfl <| Az 3 rfl <| Az 3 rfl ?_
    exact D7 [0, 0, 1, 2, 3, 4] (j2 r147.2.words r147.2.at_ r147.2.end_ r147.2.q.nodes r147.2.q.conds r147.2.code r147.2.place h A149 n150 c151 w163 sb167 h152 A153 n154 c155 h156 A158 n159 c160 h161) ⟨rfl, rfl, trivial⟩ (.cons_cons _ (.cons_cons _ (.cons_cons _ (.cons_cons _ (.slnil))))) rfl
 by_cases hp46 : r25.1 = true
 ·have h := Aq hp46 h
  refine Bv rfl _ rfl (hp46) <| Ac rfl rfl <| Aa 0 rfl (Au Xeb rfl) gn rfl ?_
  refine Ci 1 rfl (Fh (vs := [.bool true]) (cs' := [.bool true, .string (⟨#[]⟩ : ByteArray), .string (⟨#[]⟩ : ByteArray), .string (⟨#[]⟩ : ByteArray)]) (M' := [.box g2 Tb3 [.slice A27 n28 c29, .int .i64 r25.2.at_, .int .i64 r25.2.end_, .slice A31 n32 c33, .slice A36 n37 c38, .int .i64 r25.2.code, .int .i64 r25.2.place], .own (.slice A31 n32 c33) 45 5 n32 (r25.2.q.nodes.flatMap Ar), .own (.slice A36 n37 c38) 47 4 n37 (r25.2.q.conds.flatMap Bg), .box gb20 47 [.bool true, .string (⟨#[]⟩ : ByteArray), .string (⟨#[]⟩ : ByteArray), .string (⟨#[]⟩ : ByteArray)]]) 3 Xbi rfl rfl rfl rfl rfl rfl rfl rfl rfl ?_) gn
  refine Aj 2 rfl <| Az 3 rfl <| Az 1 rfl <| Az 3 rfl <| Az 3 rfl ?_
  exact D7 [0, 0, 1, 2] (j1 r25.2.words r25.2.at_ r25.2.end_ r25.2.q.nodes r25.2.q.conds r25.2.code r25.2.place true h A27 n28 c29 w41 sb45 h30 A31 n32 c33 h34 A36 n37 c38 h39) ⟨rfl, rfl, trivial⟩ (.cons_cons _ (.cons_cons _ (.cons_cons _ (.cons_cons _ (.slnil))))) rfl
 ·have h := Ap hp46 h
  refine Bj rfl _ rfl ((bf hp46)) <| Ai rfl <| Ac rfl rfl <| Aa 0 rfl (Ae rfl) gn rfl <| Aa 1 rfl (Ae rfl) gn rfl <| Aa 2 rfl (Bc rfl) gn rfl <| Aa 3 rfl (Au Ea rfl) gn rfl <| Aa 4 rfl (Am 0 He rfl rfl rfl) gn rfl ?_
  obtain ⟨r373, hv374, h⟩ := h
  refine Ci 5 rfl (D6 [.pointer (some ⟨g2, 0, none⟩), .int .i64 r25.2.at_, .int .i64 1, .string (⟨#[119, 104, 101, 110]⟩ : ByteArray)] rfl Tryd.func91 rfl rfl rfl fun w370 hL371 => ?_) gn
  have hp372 := pmI hL371 (.c 0 rfl (.c 1 rfl (.c 2 rfl .n))) (.c 3 rfl .n) (by kernel_rfl)
  refine Calls.mono (Gi w370 (Fl ([Sm w.heap.size F w41 sb45] : List C9)) r25.2 r25.2.at_ 1 (⟨#[119, 104, 101, 110]⟩ : ByteArray) g2 Tb3 A27 n28 c29 z12 A31 n32 c33 z18 A36 n37 c38 (Rw.mono h30 (hL371.toFl (me 0 rfl) (me 0 rfl))) (Nat.le_trans hz13 hL371.env.size) h34 (Nat.le_trans hz19 hL371.env.size) h39 (hL371.hFl hp372 (Bh [0] rfl)) (hL371.into hp372 _) r373 hv374) ?_
  rintro _ w389 ⟨A379, n380, c381, A384, n385, c386, A375, n376, c377, rfl, hM390, h382, h387, h378⟩
  obtain ⟨sb393, hL391, hv392⟩ := hL371.callB (Sl := ([Sm w.heap.size F w41 sb45] : List C9)) hp372 hM390 F (Bh [0] rfl) ⟨Sm.ok, trivial⟩
  have h378 : At Cc (Sm w.heap.size F w389 sb393) A375 n376 c377 r373.2.words := Rw.mono h378 hv392
  refine ⟨_, _, _, rfl, hL391, ?_⟩
  refine Aa 6 rfl (P9 rfl) gn rfl <| Aa 7 rfl (Af rfl) gn rfl <| Aj 8 rfl ?_
  by_cases hp394 : r373.1 = true
  ·have h := Aq hp394 h
   refine Bj rfl _ rfl ((nf hp394)) <| Ce rfl <| Az 3 rfl <| Az 1 rfl <| Az 3 rfl <| Az 3 rfl ?_
   exact D7 [0, 1, 2, 3] (j1 r373.2.words r373.2.at_ r373.2.end_ r373.2.q.nodes r373.2.q.conds r373.2.code r373.2.place false h A375 n376 c377 w389 sb393 h378 A379 n380 c381 h382 A384 n385 c386 h387) ⟨rfl, rfl, trivial⟩ (.cons_cons _ (.cons_cons _ (.cons_cons _ (.cons_cons _ (.slnil))))) rfl
  ·have h := Ap hp394 h
   refine Bv rfl _ rfl ((nt (bf hp394))) <| Ai rfl <| Ac rfl rfl <| Aa 0 rfl (Ae rfl) gn rfl <| Aa 1 rfl (Ae rfl) gn rfl <| Aa 2 rfl (Bc rfl) gn rfl <| Aa 3 rfl (Au Ea rfl) gn rfl <| Aa 4 rfl (Am 0 He rfl rfl rfl) gn rfl ?_
   obtain ⟨r398, hv399, h⟩ := h
   refine Ci 5 rfl (D6 [.pointer (some ⟨g2, 0, none⟩), .int .i64 200, .int .i64 r373.2.at_] rfl Tryd.func88 rfl rfl rfl fun w395 hL396 => ?_) gn
   have hp397 := pmI hL396 (.c 0 rfl (.c 1 rfl (.c 2 rfl .n))) (.c 3 rfl .n) (by kernel_rfl)
   refine Calls.mono (Ff w395 (Fl ([Sm w.heap.size F w389 sb393] : List C9)) r373.2 200 r373.2.at_ g2 Tb3 A375 n376 c377 z12 A379 n380 c381 z18 A384 n385 c386 (Rw.mono h378 (hL396.toFl (me 0 rfl) (me 0 rfl))) (Nat.le_trans hz13 hL396.env.size) h382 (Nat.le_trans hz19 hL396.env.size) h387 (hL396.hFl hp397 (Bh [0] rfl)) (hL396.into hp397 _) r398 hv399) ?_
   rintro _ w414 ⟨A404, n405, c406, A409, n410, c411, A400, n401, c402, rfl, hM415, h407, h412, h403⟩
   obtain ⟨sb418, hL416, hv417⟩ := hL396.callB (Sl := ([Sm w.heap.size F w389 sb393] : List C9)) hp397 hM415 F (Bh [0] rfl) ⟨Sm.ok, trivial⟩
   have h403 : At Cc (Sm w.heap.size F w414 sb418) A400 n401 c402 r398.words := Rw.mono h403 hv417
   refine ⟨_, _, _, rfl, hL416, ?_⟩
   refine Aj 6 rfl ?_
   refine Bq [] rfl Tryd.func61 rfl (.nil) fun wr hLr => ?_
   have hMr := hLr.pkI (.c 0 rfl (.c 1 rfl (.c 2 rfl .n))) (.c 3 rfl .n) (by kernel_rfl) (.c 4 rfl .n)
   have hMi := hLr.selI (.c 0 rfl (.c 1 rfl (.c 2 rfl .n)))
   show Ib w F g2 Tb3 A8 n9 c10 z12 A14 n15 c16 z18 r (.returned (Cf [])) wr
   rw [h]
   exact ⟨A404, n405, c406, A409, n410, c411, A400, n401, c402, rfl, hMr, h407, h412, (hLr.outR (s := Sm w.heap.size F w414 sb418) hMi (me 0 rfl) Sm.ok h403)⟩
noncomputable abbrev Xda := Code.snd (Code.snd (Code.snd (Code.snd (Code.snd (Code.snd (Dq Tryd.f28))))))
noncomputable abbrev Xbv := Code.fst (Code.fst (Code.fst (Code.snd (Code.snd (Code.snd (Code.snd (Code.snd (Dq Tryd.f28))))))))
noncomputable abbrev q28c21 := Code.fst (Code.fst Xbv)
noncomputable abbrev q28c34 := Code.fst (Code.fst (Code.snd (Code.fst Xda)))
abbrev Ru (w : World) (F : Nat → Prop) (r : Aw × Int × Int) : Ending → World → Prop := fun e w' => ∃ A0 : Option Addr, ∃ n0 : Nat, ∃ c0 : Nat, ∃ A1 : Option Addr, ∃ n1 : Nat, ∃ c1 : Nat, e = .returned (.tuple #[.agg #[.slice A0 n0 c0, .slice A1 n1 c1], .int .i64 r.2.1, .int .i64 r.2.2]) ∧ B.Loc w w' [.own (.slice A0 n0 c0) 45 5 n0 (r.1.nodes.flatMap Ar), .own (.slice A1 n1 c1) 47 4 n1 (r.1.conds.flatMap Bg)] [St w []] ∧ Ow w.heap.size A0 n0 c0 r.1.nodes ∧ Ow w.heap.size A1 n1 c1 r.1.conds
noncomputable abbrev Vb (w : World) (F : Nat → Prop) (r : Aw × Int × Int) : Cx := ⟨Tryd.prog, 28, Tryd.f28, 64, Ru w F  r, w⟩
theorem Xcm (w : World) (F : Nat → Prop) (x1 : ByteArray) (hF : ∀ b, F b → b < w.heap.size ∧ ∀ o ∈ ([] : List (List Nat)), b ∉ o) (hL0 : B.Loc w w [] [Sm w.heap.size F w [], St w []]) (r : Aw × Int × Int) (h : Vk x1 r) : Calls Tryd.prog 28 #[.string x1] w (Ru w F  r) := by
 unfold Vk at h
 refine Cb (vs := [.string x1]) 64 Tryd.func28 rfl Tryd.ntmps28 rfl hL0 ?_
 show G (Vb w F r) _ _ _ _
 refine Ai rfl <| Ac rfl rfl ?_
 refine Ci 0 rfl (Gx [.slice none 0 0, .slice none 0 0] zr_25 rfl fun gb2 => ?_) gn
 refine Aa 1 rfl (Af rfl) gn rfl <| Aa 2 rfl (Af rfl) gn rfl <| Aj 3 rfl <| Ai rfl <| Ac rfl rfl <| Aa 0 rfl (Ae rfl) gn rfl ?_
 obtain ⟨r7, hv8, h⟩ := h
 refine Ci 1 rfl (D6 [.string x1] rfl Tryd.func59 rfl rfl rfl fun w4 hL5 => ?_) gn
 have hp6 := pmI hL5 .n (.c 0 rfl .n) (by kernel_rfl)
 refine Calls.mono (Xe7 w4 (Fl ([] : List C9)) x1 (hL5.hFl hp6 (Bh [] rfl)) (hL5.into hp6 _) r7 hv8) ?_
 rintro _ w14 ⟨A9, n10, c11, rfl, hM15, h12⟩
 have hL16 := hL5.call hp6 hM15
 refine ⟨_, _, _, rfl, hL16, ?_⟩
 refine Aa 2 rfl (Ae rfl) gn rfl <| Aa 3 rfl (Hm rfl rfl) gn rfl <| Aa 4 rfl (Hm rfl rfl) gn rfl <| Aa 5 rfl (Hm rfl rfl) gn rfl <| Aa 6 rfl (Af rfl) gn rfl <| Aa 7 rfl (Af rfl) gn rfl <| Aa 8 rfl (Af rfl) gn rfl <| Aj 9 rfl <| Ai rfl <| Ai rfl <| Ac rfl rfl <| Aa 0 rfl (Ae rfl) gn rfl ?_
 refine Aa 1 rfl (Bf rfl rfl rfl) gn rfl <| Aj 2 rfl ?_
 by_cases hp17 : r7.2.1 = 0
 ·have h := Aq hp17 h
  refine Bj rfl _ rfl ((Xbz hp17)) <| Ce rfl <| Ai rfl <| Ac rfl rfl <| Aa 0 rfl (Ae rfl) gn rfl <| Aa 1 rfl (Ae rfl) gn rfl <| Aa 2 rfl (Qa Le rfl) gn rfl <| Aa 3 rfl (Iz #[.slice A9 n10 c11, .int .i64 0, .int .i64 (x1.size : Int), .slice none 0 0, .slice none 0 0, .int .i64 0, .int .i64 0] bd_90 rfl (by kernel_rfl)) gn rfl ?_
  refine Ci 4 rfl (U0 [.slice A9 n10 c11, .int .i64 0, .int .i64 (x1.size : Int), .slice none 0 0, .slice none 0 0, .int .i64 0, .int .i64 0] rfl rfl rfl fun gb18 => ?_) gn
  refine Aa 5 rfl (Af rfl) gn rfl <| Aj 6 rfl <| Ai rfl <| Ac rfl rfl <| Aa 0 rfl (Ae rfl) gn rfl ?_
  obtain ⟨r28, hv29, h⟩ := h
  refine Xiy (F := F) (dk := Cc) (Sm w.heap.size F w []) 1 rfl (Ow.weak hL5.env.size h12) (me 0 rfl) Sm.ok (Cells.flat _) fun sw24 sb25 h23 => ?_
  refine w_nil 45 5 <| w_nil 47 4 ?_
  refine Ci 1 rfl (D6 [.pointer (some ⟨gb18, 0, none⟩)] rfl Tryd.func60 rfl rfl rfl fun w20 hL21 => ?_) gn
  have hp22 := pmI hL21 (.c 2 rfl (.c 1 rfl (.c 0 rfl .n))) (.c 3 rfl .n) (by kernel_rfl)
  refine Calls.mono (Xd w20 (Fl ([Sm w.heap.size F sw24 sb25] : List C9)) (⟨r7.1, 0, (x1.size : Int), (⟨([] : List Ag), ([] : List Bi)⟩ : Aw), 0, 0⟩ : Ah) gb18 90 A9 n10 c11 w.heap.size none 0 0 w.heap.size none 0 0 (Rw.mono h23 (hL21.toFl (me 0 rfl) (me 0 rfl))) hL21.env.size (Ow.nil (z := w.heap.size)) hL21.env.size (Ow.nil (z := w.heap.size)) (hL21.hFl hp22 (Bh [0] rfl)) (hL21.into hp22 _) r28 hv29) ?_
  rintro _ w44 ⟨A34, n35, c36, A39, n40, c41, A30, n31, c32, rfl, hM45, h37, h42, h33⟩
  obtain ⟨sb48, hL46, hv47⟩ := hL21.callB (Sl := ([Sm w.heap.size F sw24 sb25] : List C9)) hp22 hM45 F (Bh [0] rfl) ⟨Sm.ok, trivial⟩
  have h33 : At Cc (Sm w.heap.size F w44 sb48) A30 n31 c32 r28.words := Rw.mono h33 hv47
  refine ⟨_, _, _, rfl, hL46, ?_⟩
  refine Aj 2 rfl <| Ai rfl <| Dt rfl <| Nk rfl ?_
  have key1 : ∀ s, Bo (fun (s : (List Ak) × Int × Int × (List Ag) × (List Bi) × Int × Int) o => Gv s.1 s.2.1 s.2.2.1 s.2.2.2.1 s.2.2.2.2.1 s.2.2.2.2.2.1 s.2.2.2.2.2.2 o) s r → (fun (s : (List Ak) × Int × Int × (List Ag) × (List Bi) × Int × Int) => ∀ (A77 : Option Addr) (n78 : Nat) (c79 : Nat) (sw80 : World) (sb81 : List (List Nat)) (h82 : At Cc (Sm w.heap.size F sw80 sb81) A77 n78 c79 s.1) (A86 : Option Addr) (n87 : Nat) (c88 : Nat) (h89 : Ow w.heap.size A86 n87 c88 s.2.2.2.1) (A91 : Option Addr) (n92 : Nat) (c93 : Nat) (h94 : Ow w.heap.size A91 n92 c93 s.2.2.2.2.1), G (Vb w F r) [.code Xbv, .inLoop Xbv, .inBlock 0, .code Xda] [(2, .pointer (some ⟨gb2, 0, none⟩)), (8, .pointer (some ⟨gb18, 0, none⟩))] [.own (.slice A86 n87 c88) 45 5 n87 (s.2.2.2.1.flatMap Ar), .own (.slice A91 n92 c93) 47 4 n92 (s.2.2.2.2.1.flatMap Bg), .box gb18 90 [.slice A77 n78 c79, .int .i64 s.2.1, .int .i64 s.2.2.1, .slice A86 n87 c88, .slice A91 n92 c93, .int .i64 s.2.2.2.2.2.1, .int .i64 s.2.2.2.2.2.2], .box gb2 25 [.slice none 0 0, .slice none 0 0]] [Sm w.heap.size F sw80 sb81, Sm w.heap.size F w44 sb48, Sm w.heap.size F sw24 sb25, Sm w.heap.size F w [], St w []]) s := by
   intro s hs
   refine Bo.ind (mot := (fun (s : (List Ak) × Int × Int × (List Ag) × (List Bi) × Int × Int) => ∀ (A77 : Option Addr) (n78 : Nat) (c79 : Nat) (sw80 : World) (sb81 : List (List Nat)) (h82 : At Cc (Sm w.heap.size F sw80 sb81) A77 n78 c79 s.1) (A86 : Option Addr) (n87 : Nat) (c88 : Nat) (h89 : Ow w.heap.size A86 n87 c88 s.2.2.2.1) (A91 : Option Addr) (n92 : Nat) (c93 : Nat) (h94 : Ow w.heap.size A91 n92 c93 s.2.2.2.2.1), G (Vb w F r) [.code Xbv, .inLoop Xbv, .inBlock 0, .code Xda] [(2, .pointer (some ⟨gb2, 0, none⟩)), (8, .pointer (some ⟨gb18, 0, none⟩))] [.own (.slice A86 n87 c88) 45 5 n87 (s.2.2.2.1.flatMap Ar), .own (.slice A91 n92 c93) 47 4 n92 (s.2.2.2.2.1.flatMap Bg), .box gb18 90 [.slice A77 n78 c79, .int .i64 s.2.1, .int .i64 s.2.2.1, .slice A86 n87 c88, .slice A91 n92 c93, .int .i64 s.2.2.2.2.2.1, .int .i64 s.2.2.2.2.2.2], .box gb2 25 [.slice none 0 0, .slice none 0 0]] [Sm w.heap.size F sw80 sb81, Sm w.heap.size F w44 sb48, Sm w.heap.size F sw24 sb25, Sm w.heap.size F w [], St w []])) ?_ hs
   clear hs s
   intro s o1 h hO1
   obtain ⟨x76, x83, x84, x85, x90, x95, x96⟩ := s
   show ∀ (A77 : Option Addr) (n78 : Nat) (c79 : Nat) (sw80 : World) (sb81 : List (List Nat)) (h82 : At Cc (Sm w.heap.size F sw80 sb81) A77 n78 c79 x76) (A86 : Option Addr) (n87 : Nat) (c88 : Nat) (h89 : Ow w.heap.size A86 n87 c88 x85) (A91 : Option Addr) (n92 : Nat) (c93 : Nat) (h94 : Ow w.heap.size A91 n92 c93 x90), G (Vb w F r) [.code Xbv, .inLoop Xbv, .inBlock 0, .code Xda] [(2, .pointer (some ⟨gb2, 0, none⟩)), (8, .pointer (some ⟨gb18, 0, none⟩))] [.own (.slice A86 n87 c88) 45 5 n87 (x85.flatMap Ar), .own (.slice A91 n92 c93) 47 4 n92 (x90.flatMap Bg), .box gb18 90 [.slice A77 n78 c79, .int .i64 x83, .int .i64 x84, .slice A86 n87 c88, .slice A91 n92 c93, .int .i64 x95, .int .i64 x96], .box gb2 25 [.slice none 0 0, .slice none 0 0]] [Sm w.heap.size F sw80 sb81, Sm w.heap.size F w44 sb48, Sm w.heap.size F sw24 sb25, Sm w.heap.size F w [], St w []]
   intro A77 n78 c79 sw80 sb81 h82 A86 n87 c88 h89 A91 n92 c93 h94
   have h : Gv x76 x83 x84 x85 x90 x95 x96 o1 := h
   unfold Gv at h
   refine Ai rfl <| Ai rfl ?_
   by_cases hp123 : x95 = 0
   ·have h := Aq hp123 h
    have hns : Region.noSelect (Code.ops q28c21) = true := by kernel_rfl
    refine Fe [] 17 rfl rfl mix rfl (.c 0 rfl (.c 1 rfl (.c 2 rfl (.c 3 rfl (.c 4 rfl .n))))) <| wfv 0 rfl (Ae rfl) gn hns rfl <| wfv 1 rfl (Bc rfl) gn hns rfl <| wfv 2 rfl (Au Pq rfl) gn hns rfl <| wfv 3 rfl (Am 2 Y4 rfl rfl rfl) gn hns rfl <| wfv 4 rfl (Bf rfl rfl rfl) gn hns rfl <| wfv 5 rfl (Ae rfl) gn hns rfl <| H9 32 rfl ((eqi hp123)) <| wfv 6 rfl (Ae rfl) (gy 32 rfl rfl) hns rfl <| wfv 7 rfl (Bc rfl) (gy 32 rfl rfl) hns rfl <| wfv 8 rfl (Au Ea rfl) (gy 32 rfl rfl) hns rfl <| wfv 9 rfl (Am 2 He rfl rfl rfl) (gy 32 rfl rfl) hns rfl ?_
    refine wfv 10 rfl (Ae rfl) (gy 32 rfl rfl) hns rfl <| wfv 11 rfl (Bc rfl) (gy 32 rfl rfl) hns rfl <| wfv 12 rfl (Au Gs rfl) (gy 32 rfl rfl) hns rfl <| wfv 13 rfl (Am 2 Lc rfl rfl rfl) (gy 32 rfl rfl) hns rfl <| wfv 14 rfl (Dp Y1 rfl h82.hq) (gy 32 rfl rfl) hns rfl <| wfv 15 rfl (Bf rfl rfl rfl) (gy 32 rfl rfl) hns rfl <| wfv 16 rfl (Bd (b := true) rfl rfl) gn hns rfl <| Dv (by kernel_rfl) ?_
    by_cases hp124 : x83 < (x76.length : Int)
    ·have h := Aq hp124 h
     refine Bv rfl _ rfl ((decide_eq_true hp124)) <| Ce rfl <| Dt rfl <| Ac rfl rfl <| Aa 0 rfl (Ae rfl) gn rfl ?_
     obtain ⟨r128, hv129, h⟩ := h
     refine Ci 1 rfl (D6 [.pointer (some ⟨gb18, 0, none⟩)] rfl Tryd.func61 rfl rfl rfl fun w125 hL126 => ?_) gn
     have hp127 := pmI hL126 (.c 2 rfl (.c 0 rfl (.c 1 rfl .n))) (.c 3 rfl .n) (by kernel_rfl)
     refine Calls.mono (Yi w125 (Fl ([Sm w.heap.size F sw80 sb81] : List C9)) (⟨x76, x83, x84, (⟨x85, x90⟩ : Aw), x95, x96⟩ : Ah) gb18 90 A77 n78 c79 w.heap.size A86 n87 c88 w.heap.size A91 n92 c93 (Rw.mono h82 (hL126.toFl (me 0 rfl) (me 0 rfl))) hL126.env.size h89 hL126.env.size h94 (hL126.hFl hp127 (Bh [0] rfl)) (hL126.into hp127 _) r128 hv129) ?_
     rintro _ w144 ⟨A134, n135, c136, A139, n140, c141, A130, n131, c132, rfl, hM145, h137, h142, h133⟩
     obtain ⟨sb148, hL146, hv147⟩ := hL126.callB (Sl := ([Sm w.heap.size F sw80 sb81] : List C9)) hp127 hM145 F (Bh [0] rfl) ⟨Sm.ok, trivial⟩
     have h133 : At Cc (Sm w.heap.size F w144 sb148) A130 n131 c132 r128.words := Rw.mono h133 hv147
     refine ⟨_, _, _, rfl, hL146, ?_⟩
     refine Aj 2 rfl <| D8 <| Ej <| Az 3 rfl <| Az 1 rfl <| Az 3 rfl <| Az 3 rfl ?_
     have ih := Out.inl hO1 h
     exact D7 [0, 2, 3, 4, 5] (ih A130 n131 c132 w144 sb148 h133 A134 n135 c136 h137 A139 n140 c141 h142) ⟨rfl, rfl, trivial⟩ (.cons_cons _ (.cons_cons _ (.cons_cons _ (.cons_cons _ (.slnil))))) rfl
    ·have h := Ap hp124 h
     refine Bj rfl _ rfl ((decide_eq_false hp124)) <| Jk [.code Xda] rfl rfl <| Ai rfl <| Ai rfl <| Ac rfl rfl <| Aa 0 rfl (Ae rfl) gn rfl <| Aa 1 rfl (Bc rfl) gn rfl <| Aa 2 rfl (Au Pq rfl) gn rfl <| Aa 3 rfl (Am 2 Y4 rfl rfl rfl) gn rfl <| Aa 4 rfl (Bf rfl rfl rfl) gn rfl <| Aj 5 rfl <| Bj rfl _ rfl ((Xbz hp123)) ?_
     refine Ce rfl <| Ai rfl <| Ac rfl rfl <| Aa 0 rfl (Ae rfl) gn rfl <| Aa 1 rfl (Bc rfl) gn rfl <| Aa 2 rfl (Au O6 rfl) gn rfl <| Aa 3 rfl (Nj [.slice A86 n87 c88, .slice A91 n92 c93] 2 Vt rfl rfl rfl rfl) gn rfl ?_
     refine Ci 4 rfl (Fh (vs := [.slice A86 n87 c88, .slice A91 n92 c93]) (cs' := [.slice A86 n87 c88, .slice A91 n92 c93]) (M' := [.own (.slice A86 n87 c88) 45 5 n87 (x85.flatMap Ar), .own (.slice A91 n92 c93) 47 4 n92 (x90.flatMap Bg), .box gb18 90 [.slice A77 n78 c79, .int .i64 x83, .int .i64 x84, .slice A86 n87 c88, .slice A91 n92 c93, .int .i64 x95, .int .i64 x96], .box gb2 25 [.slice A86 n87 c88, .slice A91 n92 c93]]) 3 Xj9 rfl rfl rfl rfl rfl rfl rfl rfl rfl ?_) gn
     refine Aa 5 rfl (Af rfl) gn rfl <| Aa 6 rfl (Af rfl) gn rfl <| Aj 7 rfl ?_
     have h := Out.inr hO1 h
     refine Bq [.agg #[.slice A86 n87 c88, .slice A91 n92 c93], .int .i64 0, .int .i64 0] rfl Tryd.func28 rfl (.cell (cs := [.slice A86 n87 c88, .slice A91 n92 c93]) (us := [.slice A86 n87 c88, .slice A91 n92 c93]) 3 rfl Vt rfl rfl rfl (.tmp rfl (.tmp rfl (.nil)))) fun wr hLr => ?_
     have hMr := hLr.pkI (.c 0 rfl (.c 1 rfl .n)) (.c 2 rfl (.c 3 rfl .n)) (by kernel_rfl) (.c 4 rfl .n)
     show Ru w F  r (.returned (Cf [.agg #[.slice A86 n87 c88, .slice A91 n92 c93], .int .i64 0, .int .i64 0])) wr
     rw [h]
     exact ⟨A86, n87, c88, A91, n92, c93, rfl, hMr, h89, h94⟩
   ·have h := Ap hp123 h
    have hns : Region.noSelect (Code.ops q28c21) = true := by kernel_rfl
    refine Fe [] 17 rfl rfl mix rfl (.c 0 rfl (.c 1 rfl (.c 2 rfl (.c 3 rfl (.c 4 rfl .n))))) <| wfv 0 rfl (Ae rfl) gn hns rfl <| wfv 1 rfl (Bc rfl) gn hns rfl <| wfv 2 rfl (Au Pq rfl) gn hns rfl <| wfv 3 rfl (Am 2 Y4 rfl rfl rfl) gn hns rfl <| wfv 4 rfl (Bf rfl rfl rfl) gn hns rfl <| wfv 5 rfl (Ae rfl) gn hns rfl <| H9 32 rfl ((nei hp123)) <| wfp 6 rfl (ps 32 rfl rfl rfl) hns rfl <| wfp 7 rfl (ps 32 rfl rfl rfl) hns rfl <| wfp 8 rfl (ps 32 rfl rfl rfl) hns rfl <| wfp 9 rfl (ps 32 rfl rfl rfl) hns rfl ?_
    refine wfp 10 rfl (ps 32 rfl rfl rfl) hns rfl <| wfp 11 rfl (ps 32 rfl rfl rfl) hns rfl <| wfp 12 rfl (ps 32 rfl rfl rfl) hns rfl <| wfp 13 rfl (ps 32 rfl rfl rfl) hns rfl <| wfp 14 rfl (ps 32 rfl rfl rfl) hns rfl <| wfp 15 rfl (ps 32 rfl rfl rfl) hns rfl <| wfv 16 rfl (Bd (b := false) rfl rfl) gn hns rfl <| Dv (by kernel_rfl) <| Bj rfl _ rfl (rfl) <| Jk [.code Xda] rfl rfl <| Ai rfl <| Ai rfl ?_
    refine Ac rfl rfl <| Aa 0 rfl (Ae rfl) gn rfl <| Aa 1 rfl (Bc rfl) gn rfl <| Aa 2 rfl (Au Pq rfl) gn rfl <| Aa 3 rfl (Am 2 Y4 rfl rfl rfl) gn rfl <| Aa 4 rfl (Bf rfl rfl rfl) gn rfl <| Aj 5 rfl <| Bv rfl _ rfl ((Xc1 hp123)) <| Ai rfl ?_
    have hns : Region.noSelect (Code.ops q28c34) = true := by kernel_rfl
    refine Uh [.own (.slice A86 n87 c88) 45 5 n87 (x85.flatMap Ar), .own (.slice A91 n92 c93) 47 4 n92 (x90.flatMap Bg), .box gb18 90 [.slice A77 n78 c79, .int .i64 x83, .int .i64 x84, .slice A86 n87 c88, .slice A91 n92 c93, .int .i64 x95, .int .i64 x96]] [Sm w.heap.size F sw80 sb81, Sm w.heap.size F w44 sb48, Sm w.heap.size F sw24 sb25, Sm w.heap.size F w [], St w []] [] 12 rfl rfl mix rfl (.cons_cons _ (.cons_cons _ (.cons_cons _ (.cons _ (.slnil))))) (Bh [0, 1, 2, 3, 4] rfl) <| wfv 0 rfl (Iz #[.slice none 0 0, .slice none 0 0] bd_25 rfl (by kernel_rfl)) gn hns rfl <| wfv 1 rfl (Ae rfl) gn hns rfl <| wfv 2 rfl (Bc rfl) gn hns rfl <| wfv 3 rfl (Au Pq rfl) gn hns rfl <| wfv 4 rfl (Am 2 Y4 rfl rfl rfl) gn hns rfl <| wfv 5 rfl (Ae rfl) gn hns rfl <| wfv 6 rfl (Bc rfl) gn hns rfl <| wfv 7 rfl (Au Xi3 rfl) gn hns rfl <| wfv 8 rfl (Am 2 He rfl rfl rfl) gn hns rfl ?_
    refine Cm [9] (by kernel_rfl) rfl ⟨Eo 9 rfl gn rfl (Fh (vs := [.slice none 0 0, .slice none 0 0]) (cs' := [.slice none 0 0, .slice none 0 0]) (M' := [.own (.slice A86 n87 c88) 45 5 n87 (x85.flatMap Ar), .own (.slice A91 n92 c93) 47 4 n92 (x90.flatMap Bg), .box gb18 90 [.slice A77 n78 c79, .int .i64 x83, .int .i64 x84, .slice A86 n87 c88, .slice A91 n92 c93, .int .i64 x95, .int .i64 x96], .box gb2 25 [.slice none 0 0, .slice none 0 0]]) 3 Xj9 rfl rfl rfl rfl rfl rfl rfl rfl rfl ?_), trivial⟩
    refine ⟨Bh [0, 1, 2] rfl, Bh [0, 1, 2, 3, 4] rfl, ?_⟩
    refine wfv 10 rfl (Af rfl) gn hns rfl <| wfv 11 rfl (Af rfl) gn hns rfl <| Dv (by kernel_rfl) <| Pe 45 5 <| Pe 47 4 ?_
    have h := Out.inr hO1 h
    refine Bq [.agg #[.slice none 0 0, .slice none 0 0], .int .i64 x95, .int .i64 x96] rfl Tryd.func28 rfl (.cell (cs := [.slice none 0 0, .slice none 0 0]) (us := [.slice none 0 0, .slice none 0 0]) 5 rfl Vt rfl rfl rfl (.tmp rfl (.tmp rfl (.nil)))) fun wr hLr => ?_
    have hMr := hLr.pkI (.c 1 rfl (.c 0 rfl .n)) (.c 2 rfl (.c 3 rfl (.c 4 rfl (.c 5 rfl .n)))) (by kernel_rfl) (.c 4 rfl .n)
    show Ru w F  r (.returned (Cf [.agg #[.slice none 0 0, .slice none 0 0], .int .i64 x95, .int .i64 x96])) wr
    rw [h]
    exact ⟨none, 0, 0, none, 0, 0, rfl, hMr, (Ow.nil (z := w.heap.size)), (Ow.nil (z := w.heap.size))⟩
  refine Az 3 rfl <| Az 1 rfl <| Az 3 rfl <| Az 3 rfl ?_
  exact D7 [0, 0, 1, 2, 3] (key1 _ h A30 n31 c32 w44 sb48 h33 A34 n35 c36 h37 A39 n40 c41 h42) ⟨rfl, rfl, trivial⟩ (.cons_cons _ (.cons_cons _ (.cons_cons _ (.cons_cons _ (.slnil))))) rfl
 ·have h := Ap hp17 h
  refine Bv rfl _ rfl ((Xc1 hp17)) <| Ai rfl <| Ac rfl rfl <| Aa 0 rfl (Iz #[.slice none 0 0, .slice none 0 0] bd_25 rfl (by kernel_rfl)) gn rfl <| Aa 1 rfl (Ae rfl) gn rfl <| Aa 2 rfl (Ae rfl) gn rfl ?_
  refine Ci 3 rfl (Fh (vs := [.slice none 0 0, .slice none 0 0]) (cs' := [.slice none 0 0, .slice none 0 0]) (M' := [.own (.slice A9 n10 c11) 84 4 n10 (r7.1.flatMap D5), .box gb2 25 [.slice none 0 0, .slice none 0 0]]) 1 Xj9 rfl rfl rfl rfl rfl rfl rfl rfl rfl ?_) gn
  refine Aa 4 rfl (Af rfl) gn rfl <| Aa 5 rfl (Af rfl) gn rfl <| Aj 6 rfl <| Pe 45 5 <| Pe 47 4 ?_
  refine Bq [.agg #[.slice none 0 0, .slice none 0 0], .int .i64 r7.2.1, .int .i64 r7.2.2] rfl Tryd.func28 rfl (.cell (cs := [.slice none 0 0, .slice none 0 0]) (us := [.slice none 0 0, .slice none 0 0]) 3 rfl Vt rfl rfl rfl (.tmp rfl (.tmp rfl (.nil)))) fun wr hLr => ?_
  have hMr := hLr.pkI (.c 1 rfl (.c 0 rfl .n)) (.c 2 rfl (.c 3 rfl .n)) (by kernel_rfl) (.c 1 rfl .n)
  show Ru w F  r (.returned (Cf [.agg #[.slice none 0 0, .slice none 0 0], .int .i64 r7.2.1, .int .i64 r7.2.2])) wr
  rw [h]
  exact ⟨none, 0, 0, none, 0, 0, rfl, hMr, (Ow.nil (z := w.heap.size)), (Ow.nil (z := w.heap.size))⟩
noncomputable abbrev q27c6 := Code.snd (Code.snd (Code.snd (Dq Tryd.f27)))
noncomputable abbrev q27c8 := Code.snd (Code.fst (Code.snd (Code.snd (Dq Tryd.f27))))
abbrev Fj (w : World) (F : Nat → Prop) (r : Bool) : Ending → World → Prop := fun e w' => e = .returned (.bool r) ∧ B.Loc w w' [] [St w []]
noncomputable abbrev Ui (w : World) (F : Nat → Prop) (r : Bool) : Cx := ⟨Tryd.prog, 27, Tryd.f27, 71, Fj w F  r, w⟩
theorem Xj (w : World) (F : Nat → Prop)  (hG : Tb Tryd.prog (St w [])) (hF : ∀ b, F b → b < w.heap.size ∧ ∀ o ∈ ([] : List (List Nat)), b ∉ o) (hL0 : B.Loc w w [] [Sm w.heap.size F w [], St w []]) (r : Bool) (h : Oc  r) : Calls Tryd.prog 27 #[] w (Fj w F  r) := by
 unfold Oc at h
 refine Cb (vs := []) 71 Tryd.func27 rfl Tryd.ntmps27 rfl hL0 ?_
 show G (Ui w F r) _ _ _ _
 refine Ai rfl <| Ac rfl rfl <| Aa 0 rfl (Af rfl) gn rfl <| Aj 1 rfl <| Ai rfl <| Ac rfl rfl ?_
 obtain ⟨r4, hv5, h⟩ := h
 refine Ci 0 rfl (D6 [.string (⟨#[40, 115, 32, 40, 97, 41, 32, 64, 120, 41, 32, 119, 104, 101, 110, 32, 64, 120, 32, 61, 32, 34, 121, 34]⟩ : ByteArray)] rfl Tryd.func28 rfl rfl rfl fun w1 hL2 => ?_) gn
 have hp3 := pmI hL2 .n .n (by kernel_rfl)
 refine Calls.mono (Xcm w1 (Fl ([] : List C9)) (⟨#[40, 115, 32, 40, 97, 41, 32, 64, 120, 41, 32, 119, 104, 101, 110, 32, 64, 120, 32, 61, 32, 34, 121, 34]⟩ : ByteArray) (hL2.hFl hp3 (Bh [] rfl)) (hL2.into hp3 _) r4 hv5) ?_
 rintro _ w16 ⟨A6, n7, c8, A11, n12, c13, rfl, hM17, h9, h14⟩
 have hL18 := hL2.call hp3 hM17
 refine ⟨_, _, _, rfl, hL18, ?_⟩
 refine Aa 1 rfl (Ae rfl) gn rfl <| Aa 2 rfl (Hm rfl rfl) gn rfl <| Aa 3 rfl (Hm rfl rfl) gn rfl <| Aa 4 rfl (Hm rfl rfl) gn rfl ?_
 refine Ci 5 rfl (Gx [.slice none 0 0, .slice none 0 0] zr_25 rfl fun gb19 => ?_) gn
 refine Ci 6 rfl (Fh (vs := [.slice A6 n7 c8, .slice A11 n12 c13]) (cs' := [.slice A6 n7 c8, .slice A11 n12 c13]) (M' := [.box gb19 25 [.slice A6 n7 c8, .slice A11 n12 c13], .own (.slice A6 n7 c8) 45 5 n7 (r4.1.nodes.flatMap Ar), .own (.slice A11 n12 c13) 47 4 n12 (r4.1.conds.flatMap Bg)]) 0 Xj9 rfl rfl rfl rfl rfl rfl rfl rfl rfl ?_) gn
 refine Aa 7 rfl (Af rfl) gn rfl <| Aa 8 rfl (Af rfl) gn rfl <| Aj 9 rfl <| Ai rfl <| Ai rfl ?_
 have j1 : ∀ (x25 : Bool) (h : Gp r4 x25 r) , G (Ui w F r) [.code q27c8, .code q27c6] [(1, .pointer (some ⟨gb19, 0, none⟩)), (31, .bool x25)] [.box gb19 25 [.slice A6 n7 c8, .slice A11 n12 c13], .own (.slice A6 n7 c8) 45 5 n7 (r4.1.nodes.flatMap Ar), .own (.slice A11 n12 c13) 47 4 n12 (r4.1.conds.flatMap Bg)] [Sm w.heap.size F w [], St w []] := by
  intro x25 h
  unfold Gp at h
  by_cases hp26 : x25 = true
  ·have h := Aq hp26 h
   refine Bv rfl _ rfl (hp26) <| Ai rfl <| Ac rfl rfl <| Aa 0 rfl (Af rfl) gn rfl <| Aj 1 rfl ?_
   refine Bq [.bool false] rfl Tryd.func27 rfl (.tmp rfl (.nil)) fun wr hLr => ?_
   have hMr := hLr.pk0 (.c 1 rfl .n)
   show Fj w F  r (.returned (Cf [.bool false])) wr
   rw [h]
   exact ⟨rfl, hMr⟩
  ·have h := Ap hp26 h
   refine Bj rfl _ rfl ((bf hp26)) <| Ce rfl <| Ai rfl <| Ac rfl rfl <| Aa 0 rfl (Iz #[.string (⟨#[115]⟩ : ByteArray), .bool true, .string (⟨#[]⟩ : ByteArray), .int .i64 0, .int .i64 2, .int .i64 2, .int .i64 (-1)] bd_56 rfl (by kernel_rfl)) gn rfl <| Aa 1 rfl (Iz #[.string (⟨#[97]⟩ : ByteArray), .bool true, .string (⟨#[]⟩ : ByteArray), .int .i64 0, .int .i64 1, .int .i64 0, .int .i64 0] bd_56 rfl (by kernel_rfl)) gn rfl <| Aa 2 rfl (Iz #[.string (⟨#[97]⟩ : ByteArray), .bool true, .string (⟨#[]⟩ : ByteArray), .int .i64 1, .int .i64 2, .int .i64 0, .int .i64 1] bd_56 rfl (by kernel_rfl)) gn rfl ?_
   refine Ci 3 rfl (Hy (xs := ([(⟨(⟨#[115]⟩ : ByteArray), true, (⟨#[]⟩ : ByteArray), 0, 2, 2, -1⟩ : Ba), (⟨(⟨#[97]⟩ : ByteArray), true, (⟨#[]⟩ : ByteArray), 0, 1, 0, 0⟩ : Ba), (⟨(⟨#[97]⟩ : ByteArray), true, (⟨#[]⟩ : ByteArray), 1, 2, 0, 1⟩ : Ba)] : List Ba)) [.string (⟨#[115]⟩ : ByteArray), .bool true, .string (⟨#[]⟩ : ByteArray), .int .i64 0, .int .i64 2, .int .i64 2, .int .i64 (-1), .string (⟨#[97]⟩ : ByteArray), .bool true, .string (⟨#[]⟩ : ByteArray), .int .i64 0, .int .i64 1, .int .i64 0, .int .i64 0, .string (⟨#[97]⟩ : ByteArray), .bool true, .string (⟨#[]⟩ : ByteArray), .int .i64 1, .int .i64 2, .int .i64 0, .int .i64 1] bs_26_3 rfl (by kernel_rfl) rfl rfl rfl rfl fun gb28 h29 => ?_) gn
   refine Aa 4 rfl (Af rfl) gn rfl <| Aj 5 rfl <| Ai rfl <| Ac rfl rfl <| Aa 0 rfl (Nj [.slice A6 n7 c8, .slice A11 n12 c13] 1 Vt rfl rfl rfl rfl) gn rfl <| Aa 1 rfl (Ae rfl) gn rfl ?_
   obtain ⟨r33, hv34, h⟩ := h
   refine Ci 2 rfl (D6 [.agg #[.slice A6 n7 c8, .slice A11 n12 c13], .slice (some ⟨gb28, 0, none⟩) 3 3, .string (⟨#[121, 122]⟩ : ByteArray)] rfl Tryd.func17 rfl rfl rfl fun w30 hL31 => ?_) gn
   have hp32 := pmI hL31 .n (.c 0 rfl (.c 1 rfl (.c 2 rfl (.c 3 rfl .n)))) (by kernel_rfl)
   refine Calls.mono (Vu w30 (Fl ([] : List C9)) r4.1 ([(⟨(⟨#[115]⟩ : ByteArray), true, (⟨#[]⟩ : ByteArray), 0, 2, 2, -1⟩ : Ba), (⟨(⟨#[97]⟩ : ByteArray), true, (⟨#[]⟩ : ByteArray), 0, 1, 0, 0⟩ : Ba), (⟨(⟨#[97]⟩ : ByteArray), true, (⟨#[]⟩ : ByteArray), 1, 2, 0, 1⟩ : Ba)] : List Ba) (⟨#[121, 122]⟩ : ByteArray) A6 n7 c8 A11 n12 c13 (some ⟨gb28, 0, none⟩) 3 3 (hL31.argO (dk := Dn) hp32 [] rfl 2 rfl rfl (Ow.weak hL2.env.size h9) (me 0 rfl) (Cells.flat _)) (hL31.argO (dk := Hq) hp32 [] rfl 3 rfl rfl (Ow.weak hL2.env.size h14) (me 0 rfl) (Cells.flat _)) (hL31.argO (dk := Eu) hp32 [] rfl 0 rfl rfl h29 (me 0 rfl) (Cells.flat _)) (hL31.tb hp32 hG (me 1 rfl)) (hL31.hFl hp32 (Bh [] rfl)) (hL31.into hp32 _) r33 hv34) ?_
   rintro _ w42 ⟨A35, n36, c37, cs40, rfl, hM43, h38, hC41⟩
   obtain ⟨sb46, hL44, hv45⟩ := hL31.callB (Sl := ([] : List C9)) hp32 hM43 F (Bh [] rfl) trivial
   have hC41 : Cells Oa (Sm w.heap.size F w42 sb46).w (Sm w.heap.size F w42 sb46).av r33 cs40 := Cells.mono hv45 hC41
   refine ⟨_, _, _, rfl, hL44, ?_⟩
   refine Aa 3 rfl (Af rfl) gn rfl <| Aj 4 rfl <| Ai rfl <| Ac rfl rfl <| Aa 0 rfl (Nj [.slice A6 n7 c8, .slice A11 n12 c13] 2 Vt rfl rfl rfl rfl) gn rfl <| Aa 1 rfl (Ae rfl) gn rfl ?_
   obtain ⟨r50, hv51, h⟩ := h
   refine Ci 2 rfl (D6 [.agg #[.slice A6 n7 c8, .slice A11 n12 c13], .slice (some ⟨gb28, 0, none⟩) 3 3, .string (⟨#[122, 121]⟩ : ByteArray)] rfl Tryd.func17 rfl rfl rfl fun w47 hL48 => ?_) gn
   have hp49 := pmI hL48 .n (.c 0 rfl (.c 1 rfl (.c 2 rfl (.c 3 rfl (.c 4 rfl .n))))) (by kernel_rfl)
   refine Calls.mono (Vu w47 (Fl ([] : List C9)) r4.1 ([(⟨(⟨#[115]⟩ : ByteArray), true, (⟨#[]⟩ : ByteArray), 0, 2, 2, -1⟩ : Ba), (⟨(⟨#[97]⟩ : ByteArray), true, (⟨#[]⟩ : ByteArray), 0, 1, 0, 0⟩ : Ba), (⟨(⟨#[97]⟩ : ByteArray), true, (⟨#[]⟩ : ByteArray), 1, 2, 0, 1⟩ : Ba)] : List Ba) (⟨#[122, 121]⟩ : ByteArray) A6 n7 c8 A11 n12 c13 (some ⟨gb28, 0, none⟩) 3 3 (hL48.argO (dk := Dn) hp49 [] rfl 3 rfl rfl (Ow.weak hL2.env.size h9) (me 1 rfl) (Cells.flat _)) (hL48.argO (dk := Hq) hp49 [] rfl 4 rfl rfl (Ow.weak hL2.env.size h14) (me 1 rfl) (Cells.flat _)) (hL48.argO (dk := Eu) hp49 [] rfl 1 rfl rfl h29 (me 1 rfl) (Cells.flat _)) (hL48.tb hp49 hG (me 2 rfl)) (hL48.hFl hp49 (Bh [] rfl)) (hL48.into hp49 _) r50 hv51) ?_
   rintro _ w59 ⟨A52, n53, c54, cs57, rfl, hM60, h55, hC58⟩
   obtain ⟨sb63, hL61, hv62⟩ := hL48.callB (Sl := ([] : List C9)) hp49 hM60 F (Bh [] rfl) trivial
   have hC58 : Cells Oa (Sm w.heap.size F w59 sb63).w (Sm w.heap.size F w59 sb63).av r50 cs57 := Cells.mono hv62 hC58
   refine ⟨_, _, _, rfl, hL61, ?_⟩
   refine Aa 3 rfl (Af rfl) gn rfl <| Aj 4 rfl <| Ai rfl <| Ac rfl rfl <| Aa 0 rfl (Nj [.slice A6 n7 c8, .slice A11 n12 c13] 3 Vt rfl rfl rfl rfl) gn rfl ?_
   obtain ⟨r68, hv69, h⟩ := h
   refine Ci 1 rfl (D6 [.agg #[.slice A6 n7 c8, .slice A11 n12 c13]] rfl Tryd.func25 rfl rfl rfl fun w65 hL66 => ?_) gn
   have hp67 := pmI hL66 .n (.c 0 rfl (.c 1 rfl (.c 2 rfl (.c 3 rfl (.c 4 rfl (.c 5 rfl .n)))))) (by kernel_rfl)
   refine Calls.mono (Xcb w65 (Fl ([] : List C9)) r4.1 A6 n7 c8 A11 n12 c13 (hL66.argO (dk := Dn) hp67 [] rfl 4 rfl rfl (Ow.weak hL2.env.size h9) (me 2 rfl) (Cells.flat _)) (hL66.argO (dk := Hq) hp67 [] rfl 5 rfl rfl (Ow.weak hL2.env.size h14) (me 2 rfl) (Cells.flat _)) (hL66.tb hp67 hG (me 3 rfl)) (hL66.hFl hp67 (Bh [] rfl)) (hL66.into hp67 _) r68 hv69) ?_
   rintro _ w70 ⟨rfl, hM71⟩
   have hL72 := hL66.call hp67 hM71
   refine ⟨_, _, _, rfl, hL72, ?_⟩
   refine Aa 2 rfl (Ae rfl) gn rfl <| Aa 3 rfl (Hm rfl rfl) gn rfl <| Aa 4 rfl (Hm rfl rfl) gn rfl <| Aa 5 rfl (Af rfl) gn rfl <| Aa 6 rfl (Af rfl) gn rfl <| Aj 7 rfl <| Ai rfl <| Ac rfl rfl <| Aa 0 rfl (Ae rfl) gn rfl <| Aa 1 rfl (Dp Xik rfl (Ow.weak hL31.env.size h38).hq) gn rfl <| Aa 2 rfl (Bf rfl rfl rfl) gn rfl <| Aa 3 rfl (Ae rfl) gn rfl ?_
   by_cases hp73 : (r33.length : Int) = 1
   ·have h := Aq hp73 h
    refine Bl 50 rfl ((eqi hp73)) <| Aa 4 rfl (Ae rfl) (gy 50 rfl rfl) rfl ?_
    obtain ⟨hb74, h⟩ := h
    obtain ⟨ce75, hK76, ht77, hg78⟩ := Cells.get hC41 hb74
    obtain ⟨A79, n80, c81, rfl, h82⟩ := hK76
    refine Aa 5 rfl (G7 slE_31 rfl rfl (Ow.weak hL31.env.size h38) hb74) (gy 50 rfl rfl) rfl <| Aa 6 rfl (Jl Xkg rfl) (gy 50 rfl rfl) rfl <| Aa 7 rfl (We (.slice A79 n80 c81) 1 Zj rfl rfl (hg78 0 _ rfl)) (gy 50 rfl rfl) rfl ?_
    refine Ci 8 rfl (Hy (xs := ([0, 1] : List Int)) [.int .i64 0, .int .i64 1] bs_36_2 rfl (by kernel_rfl) rfl rfl rfl rfl fun gb84 h85 => ?_) (gy 50 rfl rfl)
    obtain ⟨r89, hv90, h⟩ := h
    refine Ci 9 rfl (D6 [.slice A79 n80 c81, .slice (some ⟨gb84, 0, none⟩) 2 2] rfl Tryd.func36 rfl rfl rfl fun w86 hL87 => ?_) (gy 50 rfl rfl)
    have hp88 := pmI hL87 .n (.c 0 rfl (.c 1 rfl (.c 2 rfl (.c 3 rfl (.c 4 rfl (.c 5 rfl (.c 6 rfl .n))))))) (by kernel_rfl)
    refine Calls.mono (Qi w86 (Fl ([] : List C9)) ((ix r33 0).nodes) ([0, 1] : List Int) A79 n80 c81 (some ⟨gb84, 0, none⟩) 2 2 (Rw.mono h82 (hL87.toSt hp88 (me 1 rfl))) (hL87.argO (dk := (Gf .i64)) hp88 [] rfl 0 rfl rfl h85 (me 2 rfl) (Cells.flat _)) (hL87.hFl hp88 (Bh [] rfl)) (hL87.into hp88 _) r89 hv90) ?_
    rintro _ w91 ⟨rfl, hM92⟩
    have hL93 := hL87.call hp88 hM92
    refine ⟨_, _, _, rfl, hL93, ?_⟩
    refine Aa 10 rfl (Bd (b := true) rfl rfl) gn rfl <| Aa 11 rfl (Ae rfl) gn rfl ?_
    by_cases hp94 : r89 = true
    ·have h := Aq hp94 h
     refine Bl 58 rfl (hp94) <| Aa 12 rfl (Ae rfl) (gy 58 rfl rfl) rfl <| Aa 13 rfl (Dp Xik rfl (Ow.weak hL48.env.size h55).hq) (gy 58 rfl rfl) rfl <| Aa 14 rfl (Bf rfl rfl rfl) (gy 58 rfl rfl) rfl <| Aa 15 rfl (Bd (b := true) rfl rfl) gn rfl <| Aa 16 rfl (Ae rfl) gn rfl ?_
     by_cases hp95 : (r50.length : Int) = 0
     ·have h := Aq hp95 h
      refine Bl 63 rfl ((eqi hp95)) <| Aa 17 rfl (Ae rfl) (gy 63 rfl rfl) rfl <| Aa 18 rfl (Bf rfl rfl rfl) (gy 63 rfl rfl) rfl <| Aa 19 rfl (Bd (b := true) rfl rfl) gn rfl <| Aa 20 rfl (Ae rfl) gn rfl ?_
      by_cases hp96 : r68.2 = 0
      ·have h := Aq hp96 h
       refine Bl 67 rfl ((eqi hp96)) <| Aa 21 rfl (Ae rfl) (gy 67 rfl rfl) rfl <| Aa 22 rfl (U8 rfl rfl) (gy 67 rfl rfl) rfl <| Aa 23 rfl (Bd (b := true) rfl rfl) gn rfl <| Aa 24 rfl (Af rfl) gn rfl <| Aj 25 rfl ?_
       refine Bq [.bool (seq r68.1 (⟨#[40, 32, 115, 32, 40, 32, 97, 32, 41, 32, 64, 32, 120, 32, 41, 32, 119, 104, 101, 110, 32, 64, 32, 120, 32, 61, 32, 34, 121, 34]⟩ : ByteArray))] rfl Tryd.func27 rfl (.tmp rfl (.nil)) fun wr hLr => ?_
       have hMr := hLr.pk0 (.c 3 rfl .n)
       show Fj w F  r (.returned (Cf [.bool (seq r68.1 (⟨#[40, 32, 115, 32, 40, 32, 97, 32, 41, 32, 64, 32, 120, 32, 41, 32, 119, 104, 101, 110, 32, 64, 32, 120, 32, 61, 32, 34, 121, 34]⟩ : ByteArray))])) wr
       rw [h]
       exact ⟨rfl, hMr⟩
      ·have h := Ap hp96 h
       refine Bl 67 rfl ((nei hp96)) <| Ad 21 rfl (ps 67 rfl rfl rfl) <| Ad 22 rfl (ps 67 rfl rfl rfl) <| Aa 23 rfl (Bd (b := false) rfl rfl) gn rfl <| Aa 24 rfl (Af rfl) gn rfl <| Aj 25 rfl ?_
       refine Bq [.bool false] rfl Tryd.func27 rfl (.tmp rfl (.nil)) fun wr hLr => ?_
       have hMr := hLr.pk0 (.c 3 rfl .n)
       show Fj w F  r (.returned (Cf [.bool false])) wr
       rw [h]
       exact ⟨rfl, hMr⟩
     ·have h := Ap hp95 h
      refine Bl 63 rfl ((nei hp95)) <| Ad 17 rfl (ps 63 rfl rfl rfl) <| Ad 18 rfl (ps 63 rfl rfl rfl) <| Aa 19 rfl (Bd (b := false) rfl rfl) gn rfl <| Aa 20 rfl (Ae rfl) gn rfl <| Ad 21 rfl (ps 67 rfl rfl rfl) <| Ad 22 rfl (ps 67 rfl rfl rfl) <| Aa 23 rfl (Bd (b := false) rfl rfl) gn rfl <| Aa 24 rfl (Af rfl) gn rfl <| Aj 25 rfl ?_
      refine Bq [.bool false] rfl Tryd.func27 rfl (.tmp rfl (.nil)) fun wr hLr => ?_
      have hMr := hLr.pk0 (.c 3 rfl .n)
      show Fj w F  r (.returned (Cf [.bool false])) wr
      rw [h]
      exact ⟨rfl, hMr⟩
    ·have h := Ap hp94 h
     refine Bl 58 rfl ((bf hp94)) <| Ad 12 rfl (ps 58 rfl rfl rfl) <| Ad 13 rfl (ps 58 rfl rfl rfl) <| Ad 14 rfl (ps 58 rfl rfl rfl) <| Aa 15 rfl (Bd (b := false) rfl rfl) gn rfl <| Aa 16 rfl (Ae rfl) gn rfl <| Ad 17 rfl (ps 63 rfl rfl rfl) <| Ad 18 rfl (ps 63 rfl rfl rfl) <| Aa 19 rfl (Bd (b := false) rfl rfl) gn rfl <| Aa 20 rfl (Ae rfl) gn rfl <| Ad 21 rfl (ps 67 rfl rfl rfl) <| Ad 22 rfl (ps 67 rfl rfl rfl) ?_
     refine Aa 23 rfl (Bd (b := false) rfl rfl) gn rfl <| Aa 24 rfl (Af rfl) gn rfl <| Aj 25 rfl ?_
     refine Bq [.bool false] rfl Tryd.func27 rfl (.tmp rfl (.nil)) fun wr hLr => ?_
     have hMr := hLr.pk0 (.c 3 rfl .n)
     show Fj w F  r (.returned (Cf [.bool false])) wr
     rw [h]
     exact ⟨rfl, hMr⟩
   ·have h := Ap hp73 h
    refine Bl 50 rfl ((nei hp73)) <| Ad 4 rfl (ps 50 rfl rfl rfl) <| Ad 5 rfl (ps 50 rfl rfl rfl) <| Ad 6 rfl (ps 50 rfl rfl rfl) <| Ad 7 rfl (ps 50 rfl rfl rfl) <| Ad 8 rfl (ps 50 rfl rfl rfl) <| Ad 9 rfl (ps 50 rfl rfl rfl) <| Aa 10 rfl (Bd (b := false) rfl rfl) gn rfl <| Aa 11 rfl (Ae rfl) gn rfl <| Ad 12 rfl (ps 58 rfl rfl rfl) <| Ad 13 rfl (ps 58 rfl rfl rfl) <| Ad 14 rfl (ps 58 rfl rfl rfl) ?_
    refine Aa 15 rfl (Bd (b := false) rfl rfl) gn rfl <| Aa 16 rfl (Ae rfl) gn rfl <| Ad 17 rfl (ps 63 rfl rfl rfl) <| Ad 18 rfl (ps 63 rfl rfl rfl) <| Aa 19 rfl (Bd (b := false) rfl rfl) gn rfl <| Aa 20 rfl (Ae rfl) gn rfl <| Ad 21 rfl (ps 67 rfl rfl rfl) <| Ad 22 rfl (ps 67 rfl rfl rfl) <| Aa 23 rfl (Bd (b := false) rfl rfl) gn rfl <| Aa 24 rfl (Af rfl) gn rfl <| Aj 25 rfl ?_
    refine Bq [.bool false] rfl Tryd.func27 rfl (.tmp rfl (.nil)) fun wr hLr => ?_
    have hMr := hLr.pk0 (.c 3 rfl .n)
    show Fj w F  r (.returned (Cf [.bool false])) wr
    rw [h]
    exact ⟨rfl, hMr⟩
 refine Ac rfl rfl <| Aa 0 rfl (Ae rfl) gn rfl <| Aa 1 rfl (Bf rfl rfl rfl) gn rfl <| Aa 2 rfl (Ae rfl) gn rfl ?_
 by_cases hp97 : r4.2.1 = 0
 ·have h := Aq hp97 h
  refine Bl 16 rfl ((Xbz hp97)) <| Aa 3 rfl (Ae rfl) (gy 16 rfl rfl) rfl <| Aa 4 rfl (Bf rfl rfl rfl) (gy 16 rfl rfl) rfl <| Aa 5 rfl (Bd (b := false) rfl rfl) gn rfl <| Aa 6 rfl (Ae rfl) gn rfl ?_
  by_cases hp98 : r4.2.2 = 0
  ·have h := Aq hp98 h
   refine Bl 20 rfl ((Xbz hp98)) <| Aa 7 rfl (Au O4 rfl) (gy 20 rfl rfl) rfl <| Aa 8 rfl (Am 0 Vs rfl rfl rfl) (gy 20 rfl rfl) rfl <| Aa 9 rfl (Dp Xb3 rfl (Ow.weak hL2.env.size h9).hq) (gy 20 rfl rfl) rfl <| Aa 10 rfl (Bf rfl rfl rfl) (gy 20 rfl rfl) rfl <| Aa 11 rfl (Bd (b := false) rfl rfl) gn rfl <| Aa 12 rfl (Ae rfl) gn rfl ?_
   by_cases hp99 : (r4.1.nodes.length : Int) = 2
   ·have h := Aq hp99 h
    refine Bl 26 rfl ((Xbz hp99)) <| Aa 13 rfl (Au Rk rfl) (gy 26 rfl rfl) rfl <| Aa 14 rfl (Am 0 Xba rfl rfl rfl) (gy 26 rfl rfl) rfl <| Aa 15 rfl (Dp Xet rfl (Ow.weak hL2.env.size h14).hq) (gy 26 rfl rfl) rfl <| Aa 16 rfl (Bf rfl rfl rfl) (gy 26 rfl rfl) rfl <| Aa 17 rfl (Bd (b := false) rfl rfl) gn rfl <| Aj 18 rfl ?_
    exact D7 [0, 1] (j1 ((r4.1.conds.length : Int) != 1) h) ⟨rfl, rfl, trivial⟩ (.cons_cons _ (.cons_cons _ (.cons_cons _ (.slnil)))) rfl
   ·have h := Ap hp99 h
    refine Bl 26 rfl ((Xc1 hp99)) <| Ad 13 rfl (ps 26 rfl rfl rfl) <| Ad 14 rfl (ps 26 rfl rfl rfl) <| Ad 15 rfl (ps 26 rfl rfl rfl) <| Ad 16 rfl (ps 26 rfl rfl rfl) <| Aa 17 rfl (Bd (b := true) rfl rfl) gn rfl <| Aj 18 rfl ?_
    exact D7 [0, 1] (j1 true h) ⟨rfl, rfl, trivial⟩ (.cons_cons _ (.cons_cons _ (.cons_cons _ (.slnil)))) rfl
  ·have h := Ap hp98 h
   refine Bl 20 rfl ((Xc1 hp98)) <| Ad 7 rfl (ps 20 rfl rfl rfl) <| Ad 8 rfl (ps 20 rfl rfl rfl) <| Ad 9 rfl (ps 20 rfl rfl rfl) <| Ad 10 rfl (ps 20 rfl rfl rfl) <| Aa 11 rfl (Bd (b := true) rfl rfl) gn rfl <| Aa 12 rfl (Ae rfl) gn rfl <| Ad 13 rfl (ps 26 rfl rfl rfl) <| Ad 14 rfl (ps 26 rfl rfl rfl) <| Ad 15 rfl (ps 26 rfl rfl rfl) <| Ad 16 rfl (ps 26 rfl rfl rfl) <| Aa 17 rfl (Bd (b := true) rfl rfl) gn rfl ?_
   refine Aj 18 rfl ?_
   exact D7 [0, 1] (j1 true h) ⟨rfl, rfl, trivial⟩ (.cons_cons _ (.cons_cons _ (.cons_cons _ (.slnil)))) rfl
 ·have h := Ap hp97 h
  refine Bl 16 rfl ((Xc1 hp97)) <| Ad 3 rfl (ps 16 rfl rfl rfl) <| Ad 4 rfl (ps 16 rfl rfl rfl) <| Aa 5 rfl (Bd (b := true) rfl rfl) gn rfl <| Aa 6 rfl (Ae rfl) gn rfl <| Ad 7 rfl (ps 20 rfl rfl rfl) <| Ad 8 rfl (ps 20 rfl rfl rfl) <| Ad 9 rfl (ps 20 rfl rfl rfl) <| Ad 10 rfl (ps 20 rfl rfl rfl) <| Aa 11 rfl (Bd (b := true) rfl rfl) gn rfl <| Aa 12 rfl (Ae rfl) gn rfl <| Ad 13 rfl (ps 26 rfl rfl rfl) ?_
  refine Ad 14 rfl (ps 26 rfl rfl rfl) <| Ad 15 rfl (ps 26 rfl rfl rfl) <| Ad 16 rfl (ps 26 rfl rfl rfl) <| Aa 17 rfl (Bd (b := true) rfl rfl) gn rfl <| Aj 18 rfl ?_
  exact D7 [0, 1] (j1 true h) ⟨rfl, rfl, trivial⟩ (.cons_cons _ (.cons_cons _ (.cons_cons _ (.slnil)))) rfl
noncomputable abbrev q9c26 := Code.snd (Code.snd (Code.snd (Code.snd (Code.snd (Code.snd (Code.snd (Code.snd (Dq Tryd.f9))))))))
noncomputable abbrev q9c28 := Code.snd (Code.fst (Code.snd (Code.snd (Code.snd (Code.snd (Code.snd (Code.snd (Code.snd (Dq Tryd.f9)))))))))
noncomputable abbrev Xe1 := Code.snd (Code.snd q9c26)
noncomputable abbrev Yj := Code.fst (Code.fst (Code.snd (Code.fst (Code.snd q9c26))))
noncomputable abbrev q9c48 := Code.snd (Code.snd Yj)
noncomputable abbrev q9c50 := Code.fst (Code.fst (Code.fst (Code.snd Yj)))
noncomputable abbrev q9c51 := Code.snd (Code.fst (Code.fst (Code.snd Yj)))
noncomputable abbrev q9c53 := Code.snd q9c51
noncomputable abbrev q9c54 := Code.fst (Code.fst q9c51)
noncomputable abbrev q9c55 := Code.snd (Code.fst q9c51)
noncomputable abbrev q9c63 := Code.snd (Code.fst (Code.snd q9c53))
noncomputable abbrev q9c65 := Code.snd (Code.fst (Code.fst (Code.snd q9c53)))
abbrev Fg (w : World) (F : Nat → Prop) (r : Bool) : Ending → World → Prop := fun e w' => e = .returned (.bool r) ∧ B.Loc w w' [] [St w []]
noncomputable abbrev Ei (w : World) (F : Nat → Prop) (r : Bool) : Cx := ⟨Tryd.prog, 9, Tryd.f9, 101, Fg w F  r, w⟩
theorem Vp (w : World) (F : Nat → Prop) (x1 : Ag) (x2 : List Ba) (x7 : ByteArray) (A3 : Option Addr) (n4 : Nat) (c5 : Nat) (h6 : Rw Eu w (St w []).av A3 n4 c5 x2) (hG : Tb Tryd.prog (St w [])) (hF : ∀ b, F b → b < w.heap.size ∧ ∀ o ∈ ([] : List (List Nat)), b ∉ o) (hL0 : B.Loc w w [] [Sm w.heap.size F w [], St w []]) (r : Bool) (h : Ku x1 x2 x7 r) : Calls Tryd.prog 9 #[.agg #[.string x1.name, .bool x1.lit, .string x1.field, .string x1.capture, .int .i64 x1.kids], .slice A3 n4 c5, .string x7] w (Fg w F  r) := by
 unfold Ku at h
 refine Cb (vs := [.agg #[.string x1.name, .bool x1.lit, .string x1.field, .string x1.capture, .int .i64 x1.kids], .slice A3 n4 c5, .string x7]) 101 Tryd.func9 rfl Tryd.ntmps9 rfl hL0 ?_
 show G (Ei w F r) _ _ _ _
 refine Ai rfl <| Ac rfl rfl ?_
 refine Ci 0 rfl (U0 [.string x1.name, .bool x1.lit, .string x1.field, .string x1.capture, .int .i64 x1.kids] rfl rfl rfl fun gb8 => ?_) gn
 refine Aa 1 rfl (Af rfl) gn rfl <| Aj 2 rfl <| Ai rfl <| Ai rfl <| Ac rfl rfl ?_
 obtain ⟨r13, hv14, h⟩ := h
 refine Ci 0 rfl (D6 [] rfl Tryd.func27 rfl rfl rfl fun w10 hL11 => ?_) gn
 have hp12 := pmI hL11 .n (.c 0 rfl .n) (by kernel_rfl)
 refine Calls.mono (Xj w10 (Fl ([] : List C9)) (hL11.tb hp12 hG (me 1 rfl)) (hL11.hFl hp12 (Bh [] rfl)) (hL11.into hp12 _) r13 hv14) ?_
 rintro _ w15 ⟨rfl, hM16⟩
 have hL17 := hL11.call hp12 hM16
 refine ⟨_, _, _, rfl, hL17, ?_⟩
 refine Aa 1 rfl (P9 rfl) gn rfl <| Aj 2 rfl ?_
 by_cases hp18 : r13 = true
 ·have h := Aq hp18 h
  refine Bj rfl _ rfl ((nf hp18)) <| Ce rfl <| Ai rfl <| Ai rfl <| Ac rfl rfl <| Aa 0 rfl (Ae rfl) gn rfl ?_
  obtain ⟨r22, hv23, h⟩ := h
  refine Ci 1 rfl (D6 [.slice A3 n4 c5] rfl Tryd.func11 rfl rfl rfl fun w19 hL20 => ?_) gn
  have hp21 := pmI hL20 .n (.c 0 rfl .n) (by kernel_rfl)
  refine Calls.mono (Xm w19 (Fl ([] : List C9)) x2 A3 n4 c5 (Rw.mono h6 (hL20.toSt hp21 (me 1 rfl))) (hL20.hFl hp21 (Bh [] rfl)) (hL20.into hp21 _) r22 hv23) ?_
  rintro _ w24 ⟨rfl, hM25⟩
  have hL26 := hL20.call hp21 hM25
  refine ⟨_, _, _, rfl, hL26, ?_⟩
  refine Aj 2 rfl ?_
  by_cases hp27 : r22 = true
  ·have h := Aq hp27 h
   refine Bv rfl _ rfl (hp27) <| Ai rfl <| Ac rfl rfl <| Aa 0 rfl (Af rfl) gn rfl <| Aj 1 rfl ?_
   refine Bq [.bool true] rfl Tryd.func9 rfl (.tmp rfl (.nil)) fun wr hLr => ?_
   have hMr := hLr.pk0 (.c 1 rfl .n)
   show Fg w F  r (.returned (Cf [.bool true])) wr
   rw [h]
   exact ⟨rfl, hMr⟩
  ·have h := Ap hp27 h
   refine Bj rfl _ rfl ((bf hp27)) <| Ce rfl <| Ai rfl <| Ac rfl rfl <| Aa 0 rfl (Au Xw rfl) gn rfl ?_
   refine Ci 1 rfl (Fh (vs := [.int .i64 0]) (cs' := [.string x1.name, .bool x1.lit, .string x1.field, .string x1.capture, .int .i64 0]) (M' := [.box gb8 45 [.string x1.name, .bool x1.lit, .string x1.field, .string x1.capture, .int .i64 0]]) 0 Zp rfl rfl rfl rfl rfl rfl rfl rfl rfl ?_) gn
   refine Aj 2 rfl <| Ai rfl <| Ac rfl rfl <| Aa 0 rfl (Au Su rfl) gn rfl ?_
   refine Ci 1 rfl (Fh (vs := [.string (⟨#[]⟩ : ByteArray)]) (cs' := [.string x1.name, .bool x1.lit, .string x1.field, .string (⟨#[]⟩ : ByteArray), .int .i64 0]) (M' := [.box gb8 45 [.string x1.name, .bool x1.lit, .string x1.field, .string (⟨#[]⟩ : ByteArray), .int .i64 0]]) 0 sz_9 rfl rfl rfl rfl rfl rfl rfl rfl rfl ?_) gn
   refine Aj 2 rfl <| Ai rfl <| Ac rfl rfl <| Aa 0 rfl (Nj [.string x1.name, .bool x1.lit, .string x1.field, .string (⟨#[]⟩ : ByteArray), .int .i64 0] 0 Xc0 rfl rfl rfl rfl) gn rfl ?_
   refine Ci 1 rfl (Hy (xs := ([(⟨x1.name, x1.lit, x1.field, (⟨#[]⟩ : ByteArray), 0⟩ : Ag)] : List Ag)) [.string x1.name, .bool x1.lit, .string x1.field, .string (⟨#[]⟩ : ByteArray), .int .i64 0] Xkr rfl (by kernel_rfl) rfl rfl rfl rfl fun gb29 h30 => ?_) gn
   refine Aa 2 rfl (Iz #[.slice (some ⟨gb29, 0, none⟩) 1 1, .slice none 0 0] bd_25 rfl (by kernel_rfl)) gn rfl ?_
   refine Ci 3 rfl (Gx [.slice none 0 0, .slice none 0 0] zr_25 rfl fun gb31 => ?_) gn
   refine Ci 4 rfl (Fh (vs := [.slice (some ⟨gb29, 0, none⟩) 1 1, .slice none 0 0]) (cs' := [.slice (some ⟨gb29, 0, none⟩) 1 1, .slice none 0 0]) (M' := [.box gb31 25 [.slice (some ⟨gb29, 0, none⟩) 1 1, .slice none 0 0], .own (.slice (some ⟨gb29, 0, none⟩) 1 1) 45 5 1 (([(⟨x1.name, x1.lit, x1.field, (⟨#[]⟩ : ByteArray), 0⟩ : Ag)] : List Ag).flatMap Ar), .box gb8 45 [.string x1.name, .bool x1.lit, .string x1.field, .string (⟨#[]⟩ : ByteArray), .int .i64 0]]) 0 Xj9 rfl rfl rfl rfl rfl rfl rfl rfl rfl ?_) gn
   refine Aj 5 rfl <| Ai rfl <| Ac rfl rfl <| Aa 0 rfl (Nj [.slice (some ⟨gb29, 0, none⟩) 1 1, .slice none 0 0] 0 Vt rfl rfl rfl rfl) gn rfl <| Aa 1 rfl (Ae rfl) gn rfl <| Aa 2 rfl (Ae rfl) gn rfl ?_
   obtain ⟨r36, hv37, h⟩ := h
   refine Ci 3 rfl (D6 [.agg #[.slice (some ⟨gb29, 0, none⟩) 1 1, .slice none 0 0], .slice A3 n4 c5, .string x7] rfl Tryd.func17 rfl rfl rfl fun w33 hL34 => ?_) gn
   have hp35 := pmI hL34 .n (.c 0 rfl (.c 1 rfl (.c 2 rfl .n))) (by kernel_rfl)
   refine Calls.mono (Vu w33 (Fl ([] : List C9)) (⟨([(⟨x1.name, x1.lit, x1.field, (⟨#[]⟩ : ByteArray), 0⟩ : Ag)] : List Ag), ([] : List Bi)⟩ : Aw) x2 x7 (some ⟨gb29, 0, none⟩) 1 1 none 0 0 A3 n4 c5 (hL34.argO (dk := Dn) hp35 [] rfl 1 rfl rfl h30 (me 0 rfl) (Cells.flat _)) Rw.nil (Rw.mono h6 (hL34.toSt hp35 (me 1 rfl))) (hL34.tb hp35 hG (me 1 rfl)) (hL34.hFl hp35 (Bh [] rfl)) (hL34.into hp35 _) r36 hv37) ?_
   rintro _ w45 ⟨A38, n39, c40, cs43, rfl, hM46, h41, hC44⟩
   obtain ⟨sb49, hL47, hv48⟩ := hL34.callB (Sl := ([] : List C9)) hp35 hM46 F (Bh [] rfl) trivial
   have hC44 : Cells Oa (Sm w.heap.size F w45 sb49).w (Sm w.heap.size F w45 sb49).av r36 cs43 := Cells.mono hv48 hC44
   refine ⟨_, _, _, rfl, hL47, ?_⟩
   refine Aa 4 rfl (Af rfl) gn rfl <| Aj 5 rfl <| Ai rfl <| Ai rfl ?_
   have j1 : ∀ (x69 : Bool) (h : F8 r36 x2 x1 x69 r) , G (Ei w F r) [.code q9c28, .code q9c26] [(1, .slice A3 n4 c5), (3, .pointer (some ⟨gb8, 0, none⟩)), (8, .slice A38 n39 c40), (32, .bool x69)] [.own (.slice A38 n39 c40) 38 1 n39 cs43, .box gb8 45 [.string x1.name, .bool x1.lit, .string x1.field, .string (⟨#[]⟩ : ByteArray), .int .i64 0]] [Sm w.heap.size F w45 sb49, Sm w.heap.size F w [], St w []] := by
    intro x69 h
    unfold F8 at h
    by_cases hp70 : x69 = true
    ·have h := Aq hp70 h
     refine Bv rfl _ rfl (hp70) <| Ai rfl <| Ac rfl rfl <| Aa 0 rfl (Ae rfl) gn rfl <| Aa 1 rfl (Dp Xik rfl (Ow.weak hL34.env.size h41).hq) gn rfl <| Aa 2 rfl (Bf rfl rfl rfl) gn rfl <| Aa 3 rfl (Af rfl) gn rfl <| Aj 4 rfl ?_
     refine Bq [.bool ((r36.length : Int) == 0)] rfl Tryd.func9 rfl (.tmp rfl (.nil)) fun wr hLr => ?_
     have hMr := hLr.pk0 (.c 2 rfl .n)
     show Fg w F  r (.returned (Cf [.bool ((r36.length : Int) == 0)])) wr
     rw [h]
     exact ⟨rfl, hMr⟩
    ·have h := Ap hp70 h
     refine Bj rfl _ rfl ((bf hp70)) <| Ce rfl <| Ai rfl <| Ac rfl rfl <| Aa 0 rfl (Af rfl) gn rfl <| Aj 1 rfl <| Ai rfl <| Ai rfl <| Ac rfl rfl <| Aa 0 rfl (Af rfl) gn rfl <| Aj 1 rfl <| Dt rfl ?_
     refine Nk rfl ?_
     have key2 : ∀ s, Bo (fun (s : Int × Int) o => En x2 x1 r36 s.1 s.2 o) s r → (fun (s : Int × Int) => ∀ (_ : Unit), G (Ei w F r) [.code Yj, .inLoop Yj, .inBlock 0, .code Xe1] [(1, .slice A3 n4 c5), (3, .pointer (some ⟨gb8, 0, none⟩)), (8, .slice A38 n39 c40), (9, .int .i64 s.1), (10, .int .i64 s.2)] [.own (.slice A38 n39 c40) 38 1 n39 cs43, .box gb8 45 [.string x1.name, .bool x1.lit, .string x1.field, .string (⟨#[]⟩ : ByteArray), .int .i64 0]] [Sm w.heap.size F w45 sb49, Sm w.heap.size F w [], St w []]) s := by
      intro s hs
      refine Bo.ind (mot := (fun (s : Int × Int) => ∀ (_ : Unit), G (Ei w F r) [.code Yj, .inLoop Yj, .inBlock 0, .code Xe1] [(1, .slice A3 n4 c5), (3, .pointer (some ⟨gb8, 0, none⟩)), (8, .slice A38 n39 c40), (9, .int .i64 s.1), (10, .int .i64 s.2)] [.own (.slice A38 n39 c40) 38 1 n39 cs43, .box gb8 45 [.string x1.name, .bool x1.lit, .string x1.field, .string (⟨#[]⟩ : ByteArray), .int .i64 0]] [Sm w.heap.size F w45 sb49, Sm w.heap.size F w [], St w []])) ?_ hs
      clear hs s
      intro s o1 h hO1
      obtain ⟨x158, x159⟩ := s
      show ∀ (_ : Unit), G (Ei w F r) [.code Yj, .inLoop Yj, .inBlock 0, .code Xe1] [(1, .slice A3 n4 c5), (3, .pointer (some ⟨gb8, 0, none⟩)), (8, .slice A38 n39 c40), (9, .int .i64 x158), (10, .int .i64 x159)] [.own (.slice A38 n39 c40) 38 1 n39 cs43, .box gb8 45 [.string x1.name, .bool x1.lit, .string x1.field, .string (⟨#[]⟩ : ByteArray), .int .i64 0]] [Sm w.heap.size F w45 sb49, Sm w.heap.size F w [], St w []]
      intro _
      have h : En x2 x1 r36 x158 x159 o1 := h
      unfold En at h
      refine Ai rfl <| Ai rfl <| Ac rfl rfl <| Aa 0 rfl (Ae rfl) gn rfl <| Aa 1 rfl (Ae rfl) gn rfl <| Aa 2 rfl (Dp Xb9 rfl h6.hq) gn rfl <| Aa 3 rfl (Bf rfl rfl rfl) gn rfl <| Aj 4 rfl ?_
      by_cases hp246 : x159 < (x2.length : Int)
      ·have h := Aq hp246 h
       refine Bv rfl _ rfl ((decide_eq_true hp246)) <| Ce rfl <| Ai rfl <| Dt rfl <| Ai rfl ?_
       have j3 : ∀ (x259 : Bool) (h : F9 x1 x158 r36 x159 x2 x259 o1) , G (Ei w F r) [.code q9c51, .inBlock 1, .code q9c48, .inLoop Yj, .inBlock 0, .code Xe1] [(1, .slice A3 n4 c5), (3, .pointer (some ⟨gb8, 0, none⟩)), (8, .slice A38 n39 c40), (9, .int .i64 x158), (10, .int .i64 x159), (11, .bool x259)] [.own (.slice A38 n39 c40) 38 1 n39 cs43, .box gb8 45 [.string x1.name, .bool x1.lit, .string x1.field, .string (⟨#[]⟩ : ByteArray), .int .i64 0]] [Sm w.heap.size F w45 sb49, Sm w.heap.size F w [], St w []] := by
        intro x259 h
        unfold F9 at h
        refine Ai rfl <| Ai rfl ?_
        have j4 : ∀ (x266 : Bool) (h : Ht x158 r36 x159 x259 x266 o1) , G (Ei w F r) [.code q9c55, .code q9c53, .inBlock 1, .code q9c48, .inLoop Yj, .inBlock 0, .code Xe1] [(1, .slice A3 n4 c5), (3, .pointer (some ⟨gb8, 0, none⟩)), (8, .slice A38 n39 c40), (9, .int .i64 x158), (10, .int .i64 x159), (11, .bool x259), (78, .bool x266)] [.own (.slice A38 n39 c40) 38 1 n39 cs43, .box gb8 45 [.string x1.name, .bool x1.lit, .string x1.field, .string (⟨#[]⟩ : ByteArray), .int .i64 0]] [Sm w.heap.size F w45 sb49, Sm w.heap.size F w [], St w []] := by
         intro x266 h
         unfold Ht at h
         have j5 : ∀ (x269 : Bool) (h : Ep x158 r36 x159 x269 o1) , G (Ei w F r) [.code q9c53, .inBlock 1, .code q9c48, .inLoop Yj, .inBlock 0, .code Xe1] [(1, .slice A3 n4 c5), (3, .pointer (some ⟨gb8, 0, none⟩)), (8, .slice A38 n39 c40), (9, .int .i64 x158), (10, .int .i64 x159), (11, .bool x269)] [.own (.slice A38 n39 c40) 38 1 n39 cs43, .box gb8 45 [.string x1.name, .bool x1.lit, .string x1.field, .string (⟨#[]⟩ : ByteArray), .int .i64 0]] [Sm w.heap.size F w45 sb49, Sm w.heap.size F w [], St w []] := by
          intro x269 h
          unfold Ep at h
          refine Ai rfl <| Ac rfl rfl <| Aa 0 rfl (Ae rfl) gn rfl <| Aj 1 rfl ?_
          by_cases hp270 : x269 = true
          ·have h := Aq hp270 h
           refine Bv rfl _ rfl (hp270) <| Ai rfl <| Ai rfl ?_
           have j6 : ∀ (x293 : Bool) (h : Hr x158 x159 x293 o1) , G (Ei w F r) [.code q9c65, .code q9c63, .inBlock 1, .code q9c48, .inLoop Yj, .inBlock 0, .code Xe1] [(1, .slice A3 n4 c5), (3, .pointer (some ⟨gb8, 0, none⟩)), (8, .slice A38 n39 c40), (9, .int .i64 x158), (10, .int .i64 x159), (94, .bool x293)] [.own (.slice A38 n39 c40) 38 1 n39 cs43, .box gb8 45 [.string x1.name, .bool x1.lit, .string x1.field, .string (⟨#[]⟩ : ByteArray), .int .i64 0]] [Sm w.heap.size F w45 sb49, Sm w.heap.size F w [], St w []] := by
            intro x293 h
            unfold Hr at h
            by_cases hp294 : x293 = true
            ·have h := Aq hp294 h
             refine Bv rfl _ rfl (hp294) <| Ai rfl <| Ac rfl rfl <| Aa 0 rfl (Af rfl) gn rfl <| Aj 1 rfl ?_
             have h := Out.inr hO1 h
             refine Bq [.bool false] rfl Tryd.func9 rfl (.tmp rfl (.nil)) fun wr hLr => ?_
             have hMr := hLr.pk0 (.c 2 rfl .n)
             show Fg w F  r (.returned (Cf [.bool false])) wr
             rw [h]
             exact ⟨rfl, hMr⟩
            ·have h := Ap hp294 h
             refine Bj rfl _ rfl ((bf hp294)) <| Ce rfl <| Ac rfl rfl <| Aa 0 rfl (Ae rfl) gn rfl <| Aa 1 rfl (Bf rfl rfl rfl) gn rfl <| Aa 2 rfl (Af rfl) gn rfl <| Aj 3 rfl <| D8 <| Ac rfl rfl <| Aa 0 rfl (Ae rfl) gn rfl <| Aa 1 rfl (Bf rfl rfl rfl) gn rfl <| Aa 2 rfl (Af rfl) gn rfl ?_
             refine Aj 3 rfl <| Ej ?_
             have ih := Out.inl hO1 h
             exact D7 [0, 1, 2] (ih ()) ⟨rfl, rfl, rfl, rfl, rfl, trivial⟩ (.cons_cons _ (.cons_cons _ (.slnil))) rfl
           refine Ac rfl rfl <| Aa 0 rfl (Ae rfl) gn rfl <| Aa 1 rfl (Ae rfl) gn rfl <| Aa 2 rfl (Dp Xik rfl (Ow.weak hL34.env.size h41).hq) gn rfl <| Aa 3 rfl (Bf rfl rfl rfl) gn rfl <| Aa 4 rfl (Ae rfl) gn rfl ?_
           by_cases hp295 : x158 ≥ (r36.length : Int)
           ·have h := Aq hp295 h
            refine Bl 84 rfl ((decide_eq_true hp295)) <| Ad 5 rfl (ps 84 rfl rfl rfl) <| Ad 6 rfl (ps 84 rfl rfl rfl) <| Ad 7 rfl (ps 84 rfl rfl rfl) <| Ad 8 rfl (ps 84 rfl rfl rfl) <| Ad 9 rfl (ps 84 rfl rfl rfl) <| Ad 10 rfl (ps 84 rfl rfl rfl) <| Ad 11 rfl (ps 84 rfl rfl rfl) <| Ad 12 rfl (ps 84 rfl rfl rfl) <| Ad 13 rfl (ps 84 rfl rfl rfl) <| Aa 14 rfl (Bd (b := true) rfl rfl) gn rfl <| Aj 15 rfl ?_
            exact D7 [0, 1, 2] (j6 true h) ⟨rfl, rfl, rfl, rfl, rfl, rfl, trivial⟩ (.cons_cons _ (.cons_cons _ (.slnil))) rfl
           ·have h := Ap hp295 h
            refine Bl 84 rfl ((decide_eq_false hp295)) <| Aa 5 rfl (Ae rfl) (gy 84 rfl rfl) rfl <| Aa 6 rfl (Ae rfl) (gy 84 rfl rfl) rfl ?_
            obtain ⟨hb296, h⟩ := h
            obtain ⟨ce297, hK298, ht299, hg300⟩ := Cells.get hC44 hb296
            obtain ⟨A301, n302, c303, rfl, h304⟩ := hK298
            refine Aa 7 rfl (G7 slE_31 rfl rfl (Ow.weak hL34.env.size h41) hb296) (gy 84 rfl rfl) rfl <| Aa 8 rfl (Jl Xkg rfl) (gy 84 rfl rfl) rfl <| Aa 9 rfl (We (.slice A301 n302 c303) 0 Zj rfl rfl (hg300 0 _ rfl)) (gy 84 rfl rfl) rfl <| Aa 10 rfl (Ae rfl) (gy 84 rfl rfl) rfl ?_
            refine Ci 11 rfl (Hy (xs := ([x159] : List Int)) [.int .i64 x159] V5 rfl (by kernel_rfl) rfl rfl rfl rfl fun gb306 h307 => ?_) (gy 84 rfl rfl)
            obtain ⟨r311, hv312, h⟩ := h
            refine Ci 12 rfl (D6 [.slice A301 n302 c303, .slice (some ⟨gb306, 0, none⟩) 1 1] rfl Tryd.func36 rfl rfl rfl fun w308 hL309 => ?_) (gy 84 rfl rfl)
            have hp310 := pmI hL309 .n (.c 0 rfl (.c 1 rfl (.c 2 rfl .n))) (by kernel_rfl)
            refine Calls.mono (Qi w308 (Fl ([] : List C9)) ((ix r36 x158).nodes) ([x159] : List Int) A301 n302 c303 (some ⟨gb306, 0, none⟩) 1 1 (Rw.mono h304 (hL309.toSt hp310 (me 0 rfl))) (hL309.argO (dk := (Gf .i64)) hp310 [] rfl 0 rfl rfl h307 (me 1 rfl) (Cells.flat _)) (hL309.hFl hp310 (Bh [] rfl)) (hL309.into hp310 _) r311 hv312) ?_
            rintro _ w313 ⟨rfl, hM314⟩
            have hL315 := hL309.call hp310 hM314
            refine ⟨_, _, _, rfl, hL315, ?_⟩
            refine Aa 13 rfl (P9 rfl) (gy 84 rfl rfl) rfl <| Aa 14 rfl (Bd (b := false) rfl rfl) gn rfl <| Aj 15 rfl ?_
            exact D7 [0, 1, 2] (j6 (!r311) h) ⟨rfl, rfl, rfl, rfl, rfl, rfl, trivial⟩ (.cons _ (.cons_cons _ (.cons_cons _ (.slnil)))) rfl
          ·have h := Ap hp270 h
           refine Bj rfl _ rfl ((bf hp270)) <| Ce rfl <| D8 <| Ac rfl rfl <| Aa 0 rfl (Ae rfl) gn rfl <| Aa 1 rfl (Bf rfl rfl rfl) gn rfl <| Aa 2 rfl (Af rfl) gn rfl <| Aj 3 rfl <| Ej ?_
           have ih := Out.inl hO1 h
           exact D7 [0, 1, 2] (ih ()) ⟨rfl, rfl, rfl, rfl, rfl, trivial⟩ (.cons_cons _ (.cons_cons _ (.slnil))) rfl
         by_cases hp267 : x266 = true
         ·have h := Aq hp267 h
          refine Bv rfl _ rfl (hp267) <| Ac rfl rfl <| Aa 0 rfl (Af rfl) gn rfl <| Aj 1 rfl ?_
          exact D7 [0, 1, 2] (j5 false h) ⟨rfl, rfl, rfl, rfl, rfl, rfl, trivial⟩ (.cons_cons _ (.cons_cons _ (.slnil))) rfl
         ·have h := Ap hp267 h
          refine Bj rfl _ rfl ((bf hp267)) <| Ce rfl ?_
          exact D7 [0, 1, 2] (j5 x259 h) ⟨rfl, rfl, rfl, rfl, rfl, rfl, trivial⟩ (.cons_cons _ (.cons_cons _ (.slnil))) rfl
        by_cases hp316 : x1.field = (⟨#[]⟩ : ByteArray)
        ·have h := Aq hp316 h
         have hns : Region.noSelect (Code.ops q9c54) = true := by kernel_rfl
         refine Fe [] 13 rfl rfl mix rfl (.c 0 rfl (.c 1 rfl (.c 2 rfl .n))) <| wfv 0 rfl (Au Qg rfl) gn hns rfl <| wfv 1 rfl (Am 1 Gj rfl rfl rfl) gn hns rfl <| wfv 2 rfl (Qh rfl rfl) gn hns rfl <| wfv 3 rfl (Ae rfl) gn hns rfl <| H9 69 rfl ((nf (Om hp316))) <| wfp 4 rfl (ps 69 rfl rfl rfl) hns rfl <| wfp 5 rfl (ps 69 rfl rfl rfl) hns rfl <| wfp 6 rfl (ps 69 rfl rfl rfl) hns rfl <| wfp 7 rfl (ps 69 rfl rfl rfl) hns rfl <| wfp 8 rfl (ps 69 rfl rfl rfl) hns rfl <| wfp 9 rfl (ps 69 rfl rfl rfl) hns rfl ?_
         refine wfp 10 rfl (ps 69 rfl rfl rfl) hns rfl <| wfp 11 rfl (ps 69 rfl rfl rfl) hns rfl <| wfv 12 rfl (Bd (b := false) rfl rfl) gn hns rfl <| Dv (by kernel_rfl) ?_
         exact D7 [0, 1, 2] (j4 false h) ⟨rfl, rfl, rfl, rfl, rfl, rfl, rfl, trivial⟩ (.cons_cons _ (.cons_cons _ (.slnil))) rfl
        ·have h := Ap hp316 h
         obtain ⟨hb317, h⟩ := h
         have hns : Region.noSelect (Code.ops q9c54) = true := by kernel_rfl
         refine Fe [] 13 rfl rfl mix rfl (.c 0 rfl (.c 1 rfl (.c 2 rfl .n))) <| wfv 0 rfl (Au Qg rfl) gn hns rfl <| wfv 1 rfl (Am 1 Gj rfl rfl rfl) gn hns rfl <| wfv 2 rfl (Qh rfl rfl) gn hns rfl <| wfv 3 rfl (Ae rfl) gn hns rfl <| H9 69 rfl ((nt (Ol hp316))) <| wfv 4 rfl (Ae rfl) (gy 69 rfl rfl) hns rfl <| wfv 5 rfl (Ae rfl) (gy 69 rfl rfl) hns rfl ?_
         have hr320 := Rw.readF (s := St w []) (hl := Lr) (h1 := Lp) h6 hb317
         refine wfv 6 rfl (Gh (s := St w []) Zb rfl rfl h6 hb317) (gy 69 rfl rfl) hns rfl <| wfv 7 rfl (Jl Xec rfl) (gy 69 rfl rfl) hns rfl <| wfv 8 rfl (Ip (kk := (x159 : Int).toNat * 7) (j := 2) (St w []) Gj rfl hr320 rfl (me 2 rfl)) (gy 69 rfl rfl) hns rfl <| wfv 9 rfl (Au Qg rfl) (gy 69 rfl rfl) hns rfl <| wfv 10 rfl (Am 1 Gj rfl rfl rfl) (gy 69 rfl rfl) hns rfl <| wfv 11 rfl (Qh rfl rfl) (gy 69 rfl rfl) hns rfl <| wfv 12 rfl (Bd (b := true) rfl rfl) gn hns rfl <| Dv (by kernel_rfl) ?_
         exact D7 [0, 1, 2] (j4 (!(seq ((ix x2 x159).field) x1.field)) h) ⟨rfl, rfl, rfl, rfl, rfl, rfl, rfl, trivial⟩ (.cons_cons _ (.cons_cons _ (.slnil))) rfl
       by_cases hp321 : x1.name = (⟨#[]⟩ : ByteArray)
       ·have h := Aq hp321 h
        have hns : Region.noSelect (Code.ops q9c50) = true := by kernel_rfl
        refine Fe [] 25 rfl rfl mix rfl (.c 0 rfl (.c 1 rfl (.c 2 rfl .n))) <| wfv 0 rfl (Au Oo rfl) gn hns rfl <| wfv 1 rfl (Am 1 Gj rfl rfl rfl) gn hns rfl <| wfv 2 rfl (U8 rfl rfl) gn hns rfl <| wfv 3 rfl (Ae rfl) gn hns rfl <| H9 45 rfl ((Om hp321)) <| wfp 4 rfl (ps 45 rfl rfl rfl) hns rfl <| wfp 5 rfl (ps 45 rfl rfl rfl) hns rfl <| wfp 6 rfl (ps 45 rfl rfl rfl) hns rfl <| wfp 7 rfl (ps 45 rfl rfl rfl) hns rfl <| wfp 8 rfl (ps 45 rfl rfl rfl) hns rfl <| wfp 9 rfl (ps 45 rfl rfl rfl) hns rfl ?_
        refine wfp 10 rfl (ps 45 rfl rfl rfl) hns rfl <| wfp 11 rfl (ps 45 rfl rfl rfl) hns rfl <| wfp 12 rfl (ps 45 rfl rfl rfl) hns rfl <| wfp 13 rfl (pu 54 rfl rfl) hns rfl <| wfp 14 rfl (pu 54 rfl rfl) hns rfl <| wfp 15 rfl (pu 54 rfl rfl) hns rfl <| wfp 16 rfl (pu 54 rfl rfl) hns rfl <| wfp 17 rfl (pu 54 rfl rfl) hns rfl <| wfp 18 rfl (pu 54 rfl rfl) hns rfl <| wfp 19 rfl (pu 54 rfl rfl) hns rfl <| wfp 20 rfl (pu 54 rfl rfl) hns rfl <| wfp 21 rfl (pu 54 rfl rfl) hns rfl ?_
        refine wfp 22 rfl (ps 45 rfl rfl rfl) hns rfl <| wfv 23 rfl (Bd (b := true) rfl rfl) gn hns rfl <| wfv 24 rfl (Af rfl) gn hns rfl <| Dv (by kernel_rfl) ?_
        exact D7 [0, 1, 2] (j3 true h) ⟨rfl, rfl, rfl, rfl, rfl, rfl, trivial⟩ (.cons_cons _ (.cons_cons _ (.slnil))) rfl
       ·have h := Ap hp321 h
        obtain ⟨hb322, h⟩ := h
        by_cases hp324 : (ix x2 x159).name = x1.name
        ·have h := Aq hp324 h
         have hns : Region.noSelect (Code.ops q9c50) = true := by kernel_rfl
         refine Fe [] 25 rfl rfl mix rfl (.c 0 rfl (.c 1 rfl (.c 2 rfl .n))) <| wfv 0 rfl (Au Oo rfl) gn hns rfl <| wfv 1 rfl (Am 1 Gj rfl rfl rfl) gn hns rfl <| wfv 2 rfl (U8 rfl rfl) gn hns rfl <| wfv 3 rfl (Ae rfl) gn hns rfl <| H9 45 rfl ((Ol hp321)) <| wfv 4 rfl (Ae rfl) (gy 45 rfl rfl) hns rfl <| wfv 5 rfl (Ae rfl) (gy 45 rfl rfl) hns rfl ?_
         have hr328 := Rw.readF (s := St w []) (hl := Lr) (h1 := Lp) h6 hb322
         refine wfv 6 rfl (Gh (s := St w []) Zb rfl rfl h6 hb322) (gy 45 rfl rfl) hns rfl <| wfv 7 rfl (Jl Xea rfl) (gy 45 rfl rfl) hns rfl <| wfv 8 rfl (Ip (kk := (x159 : Int).toNat * 7) (j := 0) (St w []) Gj rfl hr328 rfl (me 2 rfl)) (gy 45 rfl rfl) hns rfl <| wfv 9 rfl (Au Oo rfl) (gy 45 rfl rfl) hns rfl <| wfv 10 rfl (Am 1 Gj rfl rfl rfl) (gy 45 rfl rfl) hns rfl <| wfv 11 rfl (U8 rfl rfl) (gy 45 rfl rfl) hns rfl <| wfv 12 rfl (Ae rfl) (gy 45 rfl rfl) hns rfl <| H9 54 rfl ((Om hp324)) <| wfv 13 rfl (Ae rfl) (gy 54 rfl rfl) hns rfl <| wfv 14 rfl (Ae rfl) (gy 54 rfl rfl) hns rfl ?_
         have hr329 := Rw.readF (s := St w []) (hl := Lr) (h1 := Lp) h6 hb322
         refine wfv 15 rfl (Gh (s := St w []) Zb rfl rfl h6 hb322) (gy 54 rfl rfl) hns rfl <| wfv 16 rfl (Jl Xh7 rfl) (gy 54 rfl rfl) hns rfl <| wfv 17 rfl (Ip (kk := (x159 : Int).toNat * 7) (j := 1) (St w []) Xa4 rfl hr329 rfl (me 2 rfl)) (gy 54 rfl rfl) hns rfl <| wfv 18 rfl (Au X4 rfl) (gy 54 rfl rfl) hns rfl <| wfv 19 rfl (Am 1 Xa4 rfl rfl rfl) (gy 54 rfl rfl) hns rfl <| wfv 20 rfl (P9 rfl) (gy 54 rfl rfl) hns rfl <| wfv 21 rfl (v_eqB un_4 rfl rfl) (gy 54 rfl rfl) hns rfl <| wfv 22 rfl (Bd (b := true) rfl rfl) (gy 45 rfl rfl) hns rfl <| wfv 23 rfl (Bd (b := false) rfl rfl) gn hns rfl <| wfv 24 rfl (Af rfl) gn hns rfl <| Dv (by kernel_rfl) ?_
         exact D7 [0, 1, 2] (j3 (((ix x2 x159).named) == (!x1.lit)) h) ⟨rfl, rfl, rfl, rfl, rfl, rfl, trivial⟩ (.cons_cons _ (.cons_cons _ (.slnil))) rfl
        ·have h := Ap hp324 h
         have hns : Region.noSelect (Code.ops q9c50) = true := by kernel_rfl
         refine Fe [] 25 rfl rfl mix rfl (.c 0 rfl (.c 1 rfl (.c 2 rfl .n))) <| wfv 0 rfl (Au Oo rfl) gn hns rfl <| wfv 1 rfl (Am 1 Gj rfl rfl rfl) gn hns rfl <| wfv 2 rfl (U8 rfl rfl) gn hns rfl <| wfv 3 rfl (Ae rfl) gn hns rfl <| H9 45 rfl ((Ol hp321)) <| wfv 4 rfl (Ae rfl) (gy 45 rfl rfl) hns rfl <| wfv 5 rfl (Ae rfl) (gy 45 rfl rfl) hns rfl ?_
         have hr331 := Rw.readF (s := St w []) (hl := Lr) (h1 := Lp) h6 hb322
         refine wfv 6 rfl (Gh (s := St w []) Zb rfl rfl h6 hb322) (gy 45 rfl rfl) hns rfl <| wfv 7 rfl (Jl Xea rfl) (gy 45 rfl rfl) hns rfl <| wfv 8 rfl (Ip (kk := (x159 : Int).toNat * 7) (j := 0) (St w []) Gj rfl hr331 rfl (me 2 rfl)) (gy 45 rfl rfl) hns rfl <| wfv 9 rfl (Au Oo rfl) (gy 45 rfl rfl) hns rfl <| wfv 10 rfl (Am 1 Gj rfl rfl rfl) (gy 45 rfl rfl) hns rfl <| wfv 11 rfl (U8 rfl rfl) (gy 45 rfl rfl) hns rfl <| wfv 12 rfl (Ae rfl) (gy 45 rfl rfl) hns rfl <| H9 54 rfl ((Ol hp324)) <| wfp 13 rfl (ps 54 rfl rfl rfl) hns rfl <| wfp 14 rfl (ps 54 rfl rfl rfl) hns rfl <| wfp 15 rfl (ps 54 rfl rfl rfl) hns rfl <| wfp 16 rfl (ps 54 rfl rfl rfl) hns rfl ?_
         refine wfp 17 rfl (ps 54 rfl rfl rfl) hns rfl <| wfp 18 rfl (ps 54 rfl rfl rfl) hns rfl <| wfp 19 rfl (ps 54 rfl rfl rfl) hns rfl <| wfp 20 rfl (ps 54 rfl rfl rfl) hns rfl <| wfp 21 rfl (ps 54 rfl rfl rfl) hns rfl <| wfv 22 rfl (Bd (b := false) rfl rfl) (gy 45 rfl rfl) hns rfl <| wfv 23 rfl (Bd (b := false) rfl rfl) gn hns rfl <| wfv 24 rfl (Af rfl) gn hns rfl <| Dv (by kernel_rfl) ?_
         exact D7 [0, 1, 2] (j3 false h) ⟨rfl, rfl, rfl, rfl, rfl, rfl, trivial⟩ (.cons_cons _ (.cons_cons _ (.slnil))) rfl
      ·have h := Ap hp246 h
       refine Bj rfl _ rfl ((decide_eq_false hp246)) <| Jk [.code Xe1] rfl rfl <| Ai rfl <| Ac rfl rfl <| Aa 0 rfl (Ae rfl) gn rfl <| Aa 1 rfl (Ae rfl) gn rfl <| Aa 2 rfl (Dp Xik rfl (Ow.weak hL34.env.size h41).hq) gn rfl <| Aa 3 rfl (Bf rfl rfl rfl) gn rfl <| Aa 4 rfl (Af rfl) gn rfl <| Aj 5 rfl ?_
       have h := Out.inr hO1 h
       refine Bq [.bool (x158 == (r36.length : Int))] rfl Tryd.func9 rfl (.tmp rfl (.nil)) fun wr hLr => ?_
       have hMr := hLr.pk0 (.c 2 rfl .n)
       show Fg w F  r (.returned (Cf [.bool (x158 == (r36.length : Int))])) wr
       rw [h]
       exact ⟨rfl, hMr⟩
     exact D7 [0, 1, 2] (key2 _ h ()) ⟨rfl, rfl, rfl, rfl, rfl, trivial⟩ (.cons_cons _ (.cons_cons _ (.slnil))) rfl
   refine Ac rfl rfl <| Aa 0 rfl (Nj [.slice (some ⟨gb29, 0, none⟩) 1 1, .slice none 0 0] 1 Vt rfl rfl rfl rfl) gn rfl ?_
   obtain ⟨r335, hv336, h⟩ := h
   refine Ci 1 rfl (D6 [.agg #[.slice (some ⟨gb29, 0, none⟩) 1 1, .slice none 0 0]] rfl Tryd.func24 rfl rfl rfl fun w332 hL333 => ?_) gn
   have hp334 := pmI hL333 .n (.c 0 rfl (.c 1 rfl (.c 2 rfl (.c 3 rfl .n)))) (by kernel_rfl)
   refine Calls.mono (Tn w332 (Fl ([] : List C9)) (⟨([(⟨x1.name, x1.lit, x1.field, (⟨#[]⟩ : ByteArray), 0⟩ : Ag)] : List Ag), ([] : List Bi)⟩ : Aw) (some ⟨gb29, 0, none⟩) 1 1 none 0 0 (hL333.argO (dk := Dn) hp334 [] rfl 2 rfl rfl h30 (me 1 rfl) (Cells.flat _)) Rw.nil (hL333.tb hp334 hG (me 2 rfl)) (hL333.hFl hp334 (Bh [] rfl)) (hL333.into hp334 _) r335 hv336) ?_
   rintro _ w337 ⟨rfl, hM338⟩
   have hL339 := hL333.call hp334 hM338
   refine ⟨_, _, _, rfl, hL339, ?_⟩
   refine Aa 2 rfl (P9 rfl) gn rfl <| Aa 3 rfl (Ae rfl) gn rfl ?_
   by_cases hp340 : r335 = true
   ·have h := Aq hp340 h
    refine Bl 28 rfl ((nf hp340)) <| Aa 4 rfl (Ae rfl) (gy 28 rfl rfl) rfl ?_
    obtain ⟨r344, hv345, h⟩ := h
    refine Ci 5 rfl (D6 [.slice A3 n4 c5] rfl Tryd.func30 rfl rfl rfl fun w341 hL342 => ?_) (gy 28 rfl rfl)
    have hp343 := pmI hL342 .n (.c 0 rfl (.c 1 rfl (.c 2 rfl (.c 3 rfl .n)))) (by kernel_rfl)
    refine Calls.mono (Yq w341 (Fl ([] : List C9)) x2 A3 n4 c5 (Rw.mono h6 (hL342.toSt hp343 (me 2 rfl))) (hL342.hFl hp343 (Bh [] rfl)) (hL342.into hp343 _) r344 hv345) ?_
    rintro _ w346 ⟨rfl, hM347⟩
    have hL348 := hL342.call hp343 hM347
    refine ⟨_, _, _, rfl, hL348, ?_⟩
    refine Aa 6 rfl (Bf rfl rfl rfl) (gy 28 rfl rfl) rfl <| Aa 7 rfl (Bd (b := false) rfl rfl) gn rfl <| Aj 8 rfl ?_
    exact D7 [0, 1, 2] (j1 (decide (r344 < 0)) h) ⟨rfl, rfl, rfl, rfl, trivial⟩ (.cons_cons _ (.cons _ (.cons _ (.cons_cons _ (.slnil))))) rfl
   ·have h := Ap hp340 h
    refine Bl 28 rfl ((nt (bf hp340))) <| Ad 4 rfl (ps 28 rfl rfl rfl) <| Ad 5 rfl (ps 28 rfl rfl rfl) <| Ad 6 rfl (ps 28 rfl rfl rfl) <| Aa 7 rfl (Bd (b := true) rfl rfl) gn rfl <| Aj 8 rfl ?_
    exact D7 [0, 1, 2] (j1 true h) ⟨rfl, rfl, rfl, rfl, trivial⟩ (.cons_cons _ (.cons _ (.cons _ (.cons_cons _ (.slnil))))) rfl
 ·have h := Ap hp18 h
  refine Bv rfl _ rfl ((nt (bf hp18))) <| Ai rfl <| Ac rfl rfl <| Aa 0 rfl (Af rfl) gn rfl <| Aj 1 rfl ?_
  refine Bq [.bool false] rfl Tryd.func9 rfl (.tmp rfl (.nil)) fun wr hLr => ?_
  have hMr := hLr.pk0 (.c 1 rfl .n)
  show Fg w F  r (.returned (Cf [.bool false])) wr
  rw [h]
  exact ⟨rfl, hMr⟩
end Go.Proofs.YtjookebbmfiidaaDoor.K
