/- What the machine's calls do, function by function, printed by my own tool. Condition of each: its relation holds of the answer, and what is handed in lies in memory as told. -/
import Derived.Test.YtjookebbmfiidaaDoorK6
set_option linter.unusedVariables false
set_option maxRecDepth 100000
set_option maxHeartbeats 4000000
namespace Go.Proofs.YtjookebbmfiidaaDoor.K
open Go.Proofs.YtjookebbmfiidaaDoor.B Go.Proofs.YtjookebbmfiidaaDoor.R Go.RowKit
noncomputable abbrev q61c4 := Code.snd (Code.snd (Dp Tryd.f61))
noncomputable abbrev Xhn := Code.snd (Code.snd (Code.snd (Code.snd q61c4)))
noncomputable abbrev Xi4 := Code.snd Xhn
noncomputable abbrev Xjp := Code.fst (Code.fst Xhn)
noncomputable abbrev q61c37 := Code.snd (Code.fst Xhn)
noncomputable abbrev q61c40 := Code.fst (Code.fst q61c37)
abbrev Hw (w : World) (F : Nat → Prop) (g2 : Nat) (Tb3 : Nat) (A8 : Option Addr) (n9 : Nat) (c10 : Nat) (z12 : Nat) (A14 : Option Addr) (n15 : Nat) (c16 : Nat) (z18 : Nat) (r : Ah) : Ending → World → Prop := fun e w' => ∃ A1 : Option Addr, ∃ n1 : Nat, ∃ c1 : Nat, ∃ A2 : Option Addr, ∃ n2 : Nat, ∃ c2 : Nat, ∃ A0 : Option Addr, ∃ n0 : Nat, ∃ c0 : Nat, e = .returned (.tuple #[]) ∧ B.Loc w w' [.box g2 Tb3 [.slice A0 n0 c0, .int .i64 r.at_, .int .i64 r.end_, .slice A1 n1 c1, .slice A2 n2 c2, .int .i64 r.code, .int .i64 r.place], .own (.slice A1 n1 c1) 45 5 n1 (r.q.nodes.flatMap Am), .own (.slice A2 n2 c2) 47 4 n2 (r.q.conds.flatMap Bf)] [St w [[g2], (Value.slice A8 n9 c10).ownBlock.toList, (Value.slice A14 n15 c16).ownBlock.toList]] ∧ Ow z12 A1 n1 c1 r.q.nodes ∧ Ow z18 A2 n2 c2 r.q.conds ∧ Rw Cc w' (Nw w w' F [.box g2 Tb3 [.slice A0 n0 c0, .int .i64 r.at_, .int .i64 r.end_, .slice A1 n1 c1, .slice A2 n2 c2, .int .i64 r.code, .int .i64 r.place], .own (.slice A1 n1 c1) 45 5 n1 (r.q.nodes.flatMap Am), .own (.slice A2 n2 c2) 47 4 n2 (r.q.conds.flatMap Bf)]) A0 n0 c0 r.words
noncomputable abbrev Ov (w : World) (F : Nat → Prop) (g2 : Nat) (Tb3 : Nat) (A8 : Option Addr) (n9 : Nat) (c10 : Nat) (z12 : Nat) (A14 : Option Addr) (n15 : Nat) (c16 : Nat) (z18 : Nat) (r : Ah) : Cx := ⟨Tryd.prog, 61, Tryd.f61, 125, Hw w F g2 Tb3 A8 n9 c10 z12 A14 n15 c16 z18 r, w⟩
theorem Yp (w : World) (F : Nat → Prop) (x1 : Ah) (g2 : Nat) (Tb3 : Nat) (A4 : Option Addr) (n5 : Nat) (c6 : Nat) (z12 : Nat) (A8 : Option Addr) (n9 : Nat) (c10 : Nat) (z18 : Nat) (A14 : Option Addr) (n15 : Nat) (c16 : Nat) (h7 : Rw Cc w F A4 n5 c6 x1.words) (hz13 : z12 ≤ w.heap.size) (h11 : Ow z12 A8 n9 c10 x1.q.nodes) (hz19 : z18 ≤ w.heap.size) (h17 : Ow z18 A14 n15 c16 x1.q.conds) (hF : ∀ b, F b → b < w.heap.size ∧ ∀ o ∈ ([[g2], (Value.slice A8 n9 c10).ownBlock.toList, (Value.slice A14 n15 c16).ownBlock.toList] : List (List Nat)), b ∉ o) (hL0 : B.Loc w w [.box g2 Tb3 [.slice A4 n5 c6, .int .i64 x1.at_, .int .i64 x1.end_, .slice A8 n9 c10, .slice A14 n15 c16, .int .i64 x1.code, .int .i64 x1.place], .own (.slice A8 n9 c10) 45 5 n9 (x1.q.nodes.flatMap Am), .own (.slice A14 n15 c16) 47 4 n15 (x1.q.conds.flatMap Bf)] [Sm w.heap.size F w [[g2], (Value.slice A8 n9 c10).ownBlock.toList, (Value.slice A14 n15 c16).ownBlock.toList], St w [[g2], (Value.slice A8 n9 c10).ownBlock.toList, (Value.slice A14 n15 c16).ownBlock.toList]]) (r : Ah) (h : Hy x1 r) : Calls Tryd.prog 61 #[.pointer (some ⟨g2, 0, none⟩)] w (Hw w F g2 Tb3 A8 n9 c10 z12 A14 n15 c16 z18 r) := by
 unfold Hy at h
 have h7 := Rw.into (bs := [[g2], (Value.slice A8 n9 c10).ownBlock.toList, (Value.slice A14 n15 c16).ownBlock.toList]) hF h7
 refine Cb (vs := [.pointer (some ⟨g2, 0, none⟩)]) 125 Tryd.func61 rfl Tryd.ntmps61 rfl hL0 ?_
 show G (Ov w F g2 Tb3 A8 n9 c10 z12 A14 n15 c16 z18 r) _ _ _ _
 refine Ai rfl <| Ad rfl rfl ?_
 refine Cj 0 rfl (Gp [.bool false, .string (⟨#[]⟩ : ByteArray), .string (⟨#[]⟩ : ByteArray), .string (⟨#[]⟩ : ByteArray)] zr_47 rfl fun gb20 => ?_) gn
 refine Ak 1 rfl <| Ai rfl <| Dt rfl <| Ai rfl <| Ad rfl rfl <| Aa 0 rfl (Ae rfl) gn rfl <| Aa 1 rfl (Ae rfl) gn rfl <| Aa 2 rfl (Bc rfl) gn rfl <| Aa 3 rfl (Aw Ec rfl) gn rfl <| Aa 4 rfl (Ap 1 Ho rfl rfl rfl) gn rfl ?_
 obtain ⟨r25, hv26, h⟩ := h
 refine Cj 5 rfl (D6 [.pointer (some ⟨g2, 0, none⟩), .int .i64 x1.at_, .int .i64 1, .string (⟨#[117, 110, 108, 101, 115, 115]⟩ : ByteArray)] rfl Tryd.func91 rfl rfl rfl fun w22 hL23 => ?_) gn
 have hp24 := pmI hL23 (.c 1 rfl (.c 2 rfl (.c 3 rfl .n))) (.c 0 rfl .n) (by kernel_rfl)
 refine Calls.mono (G7 w22 (Fl ([Sm w.heap.size F w [[g2], (Value.slice A8 n9 c10).ownBlock.toList, (Value.slice A14 n15 c16).ownBlock.toList]] : List C9)) x1 x1.at_ 1 (⟨#[117, 110, 108, 101, 115, 115]⟩ : ByteArray) g2 Tb3 A4 n5 c6 z12 A8 n9 c10 z18 A14 n15 c16 (Rw.mono h7 (hL23.toFl (me 0 rfl) (me 0 rfl))) (Nat.le_trans hz13 hL23.env.size) h11 (Nat.le_trans hz19 hL23.env.size) h17 (hL23.hFl hp24 (Bg [0] rfl)) (hL23.into hp24 _) r25 hv26) ?_
 rintro _ w41 ⟨A31, n32, c33, A36, n37, c38, A27, n28, c29, rfl, hM42, h34, h39, h30⟩
 obtain ⟨sb45, hL43, hv44⟩ := hL23.callB (Sl := ([Sm w.heap.size F w [[g2], (Value.slice A8 n9 c10).ownBlock.toList, (Value.slice A14 n15 c16).ownBlock.toList]] : List C9)) hp24 hM42 F (Bg [0] rfl) ⟨Sm.ok, trivial⟩
 have h30 : At Cc (Sm w.heap.size F w41 sb45) A27 n28 c29 r25.2.words := Rw.mono h30 hv44
 refine ⟨_, _, _, rfl, hL43, ?_⟩
 refine Aa 6 rfl (Af rfl) gn rfl <| Ak 7 rfl ?_
 have j1 : ∀ (x97 : List Aj) (x104 : Int) (x105 : Int) (x106 : List Ag) (x111 : List Bi) (x116 : Int) (x117 : Int) (x118 : Bool) (h : Hf x97 x104 x105 x106 x111 x116 x117 x118 r) (A98 : Option Addr) (n99 : Nat) (c100 : Nat) (sw101 : World) (sb102 : List (List Nat)) (h103 : At Cc (Sm w.heap.size F sw101 sb102) A98 n99 c100 x97) (A107 : Option Addr) (n108 : Nat) (c109 : Nat) (h110 : Ow z12 A107 n108 c109 x106) (A112 : Option Addr) (n113 : Nat) (c114 : Nat) (h115 : Ow z18 A112 n113 c114 x111), G (Ov w F g2 Tb3 A8 n9 c10 z12 A14 n15 c16 z18 r) [.inBlock 0, .code q61c4] [(0, .pointer (some ⟨g2, 0, none⟩)), (2, .pointer (some ⟨gb20, 0, none⟩))] [.own (.slice A107 n108 c109) 45 5 n108 (x106.flatMap Am), .own (.slice A112 n113 c114) 47 4 n113 (x111.flatMap Bf), .box g2 Tb3 [.slice A98 n99 c100, .int .i64 x104, .int .i64 x105, .slice A107 n108 c109, .slice A112 n113 c114, .int .i64 x116, .int .i64 x117], .box gb20 47 [.bool x118, .string (⟨#[]⟩ : ByteArray), .string (⟨#[]⟩ : ByteArray), .string (⟨#[]⟩ : ByteArray)]] [Sm w.heap.size F sw101 sb102, Sm w.heap.size F w41 sb45, Sm w.heap.size F w [[g2], (Value.slice A8 n9 c10).ownBlock.toList, (Value.slice A14 n15 c16).ownBlock.toList], St w [[g2], (Value.slice A8 n9 c10).ownBlock.toList, (Value.slice A14 n15 c16).ownBlock.toList]] := by
  intro x97 x104 x105 x106 x111 x116 x117 x118 h A98 n99 c100 sw101 sb102 h103 A107 n108 c109 h110 A112 n113 c114 h115
  unfold Hf at h
  refine D9 <| Ai rfl <| Ai rfl <| Ad rfl rfl <| Aa 0 rfl (Ae rfl) gn rfl <| Aa 1 rfl (Bc rfl) gn rfl <| Aa 2 rfl (Aw O6 rfl) gn rfl <| Aa 3 rfl (Aw Lp rfl) gn rfl <| Aa 4 rfl (Ap 2 Vy rfl rfl rfl) gn rfl <| Aa 5 rfl (Dy Xa6 rfl h115.hq) gn rfl <| Aa 6 rfl (Bh rfl rfl rfl) gn rfl <| Ak 7 rfl ?_
  by_cases hp119 : (x111.length : Int) = 16
  ·have h := Aq hp119 h
   refine Bz rfl _ rfl ((eqi hp119)) <| Ai rfl <| Ad rfl rfl <| Aa 0 rfl (Ae rfl) gn rfl <| Aa 1 rfl (Ae rfl) gn rfl <| Aa 2 rfl (Bc rfl) gn rfl <| Aa 3 rfl (Aw Ec rfl) gn rfl <| Aa 4 rfl (Ap 2 Ho rfl rfl rfl) gn rfl ?_
   obtain ⟨r123, hv124, h⟩ := h
   refine Cj 5 rfl (D6 [.pointer (some ⟨g2, 0, none⟩), .int .i64 202, .int .i64 x104] rfl Tryd.func88 rfl rfl rfl fun w120 hL121 => ?_) gn
   have hp122 := pmI hL121 (.c 2 rfl (.c 0 rfl (.c 1 rfl .n))) (.c 3 rfl .n) (by kernel_rfl)
   refine Calls.mono (Fe w120 (Fl ([Sm w.heap.size F sw101 sb102] : List C9)) (⟨x97, x104, x105, (⟨x106, x111⟩ : Au), x116, x117⟩ : Ah) 202 x104 g2 Tb3 A98 n99 c100 z12 A107 n108 c109 z18 A112 n113 c114 (Rw.mono h103 (hL121.toFl (me 0 rfl) (me 0 rfl))) (Nat.le_trans hz13 hL121.env.size) h110 (Nat.le_trans hz19 hL121.env.size) h115 (hL121.hFl hp122 (Bg [0] rfl)) (hL121.into hp122 _) r123 hv124) ?_
   rintro _ w139 ⟨A129, n130, c131, A134, n135, c136, A125, n126, c127, rfl, hM140, h132, h137, h128⟩
   obtain ⟨sb143, hL141, hv142⟩ := hL121.callB (Sl := ([Sm w.heap.size F sw101 sb102] : List C9)) hp122 hM140 F (Bg [0] rfl) ⟨Sm.ok, trivial⟩
   have h128 : At Cc (Sm w.heap.size F w139 sb143) A125 n126 c127 r123.words := Rw.mono h128 hv142
   refine ⟨_, _, _, rfl, hL141, ?_⟩
   refine Ak 6 rfl ?_
   refine Bo [] rfl Tryd.func61 rfl (.nil) fun wr hLr => ?_
   have hMr := hLr.pkI (.c 0 rfl (.c 1 rfl (.c 2 rfl .n))) (.c 3 rfl .n) (by kernel_rfl) (.c 4 rfl .n)
   have hMi := hLr.selI (.c 0 rfl (.c 1 rfl (.c 2 rfl .n)))
   show Hw w F g2 Tb3 A8 n9 c10 z12 A14 n15 c16 z18 r (.returned (Ce [])) wr
   rw [h]
   exact ⟨A129, n130, c131, A134, n135, c136, A125, n126, c127, rfl, hMr, h132, h137, (hLr.outR (s := Sm w.heap.size F w139 sb143) hMi (me 0 rfl) Sm.ok h128)⟩
  ·have h := Ar hp119 h
   refine Bj rfl _ rfl ((nei hp119)) <| Cf rfl <| Ai rfl <| Ad rfl rfl <| Aa 0 rfl (Ae rfl) gn rfl <| Aa 1 rfl (Bc rfl) gn rfl <| Aa 2 rfl (Aw Ec rfl) gn rfl <| Aa 3 rfl (Ap 2 Ho rfl rfl rfl) gn rfl <| Aa 4 rfl (Bh rfl rfl rfl) gn rfl <| Aa 5 rfl (Bc rfl) gn rfl <| Aa 6 rfl (Aw Ec rfl) gn rfl ?_
   refine Cj 7 rfl (Fg (vs := [.int .i64 (w64 (x104 + 1))]) (cs' := [.slice A98 n99 c100, .int .i64 (w64 (x104 + 1)), .int .i64 x105, .slice A107 n108 c109, .slice A112 n113 c114, .int .i64 x116, .int .i64 x117]) (M' := [.own (.slice A107 n108 c109) 45 5 n108 (x106.flatMap Am), .own (.slice A112 n113 c114) 47 4 n113 (x111.flatMap Bf), .box g2 Tb3 [.slice A98 n99 c100, .int .i64 (w64 (x104 + 1)), .int .i64 x105, .slice A107 n108 c109, .slice A112 n113 c114, .int .i64 x116, .int .i64 x117], .box gb20 47 [.bool x118, .string (⟨#[]⟩ : ByteArray), .string (⟨#[]⟩ : ByteArray), .string (⟨#[]⟩ : ByteArray)]]) 2 Xbb rfl rfl rfl rfl rfl rfl rfl rfl rfl ?_) gn
   refine Ak 8 rfl <| Ai rfl <| Ad rfl rfl <| Aa 0 rfl (Ae rfl) gn rfl ?_
   obtain ⟨r147, hv148, h⟩ := h
   refine Cj 1 rfl (D6 [.pointer (some ⟨g2, 0, none⟩)] rfl Tryd.func92 rfl rfl rfl fun w144 hL145 => ?_) gn
   have hp146 := pmI hL145 (.c 2 rfl (.c 0 rfl (.c 1 rfl .n))) (.c 3 rfl .n) (by kernel_rfl)
   refine Calls.mono (Qo w144 (Fl ([Sm w.heap.size F sw101 sb102] : List C9)) (⟨x97, w64 (x104 + 1), x105, (⟨x106, x111⟩ : Au), x116, x117⟩ : Ah) g2 Tb3 A98 n99 c100 z12 A107 n108 c109 z18 A112 n113 c114 (Rw.mono h103 (hL145.toFl (me 0 rfl) (me 0 rfl))) (Nat.le_trans hz13 hL145.env.size) h110 (Nat.le_trans hz19 hL145.env.size) h115 (hL145.hFl hp146 (Bg [0] rfl)) (hL145.into hp146 _) r147 hv148) ?_
   rintro _ w163 ⟨A153, n154, c155, A158, n159, c160, A149, n150, c151, rfl, hM164, h156, h161, h152⟩
   obtain ⟨sb167, hL165, hv166⟩ := hL145.callB (Sl := ([Sm w.heap.size F sw101 sb102] : List C9)) hp146 hM164 F (Bg [0] rfl) ⟨Sm.ok, trivial⟩
   have h152 : At Cc (Sm w.heap.size F w163 sb167) A149 n150 c151 r147.2.words := Rw.mono h152 hv166
   refine ⟨_, _, _, rfl, hL165, ?_⟩
   refine Aa 2 rfl (Aw Xcp rfl) gn rfl ?_
   refine Cj 3 rfl (Fg (vs := [.string r147.1]) (cs' := [.bool x118, .string r147.1, .string (⟨#[]⟩ : ByteArray), .string (⟨#[]⟩ : ByteArray)]) (M' := [.box g2 Tb3 [.slice A149 n150 c151, .int .i64 r147.2.at_, .int .i64 r147.2.end_, .slice A153 n154 c155, .slice A158 n159 c160, .int .i64 r147.2.code, .int .i64 r147.2.place], .own (.slice A153 n154 c155) 45 5 n154 (r147.2.q.nodes.flatMap Am), .own (.slice A158 n159 c160) 47 4 n159 (r147.2.q.conds.flatMap Bf), .box gb20 47 [.bool x118, .string r147.1, .string (⟨#[]⟩ : ByteArray), .string (⟨#[]⟩ : ByteArray)]]) 3 sz_9 rfl rfl rfl rfl rfl rfl rfl rfl rfl ?_) gn
   refine Ak 4 rfl <| Ai rfl <| Ai rfl <| Ad rfl rfl <| Aa 0 rfl (Ae rfl) gn rfl <| Aa 1 rfl (Bc rfl) gn rfl <| Aa 2 rfl (Aw Pq rfl) gn rfl <| Aa 3 rfl (Ap 0 Xo rfl rfl rfl) gn rfl <| Aa 4 rfl (Bh rfl rfl rfl) gn rfl <| Ak 5 rfl ?_
   have j2 : ∀ (x194 : List Aj) (x201 : Int) (x202 : Int) (x203 : List Ag) (x208 : List Bi) (x213 : Int) (x214 : Int) (h : F7 x118 r147 x194 x201 x202 x203 x208 x213 x214 r) (A195 : Option Addr) (n196 : Nat) (c197 : Nat) (sw198 : World) (sb199 : List (List Nat)) (h200 : At Cc (Sm w.heap.size F sw198 sb199) A195 n196 c197 x194) (A204 : Option Addr) (n205 : Nat) (c206 : Nat) (h207 : Ow z12 A204 n205 c206 x203) (A209 : Option Addr) (n210 : Nat) (c211 : Nat) (h212 : Ow z18 A209 n210 c211 x208), G (Ov w F g2 Tb3 A8 n9 c10 z12 A14 n15 c16 z18 r) [.code Xhn] [(0, .pointer (some ⟨g2, 0, none⟩)), (2, .pointer (some ⟨gb20, 0, none⟩))] [.own (.slice A204 n205 c206) 45 5 n205 (x203.flatMap Am), .own (.slice A209 n210 c211) 47 4 n210 (x208.flatMap Bf), .box g2 Tb3 [.slice A195 n196 c197, .int .i64 x201, .int .i64 x202, .slice A204 n205 c206, .slice A209 n210 c211, .int .i64 x213, .int .i64 x214], .box gb20 47 [.bool x118, .string r147.1, .string (⟨#[]⟩ : ByteArray), .string (⟨#[]⟩ : ByteArray)]] [Sm w.heap.size F sw198 sb199, Sm w.heap.size F w163 sb167, Sm w.heap.size F sw101 sb102, Sm w.heap.size F w41 sb45, Sm w.heap.size F w [[g2], (Value.slice A8 n9 c10).ownBlock.toList, (Value.slice A14 n15 c16).ownBlock.toList], St w [[g2], (Value.slice A8 n9 c10).ownBlock.toList, (Value.slice A14 n15 c16).ownBlock.toList]] := by
    intro x194 x201 x202 x203 x208 x213 x214 h A195 n196 c197 sw198 sb199 h200 A204 n205 c206 h207 A209 n210 c211 h212
    unfold F7 at h
    refine Ai rfl <| Ai rfl ?_
    have j3 : ∀ (x222 : Bool) (h : Fp x201 x194 x208 x118 r147 x202 x203 x213 x214 x222 r) , G (Ov w F g2 Tb3 A8 n9 c10 z12 A14 n15 c16 z18 r) [.code q61c37, .code Xi4] [(0, .pointer (some ⟨g2, 0, none⟩)), (2, .pointer (some ⟨gb20, 0, none⟩)), (85, .bool x222)] [.own (.slice A204 n205 c206) 45 5 n205 (x203.flatMap Am), .own (.slice A209 n210 c211) 47 4 n210 (x208.flatMap Bf), .box g2 Tb3 [.slice A195 n196 c197, .int .i64 x201, .int .i64 x202, .slice A204 n205 c206, .slice A209 n210 c211, .int .i64 x213, .int .i64 x214], .box gb20 47 [.bool x118, .string r147.1, .string (⟨#[]⟩ : ByteArray), .string (⟨#[]⟩ : ByteArray)]] [Sm w.heap.size F sw198 sb199, Sm w.heap.size F w163 sb167, Sm w.heap.size F sw101 sb102, Sm w.heap.size F w41 sb45, Sm w.heap.size F w [[g2], (Value.slice A8 n9 c10).ownBlock.toList, (Value.slice A14 n15 c16).ownBlock.toList], St w [[g2], (Value.slice A8 n9 c10).ownBlock.toList, (Value.slice A14 n15 c16).ownBlock.toList]] := by
     intro x222 h
     unfold Fp at h
     by_cases hp223 : x222 = true
     ·have h := Aq hp223 h
      refine Bz rfl _ rfl (hp223) <| Ai rfl ?_
      obtain ⟨hb224, h⟩ := h
      have hns : Region.noSelect (Code.ops q61c40) = true := by kernel_rfl
      refine G5 [12] 13 rfl rfl mix rfl (.c 0 rfl (.c 1 rfl (.c 2 rfl (.c 3 rfl (.c 4 rfl (.c 5 rfl .n)))))) <| wfv 0 rfl (Ae rfl) gn hns (by kernel_rfl) <| wfv 1 rfl (Bc rfl) gn hns (by kernel_rfl) <| wfv 2 rfl (Aw Gq rfl) gn hns (by kernel_rfl) <| wfv 3 rfl (Ap 2 Ld rfl rfl rfl) gn hns (by kernel_rfl) <| wfv 4 rfl (Ae rfl) gn hns (by kernel_rfl) <| wfv 5 rfl (Bc rfl) gn hns (by kernel_rfl) <| wfv 6 rfl (Aw Ec rfl) gn hns (by kernel_rfl) <| wfv 7 rfl (Ap 2 Ho rfl rfl rfl) gn hns (by kernel_rfl) ?_
      have hr227 := Rw.readF (s := Sm w.heap.size F sw198 sb199) (hl := Ef) (h1 := Ee) h200 hb224
      refine wfv 8 rfl (Gm (s := Sm w.heap.size F sw198 sb199) Pj rfl rfl h200 hb224) gn hns (by kernel_rfl) <| wfv 9 rfl (Oi J8 rfl) gn hns (by kernel_rfl) <| wfv 10 rfl (L8 (kk := (x201 : Int).toNat * 4) (j := 1) (Sm w.heap.size F sw198 sb199) H9 rfl hr227 rfl (me 0 rfl)) gn hns (by kernel_rfl) <| wfv 11 rfl (Aw Xet rfl) gn hns (by kernel_rfl) ?_
      refine Cm [12] (by kernel_rfl) rfl ⟨Qw 12 rfl gn rfl (Fg (vs := [.string ((ix x194 x201).text)]) (cs' := [.bool x118, .string r147.1, .string (⟨#[]⟩ : ByteArray), .string ((ix x194 x201).text)]) (M' := [.own (.slice A204 n205 c206) 45 5 n205 (x203.flatMap Am), .own (.slice A209 n210 c211) 47 4 n210 (x208.flatMap Bf), .box g2 Tb3 [.slice A195 n196 c197, .int .i64 x201, .int .i64 x202, .slice A204 n205 c206, .slice A209 n210 c211, .int .i64 x213, .int .i64 x214], .box gb20 47 [.bool x118, .string r147.1, .string (⟨#[]⟩ : ByteArray), .string ((ix x194 x201).text)]]) 3 sz_9 rfl rfl rfl rfl rfl rfl rfl rfl rfl ?_), trivial⟩
      unfold NxL
      refine Dw (by kernel_rfl) <| Ad rfl rfl <| Aa 0 rfl (Ae rfl) gn rfl <| Aa 1 rfl (Bc rfl) gn rfl <| Aa 2 rfl (Aw Ec rfl) gn rfl <| Aa 3 rfl (Ap 2 Ho rfl rfl rfl) gn rfl <| Aa 4 rfl (Bh rfl rfl rfl) gn rfl <| Aa 5 rfl (Bc rfl) gn rfl <| Aa 6 rfl (Aw Ec rfl) gn rfl ?_
      refine Cj 7 rfl (Fg (vs := [.int .i64 (w64 (x201 + 1))]) (cs' := [.slice A195 n196 c197, .int .i64 (w64 (x201 + 1)), .int .i64 x202, .slice A204 n205 c206, .slice A209 n210 c211, .int .i64 x213, .int .i64 x214]) (M' := [.own (.slice A204 n205 c206) 45 5 n205 (x203.flatMap Am), .own (.slice A209 n210 c211) 47 4 n210 (x208.flatMap Bf), .box g2 Tb3 [.slice A195 n196 c197, .int .i64 (w64 (x201 + 1)), .int .i64 x202, .slice A204 n205 c206, .slice A209 n210 c211, .int .i64 x213, .int .i64 x214], .box gb20 47 [.bool x118, .string r147.1, .string (⟨#[]⟩ : ByteArray), .string ((ix x194 x201).text)]]) 2 Xbb rfl rfl rfl rfl rfl rfl rfl rfl rfl ?_) gn
      refine Ak 8 rfl ?_
      obtain ⟨x234, hv235, h⟩ := h
      obtain ⟨hb236, h⟩ := h
      have hns : Region.noSelect (Code.ops Xi4) = true := by kernel_rfl
      refine Ud [.own (.slice A204 n205 c206) 45 5 n205 (x203.flatMap Am), .box g2 Tb3 [.slice A195 n196 c197, .int .i64 (w64 (x201 + 1)), .int .i64 x202, .slice A204 n205 c206, .slice A209 n210 c211, .int .i64 x213, .int .i64 x214], .box gb20 47 [.bool x118, .string r147.1, .string (⟨#[]⟩ : ByteArray), .string ((ix x194 x201).text)]] [Sm w.heap.size F sw198 sb199, Sm w.heap.size F w163 sb167, Sm w.heap.size F sw101 sb102, Sm w.heap.size F w41 sb45, Sm w.heap.size F w [[g2], (Value.slice A8 n9 c10).ownBlock.toList, (Value.slice A14 n15 c16).ownBlock.toList], St w [[g2], (Value.slice A8 n9 c10).ownBlock.toList, (Value.slice A14 n15 c16).ownBlock.toList]] [12] 13 rfl rfl mix rfl (.cons_cons _ (.cons _ (.cons_cons _ (.cons_cons _ (.slnil))))) (Bg [0, 1, 2, 3, 4, 5] rfl) <| wfv 0 rfl (Ae rfl) gn hns (by kernel_rfl) <| wfv 1 rfl (Ae rfl) gn hns (by kernel_rfl) <| wfv 2 rfl (Bc rfl) gn hns (by kernel_rfl) <| wfv 3 rfl (Aw O6 rfl) gn hns (by kernel_rfl) <| wfv 4 rfl (Aw Lp rfl) gn hns (by kernel_rfl) <| wfv 5 rfl (Ap 1 Vy rfl rfl rfl) gn hns (by kernel_rfl) <| wfv 6 rfl (La [.bool x118, .string r147.1, .string (⟨#[]⟩ : ByteArray), .string ((ix x194 x201).text)] 2 Xe5 rfl rfl rfl rfl) gn hns (by kernel_rfl) ?_
      refine Cm [7] (by kernel_rfl) rfl ⟨Eo 7 rfl gn rfl (Ib (xs := ([(⟨x118, r147.1, (⟨#[]⟩ : ByteArray), (ix x194 x201).text⟩ : Bi)] : List Bi)) [.bool x118, .string r147.1, .string (⟨#[]⟩ : ByteArray), .string ((ix x194 x201).text)] Xi1 rfl (by kernel_rfl) rfl rfl rfl rfl fun gb249 h250 => ?_), trivial⟩
      refine ⟨Bg [1, 3, 4] rfl, Bg [0, 1, 2, 3, 4, 5] rfl, ?_⟩
      refine Cm [8] (by kernel_rfl) rfl ⟨Eo 8 rfl gn rfl (Oc (zs := x234) (cells' := x234.flatMap Bf) 2 ap_23 rfl rfl rfl h212 hz19 (Src.ownF (hl := O3) (h1 := Og) 0 rfl h250) (by rw [hv235, List.flatMap_append] <;> rfl) (H7 hv235 h250.hq) hb236 rfl rfl fun A254 c255 h256 => ?_), trivial⟩
      refine ⟨Bg [1, 3, 4] rfl, Bg [0, 1, 2, 3, 4, 5] rfl, ?_⟩
      refine wfv 9 rfl (Bc rfl) gn hns (by kernel_rfl) <| wfv 10 rfl (Aw O6 rfl) gn hns (by kernel_rfl) <| wfv 11 rfl (Aw Lp rfl) gn hns (by kernel_rfl) ?_
      refine Cm [12] (by kernel_rfl) rfl ⟨Qw 12 rfl gn rfl (Fg (vs := [.slice A254 (n210 + 1) c255]) (cs' := [.slice A195 n196 c197, .int .i64 (w64 (x201 + 1)), .int .i64 x202, .slice A204 n205 c206, .slice A254 (n210 + 1) c255, .int .i64 x213, .int .i64 x214]) (M' := [.own (.slice (some ⟨gb249, 0, none⟩) 1 1) 47 4 1 (([(⟨x118, r147.1, (⟨#[]⟩ : ByteArray), (ix x194 x201).text⟩ : Bi)] : List Bi).flatMap Bf), .own (.slice A204 n205 c206) 45 5 n205 (x203.flatMap Am), .own (.slice A254 (n210 + 1) c255) 47 4 (n210 + 1) (x234.flatMap Bf), .box g2 Tb3 [.slice A195 n196 c197, .int .i64 (w64 (x201 + 1)), .int .i64 x202, .slice A204 n205 c206, .slice A254 (n210 + 1) c255, .int .i64 x213, .int .i64 x214], .box gb20 47 [.bool x118, .string r147.1, .string (⟨#[]⟩ : ByteArray), .string ((ix x194 x201).text)]]) 3 sz_23 rfl rfl rfl rfl rfl rfl rfl rfl rfl ?_), trivial⟩
      unfold NxL
      refine Dw (by kernel_rfl) ?_
      refine Vu [] Tryd.func61 rfl (.nil) fun wr hLr => ?_
      have hMr := hLr.pkI (.c 3 rfl (.c 1 rfl (.c 2 rfl .n))) (.c 0 rfl (.c 4 rfl .n)) (by kernel_rfl) (.c 5 rfl .n)
      have hMi := hLr.selI (.c 3 rfl (.c 1 rfl (.c 2 rfl .n)))
      show Hw w F g2 Tb3 A8 n9 c10 z12 A14 n15 c16 z18 r (.returned (Ce [])) wr
      rw [h]
      exact ⟨A204, n205, c206, A254, n210 + 1, c255, A195, n196, c197, rfl, hMr, h207, h256, (hLr.outR (s := Sm w.heap.size F sw198 sb199) hMi (me 0 rfl) Sm.ok h200)⟩
     ·have h := Ar hp223 h
      refine Bj rfl _ rfl ((bf hp223)) <| Ai rfl <| Ad rfl rfl <| Aa 0 rfl (Ae rfl) gn rfl <| Aa 1 rfl (Bc rfl) gn rfl <| Aa 2 rfl (Aw Pq rfl) gn rfl <| Aa 3 rfl (Ap 2 Xo rfl rfl rfl) gn rfl <| Aa 4 rfl (Bh rfl rfl rfl) gn rfl <| Ak 5 rfl ?_
      by_cases hp257 : x213 = 0
      ·have h := Aq hp257 h
       refine Bz rfl _ rfl ((eqi hp257)) <| Ad rfl rfl <| Aa 0 rfl (Ae rfl) gn rfl ?_
       obtain ⟨r261, hv262, h⟩ := h
       refine Cj 1 rfl (D6 [.pointer (some ⟨g2, 0, none⟩)] rfl Tryd.func92 rfl rfl rfl fun w258 hL259 => ?_) gn
       have hp260 := pmI hL259 (.c 2 rfl (.c 0 rfl (.c 1 rfl .n))) (.c 3 rfl .n) (by kernel_rfl)
       refine Calls.mono (Qo w258 (Fl ([Sm w.heap.size F sw198 sb199] : List C9)) (⟨x194, x201, x202, (⟨x203, x208⟩ : Au), x213, x214⟩ : Ah) g2 Tb3 A195 n196 c197 z12 A204 n205 c206 z18 A209 n210 c211 (Rw.mono h200 (hL259.toFl (me 0 rfl) (me 0 rfl))) (Nat.le_trans hz13 hL259.env.size) h207 (Nat.le_trans hz19 hL259.env.size) h212 (hL259.hFl hp260 (Bg [0] rfl)) (hL259.into hp260 _) r261 hv262) ?_
       rintro _ w277 ⟨A267, n268, c269, A272, n273, c274, A263, n264, c265, rfl, hM278, h270, h275, h266⟩
       obtain ⟨sb281, hL279, hv280⟩ := hL259.callB (Sl := ([Sm w.heap.size F sw198 sb199] : List C9)) hp260 hM278 F (Bg [0] rfl) ⟨Sm.ok, trivial⟩
       have h266 : At Cc (Sm w.heap.size F w277 sb281) A263 n264 c265 r261.2.words := Rw.mono h266 hv280
       refine ⟨_, _, _, rfl, hL279, ?_⟩
       refine Aa 2 rfl (Aw Z9 rfl) gn rfl ?_
       refine Cj 3 rfl (Fg (vs := [.string r261.1]) (cs' := [.bool x118, .string r147.1, .string r261.1, .string (⟨#[]⟩ : ByteArray)]) (M' := [.box g2 Tb3 [.slice A263 n264 c265, .int .i64 r261.2.at_, .int .i64 r261.2.end_, .slice A267 n268 c269, .slice A272 n273 c274, .int .i64 r261.2.code, .int .i64 r261.2.place], .own (.slice A267 n268 c269) 45 5 n268 (r261.2.q.nodes.flatMap Am), .own (.slice A272 n273 c274) 47 4 n273 (r261.2.q.conds.flatMap Bf), .box gb20 47 [.bool x118, .string r147.1, .string r261.1, .string (⟨#[]⟩ : ByteArray)]]) 3 sz_9 rfl rfl rfl rfl rfl rfl rfl rfl rfl ?_) gn
       refine Ak 4 rfl ?_
       obtain ⟨x288, hv289, h⟩ := h
       obtain ⟨hb290, h⟩ := h
       have hns : Region.noSelect (Code.ops Xi4) = true := by kernel_rfl
       refine Ud [.box g2 Tb3 [.slice A263 n264 c265, .int .i64 r261.2.at_, .int .i64 r261.2.end_, .slice A267 n268 c269, .slice A272 n273 c274, .int .i64 r261.2.code, .int .i64 r261.2.place], .own (.slice A267 n268 c269) 45 5 n268 (r261.2.q.nodes.flatMap Am), .box gb20 47 [.bool x118, .string r147.1, .string r261.1, .string (⟨#[]⟩ : ByteArray)]] [Sm w.heap.size F w277 sb281, Sm w.heap.size F sw198 sb199, Sm w.heap.size F w163 sb167, Sm w.heap.size F sw101 sb102, Sm w.heap.size F w41 sb45, Sm w.heap.size F w [[g2], (Value.slice A8 n9 c10).ownBlock.toList, (Value.slice A14 n15 c16).ownBlock.toList], St w [[g2], (Value.slice A8 n9 c10).ownBlock.toList, (Value.slice A14 n15 c16).ownBlock.toList]] [12] 13 rfl rfl mix rfl (.cons_cons _ (.cons_cons _ (.cons _ (.cons_cons _ (.slnil))))) (Bg [0, 1, 2, 3, 4, 5, 6] rfl) <| wfv 0 rfl (Ae rfl) gn hns (by kernel_rfl) <| wfv 1 rfl (Ae rfl) gn hns (by kernel_rfl) <| wfv 2 rfl (Bc rfl) gn hns (by kernel_rfl) <| wfv 3 rfl (Aw O6 rfl) gn hns (by kernel_rfl) <| wfv 4 rfl (Aw Lp rfl) gn hns (by kernel_rfl) <| wfv 5 rfl (Ap 0 Vy rfl rfl rfl) gn hns (by kernel_rfl) <| wfv 6 rfl (La [.bool x118, .string r147.1, .string r261.1, .string (⟨#[]⟩ : ByteArray)] 2 Xe5 rfl rfl rfl rfl) gn hns (by kernel_rfl) ?_
       refine Cm [7] (by kernel_rfl) rfl ⟨Eo 7 rfl gn rfl (Ib (xs := ([(⟨x118, r147.1, r261.1, (⟨#[]⟩ : ByteArray)⟩ : Bi)] : List Bi)) [.bool x118, .string r147.1, .string r261.1, .string (⟨#[]⟩ : ByteArray)] Xi1 rfl (by kernel_rfl) rfl rfl rfl rfl fun gb303 h304 => ?_), trivial⟩
       refine ⟨Bg [1, 2, 4] rfl, Bg [0, 1, 2, 3, 4, 5, 6] rfl, ?_⟩
       refine Cm [8] (by kernel_rfl) rfl ⟨Eo 8 rfl gn rfl (Oc (zs := x288) (cells' := x288.flatMap Bf) 3 ap_23 rfl rfl rfl h275 hz19 (Src.ownF (hl := O3) (h1 := Og) 0 rfl h304) (by rw [hv289, List.flatMap_append] <;> rfl) (H7 hv289 h304.hq) hb290 rfl rfl fun A308 c309 h310 => ?_), trivial⟩
       refine ⟨Bg [1, 2, 4] rfl, Bg [0, 1, 2, 3, 4, 5, 6] rfl, ?_⟩
       refine wfv 9 rfl (Bc rfl) gn hns (by kernel_rfl) <| wfv 10 rfl (Aw O6 rfl) gn hns (by kernel_rfl) <| wfv 11 rfl (Aw Lp rfl) gn hns (by kernel_rfl) ?_
       refine Cm [12] (by kernel_rfl) rfl ⟨Qw 12 rfl gn rfl (Fg (vs := [.slice A308 (n273 + 1) c309]) (cs' := [.slice A263 n264 c265, .int .i64 r261.2.at_, .int .i64 r261.2.end_, .slice A267 n268 c269, .slice A308 (n273 + 1) c309, .int .i64 r261.2.code, .int .i64 r261.2.place]) (M' := [.own (.slice (some ⟨gb303, 0, none⟩) 1 1) 47 4 1 (([(⟨x118, r147.1, r261.1, (⟨#[]⟩ : ByteArray)⟩ : Bi)] : List Bi).flatMap Bf), .box g2 Tb3 [.slice A263 n264 c265, .int .i64 r261.2.at_, .int .i64 r261.2.end_, .slice A267 n268 c269, .slice A308 (n273 + 1) c309, .int .i64 r261.2.code, .int .i64 r261.2.place], .own (.slice A267 n268 c269) 45 5 n268 (r261.2.q.nodes.flatMap Am), .own (.slice A308 (n273 + 1) c309) 47 4 (n273 + 1) (x288.flatMap Bf), .box gb20 47 [.bool x118, .string r147.1, .string r261.1, .string (⟨#[]⟩ : ByteArray)]]) 1 sz_23 rfl rfl rfl rfl rfl rfl rfl rfl rfl ?_), trivial⟩
       unfold NxL
       refine Dw (by kernel_rfl) ?_
       refine Vu [] Tryd.func61 rfl (.nil) fun wr hLr => ?_
       have hMr := hLr.pkI (.c 1 rfl (.c 2 rfl (.c 3 rfl .n))) (.c 0 rfl (.c 4 rfl .n)) (by kernel_rfl) (.c 6 rfl .n)
       have hMi := hLr.selI (.c 1 rfl (.c 2 rfl (.c 3 rfl .n)))
       show Hw w F g2 Tb3 A8 n9 c10 z12 A14 n15 c16 z18 r (.returned (Ce [])) wr
       rw [h]
       exact ⟨A267, n268, c269, A308, n273 + 1, c309, A263, n264, c265, rfl, hMr, h270, h310, (hLr.outR (s := Sm w.heap.size F w277 sb281) hMi (me 0 rfl) Sm.ok h266)⟩
      ·have h := Ar hp257 h
       refine Bj rfl _ rfl ((nei hp257)) <| Cf rfl ?_
       obtain ⟨x317, hv318, h⟩ := h
       obtain ⟨hb319, h⟩ := h
       have hns : Region.noSelect (Code.ops Xi4) = true := by kernel_rfl
       refine Ud [.own (.slice A204 n205 c206) 45 5 n205 (x203.flatMap Am), .box g2 Tb3 [.slice A195 n196 c197, .int .i64 x201, .int .i64 x202, .slice A204 n205 c206, .slice A209 n210 c211, .int .i64 x213, .int .i64 x214], .box gb20 47 [.bool x118, .string r147.1, .string (⟨#[]⟩ : ByteArray), .string (⟨#[]⟩ : ByteArray)]] [Sm w.heap.size F sw198 sb199, Sm w.heap.size F w163 sb167, Sm w.heap.size F sw101 sb102, Sm w.heap.size F w41 sb45, Sm w.heap.size F w [[g2], (Value.slice A8 n9 c10).ownBlock.toList, (Value.slice A14 n15 c16).ownBlock.toList], St w [[g2], (Value.slice A8 n9 c10).ownBlock.toList, (Value.slice A14 n15 c16).ownBlock.toList]] [12] 13 rfl rfl mix rfl (.cons_cons _ (.cons _ (.cons_cons _ (.cons_cons _ (.slnil))))) (Bg [0, 1, 2, 3, 4, 5] rfl) <| wfv 0 rfl (Ae rfl) gn hns (by kernel_rfl) <| wfv 1 rfl (Ae rfl) gn hns (by kernel_rfl) <| wfv 2 rfl (Bc rfl) gn hns (by kernel_rfl) <| wfv 3 rfl (Aw O6 rfl) gn hns (by kernel_rfl) <| wfv 4 rfl (Aw Lp rfl) gn hns (by kernel_rfl) <| wfv 5 rfl (Ap 1 Vy rfl rfl rfl) gn hns (by kernel_rfl) <| wfv 6 rfl (La [.bool x118, .string r147.1, .string (⟨#[]⟩ : ByteArray), .string (⟨#[]⟩ : ByteArray)] 2 Xe5 rfl rfl rfl rfl) gn hns (by kernel_rfl) ?_
       refine Cm [7] (by kernel_rfl) rfl ⟨Eo 7 rfl gn rfl (Ib (xs := ([(⟨x118, r147.1, (⟨#[]⟩ : ByteArray), (⟨#[]⟩ : ByteArray)⟩ : Bi)] : List Bi)) [.bool x118, .string r147.1, .string (⟨#[]⟩ : ByteArray), .string (⟨#[]⟩ : ByteArray)] Xi1 rfl (by kernel_rfl) rfl rfl rfl rfl fun gb332 h333 => ?_), trivial⟩
       refine ⟨Bg [1, 3, 4] rfl, Bg [0, 1, 2, 3, 4, 5] rfl, ?_⟩
       refine Cm [8] (by kernel_rfl) rfl ⟨Eo 8 rfl gn rfl (Oc (zs := x317) (cells' := x317.flatMap Bf) 2 ap_23 rfl rfl rfl h212 hz19 (Src.ownF (hl := O3) (h1 := Og) 0 rfl h333) (by rw [hv318, List.flatMap_append] <;> rfl) (H7 hv318 h333.hq) hb319 rfl rfl fun A337 c338 h339 => ?_), trivial⟩
       refine ⟨Bg [1, 3, 4] rfl, Bg [0, 1, 2, 3, 4, 5] rfl, ?_⟩
       refine wfv 9 rfl (Bc rfl) gn hns (by kernel_rfl) <| wfv 10 rfl (Aw O6 rfl) gn hns (by kernel_rfl) <| wfv 11 rfl (Aw Lp rfl) gn hns (by kernel_rfl) ?_
       refine Cm [12] (by kernel_rfl) rfl ⟨Qw 12 rfl gn rfl (Fg (vs := [.slice A337 (n210 + 1) c338]) (cs' := [.slice A195 n196 c197, .int .i64 x201, .int .i64 x202, .slice A204 n205 c206, .slice A337 (n210 + 1) c338, .int .i64 x213, .int .i64 x214]) (M' := [.own (.slice (some ⟨gb332, 0, none⟩) 1 1) 47 4 1 (([(⟨x118, r147.1, (⟨#[]⟩ : ByteArray), (⟨#[]⟩ : ByteArray)⟩ : Bi)] : List Bi).flatMap Bf), .own (.slice A204 n205 c206) 45 5 n205 (x203.flatMap Am), .own (.slice A337 (n210 + 1) c338) 47 4 (n210 + 1) (x317.flatMap Bf), .box g2 Tb3 [.slice A195 n196 c197, .int .i64 x201, .int .i64 x202, .slice A204 n205 c206, .slice A337 (n210 + 1) c338, .int .i64 x213, .int .i64 x214], .box gb20 47 [.bool x118, .string r147.1, .string (⟨#[]⟩ : ByteArray), .string (⟨#[]⟩ : ByteArray)]]) 3 sz_23 rfl rfl rfl rfl rfl rfl rfl rfl rfl ?_), trivial⟩
       unfold NxL
       refine Dw (by kernel_rfl) ?_
       refine Vu [] Tryd.func61 rfl (.nil) fun wr hLr => ?_
       have hMr := hLr.pkI (.c 3 rfl (.c 1 rfl (.c 2 rfl .n))) (.c 0 rfl (.c 4 rfl .n)) (by kernel_rfl) (.c 5 rfl .n)
       have hMi := hLr.selI (.c 3 rfl (.c 1 rfl (.c 2 rfl .n)))
       show Hw w F g2 Tb3 A8 n9 c10 z12 A14 n15 c16 z18 r (.returned (Ce [])) wr
       rw [h]
       exact ⟨A204, n205, c206, A337, n210 + 1, c338, A195, n196, c197, rfl, hMr, h207, h339, (hLr.outR (s := Sm w.heap.size F sw198 sb199) hMi (me 0 rfl) Sm.ok h200)⟩
    by_cases hp340 : x213 = 0
    ·have h := Aq hp340 h
     by_cases hp341 : x201 < (x194.length : Int)
     ·have h := Aq hp341 h
      obtain ⟨hb342, h⟩ := h
      have hns : Region.noSelect (Code.ops Xjp) = true := by kernel_rfl
      refine G5 [] 31 rfl rfl mix rfl (.c 0 rfl (.c 1 rfl (.c 2 rfl (.c 3 rfl (.c 4 rfl (.c 5 rfl .n)))))) <| wfv 0 rfl (Ae rfl) gn hns rfl <| wfv 1 rfl (Bc rfl) gn hns rfl <| wfv 2 rfl (Aw Pq rfl) gn hns rfl <| wfv 3 rfl (Ap 2 Xo rfl rfl rfl) gn hns rfl <| wfv 4 rfl (Bh rfl rfl rfl) gn hns rfl <| wfv 5 rfl (Ae rfl) gn hns rfl <| Jh 60 rfl ((eqi hp340)) <| wfv 6 rfl (Ae rfl) (gy 60 rfl rfl) hns rfl <| wfv 7 rfl (Bc rfl) (gy 60 rfl rfl) hns rfl <| wfv 8 rfl (Aw Ec rfl) (gy 60 rfl rfl) hns rfl <| wfv 9 rfl (Ap 2 Ho rfl rfl rfl) (gy 60 rfl rfl) hns rfl ?_
      refine wfv 10 rfl (Ae rfl) (gy 60 rfl rfl) hns rfl <| wfv 11 rfl (Bc rfl) (gy 60 rfl rfl) hns rfl <| wfv 12 rfl (Aw Gq rfl) (gy 60 rfl rfl) hns rfl <| wfv 13 rfl (Ap 2 Ld rfl rfl rfl) (gy 60 rfl rfl) hns rfl <| wfv 14 rfl (Dy Y1 rfl h200.hq) (gy 60 rfl rfl) hns rfl <| wfv 15 rfl (Bh rfl rfl rfl) (gy 60 rfl rfl) hns rfl <| wfv 16 rfl (Az (b := true) rfl rfl) gn hns rfl <| wfv 17 rfl (Ae rfl) gn hns rfl <| Jh 72 rfl ((decide_eq_true hp341)) <| wfv 18 rfl (Ae rfl) (gy 72 rfl rfl) hns rfl <| wfv 19 rfl (Bc rfl) (gy 72 rfl rfl) hns rfl <| wfv 20 rfl (Aw Gq rfl) (gy 72 rfl rfl) hns rfl ?_
      refine wfv 21 rfl (Ap 2 Ld rfl rfl rfl) (gy 72 rfl rfl) hns rfl <| wfv 22 rfl (Ae rfl) (gy 72 rfl rfl) hns rfl <| wfv 23 rfl (Bc rfl) (gy 72 rfl rfl) hns rfl <| wfv 24 rfl (Aw Ec rfl) (gy 72 rfl rfl) hns rfl <| wfv 25 rfl (Ap 2 Ho rfl rfl rfl) (gy 72 rfl rfl) hns rfl ?_
      have hr345 := Rw.readF (s := Sm w.heap.size F sw198 sb199) (hl := Ef) (h1 := Ee) h200 hb342
      refine wfv 26 rfl (Gm (s := Sm w.heap.size F sw198 sb199) Pj rfl rfl h200 hb342) (gy 72 rfl rfl) hns rfl <| wfv 27 rfl (Oi Uh rfl) (gy 72 rfl rfl) hns rfl <| wfv 28 rfl (L8 (kk := (x201 : Int).toNat * 4) (j := 0) (Sm w.heap.size F sw198 sb199) Xak rfl hr345 rfl (me 0 rfl)) (gy 72 rfl rfl) hns rfl <| wfv 29 rfl (Bh rfl rfl rfl) (gy 72 rfl rfl) hns rfl <| wfv 30 rfl (Az (b := true) rfl rfl) gn hns rfl <| Dw (by kernel_rfl) ?_
      exact D7 [0, 1, 2, 3, 4, 5] (j3 (((ix x194 x201).kind) == 2) h) ⟨rfl, rfl, rfl, trivial⟩ (.cons_cons _ (.cons_cons _ (.cons_cons _ (.cons_cons _ (.slnil))))) rfl
     ·have h := Ar hp341 h
      have hns : Region.noSelect (Code.ops Xjp) = true := by kernel_rfl
      refine G5 [] 31 rfl rfl mix rfl (.c 0 rfl (.c 1 rfl (.c 2 rfl (.c 3 rfl (.c 4 rfl (.c 5 rfl .n)))))) <| wfv 0 rfl (Ae rfl) gn hns rfl <| wfv 1 rfl (Bc rfl) gn hns rfl <| wfv 2 rfl (Aw Pq rfl) gn hns rfl <| wfv 3 rfl (Ap 2 Xo rfl rfl rfl) gn hns rfl <| wfv 4 rfl (Bh rfl rfl rfl) gn hns rfl <| wfv 5 rfl (Ae rfl) gn hns rfl <| Jh 60 rfl ((eqi hp340)) <| wfv 6 rfl (Ae rfl) (gy 60 rfl rfl) hns rfl <| wfv 7 rfl (Bc rfl) (gy 60 rfl rfl) hns rfl <| wfv 8 rfl (Aw Ec rfl) (gy 60 rfl rfl) hns rfl <| wfv 9 rfl (Ap 2 Ho rfl rfl rfl) (gy 60 rfl rfl) hns rfl ?_
      refine wfv 10 rfl (Ae rfl) (gy 60 rfl rfl) hns rfl <| wfv 11 rfl (Bc rfl) (gy 60 rfl rfl) hns rfl <| wfv 12 rfl (Aw Gq rfl) (gy 60 rfl rfl) hns rfl <| wfv 13 rfl (Ap 2 Ld rfl rfl rfl) (gy 60 rfl rfl) hns rfl <| wfv 14 rfl (Dy Y1 rfl h200.hq) (gy 60 rfl rfl) hns rfl <| wfv 15 rfl (Bh rfl rfl rfl) (gy 60 rfl rfl) hns rfl <| wfv 16 rfl (Az (b := true) rfl rfl) gn hns rfl <| wfv 17 rfl (Ae rfl) gn hns rfl <| Jh 72 rfl ((decide_eq_false hp341)) <| wfp 18 rfl (ps 72 rfl rfl rfl) hns rfl <| wfp 19 rfl (ps 72 rfl rfl rfl) hns rfl <| wfp 20 rfl (ps 72 rfl rfl rfl) hns rfl ?_
      refine wfp 21 rfl (ps 72 rfl rfl rfl) hns rfl <| wfp 22 rfl (ps 72 rfl rfl rfl) hns rfl <| wfp 23 rfl (ps 72 rfl rfl rfl) hns rfl <| wfp 24 rfl (ps 72 rfl rfl rfl) hns rfl <| wfp 25 rfl (ps 72 rfl rfl rfl) hns rfl <| wfp 26 rfl (ps 72 rfl rfl rfl) hns rfl <| wfp 27 rfl (ps 72 rfl rfl rfl) hns rfl <| wfp 28 rfl (ps 72 rfl rfl rfl) hns rfl <| wfp 29 rfl (ps 72 rfl rfl rfl) hns rfl <| wfv 30 rfl (Az (b := false) rfl rfl) gn hns rfl <| Dw (by kernel_rfl) ?_
      exact D7 [0, 1, 2, 3, 4, 5] (j3 false h) ⟨rfl, rfl, rfl, trivial⟩ (.cons_cons _ (.cons_cons _ (.cons_cons _ (.cons_cons _ (.slnil))))) rfl
    ·have h := Ar hp340 h
     have hns : Region.noSelect (Code.ops Xjp) = true := by kernel_rfl
     refine G5 [] 31 rfl rfl mix rfl (.c 0 rfl (.c 1 rfl (.c 2 rfl (.c 3 rfl (.c 4 rfl (.c 5 rfl .n)))))) <| wfv 0 rfl (Ae rfl) gn hns rfl <| wfv 1 rfl (Bc rfl) gn hns rfl <| wfv 2 rfl (Aw Pq rfl) gn hns rfl <| wfv 3 rfl (Ap 2 Xo rfl rfl rfl) gn hns rfl <| wfv 4 rfl (Bh rfl rfl rfl) gn hns rfl <| wfv 5 rfl (Ae rfl) gn hns rfl <| Jh 60 rfl ((nei hp340)) <| wfp 6 rfl (ps 60 rfl rfl rfl) hns rfl <| wfp 7 rfl (ps 60 rfl rfl rfl) hns rfl <| wfp 8 rfl (ps 60 rfl rfl rfl) hns rfl <| wfp 9 rfl (ps 60 rfl rfl rfl) hns rfl ?_
     refine wfp 10 rfl (ps 60 rfl rfl rfl) hns rfl <| wfp 11 rfl (ps 60 rfl rfl rfl) hns rfl <| wfp 12 rfl (ps 60 rfl rfl rfl) hns rfl <| wfp 13 rfl (ps 60 rfl rfl rfl) hns rfl <| wfp 14 rfl (ps 60 rfl rfl rfl) hns rfl <| wfp 15 rfl (ps 60 rfl rfl rfl) hns rfl <| wfv 16 rfl (Az (b := false) rfl rfl) gn hns rfl <| wfv 17 rfl (Ae rfl) gn hns rfl <| wfp 18 rfl (ps 72 rfl rfl rfl) hns rfl <| wfp 19 rfl (ps 72 rfl rfl rfl) hns rfl <| wfp 20 rfl (ps 72 rfl rfl rfl) hns rfl <| wfp 21 rfl (ps 72 rfl rfl rfl) hns rfl ?_
     refine wfp 22 rfl (ps 72 rfl rfl rfl) hns rfl <| wfp 23 rfl (ps 72 rfl rfl rfl) hns rfl <| wfp 24 rfl (ps 72 rfl rfl rfl) hns rfl <| wfp 25 rfl (ps 72 rfl rfl rfl) hns rfl <| wfp 26 rfl (ps 72 rfl rfl rfl) hns rfl <| wfp 27 rfl (ps 72 rfl rfl rfl) hns rfl <| wfp 28 rfl (ps 72 rfl rfl rfl) hns rfl <| wfp 29 rfl (ps 72 rfl rfl rfl) hns rfl <| wfv 30 rfl (Az (b := false) rfl rfl) gn hns rfl <| Dw (by kernel_rfl) ?_
     exact D7 [0, 1, 2, 3, 4, 5] (j3 false h) ⟨rfl, rfl, rfl, trivial⟩ (.cons_cons _ (.cons_cons _ (.cons_cons _ (.cons_cons _ (.slnil))))) rfl
   by_cases hp168 : r147.2.code = 0
   ·have h := Aq hp168 h
    refine Bz rfl _ rfl ((eqi hp168)) <| Ad rfl rfl <| Aa 0 rfl (Ae rfl) gn rfl ?_
    obtain ⟨r349, hv350, h⟩ := h
    refine Cj 1 rfl (D6 [.pointer (some ⟨g2, 0, none⟩), .string (⟨#[61]⟩ : ByteArray)] rfl Tryd.func90 rfl rfl rfl fun w346 hL347 => ?_) gn
    have hp348 := pmI hL347 (.c 0 rfl (.c 1 rfl (.c 2 rfl .n))) (.c 3 rfl .n) (by kernel_rfl)
    refine Calls.mono (He w346 (Fl ([Sm w.heap.size F w163 sb167] : List C9)) r147.2 (⟨#[61]⟩ : ByteArray) g2 Tb3 A149 n150 c151 z12 A153 n154 c155 z18 A158 n159 c160 (Rw.mono h152 (hL347.toFl (me 0 rfl) (me 0 rfl))) (Nat.le_trans hz13 hL347.env.size) h156 (Nat.le_trans hz19 hL347.env.size) h161 (hL347.hFl hp348 (Bg [0] rfl)) (hL347.into hp348 _) r349 hv350) ?_
    rintro _ w365 ⟨A355, n356, c357, A360, n361, c362, A351, n352, c353, rfl, hM366, h358, h363, h354⟩
    obtain ⟨sb369, hL367, hv368⟩ := hL347.callB (Sl := ([Sm w.heap.size F w163 sb167] : List C9)) hp348 hM366 F (Bg [0] rfl) ⟨Sm.ok, trivial⟩
    have h354 : At Cc (Sm w.heap.size F w365 sb369) A351 n352 c353 r349.words := Rw.mono h354 hv368
    refine ⟨_, _, _, rfl, hL367, ?_⟩
    refine Ak 2 rfl <| Ba 3 rfl <| Ba 1 rfl <| Ba 3 rfl <| Ba 3 rfl ?_
    exact D7 [0, 1, 2, 3, 4, 5] (j2 r349.words r349.at_ r349.end_ r349.q.nodes r349.q.conds r349.code r349.place h A351 n352 c353 w365 sb369 h354 A355 n356 c357 h358 A360 n361 c362 h363) ⟨rfl, rfl, trivial⟩ (.cons_cons _ (.cons_cons _ (.cons_cons _ (.cons_cons _ (.slnil))))) rfl
   ·have h := Ar hp168 h
    refine Bj rfl _ rfl ((nei hp168)) <| Cf rfl <| Ba 3 rfl <| Ba 1 rfl <| Ba 3 rfl <| Ba 3 rfl ?_
    exact D7 [0, 0, 1, 2, 3, 4] (j2 r147.2.words r147.2.at_ r147.2.end_ r147.2.q.nodes r147.2.q.conds r147.2.code r147.2.place h A149 n150 c151 w163 sb167 h152 A153 n154 c155 h156 A158 n159 c160 h161) ⟨rfl, rfl, trivial⟩ (.cons_cons _ (.cons_cons _ (.cons_cons _ (.cons_cons _ (.slnil))))) rfl
 by_cases hp46 : r25.1 = true
 ·have h := Aq hp46 h
  refine Bz rfl _ rfl (hp46) <| Ad rfl rfl <| Aa 0 rfl (Aw Xew rfl) gn rfl ?_
  refine Cj 1 rfl (Fg (vs := [.bool true]) (cs' := [.bool true, .string (⟨#[]⟩ : ByteArray), .string (⟨#[]⟩ : ByteArray), .string (⟨#[]⟩ : ByteArray)]) (M' := [.box g2 Tb3 [.slice A27 n28 c29, .int .i64 r25.2.at_, .int .i64 r25.2.end_, .slice A31 n32 c33, .slice A36 n37 c38, .int .i64 r25.2.code, .int .i64 r25.2.place], .own (.slice A31 n32 c33) 45 5 n32 (r25.2.q.nodes.flatMap Am), .own (.slice A36 n37 c38) 47 4 n37 (r25.2.q.conds.flatMap Bf), .box gb20 47 [.bool true, .string (⟨#[]⟩ : ByteArray), .string (⟨#[]⟩ : ByteArray), .string (⟨#[]⟩ : ByteArray)]]) 3 Xbz rfl rfl rfl rfl rfl rfl rfl rfl rfl ?_) gn
  refine Ak 2 rfl <| Ba 3 rfl <| Ba 1 rfl <| Ba 3 rfl <| Ba 3 rfl ?_
  exact D7 [0, 0, 1, 2] (j1 r25.2.words r25.2.at_ r25.2.end_ r25.2.q.nodes r25.2.q.conds r25.2.code r25.2.place true h A27 n28 c29 w41 sb45 h30 A31 n32 c33 h34 A36 n37 c38 h39) ⟨rfl, rfl, trivial⟩ (.cons_cons _ (.cons_cons _ (.cons_cons _ (.cons_cons _ (.slnil))))) rfl
 ·have h := Ar hp46 h
  refine Bj rfl _ rfl ((bf hp46)) <| Ai rfl <| Ad rfl rfl <| Aa 0 rfl (Ae rfl) gn rfl <| Aa 1 rfl (Ae rfl) gn rfl <| Aa 2 rfl (Bc rfl) gn rfl <| Aa 3 rfl (Aw Ec rfl) gn rfl <| Aa 4 rfl (Ap 0 Ho rfl rfl rfl) gn rfl ?_
  obtain ⟨r373, hv374, h⟩ := h
  refine Cj 5 rfl (D6 [.pointer (some ⟨g2, 0, none⟩), .int .i64 r25.2.at_, .int .i64 1, .string (⟨#[119, 104, 101, 110]⟩ : ByteArray)] rfl Tryd.func91 rfl rfl rfl fun w370 hL371 => ?_) gn
  have hp372 := pmI hL371 (.c 0 rfl (.c 1 rfl (.c 2 rfl .n))) (.c 3 rfl .n) (by kernel_rfl)
  refine Calls.mono (G7 w370 (Fl ([Sm w.heap.size F w41 sb45] : List C9)) r25.2 r25.2.at_ 1 (⟨#[119, 104, 101, 110]⟩ : ByteArray) g2 Tb3 A27 n28 c29 z12 A31 n32 c33 z18 A36 n37 c38 (Rw.mono h30 (hL371.toFl (me 0 rfl) (me 0 rfl))) (Nat.le_trans hz13 hL371.env.size) h34 (Nat.le_trans hz19 hL371.env.size) h39 (hL371.hFl hp372 (Bg [0] rfl)) (hL371.into hp372 _) r373 hv374) ?_
  rintro _ w389 ⟨A379, n380, c381, A384, n385, c386, A375, n376, c377, rfl, hM390, h382, h387, h378⟩
  obtain ⟨sb393, hL391, hv392⟩ := hL371.callB (Sl := ([Sm w.heap.size F w41 sb45] : List C9)) hp372 hM390 F (Bg [0] rfl) ⟨Sm.ok, trivial⟩
  have h378 : At Cc (Sm w.heap.size F w389 sb393) A375 n376 c377 r373.2.words := Rw.mono h378 hv392
  refine ⟨_, _, _, rfl, hL391, ?_⟩
  refine Aa 6 rfl (Qg rfl) gn rfl <| Aa 7 rfl (Af rfl) gn rfl <| Ak 8 rfl ?_
  by_cases hp394 : r373.1 = true
  ·have h := Aq hp394 h
   refine Bj rfl _ rfl ((nf hp394)) <| Cf rfl <| Ba 3 rfl <| Ba 1 rfl <| Ba 3 rfl <| Ba 3 rfl ?_
   exact D7 [0, 1, 2, 3] (j1 r373.2.words r373.2.at_ r373.2.end_ r373.2.q.nodes r373.2.q.conds r373.2.code r373.2.place false h A375 n376 c377 w389 sb393 h378 A379 n380 c381 h382 A384 n385 c386 h387) ⟨rfl, rfl, trivial⟩ (.cons_cons _ (.cons_cons _ (.cons_cons _ (.cons_cons _ (.slnil))))) rfl
  ·have h := Ar hp394 h
   refine Bz rfl _ rfl ((nt (bf hp394))) <| Ai rfl <| Ad rfl rfl <| Aa 0 rfl (Ae rfl) gn rfl <| Aa 1 rfl (Ae rfl) gn rfl <| Aa 2 rfl (Bc rfl) gn rfl <| Aa 3 rfl (Aw Ec rfl) gn rfl <| Aa 4 rfl (Ap 0 Ho rfl rfl rfl) gn rfl ?_
   obtain ⟨r398, hv399, h⟩ := h
   refine Cj 5 rfl (D6 [.pointer (some ⟨g2, 0, none⟩), .int .i64 200, .int .i64 r373.2.at_] rfl Tryd.func88 rfl rfl rfl fun w395 hL396 => ?_) gn
   have hp397 := pmI hL396 (.c 0 rfl (.c 1 rfl (.c 2 rfl .n))) (.c 3 rfl .n) (by kernel_rfl)
   refine Calls.mono (Fe w395 (Fl ([Sm w.heap.size F w389 sb393] : List C9)) r373.2 200 r373.2.at_ g2 Tb3 A375 n376 c377 z12 A379 n380 c381 z18 A384 n385 c386 (Rw.mono h378 (hL396.toFl (me 0 rfl) (me 0 rfl))) (Nat.le_trans hz13 hL396.env.size) h382 (Nat.le_trans hz19 hL396.env.size) h387 (hL396.hFl hp397 (Bg [0] rfl)) (hL396.into hp397 _) r398 hv399) ?_
   rintro _ w414 ⟨A404, n405, c406, A409, n410, c411, A400, n401, c402, rfl, hM415, h407, h412, h403⟩
   obtain ⟨sb418, hL416, hv417⟩ := hL396.callB (Sl := ([Sm w.heap.size F w389 sb393] : List C9)) hp397 hM415 F (Bg [0] rfl) ⟨Sm.ok, trivial⟩
   have h403 : At Cc (Sm w.heap.size F w414 sb418) A400 n401 c402 r398.words := Rw.mono h403 hv417
   refine ⟨_, _, _, rfl, hL416, ?_⟩
   refine Ak 6 rfl ?_
   refine Bo [] rfl Tryd.func61 rfl (.nil) fun wr hLr => ?_
   have hMr := hLr.pkI (.c 0 rfl (.c 1 rfl (.c 2 rfl .n))) (.c 3 rfl .n) (by kernel_rfl) (.c 4 rfl .n)
   have hMi := hLr.selI (.c 0 rfl (.c 1 rfl (.c 2 rfl .n)))
   show Hw w F g2 Tb3 A8 n9 c10 z12 A14 n15 c16 z18 r (.returned (Ce [])) wr
   rw [h]
   exact ⟨A404, n405, c406, A409, n410, c411, A400, n401, c402, rfl, hMr, h407, h412, (hLr.outR (s := Sm w.heap.size F w414 sb418) hMi (me 0 rfl) Sm.ok h403)⟩
noncomputable abbrev Xdz := Code.snd (Code.snd (Code.snd (Code.snd (Code.snd (Code.snd (Dp Tryd.f28))))))
noncomputable abbrev Xc7 := Code.fst (Code.fst (Code.fst (Code.snd (Code.snd (Code.snd (Code.snd (Code.snd (Dp Tryd.f28))))))))
noncomputable abbrev q28c21 := Code.fst (Code.fst Xc7)
noncomputable abbrev q28c34 := Code.fst (Code.fst (Code.snd (Code.fst Xdz)))
abbrev Ro (w : World) (F : Nat → Prop) (r : Au × Int × Int) : Ending → World → Prop := fun e w' => ∃ A0 : Option Addr, ∃ n0 : Nat, ∃ c0 : Nat, ∃ A1 : Option Addr, ∃ n1 : Nat, ∃ c1 : Nat, e = .returned (.tuple #[.agg #[.slice A0 n0 c0, .slice A1 n1 c1], .int .i64 r.2.1, .int .i64 r.2.2]) ∧ B.Loc w w' [.own (.slice A0 n0 c0) 45 5 n0 (r.1.nodes.flatMap Am), .own (.slice A1 n1 c1) 47 4 n1 (r.1.conds.flatMap Bf)] [St w []] ∧ Ow w.heap.size A0 n0 c0 r.1.nodes ∧ Ow w.heap.size A1 n1 c1 r.1.conds
noncomputable abbrev V9 (w : World) (F : Nat → Prop) (r : Au × Int × Int) : Cx := ⟨Tryd.prog, 28, Tryd.f28, 64, Ro w F  r, w⟩
theorem Uc (w : World) (F : Nat → Prop) (x1 : ByteArray) (hF : ∀ b, F b → b < w.heap.size ∧ ∀ o ∈ ([] : List (List Nat)), b ∉ o) (hL0 : B.Loc w w [] [Sm w.heap.size F w [], St w []]) (r : Au × Int × Int) (h : Jc x1 r) : Calls Tryd.prog 28 #[.string x1] w (Ro w F  r) := by
 unfold Jc at h
 refine Cb (vs := [.string x1]) 64 Tryd.func28 rfl Tryd.ntmps28 rfl hL0 ?_
 show G (V9 w F r) _ _ _ _
 refine Ai rfl <| Ad rfl rfl ?_
 refine Cj 0 rfl (Gp [.slice none 0 0, .slice none 0 0] zr_25 rfl fun gb2 => ?_) gn
 refine Aa 1 rfl (Af rfl) gn rfl <| Aa 2 rfl (Af rfl) gn rfl <| Ak 3 rfl <| Ai rfl <| Ad rfl rfl <| Aa 0 rfl (Ae rfl) gn rfl ?_
 obtain ⟨r7, hv8, h⟩ := h
 refine Cj 1 rfl (D6 [.string x1] rfl Tryd.func59 rfl rfl rfl fun w4 hL5 => ?_) gn
 have hp6 := pmI hL5 .n (.c 0 rfl .n) (by kernel_rfl)
 refine Calls.mono (Xeo w4 (Fl ([] : List C9)) x1 (hL5.hFl hp6 (Bg [] rfl)) (hL5.into hp6 _) r7 hv8) ?_
 rintro _ w14 ⟨A9, n10, c11, rfl, hM15, h12⟩
 have hL16 := hL5.call hp6 hM15
 refine ⟨_, _, _, rfl, hL16, ?_⟩
 refine Aa 2 rfl (Ae rfl) gn rfl <| Aa 3 rfl (Ey rfl rfl) gn rfl <| Aa 4 rfl (Ey rfl rfl) gn rfl <| Aa 5 rfl (Ey rfl rfl) gn rfl <| Aa 6 rfl (Af rfl) gn rfl <| Aa 7 rfl (Af rfl) gn rfl <| Aa 8 rfl (Af rfl) gn rfl <| Ak 9 rfl <| Ai rfl <| Ai rfl <| Ad rfl rfl <| Aa 0 rfl (Ae rfl) gn rfl ?_
 refine Aa 1 rfl (Bh rfl rfl rfl) gn rfl <| Ak 2 rfl ?_
 by_cases hp17 : r7.2.1 = 0
 ·have h := Aq hp17 h
  refine Bj rfl _ rfl ((Xaf hp17)) <| Cf rfl <| Ai rfl <| Ad rfl rfl <| Aa 0 rfl (Ae rfl) gn rfl <| Aa 1 rfl (Ae rfl) gn rfl <| Aa 2 rfl (P6 Ko rfl) gn rfl <| Aa 3 rfl (Iq #[.slice A9 n10 c11, .int .i64 0, .int .i64 (x1.size : Int), .slice none 0 0, .slice none 0 0, .int .i64 0, .int .i64 0] bd_90 rfl (by kernel_rfl)) gn rfl ?_
  refine Cj 4 rfl (Rq [.slice A9 n10 c11, .int .i64 0, .int .i64 (x1.size : Int), .slice none 0 0, .slice none 0 0, .int .i64 0, .int .i64 0] rfl rfl rfl fun gb18 => ?_) gn
  refine Aa 5 rfl (Af rfl) gn rfl <| Ak 6 rfl <| Ai rfl <| Ad rfl rfl <| Aa 0 rfl (Ae rfl) gn rfl ?_
  obtain ⟨r28, hv29, h⟩ := h
  refine Xja (F := F) (dk := Cc) (Sm w.heap.size F w []) 1 rfl (Ow.weak hL5.env.size h12) (me 0 rfl) Sm.ok (Cells.flat _) fun sw24 sb25 h23 => ?_
  refine w_nil 45 5 <| w_nil 47 4 ?_
  refine Cj 1 rfl (D6 [.pointer (some ⟨gb18, 0, none⟩)] rfl Tryd.func60 rfl rfl rfl fun w20 hL21 => ?_) gn
  have hp22 := pmI hL21 (.c 2 rfl (.c 1 rfl (.c 0 rfl .n))) (.c 3 rfl .n) (by kernel_rfl)
  refine Calls.mono (X6 w20 (Fl ([Sm w.heap.size F sw24 sb25] : List C9)) (⟨r7.1, 0, (x1.size : Int), (⟨([] : List Ag), ([] : List Bi)⟩ : Au), 0, 0⟩ : Ah) gb18 90 A9 n10 c11 w.heap.size none 0 0 w.heap.size none 0 0 (Rw.mono h23 (hL21.toFl (me 0 rfl) (me 0 rfl))) hL21.env.size (Ow.nil (z := w.heap.size)) hL21.env.size (Ow.nil (z := w.heap.size)) (hL21.hFl hp22 (Bg [0] rfl)) (hL21.into hp22 _) r28 hv29) ?_
  rintro _ w44 ⟨A34, n35, c36, A39, n40, c41, A30, n31, c32, rfl, hM45, h37, h42, h33⟩
  obtain ⟨sb48, hL46, hv47⟩ := hL21.callB (Sl := ([Sm w.heap.size F sw24 sb25] : List C9)) hp22 hM45 F (Bg [0] rfl) ⟨Sm.ok, trivial⟩
  have h33 : At Cc (Sm w.heap.size F w44 sb48) A30 n31 c32 r28.words := Rw.mono h33 hv47
  refine ⟨_, _, _, rfl, hL46, ?_⟩
  refine Ak 2 rfl <| Ai rfl <| Dt rfl <| Om rfl ?_
  have key1 : ∀ s, Bv (fun (s : (List Aj) × Int × Int × (List Ag) × (List Bi) × Int × Int) o => Gs s.1 s.2.1 s.2.2.1 s.2.2.2.1 s.2.2.2.2.1 s.2.2.2.2.2.1 s.2.2.2.2.2.2 o) s r → (fun (s : (List Aj) × Int × Int × (List Ag) × (List Bi) × Int × Int) => ∀ (A77 : Option Addr) (n78 : Nat) (c79 : Nat) (sw80 : World) (sb81 : List (List Nat)) (h82 : At Cc (Sm w.heap.size F sw80 sb81) A77 n78 c79 s.1) (A86 : Option Addr) (n87 : Nat) (c88 : Nat) (h89 : Ow w.heap.size A86 n87 c88 s.2.2.2.1) (A91 : Option Addr) (n92 : Nat) (c93 : Nat) (h94 : Ow w.heap.size A91 n92 c93 s.2.2.2.2.1), G (V9 w F r) [.code Xc7, .inLoop Xc7, .inBlock 0, .code Xdz] [(2, .pointer (some ⟨gb2, 0, none⟩)), (8, .pointer (some ⟨gb18, 0, none⟩))] [.own (.slice A86 n87 c88) 45 5 n87 (s.2.2.2.1.flatMap Am), .own (.slice A91 n92 c93) 47 4 n92 (s.2.2.2.2.1.flatMap Bf), .box gb18 90 [.slice A77 n78 c79, .int .i64 s.2.1, .int .i64 s.2.2.1, .slice A86 n87 c88, .slice A91 n92 c93, .int .i64 s.2.2.2.2.2.1, .int .i64 s.2.2.2.2.2.2], .box gb2 25 [.slice none 0 0, .slice none 0 0]] [Sm w.heap.size F sw80 sb81, Sm w.heap.size F w44 sb48, Sm w.heap.size F sw24 sb25, Sm w.heap.size F w [], St w []]) s := by
   intro s hs
   refine Bv.ind (mot := (fun (s : (List Aj) × Int × Int × (List Ag) × (List Bi) × Int × Int) => ∀ (A77 : Option Addr) (n78 : Nat) (c79 : Nat) (sw80 : World) (sb81 : List (List Nat)) (h82 : At Cc (Sm w.heap.size F sw80 sb81) A77 n78 c79 s.1) (A86 : Option Addr) (n87 : Nat) (c88 : Nat) (h89 : Ow w.heap.size A86 n87 c88 s.2.2.2.1) (A91 : Option Addr) (n92 : Nat) (c93 : Nat) (h94 : Ow w.heap.size A91 n92 c93 s.2.2.2.2.1), G (V9 w F r) [.code Xc7, .inLoop Xc7, .inBlock 0, .code Xdz] [(2, .pointer (some ⟨gb2, 0, none⟩)), (8, .pointer (some ⟨gb18, 0, none⟩))] [.own (.slice A86 n87 c88) 45 5 n87 (s.2.2.2.1.flatMap Am), .own (.slice A91 n92 c93) 47 4 n92 (s.2.2.2.2.1.flatMap Bf), .box gb18 90 [.slice A77 n78 c79, .int .i64 s.2.1, .int .i64 s.2.2.1, .slice A86 n87 c88, .slice A91 n92 c93, .int .i64 s.2.2.2.2.2.1, .int .i64 s.2.2.2.2.2.2], .box gb2 25 [.slice none 0 0, .slice none 0 0]] [Sm w.heap.size F sw80 sb81, Sm w.heap.size F w44 sb48, Sm w.heap.size F sw24 sb25, Sm w.heap.size F w [], St w []])) ?_ hs
   clear hs s
   intro s o1 h hO1
   obtain ⟨x76, x83, x84, x85, x90, x95, x96⟩ := s
   show ∀ (A77 : Option Addr) (n78 : Nat) (c79 : Nat) (sw80 : World) (sb81 : List (List Nat)) (h82 : At Cc (Sm w.heap.size F sw80 sb81) A77 n78 c79 x76) (A86 : Option Addr) (n87 : Nat) (c88 : Nat) (h89 : Ow w.heap.size A86 n87 c88 x85) (A91 : Option Addr) (n92 : Nat) (c93 : Nat) (h94 : Ow w.heap.size A91 n92 c93 x90), G (V9 w F r) [.code Xc7, .inLoop Xc7, .inBlock 0, .code Xdz] [(2, .pointer (some ⟨gb2, 0, none⟩)), (8, .pointer (some ⟨gb18, 0, none⟩))] [.own (.slice A86 n87 c88) 45 5 n87 (x85.flatMap Am), .own (.slice A91 n92 c93) 47 4 n92 (x90.flatMap Bf), .box gb18 90 [.slice A77 n78 c79, .int .i64 x83, .int .i64 x84, .slice A86 n87 c88, .slice A91 n92 c93, .int .i64 x95, .int .i64 x96], .box gb2 25 [.slice none 0 0, .slice none 0 0]] [Sm w.heap.size F sw80 sb81, Sm w.heap.size F w44 sb48, Sm w.heap.size F sw24 sb25, Sm w.heap.size F w [], St w []]
   intro A77 n78 c79 sw80 sb81 h82 A86 n87 c88 h89 A91 n92 c93 h94
   have h : Gs x76 x83 x84 x85 x90 x95 x96 o1 := h
   unfold Gs at h
   refine Ai rfl <| Ai rfl ?_
   by_cases hp123 : x95 = 0
   ·have h := Aq hp123 h
    have hns : Region.noSelect (Code.ops q28c21) = true := by kernel_rfl
    refine G5 [] 17 rfl rfl mix rfl (.c 0 rfl (.c 1 rfl (.c 2 rfl (.c 3 rfl (.c 4 rfl .n))))) <| wfv 0 rfl (Ae rfl) gn hns rfl <| wfv 1 rfl (Bc rfl) gn hns rfl <| wfv 2 rfl (Aw Pq rfl) gn hns rfl <| wfv 3 rfl (Ap 2 Xo rfl rfl rfl) gn hns rfl <| wfv 4 rfl (Bh rfl rfl rfl) gn hns rfl <| wfv 5 rfl (Ae rfl) gn hns rfl <| Jh 32 rfl ((eqi hp123)) <| wfv 6 rfl (Ae rfl) (gy 32 rfl rfl) hns rfl <| wfv 7 rfl (Bc rfl) (gy 32 rfl rfl) hns rfl <| wfv 8 rfl (Aw Ec rfl) (gy 32 rfl rfl) hns rfl <| wfv 9 rfl (Ap 2 Ho rfl rfl rfl) (gy 32 rfl rfl) hns rfl ?_
    refine wfv 10 rfl (Ae rfl) (gy 32 rfl rfl) hns rfl <| wfv 11 rfl (Bc rfl) (gy 32 rfl rfl) hns rfl <| wfv 12 rfl (Aw Gq rfl) (gy 32 rfl rfl) hns rfl <| wfv 13 rfl (Ap 2 Ld rfl rfl rfl) (gy 32 rfl rfl) hns rfl <| wfv 14 rfl (Dy Y1 rfl h82.hq) (gy 32 rfl rfl) hns rfl <| wfv 15 rfl (Bh rfl rfl rfl) (gy 32 rfl rfl) hns rfl <| wfv 16 rfl (Az (b := true) rfl rfl) gn hns rfl <| Dw (by kernel_rfl) ?_
    by_cases hp124 : x83 < (x76.length : Int)
    ·have h := Aq hp124 h
     refine Bz rfl _ rfl ((decide_eq_true hp124)) <| Cf rfl <| Dt rfl <| Ad rfl rfl <| Aa 0 rfl (Ae rfl) gn rfl ?_
     obtain ⟨r128, hv129, h⟩ := h
     refine Cj 1 rfl (D6 [.pointer (some ⟨gb18, 0, none⟩)] rfl Tryd.func61 rfl rfl rfl fun w125 hL126 => ?_) gn
     have hp127 := pmI hL126 (.c 2 rfl (.c 0 rfl (.c 1 rfl .n))) (.c 3 rfl .n) (by kernel_rfl)
     refine Calls.mono (Yp w125 (Fl ([Sm w.heap.size F sw80 sb81] : List C9)) (⟨x76, x83, x84, (⟨x85, x90⟩ : Au), x95, x96⟩ : Ah) gb18 90 A77 n78 c79 w.heap.size A86 n87 c88 w.heap.size A91 n92 c93 (Rw.mono h82 (hL126.toFl (me 0 rfl) (me 0 rfl))) hL126.env.size h89 hL126.env.size h94 (hL126.hFl hp127 (Bg [0] rfl)) (hL126.into hp127 _) r128 hv129) ?_
     rintro _ w144 ⟨A134, n135, c136, A139, n140, c141, A130, n131, c132, rfl, hM145, h137, h142, h133⟩
     obtain ⟨sb148, hL146, hv147⟩ := hL126.callB (Sl := ([Sm w.heap.size F sw80 sb81] : List C9)) hp127 hM145 F (Bg [0] rfl) ⟨Sm.ok, trivial⟩
     have h133 : At Cc (Sm w.heap.size F w144 sb148) A130 n131 c132 r128.words := Rw.mono h133 hv147
     refine ⟨_, _, _, rfl, hL146, ?_⟩
     refine Ak 2 rfl <| D9 <| Ep <| Ba 3 rfl <| Ba 1 rfl <| Ba 3 rfl <| Ba 3 rfl ?_
     have ih := Out.inl hO1 h
     exact D7 [0, 2, 3, 4, 5] (ih A130 n131 c132 w144 sb148 h133 A134 n135 c136 h137 A139 n140 c141 h142) ⟨rfl, rfl, trivial⟩ (.cons_cons _ (.cons_cons _ (.cons_cons _ (.cons_cons _ (.slnil))))) rfl
    ·have h := Ar hp124 h
     refine Bj rfl _ rfl ((decide_eq_false hp124)) <| Jq [.code Xdz] rfl rfl <| Ai rfl <| Ai rfl <| Ad rfl rfl <| Aa 0 rfl (Ae rfl) gn rfl <| Aa 1 rfl (Bc rfl) gn rfl <| Aa 2 rfl (Aw Pq rfl) gn rfl <| Aa 3 rfl (Ap 2 Xo rfl rfl rfl) gn rfl <| Aa 4 rfl (Bh rfl rfl rfl) gn rfl <| Ak 5 rfl <| Bj rfl _ rfl ((Xaf hp123)) ?_
     refine Cf rfl <| Ai rfl <| Ad rfl rfl <| Aa 0 rfl (Ae rfl) gn rfl <| Aa 1 rfl (Bc rfl) gn rfl <| Aa 2 rfl (Aw O6 rfl) gn rfl <| Aa 3 rfl (La [.slice A86 n87 c88, .slice A91 n92 c93] 2 Rt rfl rfl rfl rfl) gn rfl ?_
     refine Cj 4 rfl (Fg (vs := [.slice A86 n87 c88, .slice A91 n92 c93]) (cs' := [.slice A86 n87 c88, .slice A91 n92 c93]) (M' := [.own (.slice A86 n87 c88) 45 5 n87 (x85.flatMap Am), .own (.slice A91 n92 c93) 47 4 n92 (x90.flatMap Bf), .box gb18 90 [.slice A77 n78 c79, .int .i64 x83, .int .i64 x84, .slice A86 n87 c88, .slice A91 n92 c93, .int .i64 x95, .int .i64 x96], .box gb2 25 [.slice A86 n87 c88, .slice A91 n92 c93]]) 3 Xgq rfl rfl rfl rfl rfl rfl rfl rfl rfl ?_) gn
     refine Aa 5 rfl (Af rfl) gn rfl <| Aa 6 rfl (Af rfl) gn rfl <| Ak 7 rfl ?_
     have h := Out.inr hO1 h
     refine Bo [.agg #[.slice A86 n87 c88, .slice A91 n92 c93], .int .i64 0, .int .i64 0] rfl Tryd.func28 rfl (.cell (cs := [.slice A86 n87 c88, .slice A91 n92 c93]) (us := [.slice A86 n87 c88, .slice A91 n92 c93]) 3 rfl Rt rfl rfl rfl (.tmp rfl (.tmp rfl (.nil)))) fun wr hLr => ?_
     have hMr := hLr.pkI (.c 0 rfl (.c 1 rfl .n)) (.c 2 rfl (.c 3 rfl .n)) (by kernel_rfl) (.c 4 rfl .n)
     show Ro w F  r (.returned (Ce [.agg #[.slice A86 n87 c88, .slice A91 n92 c93], .int .i64 0, .int .i64 0])) wr
     rw [h]
     exact ⟨A86, n87, c88, A91, n92, c93, rfl, hMr, h89, h94⟩
   ·have h := Ar hp123 h
    have hns : Region.noSelect (Code.ops q28c21) = true := by kernel_rfl
    refine G5 [] 17 rfl rfl mix rfl (.c 0 rfl (.c 1 rfl (.c 2 rfl (.c 3 rfl (.c 4 rfl .n))))) <| wfv 0 rfl (Ae rfl) gn hns rfl <| wfv 1 rfl (Bc rfl) gn hns rfl <| wfv 2 rfl (Aw Pq rfl) gn hns rfl <| wfv 3 rfl (Ap 2 Xo rfl rfl rfl) gn hns rfl <| wfv 4 rfl (Bh rfl rfl rfl) gn hns rfl <| wfv 5 rfl (Ae rfl) gn hns rfl <| Jh 32 rfl ((nei hp123)) <| wfp 6 rfl (ps 32 rfl rfl rfl) hns rfl <| wfp 7 rfl (ps 32 rfl rfl rfl) hns rfl <| wfp 8 rfl (ps 32 rfl rfl rfl) hns rfl <| wfp 9 rfl (ps 32 rfl rfl rfl) hns rfl ?_
    refine wfp 10 rfl (ps 32 rfl rfl rfl) hns rfl <| wfp 11 rfl (ps 32 rfl rfl rfl) hns rfl <| wfp 12 rfl (ps 32 rfl rfl rfl) hns rfl <| wfp 13 rfl (ps 32 rfl rfl rfl) hns rfl <| wfp 14 rfl (ps 32 rfl rfl rfl) hns rfl <| wfp 15 rfl (ps 32 rfl rfl rfl) hns rfl <| wfv 16 rfl (Az (b := false) rfl rfl) gn hns rfl <| Dw (by kernel_rfl) <| Bj rfl _ rfl (rfl) <| Jq [.code Xdz] rfl rfl <| Ai rfl <| Ai rfl ?_
    refine Ad rfl rfl <| Aa 0 rfl (Ae rfl) gn rfl <| Aa 1 rfl (Bc rfl) gn rfl <| Aa 2 rfl (Aw Pq rfl) gn rfl <| Aa 3 rfl (Ap 2 Xo rfl rfl rfl) gn rfl <| Aa 4 rfl (Bh rfl rfl rfl) gn rfl <| Ak 5 rfl <| Bz rfl _ rfl ((Zz hp123)) <| Ai rfl ?_
    have hns : Region.noSelect (Code.ops q28c34) = true := by kernel_rfl
    refine Ud [.own (.slice A86 n87 c88) 45 5 n87 (x85.flatMap Am), .own (.slice A91 n92 c93) 47 4 n92 (x90.flatMap Bf), .box gb18 90 [.slice A77 n78 c79, .int .i64 x83, .int .i64 x84, .slice A86 n87 c88, .slice A91 n92 c93, .int .i64 x95, .int .i64 x96]] [Sm w.heap.size F sw80 sb81, Sm w.heap.size F w44 sb48, Sm w.heap.size F sw24 sb25, Sm w.heap.size F w [], St w []] [] 12 rfl rfl mix rfl (.cons_cons _ (.cons_cons _ (.cons_cons _ (.cons _ (.slnil))))) (Bg [0, 1, 2, 3, 4] rfl) <| wfv 0 rfl (Iq #[.slice none 0 0, .slice none 0 0] bd_25 rfl (by kernel_rfl)) gn hns rfl <| wfv 1 rfl (Ae rfl) gn hns rfl <| wfv 2 rfl (Bc rfl) gn hns rfl <| wfv 3 rfl (Aw Pq rfl) gn hns rfl <| wfv 4 rfl (Ap 2 Xo rfl rfl rfl) gn hns rfl <| wfv 5 rfl (Ae rfl) gn hns rfl <| wfv 6 rfl (Bc rfl) gn hns rfl <| wfv 7 rfl (Aw Xic rfl) gn hns rfl <| wfv 8 rfl (Ap 2 Ho rfl rfl rfl) gn hns rfl ?_
    refine Cm [9] (by kernel_rfl) rfl ⟨Eo 9 rfl gn rfl (Fg (vs := [.slice none 0 0, .slice none 0 0]) (cs' := [.slice none 0 0, .slice none 0 0]) (M' := [.own (.slice A86 n87 c88) 45 5 n87 (x85.flatMap Am), .own (.slice A91 n92 c93) 47 4 n92 (x90.flatMap Bf), .box gb18 90 [.slice A77 n78 c79, .int .i64 x83, .int .i64 x84, .slice A86 n87 c88, .slice A91 n92 c93, .int .i64 x95, .int .i64 x96], .box gb2 25 [.slice none 0 0, .slice none 0 0]]) 3 Xgq rfl rfl rfl rfl rfl rfl rfl rfl rfl ?_), trivial⟩
    refine ⟨Bg [0, 1, 2] rfl, Bg [0, 1, 2, 3, 4] rfl, ?_⟩
    refine wfv 10 rfl (Af rfl) gn hns rfl <| wfv 11 rfl (Af rfl) gn hns rfl <| Dw (by kernel_rfl) <| Px 45 5 <| Px 47 4 ?_
    have h := Out.inr hO1 h
    refine Bo [.agg #[.slice none 0 0, .slice none 0 0], .int .i64 x95, .int .i64 x96] rfl Tryd.func28 rfl (.cell (cs := [.slice none 0 0, .slice none 0 0]) (us := [.slice none 0 0, .slice none 0 0]) 5 rfl Rt rfl rfl rfl (.tmp rfl (.tmp rfl (.nil)))) fun wr hLr => ?_
    have hMr := hLr.pkI (.c 1 rfl (.c 0 rfl .n)) (.c 2 rfl (.c 3 rfl (.c 4 rfl (.c 5 rfl .n)))) (by kernel_rfl) (.c 4 rfl .n)
    show Ro w F  r (.returned (Ce [.agg #[.slice none 0 0, .slice none 0 0], .int .i64 x95, .int .i64 x96])) wr
    rw [h]
    exact ⟨none, 0, 0, none, 0, 0, rfl, hMr, (Ow.nil (z := w.heap.size)), (Ow.nil (z := w.heap.size))⟩
  refine Ba 3 rfl <| Ba 1 rfl <| Ba 3 rfl <| Ba 3 rfl ?_
  exact D7 [0, 0, 1, 2, 3] (key1 _ h A30 n31 c32 w44 sb48 h33 A34 n35 c36 h37 A39 n40 c41 h42) ⟨rfl, rfl, trivial⟩ (.cons_cons _ (.cons_cons _ (.cons_cons _ (.cons_cons _ (.slnil))))) rfl
 ·have h := Ar hp17 h
  refine Bz rfl _ rfl ((Zz hp17)) <| Ai rfl <| Ad rfl rfl <| Aa 0 rfl (Iq #[.slice none 0 0, .slice none 0 0] bd_25 rfl (by kernel_rfl)) gn rfl <| Aa 1 rfl (Ae rfl) gn rfl <| Aa 2 rfl (Ae rfl) gn rfl ?_
  refine Cj 3 rfl (Fg (vs := [.slice none 0 0, .slice none 0 0]) (cs' := [.slice none 0 0, .slice none 0 0]) (M' := [.own (.slice A9 n10 c11) 84 4 n10 (r7.1.flatMap D5), .box gb2 25 [.slice none 0 0, .slice none 0 0]]) 1 Xgq rfl rfl rfl rfl rfl rfl rfl rfl rfl ?_) gn
  refine Aa 4 rfl (Af rfl) gn rfl <| Aa 5 rfl (Af rfl) gn rfl <| Ak 6 rfl <| Px 45 5 <| Px 47 4 ?_
  refine Bo [.agg #[.slice none 0 0, .slice none 0 0], .int .i64 r7.2.1, .int .i64 r7.2.2] rfl Tryd.func28 rfl (.cell (cs := [.slice none 0 0, .slice none 0 0]) (us := [.slice none 0 0, .slice none 0 0]) 3 rfl Rt rfl rfl rfl (.tmp rfl (.tmp rfl (.nil)))) fun wr hLr => ?_
  have hMr := hLr.pkI (.c 1 rfl (.c 0 rfl .n)) (.c 2 rfl (.c 3 rfl .n)) (by kernel_rfl) (.c 1 rfl .n)
  show Ro w F  r (.returned (Ce [.agg #[.slice none 0 0, .slice none 0 0], .int .i64 r7.2.1, .int .i64 r7.2.2])) wr
  rw [h]
  exact ⟨none, 0, 0, none, 0, 0, rfl, hMr, (Ow.nil (z := w.heap.size)), (Ow.nil (z := w.heap.size))⟩
noncomputable abbrev q27c6 := Code.snd (Code.snd (Code.snd (Dp Tryd.f27)))
noncomputable abbrev q27c8 := Code.snd (Code.fst (Code.snd (Code.snd (Dp Tryd.f27))))
abbrev Fq (w : World) (F : Nat → Prop) (r : Bool) : Ending → World → Prop := fun e w' => e = .returned (.bool r) ∧ B.Loc w w' [] [St w []]
noncomputable abbrev U6 (w : World) (F : Nat → Prop) (r : Bool) : Cx := ⟨Tryd.prog, 27, Tryd.f27, 71, Fq w F  r, w⟩
theorem Xe (w : World) (F : Nat → Prop)  (hG : Tb Tryd.prog (St w [])) (hF : ∀ b, F b → b < w.heap.size ∧ ∀ o ∈ ([] : List (List Nat)), b ∉ o) (hL0 : B.Loc w w [] [Sm w.heap.size F w [], St w []]) (r : Bool) (h : Oh  r) : Calls Tryd.prog 27 #[] w (Fq w F  r) := by
 unfold Oh at h
 refine Cb (vs := []) 71 Tryd.func27 rfl Tryd.ntmps27 rfl hL0 ?_
 show G (U6 w F r) _ _ _ _
 refine Ai rfl <| Ad rfl rfl <| Aa 0 rfl (Af rfl) gn rfl <| Ak 1 rfl <| Ai rfl <| Ad rfl rfl ?_
 obtain ⟨r4, hv5, h⟩ := h
 refine Cj 0 rfl (D6 [.string (⟨#[40, 115, 32, 40, 97, 41, 32, 64, 120, 41, 32, 119, 104, 101, 110, 32, 64, 120, 32, 61, 32, 34, 121, 34]⟩ : ByteArray)] rfl Tryd.func28 rfl rfl rfl fun w1 hL2 => ?_) gn
 have hp3 := pmI hL2 .n .n (by kernel_rfl)
 refine Calls.mono (Uc w1 (Fl ([] : List C9)) (⟨#[40, 115, 32, 40, 97, 41, 32, 64, 120, 41, 32, 119, 104, 101, 110, 32, 64, 120, 32, 61, 32, 34, 121, 34]⟩ : ByteArray) (hL2.hFl hp3 (Bg [] rfl)) (hL2.into hp3 _) r4 hv5) ?_
 rintro _ w16 ⟨A6, n7, c8, A11, n12, c13, rfl, hM17, h9, h14⟩
 have hL18 := hL2.call hp3 hM17
 refine ⟨_, _, _, rfl, hL18, ?_⟩
 refine Aa 1 rfl (Ae rfl) gn rfl <| Aa 2 rfl (Ey rfl rfl) gn rfl <| Aa 3 rfl (Ey rfl rfl) gn rfl <| Aa 4 rfl (Ey rfl rfl) gn rfl ?_
 refine Cj 5 rfl (Gp [.slice none 0 0, .slice none 0 0] zr_25 rfl fun gb19 => ?_) gn
 refine Cj 6 rfl (Fg (vs := [.slice A6 n7 c8, .slice A11 n12 c13]) (cs' := [.slice A6 n7 c8, .slice A11 n12 c13]) (M' := [.box gb19 25 [.slice A6 n7 c8, .slice A11 n12 c13], .own (.slice A6 n7 c8) 45 5 n7 (r4.1.nodes.flatMap Am), .own (.slice A11 n12 c13) 47 4 n12 (r4.1.conds.flatMap Bf)]) 0 Xgq rfl rfl rfl rfl rfl rfl rfl rfl rfl ?_) gn
 refine Aa 7 rfl (Af rfl) gn rfl <| Aa 8 rfl (Af rfl) gn rfl <| Ak 9 rfl <| Ai rfl <| Ai rfl ?_
 have j1 : ∀ (x25 : Bool) (h : Gg r4 x25 r) , G (U6 w F r) [.code q27c8, .code q27c6] [(1, .pointer (some ⟨gb19, 0, none⟩)), (31, .bool x25)] [.box gb19 25 [.slice A6 n7 c8, .slice A11 n12 c13], .own (.slice A6 n7 c8) 45 5 n7 (r4.1.nodes.flatMap Am), .own (.slice A11 n12 c13) 47 4 n12 (r4.1.conds.flatMap Bf)] [Sm w.heap.size F w [], St w []] := by
  intro x25 h
  unfold Gg at h
  by_cases hp26 : x25 = true
  ·have h := Aq hp26 h
   refine Bz rfl _ rfl (hp26) <| Ai rfl <| Ad rfl rfl <| Aa 0 rfl (Af rfl) gn rfl <| Ak 1 rfl ?_
   refine Bo [.bool false] rfl Tryd.func27 rfl (.tmp rfl (.nil)) fun wr hLr => ?_
   have hMr := hLr.pk0 (.c 1 rfl .n)
   show Fq w F  r (.returned (Ce [.bool false])) wr
   rw [h]
   exact ⟨rfl, hMr⟩
  ·have h := Ar hp26 h
   refine Bj rfl _ rfl ((bf hp26)) <| Cf rfl <| Ai rfl <| Ad rfl rfl <| Aa 0 rfl (Iq #[.string (⟨#[115]⟩ : ByteArray), .bool true, .string (⟨#[]⟩ : ByteArray), .int .i64 0, .int .i64 2, .int .i64 2, .int .i64 (-1)] bd_56 rfl (by kernel_rfl)) gn rfl <| Aa 1 rfl (Iq #[.string (⟨#[97]⟩ : ByteArray), .bool true, .string (⟨#[]⟩ : ByteArray), .int .i64 0, .int .i64 1, .int .i64 0, .int .i64 0] bd_56 rfl (by kernel_rfl)) gn rfl <| Aa 2 rfl (Iq #[.string (⟨#[97]⟩ : ByteArray), .bool true, .string (⟨#[]⟩ : ByteArray), .int .i64 1, .int .i64 2, .int .i64 0, .int .i64 1] bd_56 rfl (by kernel_rfl)) gn rfl ?_
   refine Cj 3 rfl (Ib (xs := ([(⟨(⟨#[115]⟩ : ByteArray), true, (⟨#[]⟩ : ByteArray), 0, 2, 2, -1⟩ : Bd), (⟨(⟨#[97]⟩ : ByteArray), true, (⟨#[]⟩ : ByteArray), 0, 1, 0, 0⟩ : Bd), (⟨(⟨#[97]⟩ : ByteArray), true, (⟨#[]⟩ : ByteArray), 1, 2, 0, 1⟩ : Bd)] : List Bd)) [.string (⟨#[115]⟩ : ByteArray), .bool true, .string (⟨#[]⟩ : ByteArray), .int .i64 0, .int .i64 2, .int .i64 2, .int .i64 (-1), .string (⟨#[97]⟩ : ByteArray), .bool true, .string (⟨#[]⟩ : ByteArray), .int .i64 0, .int .i64 1, .int .i64 0, .int .i64 0, .string (⟨#[97]⟩ : ByteArray), .bool true, .string (⟨#[]⟩ : ByteArray), .int .i64 1, .int .i64 2, .int .i64 0, .int .i64 1] bs_26_3 rfl (by kernel_rfl) rfl rfl rfl rfl fun gb28 h29 => ?_) gn
   refine Aa 4 rfl (Af rfl) gn rfl <| Ak 5 rfl <| Ai rfl <| Ad rfl rfl <| Aa 0 rfl (La [.slice A6 n7 c8, .slice A11 n12 c13] 1 Rt rfl rfl rfl rfl) gn rfl <| Aa 1 rfl (Ae rfl) gn rfl ?_
   obtain ⟨r33, hv34, h⟩ := h
   refine Cj 2 rfl (D6 [.agg #[.slice A6 n7 c8, .slice A11 n12 c13], .slice (some ⟨gb28, 0, none⟩) 3 3, .string (⟨#[121, 122]⟩ : ByteArray)] rfl Tryd.func17 rfl rfl rfl fun w30 hL31 => ?_) gn
   have hp32 := pmI hL31 .n (.c 0 rfl (.c 1 rfl (.c 2 rfl (.c 3 rfl .n)))) (by kernel_rfl)
   refine Calls.mono (Zo w30 (Fl ([] : List C9)) r4.1 ([(⟨(⟨#[115]⟩ : ByteArray), true, (⟨#[]⟩ : ByteArray), 0, 2, 2, -1⟩ : Bd), (⟨(⟨#[97]⟩ : ByteArray), true, (⟨#[]⟩ : ByteArray), 0, 1, 0, 0⟩ : Bd), (⟨(⟨#[97]⟩ : ByteArray), true, (⟨#[]⟩ : ByteArray), 1, 2, 0, 1⟩ : Bd)] : List Bd) (⟨#[121, 122]⟩ : ByteArray) A6 n7 c8 A11 n12 c13 (some ⟨gb28, 0, none⟩) 3 3 (hL31.argO (dk := Di) hp32 [] rfl 2 rfl rfl (Ow.weak hL2.env.size h9) (me 0 rfl) (Cells.flat _)) (hL31.argO (dk := Eu) hp32 [] rfl 3 rfl rfl (Ow.weak hL2.env.size h14) (me 0 rfl) (Cells.flat _)) (hL31.argO (dk := Fz) hp32 [] rfl 0 rfl rfl h29 (me 0 rfl) (Cells.flat _)) (hL31.tb hp32 hG (me 1 rfl)) (hL31.hFl hp32 (Bg [] rfl)) (hL31.into hp32 _) r33 hv34) ?_
   rintro _ w42 ⟨A35, n36, c37, cs40, rfl, hM43, h38, hC41⟩
   obtain ⟨sb46, hL44, hv45⟩ := hL31.callB (Sl := ([] : List C9)) hp32 hM43 F (Bg [] rfl) trivial
   have hC41 : Cells Pi (Sm w.heap.size F w42 sb46).w (Sm w.heap.size F w42 sb46).av r33 cs40 := Cells.mono hv45 hC41
   refine ⟨_, _, _, rfl, hL44, ?_⟩
   refine Aa 3 rfl (Af rfl) gn rfl <| Ak 4 rfl <| Ai rfl <| Ad rfl rfl <| Aa 0 rfl (La [.slice A6 n7 c8, .slice A11 n12 c13] 2 Rt rfl rfl rfl rfl) gn rfl <| Aa 1 rfl (Ae rfl) gn rfl ?_
   obtain ⟨r50, hv51, h⟩ := h
   refine Cj 2 rfl (D6 [.agg #[.slice A6 n7 c8, .slice A11 n12 c13], .slice (some ⟨gb28, 0, none⟩) 3 3, .string (⟨#[122, 121]⟩ : ByteArray)] rfl Tryd.func17 rfl rfl rfl fun w47 hL48 => ?_) gn
   have hp49 := pmI hL48 .n (.c 0 rfl (.c 1 rfl (.c 2 rfl (.c 3 rfl (.c 4 rfl .n))))) (by kernel_rfl)
   refine Calls.mono (Zo w47 (Fl ([] : List C9)) r4.1 ([(⟨(⟨#[115]⟩ : ByteArray), true, (⟨#[]⟩ : ByteArray), 0, 2, 2, -1⟩ : Bd), (⟨(⟨#[97]⟩ : ByteArray), true, (⟨#[]⟩ : ByteArray), 0, 1, 0, 0⟩ : Bd), (⟨(⟨#[97]⟩ : ByteArray), true, (⟨#[]⟩ : ByteArray), 1, 2, 0, 1⟩ : Bd)] : List Bd) (⟨#[122, 121]⟩ : ByteArray) A6 n7 c8 A11 n12 c13 (some ⟨gb28, 0, none⟩) 3 3 (hL48.argO (dk := Di) hp49 [] rfl 3 rfl rfl (Ow.weak hL2.env.size h9) (me 1 rfl) (Cells.flat _)) (hL48.argO (dk := Eu) hp49 [] rfl 4 rfl rfl (Ow.weak hL2.env.size h14) (me 1 rfl) (Cells.flat _)) (hL48.argO (dk := Fz) hp49 [] rfl 1 rfl rfl h29 (me 1 rfl) (Cells.flat _)) (hL48.tb hp49 hG (me 2 rfl)) (hL48.hFl hp49 (Bg [] rfl)) (hL48.into hp49 _) r50 hv51) ?_
   rintro _ w59 ⟨A52, n53, c54, cs57, rfl, hM60, h55, hC58⟩
   obtain ⟨sb63, hL61, hv62⟩ := hL48.callB (Sl := ([] : List C9)) hp49 hM60 F (Bg [] rfl) trivial
   have hC58 : Cells Pi (Sm w.heap.size F w59 sb63).w (Sm w.heap.size F w59 sb63).av r50 cs57 := Cells.mono hv62 hC58
   refine ⟨_, _, _, rfl, hL61, ?_⟩
   refine Aa 3 rfl (Af rfl) gn rfl <| Ak 4 rfl <| Ai rfl <| Ad rfl rfl <| Aa 0 rfl (La [.slice A6 n7 c8, .slice A11 n12 c13] 3 Rt rfl rfl rfl rfl) gn rfl ?_
   obtain ⟨r68, hv69, h⟩ := h
   refine Cj 1 rfl (D6 [.agg #[.slice A6 n7 c8, .slice A11 n12 c13]] rfl Tryd.func25 rfl rfl rfl fun w65 hL66 => ?_) gn
   have hp67 := pmI hL66 .n (.c 0 rfl (.c 1 rfl (.c 2 rfl (.c 3 rfl (.c 4 rfl (.c 5 rfl .n)))))) (by kernel_rfl)
   refine Calls.mono (Y0 w65 (Fl ([] : List C9)) r4.1 A6 n7 c8 A11 n12 c13 (hL66.argO (dk := Di) hp67 [] rfl 4 rfl rfl (Ow.weak hL2.env.size h9) (me 2 rfl) (Cells.flat _)) (hL66.argO (dk := Eu) hp67 [] rfl 5 rfl rfl (Ow.weak hL2.env.size h14) (me 2 rfl) (Cells.flat _)) (hL66.tb hp67 hG (me 3 rfl)) (hL66.hFl hp67 (Bg [] rfl)) (hL66.into hp67 _) r68 hv69) ?_
   rintro _ w70 ⟨rfl, hM71⟩
   have hL72 := hL66.call hp67 hM71
   refine ⟨_, _, _, rfl, hL72, ?_⟩
   refine Aa 2 rfl (Ae rfl) gn rfl <| Aa 3 rfl (Ey rfl rfl) gn rfl <| Aa 4 rfl (Ey rfl rfl) gn rfl <| Aa 5 rfl (Af rfl) gn rfl <| Aa 6 rfl (Af rfl) gn rfl <| Ak 7 rfl <| Ai rfl <| Ad rfl rfl <| Aa 0 rfl (Ae rfl) gn rfl <| Aa 1 rfl (Dy un_31 rfl (Ow.weak hL31.env.size h38).hq) gn rfl <| Aa 2 rfl (Bh rfl rfl rfl) gn rfl <| Aa 3 rfl (Ae rfl) gn rfl ?_
   by_cases hp73 : (r33.length : Int) = 1
   ·have h := Aq hp73 h
    refine Bl 50 rfl ((eqi hp73)) <| Aa 4 rfl (Ae rfl) (gy 50 rfl rfl) rfl ?_
    obtain ⟨hb74, h⟩ := h
    obtain ⟨ce75, hK76, ht77, hg78⟩ := Cells.get hC41 hb74
    obtain ⟨A79, n80, c81, rfl, h82⟩ := hK76
    refine Aa 5 rfl (Gl slE_31 rfl rfl (Ow.weak hL31.env.size h38) hb74) (gy 50 rfl rfl) rfl <| Aa 6 rfl (Oi fo_38_0 rfl) (gy 50 rfl rfl) rfl <| Aa 7 rfl (Zf (.slice A79 n80 c81) 1 Xan rfl rfl (hg78 0 _ rfl)) (gy 50 rfl rfl) rfl ?_
    refine Cj 8 rfl (Ib (xs := ([0, 1] : List Int)) [.int .i64 0, .int .i64 1] bs_36_2 rfl (by kernel_rfl) rfl rfl rfl rfl fun gb84 h85 => ?_) (gy 50 rfl rfl)
    obtain ⟨r89, hv90, h⟩ := h
    refine Cj 9 rfl (D6 [.slice A79 n80 c81, .slice (some ⟨gb84, 0, none⟩) 2 2] rfl Tryd.func36 rfl rfl rfl fun w86 hL87 => ?_) (gy 50 rfl rfl)
    have hp88 := pmI hL87 .n (.c 0 rfl (.c 1 rfl (.c 2 rfl (.c 3 rfl (.c 4 rfl (.c 5 rfl (.c 6 rfl .n))))))) (by kernel_rfl)
    refine Calls.mono (Wl w86 (Fl ([] : List C9)) ((ix r33 0).nodes) ([0, 1] : List Int) A79 n80 c81 (some ⟨gb84, 0, none⟩) 2 2 (Rw.mono h82 (hL87.toSt hp88 (me 1 rfl))) (hL87.argO (dk := (G6 .i64)) hp88 [] rfl 0 rfl rfl h85 (me 2 rfl) (Cells.flat _)) (hL87.hFl hp88 (Bg [] rfl)) (hL87.into hp88 _) r89 hv90) ?_
    rintro _ w91 ⟨rfl, hM92⟩
    have hL93 := hL87.call hp88 hM92
    refine ⟨_, _, _, rfl, hL93, ?_⟩
    refine Aa 10 rfl (Az (b := true) rfl rfl) gn rfl <| Aa 11 rfl (Ae rfl) gn rfl ?_
    by_cases hp94 : r89 = true
    ·have h := Aq hp94 h
     refine Bl 58 rfl (hp94) <| Aa 12 rfl (Ae rfl) (gy 58 rfl rfl) rfl <| Aa 13 rfl (Dy un_31 rfl (Ow.weak hL48.env.size h55).hq) (gy 58 rfl rfl) rfl <| Aa 14 rfl (Bh rfl rfl rfl) (gy 58 rfl rfl) rfl <| Aa 15 rfl (Az (b := true) rfl rfl) gn rfl <| Aa 16 rfl (Ae rfl) gn rfl ?_
     by_cases hp95 : (r50.length : Int) = 0
     ·have h := Aq hp95 h
      refine Bl 63 rfl ((eqi hp95)) <| Aa 17 rfl (Ae rfl) (gy 63 rfl rfl) rfl <| Aa 18 rfl (Bh rfl rfl rfl) (gy 63 rfl rfl) rfl <| Aa 19 rfl (Az (b := true) rfl rfl) gn rfl <| Aa 20 rfl (Ae rfl) gn rfl ?_
      by_cases hp96 : r68.2 = 0
      ·have h := Aq hp96 h
       refine Bl 67 rfl ((eqi hp96)) <| Aa 21 rfl (Ae rfl) (gy 67 rfl rfl) rfl <| Aa 22 rfl (Y2 rfl rfl) (gy 67 rfl rfl) rfl <| Aa 23 rfl (Az (b := true) rfl rfl) gn rfl <| Aa 24 rfl (Af rfl) gn rfl <| Ak 25 rfl ?_
       refine Bo [.bool (seq r68.1 (⟨#[40, 32, 115, 32, 40, 32, 97, 32, 41, 32, 64, 32, 120, 32, 41, 32, 119, 104, 101, 110, 32, 64, 32, 120, 32, 61, 32, 34, 121, 34]⟩ : ByteArray))] rfl Tryd.func27 rfl (.tmp rfl (.nil)) fun wr hLr => ?_
       have hMr := hLr.pk0 (.c 3 rfl .n)
       show Fq w F  r (.returned (Ce [.bool (seq r68.1 (⟨#[40, 32, 115, 32, 40, 32, 97, 32, 41, 32, 64, 32, 120, 32, 41, 32, 119, 104, 101, 110, 32, 64, 32, 120, 32, 61, 32, 34, 121, 34]⟩ : ByteArray))])) wr
       rw [h]
       exact ⟨rfl, hMr⟩
      ·have h := Ar hp96 h
       refine Bl 67 rfl ((nei hp96)) <| Ac 21 rfl (ps 67 rfl rfl rfl) <| Ac 22 rfl (ps 67 rfl rfl rfl) <| Aa 23 rfl (Az (b := false) rfl rfl) gn rfl <| Aa 24 rfl (Af rfl) gn rfl <| Ak 25 rfl ?_
       refine Bo [.bool false] rfl Tryd.func27 rfl (.tmp rfl (.nil)) fun wr hLr => ?_
       have hMr := hLr.pk0 (.c 3 rfl .n)
       show Fq w F  r (.returned (Ce [.bool false])) wr
       rw [h]
       exact ⟨rfl, hMr⟩
     ·have h := Ar hp95 h
      refine Bl 63 rfl ((nei hp95)) <| Ac 17 rfl (ps 63 rfl rfl rfl) <| Ac 18 rfl (ps 63 rfl rfl rfl) <| Aa 19 rfl (Az (b := false) rfl rfl) gn rfl <| Aa 20 rfl (Ae rfl) gn rfl <| Ac 21 rfl (ps 67 rfl rfl rfl) <| Ac 22 rfl (ps 67 rfl rfl rfl) <| Aa 23 rfl (Az (b := false) rfl rfl) gn rfl <| Aa 24 rfl (Af rfl) gn rfl <| Ak 25 rfl ?_
      refine Bo [.bool false] rfl Tryd.func27 rfl (.tmp rfl (.nil)) fun wr hLr => ?_
      have hMr := hLr.pk0 (.c 3 rfl .n)
      show Fq w F  r (.returned (Ce [.bool false])) wr
      rw [h]
      exact ⟨rfl, hMr⟩
    ·have h := Ar hp94 h
     refine Bl 58 rfl ((bf hp94)) <| Ac 12 rfl (ps 58 rfl rfl rfl) <| Ac 13 rfl (ps 58 rfl rfl rfl) <| Ac 14 rfl (ps 58 rfl rfl rfl) <| Aa 15 rfl (Az (b := false) rfl rfl) gn rfl <| Aa 16 rfl (Ae rfl) gn rfl <| Ac 17 rfl (ps 63 rfl rfl rfl) <| Ac 18 rfl (ps 63 rfl rfl rfl) <| Aa 19 rfl (Az (b := false) rfl rfl) gn rfl <| Aa 20 rfl (Ae rfl) gn rfl <| Ac 21 rfl (ps 67 rfl rfl rfl) <| Ac 22 rfl (ps 67 rfl rfl rfl) ?_
     refine Aa 23 rfl (Az (b := false) rfl rfl) gn rfl <| Aa 24 rfl (Af rfl) gn rfl <| Ak 25 rfl ?_
     refine Bo [.bool false] rfl Tryd.func27 rfl (.tmp rfl (.nil)) fun wr hLr => ?_
     have hMr := hLr.pk0 (.c 3 rfl .n)
     show Fq w F  r (.returned (Ce [.bool false])) wr
     rw [h]
     exact ⟨rfl, hMr⟩
   ·have h := Ar hp73 h
    refine Bl 50 rfl ((nei hp73)) <| Ac 4 rfl (ps 50 rfl rfl rfl) <| Ac 5 rfl (ps 50 rfl rfl rfl) <| Ac 6 rfl (ps 50 rfl rfl rfl) <| Ac 7 rfl (ps 50 rfl rfl rfl) <| Ac 8 rfl (ps 50 rfl rfl rfl) <| Ac 9 rfl (ps 50 rfl rfl rfl) <| Aa 10 rfl (Az (b := false) rfl rfl) gn rfl <| Aa 11 rfl (Ae rfl) gn rfl <| Ac 12 rfl (ps 58 rfl rfl rfl) <| Ac 13 rfl (ps 58 rfl rfl rfl) <| Ac 14 rfl (ps 58 rfl rfl rfl) ?_
    refine Aa 15 rfl (Az (b := false) rfl rfl) gn rfl <| Aa 16 rfl (Ae rfl) gn rfl <| Ac 17 rfl (ps 63 rfl rfl rfl) <| Ac 18 rfl (ps 63 rfl rfl rfl) <| Aa 19 rfl (Az (b := false) rfl rfl) gn rfl <| Aa 20 rfl (Ae rfl) gn rfl <| Ac 21 rfl (ps 67 rfl rfl rfl) <| Ac 22 rfl (ps 67 rfl rfl rfl) <| Aa 23 rfl (Az (b := false) rfl rfl) gn rfl <| Aa 24 rfl (Af rfl) gn rfl <| Ak 25 rfl ?_
    refine Bo [.bool false] rfl Tryd.func27 rfl (.tmp rfl (.nil)) fun wr hLr => ?_
    have hMr := hLr.pk0 (.c 3 rfl .n)
    show Fq w F  r (.returned (Ce [.bool false])) wr
    rw [h]
    exact ⟨rfl, hMr⟩
 refine Ad rfl rfl <| Aa 0 rfl (Ae rfl) gn rfl <| Aa 1 rfl (Bh rfl rfl rfl) gn rfl <| Aa 2 rfl (Ae rfl) gn rfl ?_
 by_cases hp97 : r4.2.1 = 0
 ·have h := Aq hp97 h
  refine Bl 16 rfl ((Xaf hp97)) <| Aa 3 rfl (Ae rfl) (gy 16 rfl rfl) rfl <| Aa 4 rfl (Bh rfl rfl rfl) (gy 16 rfl rfl) rfl <| Aa 5 rfl (Az (b := false) rfl rfl) gn rfl <| Aa 6 rfl (Ae rfl) gn rfl ?_
  by_cases hp98 : r4.2.2 = 0
  ·have h := Aq hp98 h
   refine Bl 20 rfl ((Xaf hp98)) <| Aa 7 rfl (Aw J9 rfl) (gy 20 rfl rfl) rfl <| Aa 8 rfl (Ap 0 Qj rfl rfl rfl) (gy 20 rfl rfl) rfl <| Aa 9 rfl (Dy Xp rfl (Ow.weak hL2.env.size h9).hq) (gy 20 rfl rfl) rfl <| Aa 10 rfl (Bh rfl rfl rfl) (gy 20 rfl rfl) rfl <| Aa 11 rfl (Az (b := false) rfl rfl) gn rfl <| Aa 12 rfl (Ae rfl) gn rfl ?_
   by_cases hp99 : (r4.1.nodes.length : Int) = 2
   ·have h := Aq hp99 h
    refine Bl 26 rfl ((Xaf hp99)) <| Aa 13 rfl (Aw Lp rfl) (gy 26 rfl rfl) rfl <| Aa 14 rfl (Ap 0 Vy rfl rfl rfl) (gy 26 rfl rfl) rfl <| Aa 15 rfl (Dy Xa6 rfl (Ow.weak hL2.env.size h14).hq) (gy 26 rfl rfl) rfl <| Aa 16 rfl (Bh rfl rfl rfl) (gy 26 rfl rfl) rfl <| Aa 17 rfl (Az (b := false) rfl rfl) gn rfl <| Ak 18 rfl ?_
    exact D7 [0, 1] (j1 ((r4.1.conds.length : Int) != 1) h) ⟨rfl, rfl, trivial⟩ (.cons_cons _ (.cons_cons _ (.cons_cons _ (.slnil)))) rfl
   ·have h := Ar hp99 h
    refine Bl 26 rfl ((Zz hp99)) <| Ac 13 rfl (ps 26 rfl rfl rfl) <| Ac 14 rfl (ps 26 rfl rfl rfl) <| Ac 15 rfl (ps 26 rfl rfl rfl) <| Ac 16 rfl (ps 26 rfl rfl rfl) <| Aa 17 rfl (Az (b := true) rfl rfl) gn rfl <| Ak 18 rfl ?_
    exact D7 [0, 1] (j1 true h) ⟨rfl, rfl, trivial⟩ (.cons_cons _ (.cons_cons _ (.cons_cons _ (.slnil)))) rfl
  ·have h := Ar hp98 h
   refine Bl 20 rfl ((Zz hp98)) <| Ac 7 rfl (ps 20 rfl rfl rfl) <| Ac 8 rfl (ps 20 rfl rfl rfl) <| Ac 9 rfl (ps 20 rfl rfl rfl) <| Ac 10 rfl (ps 20 rfl rfl rfl) <| Aa 11 rfl (Az (b := true) rfl rfl) gn rfl <| Aa 12 rfl (Ae rfl) gn rfl <| Ac 13 rfl (ps 26 rfl rfl rfl) <| Ac 14 rfl (ps 26 rfl rfl rfl) <| Ac 15 rfl (ps 26 rfl rfl rfl) <| Ac 16 rfl (ps 26 rfl rfl rfl) <| Aa 17 rfl (Az (b := true) rfl rfl) gn rfl ?_
   refine Ak 18 rfl ?_
   exact D7 [0, 1] (j1 true h) ⟨rfl, rfl, trivial⟩ (.cons_cons _ (.cons_cons _ (.cons_cons _ (.slnil)))) rfl
 ·have h := Ar hp97 h
  refine Bl 16 rfl ((Zz hp97)) <| Ac 3 rfl (ps 16 rfl rfl rfl) <| Ac 4 rfl (ps 16 rfl rfl rfl) <| Aa 5 rfl (Az (b := true) rfl rfl) gn rfl <| Aa 6 rfl (Ae rfl) gn rfl <| Ac 7 rfl (ps 20 rfl rfl rfl) <| Ac 8 rfl (ps 20 rfl rfl rfl) <| Ac 9 rfl (ps 20 rfl rfl rfl) <| Ac 10 rfl (ps 20 rfl rfl rfl) <| Aa 11 rfl (Az (b := true) rfl rfl) gn rfl <| Aa 12 rfl (Ae rfl) gn rfl <| Ac 13 rfl (ps 26 rfl rfl rfl) ?_
  refine Ac 14 rfl (ps 26 rfl rfl rfl) <| Ac 15 rfl (ps 26 rfl rfl rfl) <| Ac 16 rfl (ps 26 rfl rfl rfl) <| Aa 17 rfl (Az (b := true) rfl rfl) gn rfl <| Ak 18 rfl ?_
  exact D7 [0, 1] (j1 true h) ⟨rfl, rfl, trivial⟩ (.cons_cons _ (.cons_cons _ (.cons_cons _ (.slnil)))) rfl
noncomputable abbrev q6c12 := Code.snd (Code.snd (Code.snd (Code.snd (Dp Tryd.f6))))
noncomputable abbrev q6c22 := Code.snd (Code.snd (Code.snd q6c12))
noncomputable abbrev q6c24 := Code.snd (Code.fst (Code.snd (Code.snd q6c12)))
noncomputable abbrev q6c32 := Code.snd (Code.fst (Code.snd (Code.fst (Code.snd (Code.snd (Code.snd (Dp Tryd.f6)))))))
abbrev E5 (w : World) (F : Nat → Prop) (r : Bool) : Ending → World → Prop := fun e w' => e = .returned (.bool r) ∧ B.Loc w w' [] [St w []]
noncomputable abbrev Nq (w : World) (F : Nat → Prop) (r : Bool) : Cx := ⟨Tryd.prog, 6, Tryd.f6, 75, E5 w F  r, w⟩
theorem Vj (w : World) (F : Nat → Prop) (x1 : ByteArray) (hG : Tb Tryd.prog (St w [])) (hF : ∀ b, F b → b < w.heap.size ∧ ∀ o ∈ ([] : List (List Nat)), b ∉ o) (hL0 : B.Loc w w [] [Sm w.heap.size F w [], St w []]) (r : Bool) (h : Kw x1 r) : Calls Tryd.prog 6 #[.string x1] w (E5 w F  r) := by
 unfold Kw at h
 refine Cb (vs := [.string x1]) 75 Tryd.func6 rfl Tryd.ntmps6 rfl hL0 ?_
 show G (Nq w F r) _ _ _ _
 refine Ai rfl <| Ad rfl rfl <| Aa 0 rfl (Af rfl) gn rfl <| Ak 1 rfl <| Ai rfl <| Ai rfl <| Ad rfl rfl ?_
 obtain ⟨r5, hv6, h⟩ := h
 refine Cj 0 rfl (D6 [] rfl Tryd.func27 rfl rfl rfl fun w2 hL3 => ?_) gn
 have hp4 := pmI hL3 .n .n (by kernel_rfl)
 refine Calls.mono (Xe w2 (Fl ([] : List C9)) (hL3.tb hp4 hG (me 1 rfl)) (hL3.hFl hp4 (Bg [] rfl)) (hL3.into hp4 _) r5 hv6) ?_
 rintro _ w7 ⟨rfl, hM8⟩
 have hL9 := hL3.call hp4 hM8
 refine ⟨_, _, _, rfl, hL9, ?_⟩
 refine Aa 1 rfl (Qg rfl) gn rfl <| Ak 2 rfl ?_
 by_cases hp10 : r5 = true
 ·have h := Aq hp10 h
  refine Bj rfl _ rfl ((nf hp10)) <| Cf rfl <| Ai rfl <| Ad rfl rfl <| Aa 0 rfl (Ae rfl) gn rfl ?_
  obtain ⟨r14, hv15, h⟩ := h
  refine Cj 1 rfl (D6 [.string x1] rfl Tryd.func28 rfl rfl rfl fun w11 hL12 => ?_) gn
  have hp13 := pmI hL12 .n .n (by kernel_rfl)
  refine Calls.mono (Uc w11 (Fl ([] : List C9)) x1 (hL12.hFl hp13 (Bg [] rfl)) (hL12.into hp13 _) r14 hv15) ?_
  rintro _ w26 ⟨A16, n17, c18, A21, n22, c23, rfl, hM27, h19, h24⟩
  have hL28 := hL12.call hp13 hM27
  refine ⟨_, _, _, rfl, hL28, ?_⟩
  refine Aa 2 rfl (Ae rfl) gn rfl <| Aa 3 rfl (Ey rfl rfl) gn rfl <| Aa 4 rfl (Ey rfl rfl) gn rfl <| Aa 5 rfl (Ey rfl rfl) gn rfl ?_
  refine Cj 6 rfl (Gp [.slice none 0 0, .slice none 0 0] zr_25 rfl fun gb29 => ?_) gn
  refine Cj 7 rfl (Fg (vs := [.slice A16 n17 c18, .slice A21 n22 c23]) (cs' := [.slice A16 n17 c18, .slice A21 n22 c23]) (M' := [.box gb29 25 [.slice A16 n17 c18, .slice A21 n22 c23], .own (.slice A16 n17 c18) 45 5 n17 (r14.1.nodes.flatMap Am), .own (.slice A21 n22 c23) 47 4 n22 (r14.1.conds.flatMap Bf)]) 0 Xgq rfl rfl rfl rfl rfl rfl rfl rfl rfl ?_) gn
  refine Aa 8 rfl (Af rfl) gn rfl <| Aa 9 rfl (Af rfl) gn rfl <| Ak 10 rfl <| Ai rfl <| Ai rfl <| Ad rfl rfl <| Aa 0 rfl (Ae rfl) gn rfl <| Aa 1 rfl (Bh rfl rfl rfl) gn rfl <| Ak 2 rfl ?_
  by_cases hp31 : r14.2.1 = 0
  ·have h := Aq hp31 h
   refine Bj rfl _ rfl ((Xaf hp31)) <| Cf rfl <| Ai rfl <| Ad rfl rfl <| Aa 0 rfl (La [.slice A16 n17 c18, .slice A21 n22 c23] 0 Rt rfl rfl rfl rfl) gn rfl ?_
   obtain ⟨r35, hv36, h⟩ := h
   refine Cj 1 rfl (D6 [.agg #[.slice A16 n17 c18, .slice A21 n22 c23]] rfl Tryd.func25 rfl rfl rfl fun w32 hL33 => ?_) gn
   have hp34 := pmI hL33 .n (.c 0 rfl (.c 1 rfl (.c 2 rfl .n))) (by kernel_rfl)
   refine Calls.mono (Y0 w32 (Fl ([] : List C9)) r14.1 A16 n17 c18 A21 n22 c23 (hL33.argO (dk := Di) hp34 [] rfl 1 rfl rfl (Ow.weak hL12.env.size h19) (me 0 rfl) (Cells.flat _)) (hL33.argO (dk := Eu) hp34 [] rfl 2 rfl rfl (Ow.weak hL12.env.size h24) (me 0 rfl) (Cells.flat _)) (hL33.tb hp34 hG (me 1 rfl)) (hL33.hFl hp34 (Bg [] rfl)) (hL33.into hp34 _) r35 hv36) ?_
   rintro _ w37 ⟨rfl, hM38⟩
   have hL39 := hL33.call hp34 hM38
   refine ⟨_, _, _, rfl, hL39, ?_⟩
   refine Aa 2 rfl (Ae rfl) gn rfl <| Aa 3 rfl (Ey rfl rfl) gn rfl <| Aa 4 rfl (Ey rfl rfl) gn rfl <| Aa 5 rfl (Af rfl) gn rfl <| Aa 6 rfl (Af rfl) gn rfl <| Ak 7 rfl <| Ai rfl <| Ad rfl rfl <| Aa 0 rfl (Ae rfl) gn rfl ?_
   obtain ⟨r43, hv44, h⟩ := h
   refine Cj 1 rfl (D6 [.string r35.1] rfl Tryd.func28 rfl rfl rfl fun w40 hL41 => ?_) gn
   have hp42 := pmI hL41 .n (.c 0 rfl (.c 1 rfl (.c 2 rfl .n))) (by kernel_rfl)
   refine Calls.mono (Uc w40 (Fl ([] : List C9)) r35.1 (hL41.hFl hp42 (Bg [] rfl)) (hL41.into hp42 _) r43 hv44) ?_
   rintro _ w55 ⟨A45, n46, c47, A50, n51, c52, rfl, hM56, h48, h53⟩
   have hL57 := hL41.call hp42 hM56
   refine ⟨_, _, _, rfl, hL57, ?_⟩
   refine Aa 2 rfl (Ae rfl) gn rfl <| Aa 3 rfl (Ey rfl rfl) gn rfl <| Aa 4 rfl (Ey rfl rfl) gn rfl <| Aa 5 rfl (Ey rfl rfl) gn rfl ?_
   refine Cj 6 rfl (Gp [.slice none 0 0, .slice none 0 0] zr_25 rfl fun gb58 => ?_) gn
   refine Cj 7 rfl (Fg (vs := [.slice A45 n46 c47, .slice A50 n51 c52]) (cs' := [.slice A45 n46 c47, .slice A50 n51 c52]) (M' := [.box gb58 25 [.slice A45 n46 c47, .slice A50 n51 c52], .own (.slice A45 n46 c47) 45 5 n46 (r43.1.nodes.flatMap Am), .own (.slice A50 n51 c52) 47 4 n51 (r43.1.conds.flatMap Bf), .box gb29 25 [.slice A16 n17 c18, .slice A21 n22 c23], .own (.slice A16 n17 c18) 45 5 n17 (r14.1.nodes.flatMap Am), .own (.slice A21 n22 c23) 47 4 n22 (r14.1.conds.flatMap Bf)]) 0 Xgq rfl rfl rfl rfl rfl rfl rfl rfl rfl ?_) gn
   refine Aa 8 rfl (Af rfl) gn rfl <| Aa 9 rfl (Af rfl) gn rfl <| Ak 10 rfl <| Ai rfl <| Ai rfl ?_
   have j1 : ∀ (x70 : Bool) (h : En r35 r43 r14 x70 r) , G (Nq w F r) [.code q6c24, .code q6c22] [(3, .pointer (some ⟨gb29, 0, none⟩)), (6, .string r35.1), (8, .pointer (some ⟨gb58, 0, none⟩)), (9, .int .i64 r43.2.1), (58, .bool x70)] [.box gb58 25 [.slice A45 n46 c47, .slice A50 n51 c52], .own (.slice A45 n46 c47) 45 5 n46 (r43.1.nodes.flatMap Am), .own (.slice A50 n51 c52) 47 4 n51 (r43.1.conds.flatMap Bf), .box gb29 25 [.slice A16 n17 c18, .slice A21 n22 c23], .own (.slice A16 n17 c18) 45 5 n17 (r14.1.nodes.flatMap Am), .own (.slice A21 n22 c23) 47 4 n22 (r14.1.conds.flatMap Bf)] [Sm w.heap.size F w [], St w []] := by
    intro x70 h
    unfold En at h
    by_cases hp71 : x70 = true
    ·have h := Aq hp71 h
     refine Bz rfl _ rfl (hp71) <| Ai rfl <| Ad rfl rfl <| Aa 0 rfl (Af rfl) gn rfl <| Ak 1 rfl ?_
     refine Bo [.bool false] rfl Tryd.func6 rfl (.tmp rfl (.nil)) fun wr hLr => ?_
     have hMr := hLr.pk0 (.c 1 rfl .n)
     show E5 w F  r (.returned (Ce [.bool false])) wr
     rw [h]
     exact ⟨rfl, hMr⟩
    ·have h := Ar hp71 h
     refine Bj rfl _ rfl ((bf hp71)) <| Cf rfl <| Ai rfl <| Ad rfl rfl <| Aa 0 rfl (Ae rfl) gn rfl <| Aa 1 rfl (P6 Ko rfl) gn rfl <| Aa 2 rfl (Bh rfl rfl rfl) gn rfl <| Aa 3 rfl (Ae rfl) gn rfl ?_
     by_cases hp72 : (r35.1.size : Int) > 16384
     ·have h := Aq hp72 h
      refine Bl 62 rfl ((decide_eq_true hp72)) <| Aa 4 rfl (Ae rfl) (gy 62 rfl rfl) rfl <| Aa 5 rfl (Bh rfl rfl rfl) (gy 62 rfl rfl) rfl <| Aa 6 rfl (Az (b := true) rfl rfl) gn rfl <| Aa 7 rfl (Ae rfl) gn rfl ?_
      by_cases hp73 : r43.2.1 = 80
      ·have h := Aq hp73 h
       refine Bl 66 rfl ((eqi hp73)) <| Ac 8 rfl (ps 66 rfl rfl rfl) <| Ac 9 rfl (ps 66 rfl rfl rfl) <| Ac 10 rfl (ps 66 rfl rfl rfl) <| Ac 11 rfl (pu 69 rfl rfl) <| Ac 12 rfl (pu 69 rfl rfl) <| Ac 13 rfl (pu 69 rfl rfl) <| Ac 14 rfl (ps 66 rfl rfl rfl) <| Aa 15 rfl (Az (b := true) rfl rfl) gn rfl <| Aa 16 rfl (Af rfl) gn rfl <| Ak 17 rfl ?_
       refine Bo [.bool true] rfl Tryd.func6 rfl (.tmp rfl (.nil)) fun wr hLr => ?_
       have hMr := hLr.pk0 (.c 1 rfl .n)
       show E5 w F  r (.returned (Ce [.bool true])) wr
       rw [h]
       exact ⟨rfl, hMr⟩
      ·have h := Ar hp73 h
       refine Bl 66 rfl ((nei hp73)) <| Aa 8 rfl (Ae rfl) (gy 66 rfl rfl) rfl <| Aa 9 rfl (Bh rfl rfl rfl) (gy 66 rfl rfl) rfl <| Aa 10 rfl (Ae rfl) (gy 66 rfl rfl) rfl ?_
       by_cases hp74 : r43.2.1 = 0
       ·have h := Aq hp74 h
        refine Bl 69 rfl ((eqi hp74)) <| Aa 11 rfl (La [.slice A16 n17 c18, .slice A21 n22 c23] 3 Rt rfl rfl rfl rfl) (gy 69 rfl rfl) rfl <| Aa 12 rfl (La [.slice A45 n46 c47, .slice A50 n51 c52] 0 Rt rfl rfl rfl rfl) (gy 69 rfl rfl) rfl ?_
        obtain ⟨r78, hv79, h⟩ := h
        refine Cj 13 rfl (D6 [.agg #[.slice A16 n17 c18, .slice A21 n22 c23], .agg #[.slice A45 n46 c47, .slice A50 n51 c52]] rfl Tryd.func29 rfl rfl rfl fun w75 hL76 => ?_) (gy 69 rfl rfl)
        have hp77 := pmI hL76 .n (.c 0 rfl (.c 1 rfl (.c 2 rfl (.c 3 rfl (.c 4 rfl (.c 5 rfl .n)))))) (by kernel_rfl)
        refine Calls.mono (U2 w75 (Fl ([] : List C9)) r14.1 r43.1 A16 n17 c18 A21 n22 c23 A45 n46 c47 A50 n51 c52 (hL76.argO (dk := Di) hp77 [] rfl 4 rfl rfl (Ow.weak hL12.env.size h19) (me 0 rfl) (Cells.flat _)) (hL76.argO (dk := Eu) hp77 [] rfl 5 rfl rfl (Ow.weak hL12.env.size h24) (me 0 rfl) (Cells.flat _)) (hL76.argO (dk := Di) hp77 [] rfl 1 rfl rfl (Ow.weak hL41.env.size h48) (me 0 rfl) (Cells.flat _)) (hL76.argO (dk := Eu) hp77 [] rfl 2 rfl rfl (Ow.weak hL41.env.size h53) (me 0 rfl) (Cells.flat _)) (hL76.hFl hp77 (Bg [] rfl)) (hL76.into hp77 _) r78 hv79) ?_
        rintro _ w80 ⟨rfl, hM81⟩
        have hL82 := hL76.call hp77 hM81
        refine ⟨_, _, _, rfl, hL82, ?_⟩
        refine Aa 14 rfl (Az (b := true) rfl rfl) (gy 66 rfl rfl) rfl <| Aa 15 rfl (Az (b := false) rfl rfl) gn rfl <| Aa 16 rfl (Af rfl) gn rfl <| Ak 17 rfl ?_
        refine Bo [.bool r78] rfl Tryd.func6 rfl (.tmp rfl (.nil)) fun wr hLr => ?_
        have hMr := hLr.pk0 (.c 1 rfl .n)
        show E5 w F  r (.returned (Ce [.bool r78])) wr
        rw [h]
        exact ⟨rfl, hMr⟩
       ·have h := Ar hp74 h
        refine Bl 69 rfl ((nei hp74)) <| Ac 11 rfl (ps 69 rfl rfl rfl) <| Ac 12 rfl (ps 69 rfl rfl rfl) <| Ac 13 rfl (ps 69 rfl rfl rfl) <| Aa 14 rfl (Az (b := false) rfl rfl) (gy 66 rfl rfl) rfl <| Aa 15 rfl (Az (b := false) rfl rfl) gn rfl <| Aa 16 rfl (Af rfl) gn rfl <| Ak 17 rfl ?_
        refine Bo [.bool false] rfl Tryd.func6 rfl (.tmp rfl (.nil)) fun wr hLr => ?_
        have hMr := hLr.pk0 (.c 1 rfl .n)
        show E5 w F  r (.returned (Ce [.bool false])) wr
        rw [h]
        exact ⟨rfl, hMr⟩
     ·have h := Ar hp72 h
      refine Bl 62 rfl ((decide_eq_false hp72)) <| Ac 4 rfl (ps 62 rfl rfl rfl) <| Ac 5 rfl (ps 62 rfl rfl rfl) <| Aa 6 rfl (Az (b := false) rfl rfl) gn rfl <| Aa 7 rfl (Ae rfl) gn rfl <| Aa 8 rfl (Ae rfl) (gy 66 rfl rfl) rfl <| Aa 9 rfl (Bh rfl rfl rfl) (gy 66 rfl rfl) rfl <| Aa 10 rfl (Ae rfl) (gy 66 rfl rfl) rfl ?_
      by_cases hp83 : r43.2.1 = 0
      ·have h := Aq hp83 h
       refine Bl 69 rfl ((eqi hp83)) <| Aa 11 rfl (La [.slice A16 n17 c18, .slice A21 n22 c23] 3 Rt rfl rfl rfl rfl) (gy 69 rfl rfl) rfl <| Aa 12 rfl (La [.slice A45 n46 c47, .slice A50 n51 c52] 0 Rt rfl rfl rfl rfl) (gy 69 rfl rfl) rfl ?_
       obtain ⟨r87, hv88, h⟩ := h
       refine Cj 13 rfl (D6 [.agg #[.slice A16 n17 c18, .slice A21 n22 c23], .agg #[.slice A45 n46 c47, .slice A50 n51 c52]] rfl Tryd.func29 rfl rfl rfl fun w84 hL85 => ?_) (gy 69 rfl rfl)
       have hp86 := pmI hL85 .n (.c 0 rfl (.c 1 rfl (.c 2 rfl (.c 3 rfl (.c 4 rfl (.c 5 rfl .n)))))) (by kernel_rfl)
       refine Calls.mono (U2 w84 (Fl ([] : List C9)) r14.1 r43.1 A16 n17 c18 A21 n22 c23 A45 n46 c47 A50 n51 c52 (hL85.argO (dk := Di) hp86 [] rfl 4 rfl rfl (Ow.weak hL12.env.size h19) (me 0 rfl) (Cells.flat _)) (hL85.argO (dk := Eu) hp86 [] rfl 5 rfl rfl (Ow.weak hL12.env.size h24) (me 0 rfl) (Cells.flat _)) (hL85.argO (dk := Di) hp86 [] rfl 1 rfl rfl (Ow.weak hL41.env.size h48) (me 0 rfl) (Cells.flat _)) (hL85.argO (dk := Eu) hp86 [] rfl 2 rfl rfl (Ow.weak hL41.env.size h53) (me 0 rfl) (Cells.flat _)) (hL85.hFl hp86 (Bg [] rfl)) (hL85.into hp86 _) r87 hv88) ?_
       rintro _ w89 ⟨rfl, hM90⟩
       have hL91 := hL85.call hp86 hM90
       refine ⟨_, _, _, rfl, hL91, ?_⟩
       refine Aa 14 rfl (Az (b := true) rfl rfl) (gy 66 rfl rfl) rfl <| Aa 15 rfl (Az (b := false) rfl rfl) gn rfl <| Aa 16 rfl (Af rfl) gn rfl <| Ak 17 rfl ?_
       refine Bo [.bool r87] rfl Tryd.func6 rfl (.tmp rfl (.nil)) fun wr hLr => ?_
       have hMr := hLr.pk0 (.c 1 rfl .n)
       show E5 w F  r (.returned (Ce [.bool r87])) wr
       rw [h]
       exact ⟨rfl, hMr⟩
      ·have h := Ar hp83 h
       refine Bl 69 rfl ((nei hp83)) <| Ac 11 rfl (ps 69 rfl rfl rfl) <| Ac 12 rfl (ps 69 rfl rfl rfl) <| Ac 13 rfl (ps 69 rfl rfl rfl) <| Aa 14 rfl (Az (b := false) rfl rfl) (gy 66 rfl rfl) rfl <| Aa 15 rfl (Az (b := false) rfl rfl) gn rfl <| Aa 16 rfl (Af rfl) gn rfl <| Ak 17 rfl ?_
       refine Bo [.bool false] rfl Tryd.func6 rfl (.tmp rfl (.nil)) fun wr hLr => ?_
       have hMr := hLr.pk0 (.c 1 rfl .n)
       show E5 w F  r (.returned (Ce [.bool false])) wr
       rw [h]
       exact ⟨rfl, hMr⟩
   refine Ad rfl rfl <| Aa 0 rfl (Ae rfl) gn rfl <| Aa 1 rfl (Bh rfl rfl rfl) gn rfl <| Aa 2 rfl (Ae rfl) gn rfl ?_
   by_cases hp92 : r35.2 = 0
   ·have h := Aq hp92 h
    refine Bl 54 rfl ((Xaf hp92)) <| Aa 3 rfl (La [.slice A16 n17 c18, .slice A21 n22 c23] 3 Rt rfl rfl rfl rfl) (gy 54 rfl rfl) rfl ?_
    obtain ⟨r96, hv97, h⟩ := h
    refine Cj 4 rfl (D6 [.agg #[.slice A16 n17 c18, .slice A21 n22 c23]] rfl Tryd.func24 rfl rfl rfl fun w93 hL94 => ?_) (gy 54 rfl rfl)
    have hp95 := pmI hL94 .n (.c 0 rfl (.c 1 rfl (.c 2 rfl (.c 3 rfl (.c 4 rfl (.c 5 rfl .n)))))) (by kernel_rfl)
    refine Calls.mono (Td w93 (Fl ([] : List C9)) r14.1 A16 n17 c18 A21 n22 c23 (hL94.argO (dk := Di) hp95 [] rfl 4 rfl rfl (Ow.weak hL12.env.size h19) (me 0 rfl) (Cells.flat _)) (hL94.argO (dk := Eu) hp95 [] rfl 5 rfl rfl (Ow.weak hL12.env.size h24) (me 0 rfl) (Cells.flat _)) (hL94.tb hp95 hG (me 1 rfl)) (hL94.hFl hp95 (Bg [] rfl)) (hL94.into hp95 _) r96 hv97) ?_
    rintro _ w98 ⟨rfl, hM99⟩
    have hL100 := hL94.call hp95 hM99
    refine ⟨_, _, _, rfl, hL100, ?_⟩
    refine Aa 5 rfl (Qg rfl) (gy 54 rfl rfl) rfl <| Aa 6 rfl (Az (b := false) rfl rfl) gn rfl <| Ak 7 rfl ?_
    exact D7 [0, 1] (j1 (!r96) h) ⟨rfl, rfl, rfl, rfl, rfl, trivial⟩ (.cons_cons _ (.cons_cons _ (.cons_cons _ (.cons_cons _ (.cons_cons _ (.cons_cons _ (.slnil))))))) rfl
   ·have h := Ar hp92 h
    refine Bl 54 rfl ((Zz hp92)) <| Ac 3 rfl (ps 54 rfl rfl rfl) <| Ac 4 rfl (ps 54 rfl rfl rfl) <| Ac 5 rfl (ps 54 rfl rfl rfl) <| Aa 6 rfl (Az (b := true) rfl rfl) gn rfl <| Ak 7 rfl ?_
    exact D7 [0, 1] (j1 true h) ⟨rfl, rfl, rfl, rfl, rfl, trivial⟩ (.cons_cons _ (.cons_cons _ (.cons_cons _ (.cons_cons _ (.cons_cons _ (.cons_cons _ (.slnil))))))) rfl
  ·have h := Ar hp31 h
   refine Bz rfl _ rfl ((Zz hp31)) <| Ai rfl ?_
   have j2 : ∀ (x105 : Bool) (h : Du x105 r) , G (Nq w F r) [.code q6c32, .code q6c12] [(2, .bool x105)] [] [Sm w.heap.size F w [], St w []] := by
    intro x105 h
    unfold Du at h
    refine Bo [.bool x105] rfl Tryd.func6 rfl (.tmp rfl (.nil)) fun wr hLr => ?_
    have hMr := hLr.pk0 (.c 1 rfl .n)
    show E5 w F  r (.returned (Ce [.bool x105])) wr
    rw [h]
    exact ⟨rfl, hMr⟩
   refine Ad rfl rfl <| Aa 0 rfl (Aw J9 rfl) gn rfl <| Aa 1 rfl (Ap 0 Qj rfl rfl rfl) gn rfl <| Aa 2 rfl (Dy Xp rfl (Ow.weak hL12.env.size h19).hq) gn rfl <| Aa 3 rfl (Bh rfl rfl rfl) gn rfl <| Aa 4 rfl (Ae rfl) gn rfl ?_
   by_cases hp106 : (r14.1.nodes.length : Int) = 0
   ·have h := Aq hp106 h
    refine Bl 25 rfl ((eqi hp106)) <| Aa 5 rfl (Aw Lp rfl) (gy 25 rfl rfl) rfl <| Aa 6 rfl (Ap 0 Vy rfl rfl rfl) (gy 25 rfl rfl) rfl <| Aa 7 rfl (Dy Xa6 rfl (Ow.weak hL12.env.size h24).hq) (gy 25 rfl rfl) rfl <| Aa 8 rfl (Bh rfl rfl rfl) (gy 25 rfl rfl) rfl <| Aa 9 rfl (Az (b := true) rfl rfl) gn rfl <| Aa 10 rfl (Ae rfl) gn rfl ?_
    by_cases hp107 : (r14.1.conds.length : Int) = 0
    ·have h := Aq hp107 h
     refine Bl 31 rfl ((eqi hp107)) <| Aa 11 rfl (Ae rfl) (gy 31 rfl rfl) rfl <| Aa 12 rfl (Bh rfl rfl rfl) (gy 31 rfl rfl) rfl <| Aa 13 rfl (Az (b := true) rfl rfl) gn rfl <| Aa 14 rfl (Ae rfl) gn rfl ?_
     by_cases hp108 : r14.2.2 ≥ 0
     ·have h := Aq hp108 h
      refine Bl 35 rfl ((decide_eq_true hp108)) <| Aa 15 rfl (Ae rfl) (gy 35 rfl rfl) rfl <| Aa 16 rfl (Ae rfl) (gy 35 rfl rfl) rfl <| Aa 17 rfl (P6 Ko rfl) (gy 35 rfl rfl) rfl <| Aa 18 rfl (Bh rfl rfl rfl) (gy 35 rfl rfl) rfl <| Aa 19 rfl (Az (b := true) rfl rfl) gn rfl <| Aa 20 rfl (Af rfl) gn rfl <| Ak 21 rfl ?_
      exact D7 [0, 1] (j2 (decide (r14.2.2 ≤ (x1.size : Int))) h) ⟨rfl, trivial⟩ (.cons _ (.cons _ (.cons _ (.slnil)))) rfl
     ·have h := Ar hp108 h
      refine Bl 35 rfl ((decide_eq_false hp108)) <| Ac 15 rfl (ps 35 rfl rfl rfl) <| Ac 16 rfl (ps 35 rfl rfl rfl) <| Ac 17 rfl (ps 35 rfl rfl rfl) <| Ac 18 rfl (ps 35 rfl rfl rfl) <| Aa 19 rfl (Az (b := false) rfl rfl) gn rfl <| Aa 20 rfl (Af rfl) gn rfl <| Ak 21 rfl ?_
      exact D7 [0, 1] (j2 false h) ⟨rfl, trivial⟩ (.cons _ (.cons _ (.cons _ (.slnil)))) rfl
    ·have h := Ar hp107 h
     refine Bl 31 rfl ((nei hp107)) <| Ac 11 rfl (ps 31 rfl rfl rfl) <| Ac 12 rfl (ps 31 rfl rfl rfl) <| Aa 13 rfl (Az (b := false) rfl rfl) gn rfl <| Aa 14 rfl (Ae rfl) gn rfl <| Ac 15 rfl (ps 35 rfl rfl rfl) <| Ac 16 rfl (ps 35 rfl rfl rfl) <| Ac 17 rfl (ps 35 rfl rfl rfl) <| Ac 18 rfl (ps 35 rfl rfl rfl) <| Aa 19 rfl (Az (b := false) rfl rfl) gn rfl <| Aa 20 rfl (Af rfl) gn rfl <| Ak 21 rfl ?_
     exact D7 [0, 1] (j2 false h) ⟨rfl, trivial⟩ (.cons _ (.cons _ (.cons _ (.slnil)))) rfl
   ·have h := Ar hp106 h
    refine Bl 25 rfl ((nei hp106)) <| Ac 5 rfl (ps 25 rfl rfl rfl) <| Ac 6 rfl (ps 25 rfl rfl rfl) <| Ac 7 rfl (ps 25 rfl rfl rfl) <| Ac 8 rfl (ps 25 rfl rfl rfl) <| Aa 9 rfl (Az (b := false) rfl rfl) gn rfl <| Aa 10 rfl (Ae rfl) gn rfl <| Ac 11 rfl (ps 31 rfl rfl rfl) <| Ac 12 rfl (ps 31 rfl rfl rfl) <| Aa 13 rfl (Az (b := false) rfl rfl) gn rfl <| Aa 14 rfl (Ae rfl) gn rfl <| Ac 15 rfl (ps 35 rfl rfl rfl) ?_
    refine Ac 16 rfl (ps 35 rfl rfl rfl) <| Ac 17 rfl (ps 35 rfl rfl rfl) <| Ac 18 rfl (ps 35 rfl rfl rfl) <| Aa 19 rfl (Az (b := false) rfl rfl) gn rfl <| Aa 20 rfl (Af rfl) gn rfl <| Ak 21 rfl ?_
    exact D7 [0, 1] (j2 false h) ⟨rfl, trivial⟩ (.cons _ (.cons _ (.cons _ (.slnil)))) rfl
 ·have h := Ar hp10 h
  refine Bz rfl _ rfl ((nt (bf hp10))) <| Ai rfl <| Ad rfl rfl <| Aa 0 rfl (Af rfl) gn rfl <| Ak 1 rfl ?_
  refine Bo [.bool false] rfl Tryd.func6 rfl (.tmp rfl (.nil)) fun wr hLr => ?_
  have hMr := hLr.pk0 (.c 1 rfl .n)
  show E5 w F  r (.returned (Ce [.bool false])) wr
  rw [h]
  exact ⟨rfl, hMr⟩
end Go.Proofs.YtjookebbmfiidaaDoor.K
