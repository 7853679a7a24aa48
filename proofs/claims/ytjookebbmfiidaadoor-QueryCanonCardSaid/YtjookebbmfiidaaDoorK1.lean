/- What the machine's calls do, function by function, printed by my own tool. Condition of each: its relation holds of the answer, and what is handed in lies in memory as told. -/
import Derived.Test.YtjookebbmfiidaaDoorK0
set_option linter.unusedVariables false
set_option maxRecDepth 100000
set_option maxHeartbeats 4000000
namespace Go.Proofs.YtjookebbmfiidaaDoor.K
open Go.Proofs.YtjookebbmfiidaaDoor.B Go.Proofs.YtjookebbmfiidaaDoor.R Go.RowKit
noncomputable abbrev q54c4 := Code.snd (Code.snd (Dp Tryd.f54))
noncomputable abbrev q54c6 := Code.snd (Code.fst (Code.snd (Dp Tryd.f54)))
noncomputable abbrev Xhc := Code.snd (Code.snd q54c4)
noncomputable abbrev Xdc := Code.fst (Code.fst (Code.snd (Code.fst (Code.snd q54c4))))
abbrev Ns (w : World) (F : Nat → Prop) (r : Int) : Ending → World → Prop := fun e w' => e = .returned (.int .i64 r) ∧ B.Loc w w' [] [St w []]
noncomputable abbrev Pv (w : World) (F : Nat → Prop) (r : Int) : Cx := ⟨Tryd.prog, 54, Tryd.f54, 34, Ns w F  r, w⟩
def Uz (rl : (List Ag) → Int → Int → Prop) : Prop := ∀ (w : World) (F : Nat → Prop) (x1 : List Ag) (x6 : Int) (A2 : Option Addr) (n3 : Nat) (c4 : Nat) (h5 : Rw Di w (St w []).av A2 n3 c4 x1) (hF : ∀ b, F b → b < w.heap.size ∧ ∀ o ∈ ([] : List (List Nat)), b ∉ o) (hL0 : B.Loc w w [] [Sm w.heap.size F w [], St w []]) (r : Int) (h : rl x1 x6 r), Calls Tryd.prog 54 #[.slice A2 n3 c4, .int .i64 x6] w (Ns w F  r)
theorem Xc4 (rc_query_subtree : (List Ag) → Int → Int → Prop) (ih_query_subtree : Uz rc_query_subtree) : Uz (Md rc_query_subtree) := by
 intro w F x1 x6 A2 n3 c4 h5 hF hL0 r h
 unfold Md at h
 refine Cb (vs := [.slice A2 n3 c4, .int .i64 x6]) 34 Tryd.func54 rfl Tryd.ntmps54 rfl hL0 ?_
 show G (Pv w F r) _ _ _ _
 refine Ai rfl <| Ad rfl rfl <| Aa 0 rfl (Af rfl) gn rfl <| Ak 1 rfl <| Ai rfl <| Ai rfl ?_
 have j1 : ∀ (x11 : Bool) (h : Lu x6 x1 rc_query_subtree x11 r) , G (Pv w F r) [.code q54c6, .code q54c4] [(0, .slice A2 n3 c4), (1, .int .i64 x6), (17, .bool x11)] [] [Sm w.heap.size F w [], St w []] := by
  intro x11 h
  unfold Lu at h
  by_cases hp12 : x11 = true
  ·have h := Aq hp12 h
   refine Bz rfl _ rfl (hp12) <| Ai rfl <| Ad rfl rfl <| Aa 0 rfl (Af rfl) gn rfl <| Ak 1 rfl ?_
   refine Bo [.int .i64 (-1)] rfl Tryd.func54 rfl (.tmp rfl (.nil)) fun wr hLr => ?_
   have hMr := hLr.pk0 (.c 1 rfl .n)
   show Ns w F  r (.returned (Ce [.int .i64 (-1)])) wr
   rw [h]
   exact ⟨rfl, hMr⟩
  ·have h := Ar hp12 h
   refine Bj rfl _ rfl ((bf hp12)) <| Cf rfl <| Ai rfl <| Ad rfl rfl <| Aa 0 rfl (Ae rfl) gn rfl <| Aa 1 rfl (Bh rfl rfl rfl) gn rfl <| Aa 2 rfl (Af rfl) gn rfl <| Ak 3 rfl <| Ai rfl <| Ai rfl <| Ad rfl rfl <| Aa 0 rfl (Ae rfl) gn rfl ?_
   refine Aa 1 rfl (Ae rfl) gn rfl ?_
   obtain ⟨hb13, h⟩ := h
   have hr14 := Rw.readF (s := St w []) (hl := Gi) (h1 := I7) h5 hb13
   refine Aa 2 rfl (Gm (s := St w []) X7 rfl rfl h5 hb13) gn rfl <| Aa 3 rfl (Oi Yx rfl) gn rfl <| Aa 4 rfl (L8 (kk := (x6 : Int).toNat * 5) (j := 4) (St w []) Ho rfl hr14 rfl (me 1 rfl)) gn rfl <| Aa 5 rfl (Ae rfl) gn rfl <| Ak 6 rfl <| Dt rfl <| Om rfl ?_
   have key2 : ∀ s, Bv (fun (s : Int × Int) o => Hr x1 x6 rc_query_subtree s.1 s.2 o) s r → (fun (s : Int × Int) => ∀ (_ : Unit), G (Pv w F r) [.code Xdc, .inLoop Xdc, .inBlock 0, .code Xhc] [(0, .slice A2 n3 c4), (5, .int .i64 s.1), (24, .int .i64 ((ix x1 x6).kids)), (25, .int .i64 s.2)] [] [Sm w.heap.size F w [], St w []]) s := by
    intro s hs
    refine Bv.ind (mot := (fun (s : Int × Int) => ∀ (_ : Unit), G (Pv w F r) [.code Xdc, .inLoop Xdc, .inBlock 0, .code Xhc] [(0, .slice A2 n3 c4), (5, .int .i64 s.1), (24, .int .i64 ((ix x1 x6).kids)), (25, .int .i64 s.2)] [] [Sm w.heap.size F w [], St w []])) ?_ hs
    clear hs s
    intro s o1 h hO1
    obtain ⟨x26, x27⟩ := s
    show ∀ (_ : Unit), G (Pv w F r) [.code Xdc, .inLoop Xdc, .inBlock 0, .code Xhc] [(0, .slice A2 n3 c4), (5, .int .i64 x26), (24, .int .i64 ((ix x1 x6).kids)), (25, .int .i64 x27)] [] [Sm w.heap.size F w [], St w []]
    intro _
    have h : Hr x1 x6 rc_query_subtree x26 x27 o1 := h
    unfold Hr at h
    refine Ai rfl <| Ad rfl rfl <| Aa 0 rfl (Bh rfl rfl rfl) gn rfl <| Ak 1 rfl <| Ai rfl ?_
    by_cases hp38 : x27 < (ix x1 x6).kids
    ·have h := Aq hp38 h
     refine Bz rfl _ rfl ((decide_eq_true hp38)) <| Cf rfl <| Ai rfl <| Dt rfl <| Ai rfl <| Ad rfl rfl <| Aa 0 rfl (Ae rfl) gn rfl <| Aa 1 rfl (Ae rfl) gn rfl ?_
     obtain ⟨r42, hv43, h⟩ := h
     refine Cj 2 rfl (D6 [.slice A2 n3 c4, .int .i64 x26] rfl Tryd.func54 rfl rfl rfl fun w39 hL40 => ?_) gn
     have hp41 := pmI hL40 .n .n (by kernel_rfl)
     refine Calls.mono (ih_query_subtree w39 (Fl ([] : List C9)) x1 x26 A2 n3 c4 (Rw.mono h5 (hL40.toSt hp41 (me 1 rfl))) (hL40.hFl hp41 (Bg [] rfl)) (hL40.into hp41 _) r42 hv43) ?_
     rintro _ w44 ⟨rfl, hM45⟩
     have hL46 := hL40.call hp41 hM45
     refine ⟨_, _, _, rfl, hL46, ?_⟩
     refine Aa 3 rfl (Af rfl) gn rfl <| Ak 4 rfl <| Ai rfl <| Ad rfl rfl <| Aa 0 rfl (Ae rfl) gn rfl <| Aa 1 rfl (Bh rfl rfl rfl) gn rfl <| Ak 2 rfl ?_
     by_cases hp47 : r42 < 0
     ·have h := Aq hp47 h
      refine Bz rfl _ rfl ((decide_eq_true hp47)) <| Ai rfl <| Ad rfl rfl <| Aa 0 rfl (Af rfl) gn rfl <| Ak 1 rfl ?_
      have h := Out.inr hO1 h
      refine Bo [.int .i64 (-1)] rfl Tryd.func54 rfl (.tmp rfl (.nil)) fun wr hLr => ?_
      have hMr := hLr.pk0 (.c 1 rfl .n)
      show Ns w F  r (.returned (Ce [.int .i64 (-1)])) wr
      rw [h]
      exact ⟨rfl, hMr⟩
     ·have h := Ar hp47 h
      refine Bj rfl _ rfl ((decide_eq_false hp47)) <| Cf rfl <| D9 <| Ad rfl rfl <| Aa 0 rfl (Bh rfl rfl rfl) gn rfl <| Aa 1 rfl (Ae rfl) gn rfl <| Ak 2 rfl <| Ep ?_
      have ih := Out.inl hO1 h
      exact D7 [0, 1] (ih ()) ⟨rfl, rfl, rfl, rfl, trivial⟩ (.slnil) rfl
    ·have h := Ar hp38 h
     refine Bj rfl _ rfl ((decide_eq_false hp38)) <| Jq [.code Xhc] rfl rfl <| Ai rfl <| Ad rfl rfl <| Aa 0 rfl (Ae rfl) gn rfl <| Aa 1 rfl (Af rfl) gn rfl <| Ak 2 rfl ?_
     have h := Out.inr hO1 h
     refine Bo [.int .i64 x26] rfl Tryd.func54 rfl (.tmp rfl (.nil)) fun wr hLr => ?_
     have hMr := hLr.pk0 (.c 1 rfl .n)
     show Ns w F  r (.returned (Ce [.int .i64 x26])) wr
     rw [h]
     exact ⟨rfl, hMr⟩
   exact D7 [0, 1] (key2 _ h ()) ⟨rfl, rfl, rfl, rfl, trivial⟩ (.slnil) rfl
 refine Ad rfl rfl <| Aa 0 rfl (Ae rfl) gn rfl <| Aa 1 rfl (Ae rfl) gn rfl <| Aa 2 rfl (Dy Xp rfl h5.hq) gn rfl <| Aa 3 rfl (Bh rfl rfl rfl) gn rfl <| Aa 4 rfl (Ae rfl) gn rfl ?_
 by_cases hp48 : x6 ≥ (x1.length : Int)
 ·have h := Aq hp48 h
  refine Bl 10 rfl ((decide_eq_true hp48)) <| Ac 5 rfl (ps 10 rfl rfl rfl) <| Ac 6 rfl (ps 10 rfl rfl rfl) <| Ac 7 rfl (ps 10 rfl rfl rfl) <| Ac 8 rfl (ps 10 rfl rfl rfl) <| Ac 9 rfl (ps 10 rfl rfl rfl) <| Ac 10 rfl (ps 10 rfl rfl rfl) <| Aa 11 rfl (Az (b := true) rfl rfl) gn rfl <| Ak 12 rfl ?_
  exact D7 [0, 1] (j1 true h) ⟨rfl, rfl, rfl, trivial⟩ (.slnil) rfl
 ·have h := Ar hp48 h
  refine Bl 10 rfl ((decide_eq_false hp48)) <| Aa 5 rfl (Ae rfl) (gy 10 rfl rfl) rfl <| Aa 6 rfl (Ae rfl) (gy 10 rfl rfl) rfl ?_
  obtain ⟨hb49, h⟩ := h
  have hr50 := Rw.readF (s := St w []) (hl := Gi) (h1 := I7) h5 hb49
  refine Aa 7 rfl (Gm (s := St w []) X7 rfl rfl h5 hb49) (gy 10 rfl rfl) rfl <| Aa 8 rfl (Oi Yx rfl) (gy 10 rfl rfl) rfl <| Aa 9 rfl (L8 (kk := (x6 : Int).toNat * 5) (j := 4) (St w []) Ho rfl hr50 rfl (me 1 rfl)) (gy 10 rfl rfl) rfl <| Aa 10 rfl (Bh rfl rfl rfl) (gy 10 rfl rfl) rfl <| Aa 11 rfl (Az (b := false) rfl rfl) gn rfl <| Ak 12 rfl ?_
  exact D7 [0, 1] (j1 (decide ((ix x1 x6).kids < 0)) h) ⟨rfl, rfl, rfl, trivial⟩ (.slnil) rfl
theorem Xw : ∀ n, Uz (Nv n)
 | 0 => fun w F x1 x6 A2 n3 c4 h5 hF hL0 r h => h.elim
 | n + 1 => by
  have ih := Xw n
  exact Xc4 _ ih
theorem Xb6 (w : World) (F : Nat → Prop) (x1 : List Ag) (x6 : Int) (A2 : Option Addr) (n3 : Nat) (c4 : Nat) (h5 : Rw Di w (St w []).av A2 n3 c4 x1) (hF : ∀ b, F b → b < w.heap.size ∧ ∀ o ∈ ([] : List (List Nat)), b ∉ o) (hL0 : B.Loc w w [] [Sm w.heap.size F w [], St w []]) (r : Int) (h : Y4 x1 x6 r) : Calls Tryd.prog 54 #[.slice A2 n3 c4, .int .i64 x6] w (Ns w F  r) := by
 obtain ⟨n, h⟩ := h
 exact (Xw n) w F x1 x6 A2 n3 c4 h5 hF hL0 r h
abbrev V7 (w : World) (F : Nat → Prop) (r : Bool) : Ending → World → Prop := fun e w' => e = .returned (.bool r) ∧ B.Loc w w' [] [St w []]
noncomputable abbrev Xgf (w : World) (F : Nat → Prop) (r : Bool) : Cx := ⟨Tryd.prog, 83, Tryd.f83, 9, V7 w F  r, w⟩
theorem Ku (w : World) (F : Nat → Prop) (x1 : Int) (hF : ∀ b, F b → b < w.heap.size ∧ ∀ o ∈ ([] : List (List Nat)), b ∉ o) (hL0 : B.Loc w w [] [Sm w.heap.size F w [], St w []]) (r : Bool) (h : Jv x1 r) : Calls Tryd.prog 83 #[.int .u8 x1] w (V7 w F  r) := by
 unfold Jv at h
 refine Cb (vs := [.int .u8 x1]) 9 Tryd.func83 rfl Tryd.ntmps83 rfl hL0 ?_
 show G (Xgf w F r) _ _ _ _
 refine Ai rfl <| Ad rfl rfl <| Aa 0 rfl (Af rfl) gn rfl <| Ak 1 rfl <| Ai rfl <| Ad rfl rfl <| Aa 0 rfl (Ae rfl) gn rfl <| Aa 1 rfl (Bh rfl rfl rfl) gn rfl <| Aa 2 rfl (Ae rfl) gn rfl ?_
 by_cases hp2 : x1 ≥ 48
 ·have h := Aq hp2 h
  refine Bl 5 rfl ((decide_eq_true hp2)) <| Aa 3 rfl (Ae rfl) (gy 5 rfl rfl) rfl <| Aa 4 rfl (Bh rfl rfl rfl) (gy 5 rfl rfl) rfl <| Aa 5 rfl (Az (b := true) rfl rfl) gn rfl <| Aa 6 rfl (Af rfl) gn rfl <| Ak 7 rfl ?_
  refine Bo [.bool (decide (x1 ≤ 57))] rfl Tryd.func83 rfl (.tmp rfl (.nil)) fun wr hLr => ?_
  have hMr := hLr.pk0 (.c 1 rfl .n)
  show V7 w F  r (.returned (Ce [.bool (decide (x1 ≤ 57))])) wr
  rw [h]
  exact ⟨rfl, hMr⟩
 ·have h := Ar hp2 h
  refine Bl 5 rfl ((decide_eq_false hp2)) <| Ac 3 rfl (ps 5 rfl rfl rfl) <| Ac 4 rfl (ps 5 rfl rfl rfl) <| Aa 5 rfl (Az (b := false) rfl rfl) gn rfl <| Aa 6 rfl (Af rfl) gn rfl <| Ak 7 rfl ?_
  refine Bo [.bool false] rfl Tryd.func83 rfl (.tmp rfl (.nil)) fun wr hLr => ?_
  have hMr := hLr.pk0 (.c 1 rfl .n)
  show V7 w F  r (.returned (Ce [.bool false])) wr
  rw [h]
  exact ⟨rfl, hMr⟩
abbrev J5 (w : World) (F : Nat → Prop) (r : Bool) : Ending → World → Prop := fun e w' => e = .returned (.bool r) ∧ B.Loc w w' [] [St w []]
noncomputable abbrev Xg9 (w : World) (F : Nat → Prop) (r : Bool) : Cx := ⟨Tryd.prog, 82, Tryd.f82, 21, J5 w F  r, w⟩
theorem Tn (w : World) (F : Nat → Prop) (x1 : Int) (hF : ∀ b, F b → b < w.heap.size ∧ ∀ o ∈ ([] : List (List Nat)), b ∉ o) (hL0 : B.Loc w w [] [Sm w.heap.size F w [], St w []]) (r : Bool) (h : Nz x1 r) : Calls Tryd.prog 82 #[.int .u8 x1] w (J5 w F  r) := by
 unfold Nz at h
 refine Cb (vs := [.int .u8 x1]) 21 Tryd.func82 rfl Tryd.ntmps82 rfl hL0 ?_
 show G (Xg9 w F r) _ _ _ _
 refine Ai rfl <| Ad rfl rfl <| Aa 0 rfl (Af rfl) gn rfl <| Ak 1 rfl <| Ai rfl <| Ad rfl rfl <| Aa 0 rfl (Ae rfl) gn rfl <| Aa 1 rfl (Bh rfl rfl rfl) gn rfl <| Aa 2 rfl (Ae rfl) gn rfl ?_
 by_cases hp2 : x1 ≥ 97
 ·have h := Aq hp2 h
  refine Bl 5 rfl ((decide_eq_true hp2)) <| Aa 3 rfl (Ae rfl) (gy 5 rfl rfl) rfl <| Aa 4 rfl (Bh rfl rfl rfl) (gy 5 rfl rfl) rfl <| Aa 5 rfl (Az (b := true) rfl rfl) gn rfl <| Aa 6 rfl (Ae rfl) gn rfl ?_
  by_cases hp3 : x1 ≤ 122
  ·have h := Aq hp3 h
   refine Bl 9 rfl ((decide_eq_true hp3)) <| Ac 7 rfl (ps 9 rfl rfl rfl) <| Ac 8 rfl (ps 9 rfl rfl rfl) <| Ac 9 rfl (ps 9 rfl rfl rfl) <| Ac 10 rfl (pu 12 rfl rfl) <| Ac 11 rfl (pu 12 rfl rfl) <| Ac 12 rfl (ps 9 rfl rfl rfl) <| Aa 13 rfl (Az (b := true) rfl rfl) gn rfl <| Aa 14 rfl (Ae rfl) gn rfl <| Ac 15 rfl (ps 17 rfl rfl rfl) <| Ac 16 rfl (ps 17 rfl rfl rfl) <| Aa 17 rfl (Az (b := true) rfl rfl) gn rfl ?_
   refine Aa 18 rfl (Af rfl) gn rfl <| Ak 19 rfl ?_
   refine Bo [.bool true] rfl Tryd.func82 rfl (.tmp rfl (.nil)) fun wr hLr => ?_
   have hMr := hLr.pk0 (.c 1 rfl .n)
   show J5 w F  r (.returned (Ce [.bool true])) wr
   rw [h]
   exact ⟨rfl, hMr⟩
  ·have h := Ar hp3 h
   refine Bl 9 rfl ((decide_eq_false hp3)) <| Aa 7 rfl (Ae rfl) (gy 9 rfl rfl) rfl <| Aa 8 rfl (Bh rfl rfl rfl) (gy 9 rfl rfl) rfl <| Aa 9 rfl (Ae rfl) (gy 9 rfl rfl) rfl ?_
   by_cases hp4 : x1 ≥ 65
   ·have h := Aq hp4 h
    refine Bl 12 rfl ((decide_eq_true hp4)) <| Aa 10 rfl (Ae rfl) (gy 12 rfl rfl) rfl <| Aa 11 rfl (Bh rfl rfl rfl) (gy 12 rfl rfl) rfl <| Aa 12 rfl (Az (b := true) rfl rfl) (gy 9 rfl rfl) rfl <| Aa 13 rfl (Az (b := false) rfl rfl) gn rfl <| Aa 14 rfl (Ae rfl) gn rfl ?_
    by_cases hp5 : x1 ≤ 90
    ·have h := Aq hp5 h
     refine Bl 17 rfl ((decide_eq_true hp5)) <| Ac 15 rfl (ps 17 rfl rfl rfl) <| Ac 16 rfl (ps 17 rfl rfl rfl) <| Aa 17 rfl (Az (b := true) rfl rfl) gn rfl <| Aa 18 rfl (Af rfl) gn rfl <| Ak 19 rfl ?_
     refine Bo [.bool true] rfl Tryd.func82 rfl (.tmp rfl (.nil)) fun wr hLr => ?_
     have hMr := hLr.pk0 (.c 1 rfl .n)
     show J5 w F  r (.returned (Ce [.bool true])) wr
     rw [h]
     exact ⟨rfl, hMr⟩
    ·have h := Ar hp5 h
     refine Bl 17 rfl ((decide_eq_false hp5)) <| Aa 15 rfl (Ae rfl) (gy 17 rfl rfl) rfl <| Aa 16 rfl (Bh rfl rfl rfl) (gy 17 rfl rfl) rfl <| Aa 17 rfl (Az (b := false) rfl rfl) gn rfl <| Aa 18 rfl (Af rfl) gn rfl <| Ak 19 rfl ?_
     refine Bo [.bool (x1 == 95)] rfl Tryd.func82 rfl (.tmp rfl (.nil)) fun wr hLr => ?_
     have hMr := hLr.pk0 (.c 1 rfl .n)
     show J5 w F  r (.returned (Ce [.bool (x1 == 95)])) wr
     rw [h]
     exact ⟨rfl, hMr⟩
   ·have h := Ar hp4 h
    refine Bl 12 rfl ((decide_eq_false hp4)) <| Ac 10 rfl (ps 12 rfl rfl rfl) <| Ac 11 rfl (ps 12 rfl rfl rfl) <| Aa 12 rfl (Az (b := false) rfl rfl) (gy 9 rfl rfl) rfl <| Aa 13 rfl (Az (b := false) rfl rfl) gn rfl <| Aa 14 rfl (Ae rfl) gn rfl <| Aa 15 rfl (Ae rfl) (gy 17 rfl rfl) rfl <| Aa 16 rfl (Bh rfl rfl rfl) (gy 17 rfl rfl) rfl <| Aa 17 rfl (Az (b := false) rfl rfl) gn rfl <| Aa 18 rfl (Af rfl) gn rfl <| Ak 19 rfl ?_
    refine Bo [.bool (x1 == 95)] rfl Tryd.func82 rfl (.tmp rfl (.nil)) fun wr hLr => ?_
    have hMr := hLr.pk0 (.c 1 rfl .n)
    show J5 w F  r (.returned (Ce [.bool (x1 == 95)])) wr
    rw [h]
    exact ⟨rfl, hMr⟩
 ·have h := Ar hp2 h
  refine Bl 5 rfl ((decide_eq_false hp2)) <| Ac 3 rfl (ps 5 rfl rfl rfl) <| Ac 4 rfl (ps 5 rfl rfl rfl) <| Aa 5 rfl (Az (b := false) rfl rfl) gn rfl <| Aa 6 rfl (Ae rfl) gn rfl <| Aa 7 rfl (Ae rfl) (gy 9 rfl rfl) rfl <| Aa 8 rfl (Bh rfl rfl rfl) (gy 9 rfl rfl) rfl <| Aa 9 rfl (Ae rfl) (gy 9 rfl rfl) rfl ?_
  by_cases hp6 : x1 ≥ 65
  ·have h := Aq hp6 h
   refine Bl 12 rfl ((decide_eq_true hp6)) <| Aa 10 rfl (Ae rfl) (gy 12 rfl rfl) rfl <| Aa 11 rfl (Bh rfl rfl rfl) (gy 12 rfl rfl) rfl <| Aa 12 rfl (Az (b := true) rfl rfl) (gy 9 rfl rfl) rfl <| Aa 13 rfl (Az (b := false) rfl rfl) gn rfl <| Aa 14 rfl (Ae rfl) gn rfl ?_
   by_cases hp7 : x1 ≤ 90
   ·have h := Aq hp7 h
    refine Bl 17 rfl ((decide_eq_true hp7)) <| Ac 15 rfl (ps 17 rfl rfl rfl) <| Ac 16 rfl (ps 17 rfl rfl rfl) <| Aa 17 rfl (Az (b := true) rfl rfl) gn rfl <| Aa 18 rfl (Af rfl) gn rfl <| Ak 19 rfl ?_
    refine Bo [.bool true] rfl Tryd.func82 rfl (.tmp rfl (.nil)) fun wr hLr => ?_
    have hMr := hLr.pk0 (.c 1 rfl .n)
    show J5 w F  r (.returned (Ce [.bool true])) wr
    rw [h]
    exact ⟨rfl, hMr⟩
   ·have h := Ar hp7 h
    refine Bl 17 rfl ((decide_eq_false hp7)) <| Aa 15 rfl (Ae rfl) (gy 17 rfl rfl) rfl <| Aa 16 rfl (Bh rfl rfl rfl) (gy 17 rfl rfl) rfl <| Aa 17 rfl (Az (b := false) rfl rfl) gn rfl <| Aa 18 rfl (Af rfl) gn rfl <| Ak 19 rfl ?_
    refine Bo [.bool (x1 == 95)] rfl Tryd.func82 rfl (.tmp rfl (.nil)) fun wr hLr => ?_
    have hMr := hLr.pk0 (.c 1 rfl .n)
    show J5 w F  r (.returned (Ce [.bool (x1 == 95)])) wr
    rw [h]
    exact ⟨rfl, hMr⟩
  ·have h := Ar hp6 h
   refine Bl 12 rfl ((decide_eq_false hp6)) <| Ac 10 rfl (ps 12 rfl rfl rfl) <| Ac 11 rfl (ps 12 rfl rfl rfl) <| Aa 12 rfl (Az (b := false) rfl rfl) (gy 9 rfl rfl) rfl <| Aa 13 rfl (Az (b := false) rfl rfl) gn rfl <| Aa 14 rfl (Ae rfl) gn rfl <| Aa 15 rfl (Ae rfl) (gy 17 rfl rfl) rfl <| Aa 16 rfl (Bh rfl rfl rfl) (gy 17 rfl rfl) rfl <| Aa 17 rfl (Az (b := false) rfl rfl) gn rfl <| Aa 18 rfl (Af rfl) gn rfl <| Ak 19 rfl ?_
   refine Bo [.bool (x1 == 95)] rfl Tryd.func82 rfl (.tmp rfl (.nil)) fun wr hLr => ?_
   have hMr := hLr.pk0 (.c 1 rfl .n)
   show J5 w F  r (.returned (Ce [.bool (x1 == 95)])) wr
   rw [h]
   exact ⟨rfl, hMr⟩
abbrev Xca (w : World) (F : Nat → Prop) (r : Bool) : Ending → World → Prop := fun e w' => e = .returned (.bool r) ∧ B.Loc w w' [] [St w []]
theorem Z8 (w : World) (F : Nat → Prop) (x1 : ByteArray) (x2 : ByteArray) (hF : ∀ b, F b → b < w.heap.size ∧ ∀ o ∈ ([] : List (List Nat)), b ∉ o) (hL0 : B.Loc w w [] [Sm w.heap.size F w [], St w []]) (r : Bool) (h : V3 x1 x2 r) : Calls Tryd.prog 100 #[.string x1, .string x2] w (Xca w F  r) := by
 unfold V3 at h
 obtain ⟨h1, rfl⟩ := h
 rw [one_byte h1]
 refine Calls.mono (Tryd.strings_Contains_one x1 _ w) ?_
 rintro e w' ⟨rfl, rfl⟩
 exact ⟨rfl, Loc.of_below (Below.refl _ _)⟩
noncomputable abbrev Xbf := Code.snd (Code.snd (Dp Tryd.f78))
noncomputable abbrev Xkk := Code.snd (Code.fst (Code.snd (Code.fst (Code.snd (Code.fst (Code.snd (Dp Tryd.f78)))))))
noncomputable abbrev q78c15 := Code.snd (Code.fst (Code.fst (Code.snd (Code.fst (Code.snd (Code.fst (Code.snd (Dp Tryd.f78))))))))
noncomputable abbrev Xhe := Code.snd Xkk
noncomputable abbrev Xds := Code.fst (Code.fst (Code.snd (Code.fst Xkk)))
noncomputable abbrev Xfo := Code.snd (Code.fst (Code.snd (Code.snd (Code.snd (Code.snd (Code.snd (Code.fst (Code.snd (Code.fst (Code.snd (Dp Tryd.f78)))))))))))
noncomputable abbrev Zj := Code.fst (Code.fst (Code.snd (Code.fst (Code.fst (Code.snd (Code.snd (Code.snd (Code.snd (Code.snd (Code.fst (Code.snd (Code.fst (Code.snd (Dp Tryd.f78))))))))))))))
noncomputable abbrev q78c66 := Code.snd (Code.snd Zj)
noncomputable abbrev q78c72 := Code.snd (Code.fst (Code.snd (Code.fst (Code.fst (Code.snd Zj)))))
abbrev Fv (w : World) (F : Nat → Prop) (r : Bool) : Ending → World → Prop := fun e w' => e = .returned (.bool r) ∧ B.Loc w w' [] [St w []]
noncomputable abbrev Jp (w : World) (F : Nat → Prop) (r : Bool) : Cx := ⟨Tryd.prog, 78, Tryd.f78, 100, Fv w F  r, w⟩
theorem Xt (w : World) (F : Nat → Prop) (x1 : Aj) (hF : ∀ b, F b → b < w.heap.size ∧ ∀ o ∈ ([] : List (List Nat)), b ∉ o) (hL0 : B.Loc w w [] [Sm w.heap.size F w [], St w []]) (r : Bool) (h : U4 x1 r) : Calls Tryd.prog 78 #[.agg #[.int .i64 x1.kind, .string x1.text, .int .i64 x1.n, .int .i64 x1.at_]] w (Fv w F  r) := by
 unfold U4 at h
 refine Cb (vs := [.agg #[.int .i64 x1.kind, .string x1.text, .int .i64 x1.n, .int .i64 x1.at_]]) 100 Tryd.func78 rfl Tryd.ntmps78 rfl hL0 ?_
 show G (Jp w F r) _ _ _ _
 refine Ai rfl <| Ad rfl rfl ?_
 refine Cj 0 rfl (Rq [.int .i64 x1.kind, .string x1.text, .int .i64 x1.n, .int .i64 x1.at_] rfl rfl rfl fun gb2 => ?_) gn
 refine Aa 1 rfl (Af rfl) gn rfl <| Ak 2 rfl <| Ai rfl <| Ai rfl <| Ad rfl rfl <| Aa 0 rfl (Aw Uh rfl) gn rfl <| Aa 1 rfl (Ap 0 Xak rfl rfl rfl) gn rfl <| Ak 2 rfl <| Dt rfl <| Ai rfl <| Ad rfl rfl <| Aa 0 rfl (Bh rfl rfl rfl) gn rfl ?_
 refine Aa 1 rfl (Af rfl) gn rfl <| Ak 2 rfl ?_
 by_cases hp4 : x1.kind = 1
 ·have h := Aq hp4 h
  refine Bz rfl _ rfl ((eqi hp4)) <| Ai rfl <| Ai rfl ?_
  have j1 : ∀ (x17 : Bool) (h : Na x1 x17 r) , G (Jp w F r) [.code q78c15, .code Xkk, .inBlock 0, .code Xbf] [(1, .pointer (some ⟨gb2, 0, none⟩)), (23, .bool x17)] [.box gb2 84 [.int .i64 x1.kind, .string x1.text, .int .i64 x1.n, .int .i64 x1.at_]] [Sm w.heap.size F w [], St w []] := by
   intro x17 h
   unfold Na at h
   by_cases hp18 : x17 = true
   ·have h := Aq hp18 h
    refine Bz rfl _ rfl (hp18) <| Ai rfl <| Ad rfl rfl <| Aa 0 rfl (Af rfl) gn rfl <| Ak 1 rfl ?_
    refine Bo [.bool false] rfl Tryd.func78 rfl (.tmp rfl (.nil)) fun wr hLr => ?_
    have hMr := hLr.pk0 (.c 1 rfl .n)
    show Fv w F  r (.returned (Ce [.bool false])) wr
    rw [h]
    exact ⟨rfl, hMr⟩
   ·have h := Ar hp18 h
    refine Bj rfl _ rfl ((bf hp18)) <| Cf rfl <| Ai rfl <| Ai rfl <| Ad rfl rfl <| Aa 0 rfl (Af rfl) gn rfl <| Ak 1 rfl <| Dt rfl <| Om rfl ?_
    have key2 : ∀ s, Bv (fun (s : Int) o => N9 x1 s o) s r → (fun (s : Int) => ∀ (_ : Unit), G (Jp w F r) [.code Xds, .inLoop Xds, .inBlock 1, .code Xhe, .inBlock 0, .code Xbf] [(1, .pointer (some ⟨gb2, 0, none⟩)), (3, .int .i64 s)] [.box gb2 84 [.int .i64 x1.kind, .string x1.text, .int .i64 x1.n, .int .i64 x1.at_]] [Sm w.heap.size F w [], St w []]) s := by
     intro s hs
     refine Bv.ind (mot := (fun (s : Int) => ∀ (_ : Unit), G (Jp w F r) [.code Xds, .inLoop Xds, .inBlock 1, .code Xhe, .inBlock 0, .code Xbf] [(1, .pointer (some ⟨gb2, 0, none⟩)), (3, .int .i64 s)] [.box gb2 84 [.int .i64 x1.kind, .string x1.text, .int .i64 x1.n, .int .i64 x1.at_]] [Sm w.heap.size F w [], St w []])) ?_ hs
     clear hs s
     intro x40 o1 h hO1
     show ∀ (_ : Unit), G (Jp w F r) [.code Xds, .inLoop Xds, .inBlock 1, .code Xhe, .inBlock 0, .code Xbf] [(1, .pointer (some ⟨gb2, 0, none⟩)), (3, .int .i64 x40)] [.box gb2 84 [.int .i64 x1.kind, .string x1.text, .int .i64 x1.n, .int .i64 x1.at_]] [Sm w.heap.size F w [], St w []]
     intro _
     have h : N9 x1 x40 o1 := h
     unfold N9 at h
     refine Ai rfl <| Ai rfl <| Ad rfl rfl <| Aa 0 rfl (Ae rfl) gn rfl <| Aa 1 rfl (Aw J8 rfl) gn rfl <| Aa 2 rfl (Ap 0 H9 rfl rfl rfl) gn rfl <| Aa 3 rfl (P6 Ko rfl) gn rfl <| Aa 4 rfl (Bh rfl rfl rfl) gn rfl <| Ak 5 rfl ?_
     by_cases hp61 : x40 < (x1.text.size : Int)
     ·have h := Aq hp61 h
      refine Bz rfl _ rfl ((decide_eq_true hp61)) <| Cf rfl <| Ai rfl <| Dt rfl <| Ai rfl <| Ad rfl rfl <| Aa 0 rfl (Aw J8 rfl) gn rfl <| Aa 1 rfl (Ap 0 H9 rfl rfl rfl) gn rfl <| Aa 2 rfl (Ae rfl) gn rfl ?_
      obtain ⟨hb62, h⟩ := h
      refine Aa 3 rfl (H6 Ko rfl rfl hb62) gn rfl ?_
      obtain ⟨r66, hv67, h⟩ := h
      refine Cj 4 rfl (D6 [.int .u8 (bt x1.text x40)] rfl Tryd.func82 rfl rfl rfl fun w63 hL64 => ?_) gn
      have hp65 := pmI hL64 .n (.c 0 rfl .n) (by kernel_rfl)
      refine Calls.mono (Tn w63 (Fl ([] : List C9)) (bt x1.text x40) (hL64.hFl hp65 (Bg [] rfl)) (hL64.into hp65 _) r66 hv67) ?_
      rintro _ w68 ⟨rfl, hM69⟩
      have hL70 := hL64.call hp65 hM69
      refine ⟨_, _, _, rfl, hL70, ?_⟩
      refine Aa 5 rfl (Qg rfl) gn rfl <| Aa 6 rfl (Ae rfl) gn rfl ?_
      by_cases hp71 : r66 = true
      ·have h := Aq hp71 h
       refine Bl 37 rfl ((nf hp71)) <| Ac 7 rfl (ps 37 rfl rfl rfl) <| Ac 8 rfl (ps 37 rfl rfl rfl) <| Ac 9 rfl (ps 37 rfl rfl rfl) <| Ac 10 rfl (ps 37 rfl rfl rfl) <| Ac 11 rfl (ps 37 rfl rfl rfl) <| Ac 12 rfl (ps 37 rfl rfl rfl) <| Aa 13 rfl (Az (b := false) rfl rfl) gn rfl <| Ak 14 rfl <| Bj rfl _ rfl (rfl) <| Cf rfl <| D9 ?_
       refine Ad rfl rfl <| Aa 0 rfl (Ae rfl) gn rfl <| Aa 1 rfl (Bh rfl rfl rfl) gn rfl <| Aa 2 rfl (Af rfl) gn rfl <| Ak 3 rfl <| Ep ?_
       have ih := Out.inl hO1 h
       exact D7 [0, 1] (ih ()) ⟨rfl, rfl, trivial⟩ (.cons_cons _ (.slnil)) rfl
      ·have h := Ar hp71 h
       refine Bl 37 rfl ((nt (bf hp71))) <| Aa 7 rfl (Aw J8 rfl) (gy 37 rfl rfl) rfl <| Aa 8 rfl (Ap 0 H9 rfl rfl rfl) (gy 37 rfl rfl) rfl <| Aa 9 rfl (Ae rfl) (gy 37 rfl rfl) rfl <| Aa 10 rfl (H6 Ko rfl rfl hb62) (gy 37 rfl rfl) rfl ?_
       obtain ⟨r75, hv76, h⟩ := h
       refine Cj 11 rfl (D6 [.int .u8 (bt x1.text x40)] rfl Tryd.func83 rfl rfl rfl fun w72 hL73 => ?_) (gy 37 rfl rfl)
       have hp74 := pmI hL73 .n (.c 0 rfl .n) (by kernel_rfl)
       refine Calls.mono (Ku w72 (Fl ([] : List C9)) (bt x1.text x40) (hL73.hFl hp74 (Bg [] rfl)) (hL73.into hp74 _) r75 hv76) ?_
       rintro _ w77 ⟨rfl, hM78⟩
       have hL79 := hL73.call hp74 hM78
       refine ⟨_, _, _, rfl, hL79, ?_⟩
       refine Aa 12 rfl (Qg rfl) (gy 37 rfl rfl) rfl <| Aa 13 rfl (Az (b := true) rfl rfl) gn rfl <| Ak 14 rfl ?_
       by_cases hp80 : r75 = true
       ·have h := Aq hp80 h
        refine Bj rfl _ rfl ((nf hp80)) <| Cf rfl <| D9 <| Ad rfl rfl <| Aa 0 rfl (Ae rfl) gn rfl <| Aa 1 rfl (Bh rfl rfl rfl) gn rfl <| Aa 2 rfl (Af rfl) gn rfl <| Ak 3 rfl <| Ep ?_
        have ih := Out.inl hO1 h
        exact D7 [0, 1] (ih ()) ⟨rfl, rfl, trivial⟩ (.cons_cons _ (.slnil)) rfl
       ·have h := Ar hp80 h
        refine Bz rfl _ rfl ((nt (bf hp80))) <| Ai rfl <| Ad rfl rfl <| Aa 0 rfl (Af rfl) gn rfl <| Ak 1 rfl ?_
        have h := Out.inr hO1 h
        refine Bo [.bool false] rfl Tryd.func78 rfl (.tmp rfl (.nil)) fun wr hLr => ?_
        have hMr := hLr.pk0 (.c 1 rfl .n)
        show Fv w F  r (.returned (Ce [.bool false])) wr
        rw [h]
        exact ⟨rfl, hMr⟩
     ·have h := Ar hp61 h
      refine Bj rfl _ rfl ((decide_eq_false hp61)) <| Jq [.code Xhe, .inBlock 0, .code Xbf] rfl rfl <| Ai rfl <| Ad rfl rfl <| Aa 0 rfl (Af rfl) gn rfl <| Ak 1 rfl ?_
      have h := Out.inr hO1 h
      refine Bo [.bool true] rfl Tryd.func78 rfl (.tmp rfl (.nil)) fun wr hLr => ?_
      have hMr := hLr.pk0 (.c 1 rfl .n)
      show Fv w F  r (.returned (Ce [.bool true])) wr
      rw [h]
      exact ⟨rfl, hMr⟩
    exact D7 [0, 1] (key2 _ h ()) ⟨rfl, rfl, trivial⟩ (.cons_cons _ (.slnil)) rfl
  refine Ad rfl rfl <| Aa 0 rfl (Aw J8 rfl) gn rfl <| Aa 1 rfl (Ap 0 H9 rfl rfl rfl) gn rfl <| Aa 2 rfl (Y2 rfl rfl) gn rfl <| Aa 3 rfl (Ae rfl) gn rfl ?_
  by_cases hp81 : x1.text = (⟨#[]⟩ : ByteArray)
  ·have h := Aq hp81 h
   refine Bl 12 rfl ((Q4 hp81)) <| Ac 4 rfl (ps 12 rfl rfl rfl) <| Ac 5 rfl (ps 12 rfl rfl rfl) <| Ac 6 rfl (ps 12 rfl rfl rfl) <| Ac 7 rfl (ps 12 rfl rfl rfl) <| Aa 8 rfl (Az (b := true) rfl rfl) gn rfl <| Aa 9 rfl (Ae rfl) gn rfl <| Ac 10 rfl (ps 18 rfl rfl rfl) <| Ac 11 rfl (ps 18 rfl rfl rfl) <| Ac 12 rfl (ps 18 rfl rfl rfl) <| Ac 13 rfl (ps 18 rfl rfl rfl) <| Aa 14 rfl (Az (b := true) rfl rfl) gn rfl ?_
   refine Ak 15 rfl ?_
   exact D7 [0, 1] (j1 true h) ⟨rfl, rfl, trivial⟩ (.cons_cons _ (.slnil)) rfl
  ·have h := Ar hp81 h
   refine Bl 12 rfl ((Qd hp81)) <| Aa 4 rfl (Aw J8 rfl) (gy 12 rfl rfl) rfl <| Aa 5 rfl (Ap 0 H9 rfl rfl rfl) (gy 12 rfl rfl) rfl <| Aa 6 rfl (P6 Ko rfl) (gy 12 rfl rfl) rfl <| Aa 7 rfl (Bh rfl rfl rfl) (gy 12 rfl rfl) rfl <| Aa 8 rfl (Az (b := false) rfl rfl) gn rfl <| Aa 9 rfl (Ae rfl) gn rfl ?_
   by_cases hp82 : (x1.text.size : Int) > 24
   ·have h := Aq hp82 h
    refine Bl 18 rfl ((decide_eq_true hp82)) <| Ac 10 rfl (ps 18 rfl rfl rfl) <| Ac 11 rfl (ps 18 rfl rfl rfl) <| Ac 12 rfl (ps 18 rfl rfl rfl) <| Ac 13 rfl (ps 18 rfl rfl rfl) <| Aa 14 rfl (Az (b := true) rfl rfl) gn rfl <| Ak 15 rfl ?_
    exact D7 [0, 1] (j1 true h) ⟨rfl, rfl, trivial⟩ (.cons_cons _ (.slnil)) rfl
   ·have h := Ar hp82 h
    refine Bl 18 rfl ((decide_eq_false hp82)) <| Aa 10 rfl (Aw J8 rfl) (gy 18 rfl rfl) rfl <| Aa 11 rfl (Ap 0 H9 rfl rfl rfl) (gy 18 rfl rfl) rfl ?_
    obtain ⟨hb83, h⟩ := h
    refine Aa 12 rfl (H6 Ko rfl rfl hb83) (gy 18 rfl rfl) rfl ?_
    obtain ⟨r87, hv88, h⟩ := h
    refine Cj 13 rfl (D6 [.int .u8 (bt x1.text 0)] rfl Tryd.func83 rfl rfl rfl fun w84 hL85 => ?_) (gy 18 rfl rfl)
    have hp86 := pmI hL85 .n (.c 0 rfl .n) (by kernel_rfl)
    refine Calls.mono (Ku w84 (Fl ([] : List C9)) (bt x1.text 0) (hL85.hFl hp86 (Bg [] rfl)) (hL85.into hp86 _) r87 hv88) ?_
    rintro _ w89 ⟨rfl, hM90⟩
    have hL91 := hL85.call hp86 hM90
    refine ⟨_, _, _, rfl, hL91, ?_⟩
    refine Aa 14 rfl (Az (b := false) rfl rfl) gn rfl <| Ak 15 rfl ?_
    exact D7 [0, 1] (j1 r87 h) ⟨rfl, rfl, trivial⟩ (.cons_cons _ (.slnil)) rfl
 ·have h := Ar hp4 h
  refine Bj rfl _ rfl ((nei hp4)) <| Ai rfl <| Ad rfl rfl <| Aa 0 rfl (Bh rfl rfl rfl) gn rfl <| Aa 1 rfl (Af rfl) gn rfl <| Ak 2 rfl ?_
  by_cases hp92 : x1.kind = 2
  ·have h := Aq hp92 h
   refine Bz rfl _ rfl ((eqi hp92)) <| Ai rfl <| Ad rfl rfl <| Aa 0 rfl (Af rfl) gn rfl <| Ak 1 rfl ?_
   refine Bo [.bool true] rfl Tryd.func78 rfl (.tmp rfl (.nil)) fun wr hLr => ?_
   have hMr := hLr.pk0 (.c 1 rfl .n)
   show Fv w F  r (.returned (Ce [.bool true])) wr
   rw [h]
   exact ⟨rfl, hMr⟩
  ·have h := Ar hp92 h
   refine Bj rfl _ rfl ((nei hp92)) <| Ai rfl <| Ad rfl rfl <| Aa 0 rfl (Bh rfl rfl rfl) gn rfl <| Aa 1 rfl (Af rfl) gn rfl <| Ak 2 rfl ?_
   by_cases hp93 : x1.kind = 3
   ·have h := Aq hp93 h
    refine Bz rfl _ rfl ((eqi hp93)) <| Ai rfl <| Ai rfl <| Ad rfl rfl <| Aa 0 rfl (Af rfl) gn rfl <| Ak 1 rfl <| Dt rfl <| Om rfl ?_
    have key3 : ∀ s, Bv (fun (s : Int) o => Iu x1 s o) s r → (fun (s : Int) => ∀ (_ : Unit), G (Jp w F r) [.code Zj, .inLoop Zj, .inBlock 3, .code Xfo, .inBlock 0, .code Xbf] [(1, .pointer (some ⟨gb2, 0, none⟩)), (4, .int .i64 s)] [.box gb2 84 [.int .i64 x1.kind, .string x1.text, .int .i64 x1.n, .int .i64 x1.at_]] [Sm w.heap.size F w [], St w []]) s := by
     intro s hs
     refine Bv.ind (mot := (fun (s : Int) => ∀ (_ : Unit), G (Jp w F r) [.code Zj, .inLoop Zj, .inBlock 3, .code Xfo, .inBlock 0, .code Xbf] [(1, .pointer (some ⟨gb2, 0, none⟩)), (4, .int .i64 s)] [.box gb2 84 [.int .i64 x1.kind, .string x1.text, .int .i64 x1.n, .int .i64 x1.at_]] [Sm w.heap.size F w [], St w []])) ?_ hs
     clear hs s
     intro x105 o1 h hO1
     show ∀ (_ : Unit), G (Jp w F r) [.code Zj, .inLoop Zj, .inBlock 3, .code Xfo, .inBlock 0, .code Xbf] [(1, .pointer (some ⟨gb2, 0, none⟩)), (4, .int .i64 x105)] [.box gb2 84 [.int .i64 x1.kind, .string x1.text, .int .i64 x1.n, .int .i64 x1.at_]] [Sm w.heap.size F w [], St w []]
     intro _
     have h : Iu x1 x105 o1 := h
     unfold Iu at h
     refine Ai rfl <| Ai rfl <| Ad rfl rfl <| Aa 0 rfl (Ae rfl) gn rfl <| Aa 1 rfl (Aw J8 rfl) gn rfl <| Aa 2 rfl (Ap 0 H9 rfl rfl rfl) gn rfl <| Aa 3 rfl (P6 Ko rfl) gn rfl <| Aa 4 rfl (Bh rfl rfl rfl) gn rfl <| Ak 5 rfl ?_
     by_cases hp116 : x105 < (x1.text.size : Int)
     ·have h := Aq hp116 h
      refine Bz rfl _ rfl ((decide_eq_true hp116)) <| Cf rfl <| Ai rfl <| Dt rfl <| Ai rfl <| Ad rfl rfl <| Aa 0 rfl (Aw J8 rfl) gn rfl <| Aa 1 rfl (Ap 0 H9 rfl rfl rfl) gn rfl <| Aa 2 rfl (Ae rfl) gn rfl ?_
      obtain ⟨hb117, h⟩ := h
      refine Aa 3 rfl (H6 Ko rfl rfl hb117) gn rfl <| Ak 4 rfl <| Dt rfl <| Ai rfl <| Ai rfl <| Ad rfl rfl <| Aa 0 rfl (Bh rfl rfl rfl) gn rfl <| Aa 1 rfl (Af rfl) gn rfl <| Ak 2 rfl ?_
      have j4 : ∀ (x120 : Bool) (h : I4 x1 x105 x120 o1) , G (Jp w F r) [.code q78c72, .inBlock 5, .inBlock 4, .code q78c66, .inLoop Zj, .inBlock 3, .code Xfo, .inBlock 0, .code Xbf] [(1, .pointer (some ⟨gb2, 0, none⟩)), (4, .int .i64 x105), (59, .int .u8 (bt x1.text x105)), (60, .bool x120)] [.box gb2 84 [.int .i64 x1.kind, .string x1.text, .int .i64 x1.n, .int .i64 x1.at_]] [Sm w.heap.size F w [], St w []] := by
       intro x120 h
       unfold I4 at h
       by_cases hp121 : x120 = true
       ·have h := Aq hp121 h
        refine Bz rfl _ rfl (hp121) <| Ai rfl <| Ad rfl rfl <| Aa 0 rfl (Af rfl) gn rfl <| Ak 1 rfl ?_
        have h := Out.inr hO1 h
        refine Bo [.bool false] rfl Tryd.func78 rfl (.tmp rfl (.nil)) fun wr hLr => ?_
        have hMr := hLr.pk0 (.c 1 rfl .n)
        show Fv w F  r (.returned (Ce [.bool false])) wr
        rw [h]
        exact ⟨rfl, hMr⟩
       ·have h := Ar hp121 h
        refine Bj rfl _ rfl ((bf hp121)) <| Ai rfl <| Ad rfl rfl <| Aa 0 rfl (Bh rfl rfl rfl) gn rfl <| Aa 1 rfl (Af rfl) gn rfl <| Ak 2 rfl ?_
        by_cases hp122 : bt x1.text x105 = 92
        ·have h := Aq hp122 h
         refine Bz rfl _ rfl ((eqi hp122)) <| Ai rfl <| Ad rfl rfl <| Aa 0 rfl (Ae rfl) gn rfl <| Aa 1 rfl (Bh rfl rfl rfl) gn rfl <| Aa 2 rfl (Af rfl) gn rfl <| Ak 3 rfl <| Ai rfl <| Ad rfl rfl <| Aa 0 rfl (Ae rfl) gn rfl <| Aa 1 rfl (Aw J8 rfl) gn rfl <| Aa 2 rfl (Ap 0 H9 rfl rfl rfl) gn rfl ?_
         refine Aa 3 rfl (P6 Ko rfl) gn rfl <| Aa 4 rfl (Bh rfl rfl rfl) gn rfl <| Aa 5 rfl (Ae rfl) gn rfl ?_
         by_cases hp123 : w64 (x105 + 1) = (x1.text.size : Int)
         ·have h := Aq hp123 h
          refine Bl 72 rfl ((eqi hp123)) <| Ac 6 rfl (ps 72 rfl rfl rfl) <| Ac 7 rfl (ps 72 rfl rfl rfl) <| Ac 8 rfl (ps 72 rfl rfl rfl) <| Ac 9 rfl (ps 72 rfl rfl rfl) <| Ac 10 rfl (ps 72 rfl rfl rfl) <| Aa 11 rfl (Az (b := true) rfl rfl) gn rfl <| Ak 12 rfl <| Bz rfl _ rfl (rfl) <| Ai rfl <| Ad rfl rfl <| Aa 0 rfl (Af rfl) gn rfl ?_
          refine Ak 1 rfl ?_
          have h := Out.inr hO1 h
          refine Bo [.bool false] rfl Tryd.func78 rfl (.tmp rfl (.nil)) fun wr hLr => ?_
          have hMr := hLr.pk0 (.c 1 rfl .n)
          show Fv w F  r (.returned (Ce [.bool false])) wr
          rw [h]
          exact ⟨rfl, hMr⟩
         ·have h := Ar hp123 h
          refine Bl 72 rfl ((nei hp123)) <| Aa 6 rfl (Aw J8 rfl) (gy 72 rfl rfl) rfl <| Aa 7 rfl (Ap 0 H9 rfl rfl rfl) (gy 72 rfl rfl) rfl <| Aa 8 rfl (Ae rfl) (gy 72 rfl rfl) rfl ?_
          obtain ⟨hb124, h⟩ := h
          refine Aa 9 rfl (H6 Ko rfl rfl hb124) (gy 72 rfl rfl) rfl <| Aa 10 rfl (Bh rfl rfl rfl) (gy 72 rfl rfl) rfl <| Aa 11 rfl (Az (b := false) rfl rfl) gn rfl <| Ak 12 rfl ?_
          by_cases hp125 : bt x1.text (w64 (x105 + 1)) = 10
          ·have h := Aq hp125 h
           refine Bz rfl _ rfl ((eqi hp125)) <| Ai rfl <| Ad rfl rfl <| Aa 0 rfl (Af rfl) gn rfl <| Ak 1 rfl ?_
           have h := Out.inr hO1 h
           refine Bo [.bool false] rfl Tryd.func78 rfl (.tmp rfl (.nil)) fun wr hLr => ?_
           have hMr := hLr.pk0 (.c 1 rfl .n)
           show Fv w F  r (.returned (Ce [.bool false])) wr
           rw [h]
           exact ⟨rfl, hMr⟩
          ·have h := Ar hp125 h
           refine Bj rfl _ rfl ((nei hp125)) <| Cf rfl <| D9 <| D9 <| Ad rfl rfl <| Aa 0 rfl (Ae rfl) gn rfl <| Aa 1 rfl (Bh rfl rfl rfl) gn rfl <| Aa 2 rfl (Af rfl) gn rfl <| Ak 3 rfl <| Ep ?_
           have ih := Out.inl hO1 h
           exact D7 [0, 1] (ih ()) ⟨rfl, rfl, trivial⟩ (.cons_cons _ (.slnil)) rfl
        ·have h := Ar hp122 h
         refine Bj rfl _ rfl ((nei hp122)) <| Cf rfl <| D9 <| D9 <| Ad rfl rfl <| Aa 0 rfl (Ae rfl) gn rfl <| Aa 1 rfl (Bh rfl rfl rfl) gn rfl <| Aa 2 rfl (Af rfl) gn rfl <| Ak 3 rfl <| Ep ?_
         have ih := Out.inl hO1 h
         exact D7 [0, 1] (ih ()) ⟨rfl, rfl, trivial⟩ (.cons_cons _ (.slnil)) rfl
      by_cases hp118 : bt x1.text x105 = 47
      ·have h := Aq hp118 h
       refine Bz rfl _ rfl ((eqi hp118)) <| Cf rfl ?_
       exact D7 [0, 1] (j4 ((bt x1.text x105) == 47) h) ⟨rfl, rfl, rfl, rfl, trivial⟩ (.cons_cons _ (.slnil)) rfl
      ·have h := Ar hp118 h
       refine Bj rfl _ rfl ((nei hp118)) <| Ad rfl rfl <| Aa 0 rfl (Bh rfl rfl rfl) gn rfl <| Aa 1 rfl (Af rfl) gn rfl <| Ak 2 rfl ?_
       exact D7 [0, 1] (j4 ((bt x1.text x105) == 10) h) ⟨rfl, rfl, rfl, rfl, trivial⟩ (.cons_cons _ (.slnil)) rfl
     ·have h := Ar hp116 h
      refine Bj rfl _ rfl ((decide_eq_false hp116)) <| Jq [.code Xfo, .inBlock 0, .code Xbf] rfl rfl <| Ai rfl <| Ad rfl rfl <| Aa 0 rfl (Af rfl) gn rfl <| Ak 1 rfl ?_
      have h := Out.inr hO1 h
      refine Bo [.bool true] rfl Tryd.func78 rfl (.tmp rfl (.nil)) fun wr hLr => ?_
      have hMr := hLr.pk0 (.c 1 rfl .n)
      show Fv w F  r (.returned (Ce [.bool true])) wr
      rw [h]
      exact ⟨rfl, hMr⟩
    exact D7 [0, 1] (key3 _ h ()) ⟨rfl, rfl, trivial⟩ (.cons_cons _ (.slnil)) rfl
   ·have h := Ar hp93 h
    refine Bj rfl _ rfl ((nei hp93)) <| Ai rfl <| Ad rfl rfl <| Aa 0 rfl (Bh rfl rfl rfl) gn rfl <| Aa 1 rfl (Af rfl) gn rfl <| Ak 2 rfl ?_
    by_cases hp126 : x1.kind = 4
    ·have h := Aq hp126 h
     refine Bz rfl _ rfl ((eqi hp126)) <| Ai rfl <| Ad rfl rfl <| Aa 0 rfl (Aw Xi9 rfl) gn rfl <| Aa 1 rfl (Ap 0 Ho rfl rfl rfl) gn rfl <| Aa 2 rfl (Bh rfl rfl rfl) gn rfl <| Aa 3 rfl (Ae rfl) gn rfl ?_
     by_cases hp127 : x1.n ≥ 0
     ·have h := Aq hp127 h
      refine Bl 84 rfl ((decide_eq_true hp127)) <| Aa 4 rfl (Aw Xi9 rfl) (gy 84 rfl rfl) rfl <| Aa 5 rfl (Ap 0 Ho rfl rfl rfl) (gy 84 rfl rfl) rfl <| Aa 6 rfl (Bh rfl rfl rfl) (gy 84 rfl rfl) rfl <| Aa 7 rfl (Az (b := true) rfl rfl) gn rfl <| Aa 8 rfl (Af rfl) gn rfl <| Ak 9 rfl ?_
      refine Bo [.bool (decide (x1.n ≤ 65535))] rfl Tryd.func78 rfl (.tmp rfl (.nil)) fun wr hLr => ?_
      have hMr := hLr.pk0 (.c 1 rfl .n)
      show Fv w F  r (.returned (Ce [.bool (decide (x1.n ≤ 65535))])) wr
      rw [h]
      exact ⟨rfl, hMr⟩
     ·have h := Ar hp127 h
      refine Bl 84 rfl ((decide_eq_false hp127)) <| Ac 4 rfl (ps 84 rfl rfl rfl) <| Ac 5 rfl (ps 84 rfl rfl rfl) <| Ac 6 rfl (ps 84 rfl rfl rfl) <| Aa 7 rfl (Az (b := false) rfl rfl) gn rfl <| Aa 8 rfl (Af rfl) gn rfl <| Ak 9 rfl ?_
      refine Bo [.bool false] rfl Tryd.func78 rfl (.tmp rfl (.nil)) fun wr hLr => ?_
      have hMr := hLr.pk0 (.c 1 rfl .n)
      show Fv w F  r (.returned (Ce [.bool false])) wr
      rw [h]
      exact ⟨rfl, hMr⟩
    ·have h := Ar hp126 h
     refine Bj rfl _ rfl ((nei hp126)) <| Ai rfl <| Ad rfl rfl <| Aa 0 rfl (Bh rfl rfl rfl) gn rfl <| Aa 1 rfl (Af rfl) gn rfl <| Ak 2 rfl ?_
     by_cases hp128 : x1.kind = 5
     ·have h := Aq hp128 h
      refine Bz rfl _ rfl ((eqi hp128)) <| Ai rfl <| Ad rfl rfl <| Aa 0 rfl (Aw J8 rfl) gn rfl <| Aa 1 rfl (Ap 0 H9 rfl rfl rfl) gn rfl <| Aa 2 rfl (P6 Ko rfl) gn rfl <| Aa 3 rfl (Bh rfl rfl rfl) gn rfl <| Aa 4 rfl (Ae rfl) gn rfl ?_
      by_cases hp129 : (x1.text.size : Int) = 1
      ·have h := Aq hp129 h
       refine Bl 95 rfl ((eqi hp129)) <| Aa 5 rfl (Aw J8 rfl) (gy 95 rfl rfl) rfl <| Aa 6 rfl (Ap 0 H9 rfl rfl rfl) (gy 95 rfl rfl) rfl ?_
       obtain ⟨r133, hv134, h⟩ := h
       refine Cj 7 rfl (D6 [.string (⟨#[123, 125, 40, 41, 124, 42, 43, 63, 58, 59, 44, 61, 64]⟩ : ByteArray), .string x1.text] rfl Tryd.func100 rfl rfl rfl fun w130 hL131 => ?_) (gy 95 rfl rfl)
       have hp132 := pmI hL131 .n (.c 0 rfl .n) (by kernel_rfl)
       refine Calls.mono (Z8 w130 (Fl ([] : List C9)) (⟨#[123, 125, 40, 41, 124, 42, 43, 63, 58, 59, 44, 61, 64]⟩ : ByteArray) x1.text (hL131.hFl hp132 (Bg [] rfl)) (hL131.into hp132 _) r133 hv134) ?_
       rintro _ w135 ⟨rfl, hM136⟩
       have hL137 := hL131.call hp132 hM136
       refine ⟨_, _, _, rfl, hL137, ?_⟩
       refine Aa 8 rfl (Az (b := true) rfl rfl) gn rfl <| Aa 9 rfl (Af rfl) gn rfl <| Ak 10 rfl ?_
       refine Bo [.bool r133] rfl Tryd.func78 rfl (.tmp rfl (.nil)) fun wr hLr => ?_
       have hMr := hLr.pk0 (.c 1 rfl .n)
       show Fv w F  r (.returned (Ce [.bool r133])) wr
       rw [h]
       exact ⟨rfl, hMr⟩
      ·have h := Ar hp129 h
       refine Bl 95 rfl ((nei hp129)) <| Ac 5 rfl (ps 95 rfl rfl rfl) <| Ac 6 rfl (ps 95 rfl rfl rfl) <| Ac 7 rfl (ps 95 rfl rfl rfl) <| Aa 8 rfl (Az (b := false) rfl rfl) gn rfl <| Aa 9 rfl (Af rfl) gn rfl <| Ak 10 rfl ?_
       refine Bo [.bool false] rfl Tryd.func78 rfl (.tmp rfl (.nil)) fun wr hLr => ?_
       have hMr := hLr.pk0 (.c 1 rfl .n)
       show Fv w F  r (.returned (Ce [.bool false])) wr
       rw [h]
       exact ⟨rfl, hMr⟩
     ·have h := Ar hp128 h
      refine Bj rfl _ rfl ((nei hp128)) <| Cf rfl <| D9 <| Ai rfl <| Ad rfl rfl <| Aa 0 rfl (Af rfl) gn rfl <| Ak 1 rfl ?_
      refine Bo [.bool false] rfl Tryd.func78 rfl (.tmp rfl (.nil)) fun wr hLr => ?_
      have hMr := hLr.pk0 (.c 1 rfl .n)
      show Fv w F  r (.returned (Ce [.bool false])) wr
      rw [h]
      exact ⟨rfl, hMr⟩
noncomputable abbrev Xdy := Code.snd (Code.snd (Code.snd (Dp Tryd.f101)))
noncomputable abbrev V5 := Code.fst (Code.fst (Code.snd (Code.fst (Code.snd (Code.snd (Dp Tryd.f101))))))
noncomputable abbrev Xlj := Code.snd (Code.snd V5)
noncomputable abbrev Xkw := Code.snd (Code.fst (Code.snd (Code.fst (Code.fst (Code.snd V5)))))
noncomputable abbrev Xks := Code.snd (Code.snd (Code.snd (Code.snd (Code.snd (Code.snd (Code.snd (Code.snd Xkw)))))))
noncomputable abbrev q101c41 := Code.fst Xks
abbrev Y7 (w : World) (F : Nat → Prop) (r : ByteArray) : Ending → World → Prop := fun e w' => e = .returned (.string r) ∧ B.Loc w w' [] [St w []]
noncomputable abbrev Q7 (w : World) (F : Nat → Prop) (r : ByteArray) : Cx := ⟨Tryd.prog, 101, Tryd.f101, 69, Y7 w F  r, w⟩
theorem Xd3 (w : World) (F : Nat → Prop) (x1 : ByteArray) (hF : ∀ b, F b → b < w.heap.size ∧ ∀ o ∈ ([] : List (List Nat)), b ∉ o) (hL0 : B.Loc w w [] [Sm w.heap.size F w [], St w []]) (r : ByteArray) (h : Vb x1 r) : Calls Tryd.prog 101 #[.string x1] w (Y7 w F  r) := by
 unfold Vb at h
 refine Cb (vs := [.string x1]) 69 Tryd.func101 rfl Tryd.ntmps101 rfl hL0 ?_
 show G (Q7 w F r) _ _ _ _
 refine Ai rfl <| Ad rfl rfl <| Aa 0 rfl (Af rfl) gn rfl <| Ak 1 rfl <| Ai rfl <| Ad rfl rfl ?_
 refine Cj 0 rfl (Ib (xs := ([34] : List Int)) [.int .u8 34] Xa8 rfl (by kernel_rfl) rfl rfl rfl rfl fun gb3 h4 => ?_) gn
 refine Aa 1 rfl (Af rfl) gn rfl <| Ak 2 rfl <| Ai rfl <| Ai rfl <| Ad rfl rfl <| Aa 0 rfl (Af rfl) gn rfl <| Ak 1 rfl <| Dt rfl <| Om rfl ?_
 have key1 : ∀ s, Bv (fun (s : (List Int) × Int) o => J4 x1 s.1 s.2 o) s r → (fun (s : (List Int) × Int) => ∀ (A101 : Option Addr) (n102 : Nat) (c103 : Nat) (h104 : Ow w.heap.size A101 n102 c103 s.1), G (Q7 w F r) [.code V5, .inLoop V5, .inBlock 0, .code Xdy] [(0, .string x1), (3, .slice A101 n102 c103), (4, .int .i64 s.2)] [.own (.slice A101 n102 c103) 5 1 n102 (s.1.flatMap (eI .u8))] [Sm w.heap.size F w [], St w []]) s := by
  intro s hs
  refine Bv.ind (mot := (fun (s : (List Int) × Int) => ∀ (A101 : Option Addr) (n102 : Nat) (c103 : Nat) (h104 : Ow w.heap.size A101 n102 c103 s.1), G (Q7 w F r) [.code V5, .inLoop V5, .inBlock 0, .code Xdy] [(0, .string x1), (3, .slice A101 n102 c103), (4, .int .i64 s.2)] [.own (.slice A101 n102 c103) 5 1 n102 (s.1.flatMap (eI .u8))] [Sm w.heap.size F w [], St w []])) ?_ hs
  clear hs s
  intro s o1 h hO1
  obtain ⟨x100, x105⟩ := s
  show ∀ (A101 : Option Addr) (n102 : Nat) (c103 : Nat) (h104 : Ow w.heap.size A101 n102 c103 x100), G (Q7 w F r) [.code V5, .inLoop V5, .inBlock 0, .code Xdy] [(0, .string x1), (3, .slice A101 n102 c103), (4, .int .i64 x105)] [.own (.slice A101 n102 c103) 5 1 n102 (x100.flatMap (eI .u8))] [Sm w.heap.size F w [], St w []]
  intro A101 n102 c103 h104
  have h : J4 x1 x100 x105 o1 := h
  unfold J4 at h
  refine Ai rfl <| Ai rfl <| Ad rfl rfl <| Aa 0 rfl (Ae rfl) gn rfl <| Aa 1 rfl (Ae rfl) gn rfl <| Aa 2 rfl (P6 Ko rfl) gn rfl <| Aa 3 rfl (Bh rfl rfl rfl) gn rfl <| Ak 4 rfl ?_
  by_cases hp200 : x105 < (x1.size : Int)
  ·have h := Aq hp200 h
   refine Bz rfl _ rfl ((decide_eq_true hp200)) <| Cf rfl <| Ai rfl <| Dt rfl <| Ai rfl <| Ad rfl rfl <| Aa 0 rfl (Ae rfl) gn rfl <| Aa 1 rfl (Ae rfl) gn rfl ?_
   obtain ⟨hb201, h⟩ := h
   refine Aa 2 rfl (H6 Ko rfl rfl hb201) gn rfl <| Aa 3 rfl (Af rfl) gn rfl <| Ak 4 rfl <| Dt rfl <| Ai rfl ?_
   have j2 : ∀ (x204 : Bool) (h : P7 x100 x1 x105 x204 o1) , G (Q7 w F r) [.code Xkw, .inBlock 2, .inBlock 1, .code Xlj, .inLoop V5, .inBlock 0, .code Xdy] [(0, .string x1), (3, .slice A101 n102 c103), (4, .int .i64 x105), (5, .int .u8 (bt x1 x105)), (20, .bool x204)] [.own (.slice A101 n102 c103) 5 1 n102 (x100.flatMap (eI .u8))] [Sm w.heap.size F w [], St w []] := by
    intro x204 h
    unfold P7 at h
    by_cases hp205 : x204 = true
    ·have h := Aq hp205 h
     refine Bz rfl _ rfl (hp205) <| Ad rfl rfl <| Aa 0 rfl (Ae rfl) gn rfl <| Aa 1 rfl (Ae rfl) gn rfl ?_
     refine Cj 2 rfl (Ib (xs := ([92, bt x1 x105] : List Int)) [.int .u8 92, .int .u8 (bt x1 x105)] Xd7 rfl (by kernel_rfl) rfl rfl rfl rfl fun gb207 h208 => ?_) gn
     obtain ⟨x212, hv213, h⟩ := h
     obtain ⟨hb214, h⟩ := h
     refine Cj 3 rfl (Oc (zs := x212) (cells' := x212.flatMap (eI .u8)) 1 Yw rfl rfl rfl h104 (Nat.le_refl _) (Src.ownF (hl := (hlI .u8)) (h1 := (Gn .u8)) 0 rfl h208) (by rw [hv213, List.flatMap_append] <;> rfl) (H7 hv213 h208.hq) hb214 rfl rfl fun A209 c210 h211 => ?_) gn
     refine Aa 4 rfl (Af rfl) gn rfl <| Ak 5 rfl <| D9 <| D9 <| Ad rfl rfl <| Aa 0 rfl (Ae rfl) gn rfl <| Aa 1 rfl (Bh rfl rfl rfl) gn rfl <| Aa 2 rfl (Af rfl) gn rfl <| Ak 3 rfl <| Ep ?_
     have ih := Out.inl hO1 h
     exact D7 [0, 1] (ih A209 (n102 + 2) c210 h211) ⟨rfl, rfl, rfl, trivial⟩ (.cons _ (.cons_cons _ (.slnil))) rfl
    ·have h := Ar hp205 h
     refine Bj rfl _ rfl ((bf hp205)) <| Ai rfl <| Ad rfl rfl <| Aa 0 rfl (Ae rfl) gn rfl <| Aa 1 rfl (Bh rfl rfl rfl) gn rfl <| Aa 2 rfl (Af rfl) gn rfl <| Ak 3 rfl ?_
     by_cases hp215 : bt x1 x105 = 10
     ·have h := Aq hp215 h
      refine Bz rfl _ rfl ((eqi hp215)) <| Ad rfl rfl <| Aa 0 rfl (Ae rfl) gn rfl ?_
      refine Cj 1 rfl (Ib (xs := ([92, 110] : List Int)) [.int .u8 92, .int .u8 110] Xd7 rfl (by kernel_rfl) rfl rfl rfl rfl fun gb217 h218 => ?_) gn
      obtain ⟨x222, hv223, h⟩ := h
      obtain ⟨hb224, h⟩ := h
      refine Cj 2 rfl (Oc (zs := x222) (cells' := x222.flatMap (eI .u8)) 1 Yw rfl rfl rfl h104 (Nat.le_refl _) (Src.ownF (hl := (hlI .u8)) (h1 := (Gn .u8)) 0 rfl h218) (by rw [hv223, List.flatMap_append] <;> rfl) (H7 hv223 h218.hq) hb224 rfl rfl fun A219 c220 h221 => ?_) gn
      refine Aa 3 rfl (Af rfl) gn rfl <| Ak 4 rfl <| D9 <| D9 <| Ad rfl rfl <| Aa 0 rfl (Ae rfl) gn rfl <| Aa 1 rfl (Bh rfl rfl rfl) gn rfl <| Aa 2 rfl (Af rfl) gn rfl <| Ak 3 rfl <| Ep ?_
      have ih := Out.inl hO1 h
      exact D7 [0, 1] (ih A219 (n102 + 2) c220 h221) ⟨rfl, rfl, rfl, trivial⟩ (.cons _ (.cons_cons _ (.slnil))) rfl
     ·have h := Ar hp215 h
      refine Bj rfl _ rfl ((nei hp215)) <| Ai rfl <| Ad rfl rfl <| Aa 0 rfl (Ae rfl) gn rfl <| Aa 1 rfl (Bh rfl rfl rfl) gn rfl <| Aa 2 rfl (Af rfl) gn rfl <| Ak 3 rfl ?_
      by_cases hp225 : bt x1 x105 = 9
      ·have h := Aq hp225 h
       refine Bz rfl _ rfl ((eqi hp225)) <| Ad rfl rfl <| Aa 0 rfl (Ae rfl) gn rfl ?_
       refine Cj 1 rfl (Ib (xs := ([92, 116] : List Int)) [.int .u8 92, .int .u8 116] Xd7 rfl (by kernel_rfl) rfl rfl rfl rfl fun gb227 h228 => ?_) gn
       obtain ⟨x232, hv233, h⟩ := h
       obtain ⟨hb234, h⟩ := h
       refine Cj 2 rfl (Oc (zs := x232) (cells' := x232.flatMap (eI .u8)) 1 Yw rfl rfl rfl h104 (Nat.le_refl _) (Src.ownF (hl := (hlI .u8)) (h1 := (Gn .u8)) 0 rfl h228) (by rw [hv233, List.flatMap_append] <;> rfl) (H7 hv233 h228.hq) hb234 rfl rfl fun A229 c230 h231 => ?_) gn
       refine Aa 3 rfl (Af rfl) gn rfl <| Ak 4 rfl <| D9 <| D9 <| Ad rfl rfl <| Aa 0 rfl (Ae rfl) gn rfl <| Aa 1 rfl (Bh rfl rfl rfl) gn rfl <| Aa 2 rfl (Af rfl) gn rfl <| Ak 3 rfl <| Ep ?_
       have ih := Out.inl hO1 h
       exact D7 [0, 1] (ih A229 (n102 + 2) c230 h231) ⟨rfl, rfl, rfl, trivial⟩ (.cons _ (.cons_cons _ (.slnil))) rfl
      ·have h := Ar hp225 h
       refine Bj rfl _ rfl ((nei hp225)) <| Ai rfl <| Ad rfl rfl <| Aa 0 rfl (Ae rfl) gn rfl <| Aa 1 rfl (Bh rfl rfl rfl) gn rfl <| Aa 2 rfl (Af rfl) gn rfl <| Ak 3 rfl ?_
       by_cases hp235 : bt x1 x105 = 13
       ·have h := Aq hp235 h
        refine Bz rfl _ rfl ((eqi hp235)) <| Ad rfl rfl <| Aa 0 rfl (Ae rfl) gn rfl ?_
        refine Cj 1 rfl (Ib (xs := ([92, 114] : List Int)) [.int .u8 92, .int .u8 114] Xd7 rfl (by kernel_rfl) rfl rfl rfl rfl fun gb237 h238 => ?_) gn
        obtain ⟨x242, hv243, h⟩ := h
        obtain ⟨hb244, h⟩ := h
        refine Cj 2 rfl (Oc (zs := x242) (cells' := x242.flatMap (eI .u8)) 1 Yw rfl rfl rfl h104 (Nat.le_refl _) (Src.ownF (hl := (hlI .u8)) (h1 := (Gn .u8)) 0 rfl h238) (by rw [hv243, List.flatMap_append] <;> rfl) (H7 hv243 h238.hq) hb244 rfl rfl fun A239 c240 h241 => ?_) gn
        refine Aa 3 rfl (Af rfl) gn rfl <| Ak 4 rfl <| D9 <| D9 <| Ad rfl rfl <| Aa 0 rfl (Ae rfl) gn rfl <| Aa 1 rfl (Bh rfl rfl rfl) gn rfl <| Aa 2 rfl (Af rfl) gn rfl <| Ak 3 rfl <| Ep ?_
        have ih := Out.inl hO1 h
        exact D7 [0, 1] (ih A239 (n102 + 2) c240 h241) ⟨rfl, rfl, rfl, trivial⟩ (.cons _ (.cons_cons _ (.slnil))) rfl
       ·have h := Ar hp235 h
        refine Bj rfl _ rfl ((nei hp235)) <| Ai rfl ?_
        have j3 : ∀ (x247 : Bool) (h : N8 x1 x105 x100 x247 o1) , G (Q7 w F r) [.code Xks, .inBlock 2, .inBlock 1, .code Xlj, .inLoop V5, .inBlock 0, .code Xdy] [(0, .string x1), (3, .slice A101 n102 c103), (4, .int .i64 x105), (5, .int .u8 (bt x1 x105)), (49, .bool x247)] [.own (.slice A101 n102 c103) 5 1 n102 (x100.flatMap (eI .u8))] [Sm w.heap.size F w [], St w []] := by
         intro x247 h
         unfold N8 at h
         by_cases hp248 : x247 = true
         ·have h := Aq hp248 h
          refine Bz rfl _ rfl (hp248) ?_
          obtain ⟨hb249, h⟩ := h
          obtain ⟨hb250, h⟩ := h
          obtain ⟨x257, hv258, h⟩ := h
          obtain ⟨hb259, h⟩ := h
          have hns : Region.noSelect (Code.ops q101c41) = true := by kernel_rfl
          refine G5 [8, 9] 10 rfl rfl mix rfl (.c 0 rfl (.c 1 rfl .n)) <| wfv 0 rfl (Ae rfl) gn hns (by kernel_rfl) <| wfv 1 rfl (Ae rfl) gn hns (by kernel_rfl) <| wfv 2 rfl (v_quo rfl rfl (by decide)) gn hns (by kernel_rfl) <| wfv 3 rfl (H6 Ko rfl rfl hb249) gn hns (by kernel_rfl) <| wfv 4 rfl (Ae rfl) gn hns (by kernel_rfl) <| wfv 5 rfl (v_rem rfl rfl (by decide)) gn hns (by kernel_rfl) <| wfv 6 rfl (H6 Ko rfl rfl hb250) gn hns (by kernel_rfl) ?_
          refine Cm [7] (by kernel_rfl) rfl ⟨Eo 7 rfl gn rfl (Ib (xs := ([92, 120, bt (⟨#[48, 49, 50, 51, 52, 53, 54, 55, 56, 57, 97, 98, 99, 100, 101, 102]⟩ : ByteArray) (IntKind.u8.wrap (Int.tdiv (bt x1 x105) 16)), bt (⟨#[48, 49, 50, 51, 52, 53, 54, 55, 56, 57, 97, 98, 99, 100, 101, 102]⟩ : ByteArray) (Int.tmod (bt x1 x105) 16)] : List Int)) [.int .u8 92, .int .u8 120, .int .u8 (bt (⟨#[48, 49, 50, 51, 52, 53, 54, 55, 56, 57, 97, 98, 99, 100, 101, 102]⟩ : ByteArray) (IntKind.u8.wrap (Int.tdiv (bt x1 x105) 16))), .int .u8 (bt (⟨#[48, 49, 50, 51, 52, 53, 54, 55, 56, 57, 97, 98, 99, 100, 101, 102]⟩ : ByteArray) (Int.tmod (bt x1 x105) 16))] bs_108_4 rfl (by kernel_rfl) rfl rfl rfl rfl fun gb269 h270 => ?_), trivial⟩
          refine ⟨Bg [1] rfl, Bg [0, 1] rfl, ?_⟩
          refine Cm [8] (by kernel_rfl) rfl ⟨Qw 8 rfl gn rfl (Oc (zs := x257) (cells' := x257.flatMap (eI .u8)) 1 Yw rfl rfl rfl h104 (Nat.le_refl _) (Src.ownF (hl := (hlI .u8)) (h1 := (Gn .u8)) 0 rfl h270) (by rw [hv258, List.flatMap_append] <;> rfl) (H7 hv258 h270.hq) hb259 rfl rfl fun A271 c272 h273 => ?_), trivial⟩
          unfold NxL
          refine Cm [9] (by kernel_rfl) rfl ⟨Qw 9 rfl gn rfl (Nc (Af rfl) rfl ?_), trivial⟩
          unfold NxL
          refine Dw (by kernel_rfl) <| D9 <| D9 <| Ad rfl rfl <| Aa 0 rfl (Ae rfl) gn rfl <| Aa 1 rfl (Bh rfl rfl rfl) gn rfl <| Aa 2 rfl (Af rfl) gn rfl <| Ak 3 rfl <| Ep ?_
          have ih := Out.inl hO1 h
          exact D7 [0, 1] (ih A271 (n102 + 4) c272 h273) ⟨rfl, rfl, rfl, trivial⟩ (.cons _ (.cons_cons _ (.slnil))) rfl
         ·have h := Ar hp248 h
          refine Bj rfl _ rfl ((bf hp248)) <| Ad rfl rfl <| Aa 0 rfl (Ae rfl) gn rfl <| Aa 1 rfl (Ae rfl) gn rfl ?_
          refine Cj 2 rfl (Ib (xs := ([bt x1 x105] : List Int)) [.int .u8 (bt x1 x105)] Xa8 rfl (by kernel_rfl) rfl rfl rfl rfl fun gb275 h276 => ?_) gn
          obtain ⟨x280, hv281, h⟩ := h
          obtain ⟨hb282, h⟩ := h
          refine Cj 3 rfl (Oc (zs := x280) (cells' := x280.flatMap (eI .u8)) 1 Yw rfl rfl rfl h104 (Nat.le_refl _) (Src.ownF (hl := (hlI .u8)) (h1 := (Gn .u8)) 0 rfl h276) (by rw [hv281, List.flatMap_append] <;> rfl) (H7 hv281 h276.hq) hb282 rfl rfl fun A277 c278 h279 => ?_) gn
          refine Aa 4 rfl (Af rfl) gn rfl <| Ak 5 rfl <| D9 <| D9 <| Ad rfl rfl <| Aa 0 rfl (Ae rfl) gn rfl <| Aa 1 rfl (Bh rfl rfl rfl) gn rfl <| Aa 2 rfl (Af rfl) gn rfl <| Ak 3 rfl <| Ep ?_
          have ih := Out.inl hO1 h
          exact D7 [0, 1] (ih A277 (n102 + 1) c278 h279) ⟨rfl, rfl, rfl, trivial⟩ (.cons _ (.cons_cons _ (.slnil))) rfl
        refine Ad rfl rfl <| Aa 0 rfl (Ae rfl) gn rfl <| Aa 1 rfl (Bh rfl rfl rfl) gn rfl <| Aa 2 rfl (Ae rfl) gn rfl ?_
        by_cases hp283 : bt x1 x105 < 32
        ·have h := Aq hp283 h
         refine Bl 52 rfl ((decide_eq_true hp283)) <| Ac 3 rfl (ps 52 rfl rfl rfl) <| Ac 4 rfl (ps 52 rfl rfl rfl) <| Aa 5 rfl (Az (b := true) rfl rfl) gn rfl <| Aa 6 rfl (Af rfl) gn rfl <| Ak 7 rfl ?_
         exact D7 [0, 1] (j3 true h) ⟨rfl, rfl, rfl, rfl, rfl, trivial⟩ (.cons_cons _ (.slnil)) rfl
        ·have h := Ar hp283 h
         refine Bl 52 rfl ((decide_eq_false hp283)) <| Aa 3 rfl (Ae rfl) (gy 52 rfl rfl) rfl <| Aa 4 rfl (Bh rfl rfl rfl) (gy 52 rfl rfl) rfl <| Aa 5 rfl (Az (b := false) rfl rfl) gn rfl <| Aa 6 rfl (Af rfl) gn rfl <| Ak 7 rfl ?_
         exact D7 [0, 1] (j3 (decide (bt x1 x105 > 126)) h) ⟨rfl, rfl, rfl, rfl, rfl, trivial⟩ (.cons_cons _ (.slnil)) rfl
   refine Ad rfl rfl <| Aa 0 rfl (Ae rfl) gn rfl <| Aa 1 rfl (Bh rfl rfl rfl) gn rfl <| Aa 2 rfl (Ae rfl) gn rfl ?_
   by_cases hp284 : bt x1 x105 = 34
   ·have h := Aq hp284 h
    refine Bl 23 rfl ((eqi hp284)) <| Ac 3 rfl (ps 23 rfl rfl rfl) <| Ac 4 rfl (ps 23 rfl rfl rfl) <| Aa 5 rfl (Az (b := true) rfl rfl) gn rfl <| Aa 6 rfl (Af rfl) gn rfl <| Ak 7 rfl ?_
    exact D7 [0, 1] (j2 true h) ⟨rfl, rfl, rfl, rfl, rfl, trivial⟩ (.cons_cons _ (.slnil)) rfl
   ·have h := Ar hp284 h
    refine Bl 23 rfl ((nei hp284)) <| Aa 3 rfl (Ae rfl) (gy 23 rfl rfl) rfl <| Aa 4 rfl (Bh rfl rfl rfl) (gy 23 rfl rfl) rfl <| Aa 5 rfl (Az (b := false) rfl rfl) gn rfl <| Aa 6 rfl (Af rfl) gn rfl <| Ak 7 rfl ?_
    exact D7 [0, 1] (j2 ((bt x1 x105) == 92) h) ⟨rfl, rfl, rfl, rfl, rfl, trivial⟩ (.cons_cons _ (.slnil)) rfl
  ·have h := Ar hp200 h
   refine Bj rfl _ rfl ((decide_eq_false hp200)) <| Jq [.code Xdy] rfl rfl <| Ai rfl <| Ad rfl rfl <| Aa 0 rfl (Ae rfl) gn rfl ?_
   refine Cj 1 rfl (Ib (xs := ([34] : List Int)) [.int .u8 34] Xa8 rfl (by kernel_rfl) rfl rfl rfl rfl fun gb286 h287 => ?_) gn
   obtain ⟨x291, hv292, h⟩ := h
   obtain ⟨hb293, h⟩ := h
   refine Cj 2 rfl (Oc (zs := x291) (cells' := x291.flatMap (eI .u8)) 1 Yw rfl rfl rfl h104 (Nat.le_refl _) (Src.ownF (hl := (hlI .u8)) (h1 := (Gn .u8)) 0 rfl h287) (by rw [hv292, List.flatMap_append] <;> rfl) (H7 hv292 h287.hq) hb293 rfl rfl fun A288 c289 h290 => ?_) gn
   refine Aa 3 rfl (v_b2s Xkm Ko rfl (Src.ownF (hl := (hlI .u8)) (h1 := (Gn .u8)) 1 rfl h290) h290.hq) gn rfl <| Aa 4 rfl (Af rfl) gn rfl <| Ak 5 rfl ?_
   have h := Out.inr hO1 h
   refine Bo [.string (Jw x291)] rfl Tryd.func101 rfl (.tmp rfl (.nil)) fun wr hLr => ?_
   have hMr := hLr.pk0 (.c 1 rfl .n)
   show Y7 w F  r (.returned (Ce [.string (Jw x291)])) wr
   rw [h]
   exact ⟨rfl, hMr⟩
 exact D7 [0, 1] (key1 _ h (some ⟨gb3, 0, none⟩) 1 1 h4) ⟨rfl, rfl, rfl, trivial⟩ (.cons_cons _ (.slnil)) rfl
abbrev Xfy (w : World) (F : Nat → Prop) (r : ByteArray) : Ending → World → Prop := fun e w' => e = .returned (.string r) ∧ B.Loc w w' [] [St w []]
theorem Xc5 (w : World) (F : Nat → Prop) (x1 : Int) (hG : Tb Tryd.prog (St w [])) (hF : ∀ b, F b → b < w.heap.size ∧ ∀ o ∈ ([] : List (List Nat)), b ∉ o) (hL0 : B.Loc w w [] [Sm w.heap.size F w [], St w []]) (r : ByteArray) (h : strconv_Itoa x1 r) : Calls Tryd.prog 99 #[.int .i64 x1] w (Xfy w F  r) := by
 unfold strconv_Itoa at h
 obtain ⟨h1, rfl⟩ := h
 refine Calls.mono (Tryd.strconv_Itoa x1 h1.1 h1.2 w hG.2) ?_
 rintro e w' ⟨rfl, k, os, rfl⟩
 exact ⟨rfl, Loc.of_below (Lib.below_grow _ _ (Nat.le_refl _) _ _)⟩
abbrev Oq (w : World) (F : Nat → Prop) (r : ByteArray) : Ending → World → Prop := fun e w' => e = .returned (.string r) ∧ B.Loc w w' [] [St w []]
noncomputable abbrev Xgc (w : World) (F : Nat → Prop) (r : ByteArray) : Cx := ⟨Tryd.prog, 79, Tryd.f79, 26, Oq w F  r, w⟩
theorem Xn (w : World) (F : Nat → Prop) (x1 : Aj) (hG : Tb Tryd.prog (St w [])) (hF : ∀ b, F b → b < w.heap.size ∧ ∀ o ∈ ([] : List (List Nat)), b ∉ o) (hL0 : B.Loc w w [] [Sm w.heap.size F w [], St w []]) (r : ByteArray) (h : Ph x1 r) : Calls Tryd.prog 79 #[.agg #[.int .i64 x1.kind, .string x1.text, .int .i64 x1.n, .int .i64 x1.at_]] w (Oq w F  r) := by
 unfold Ph at h
 refine Cb (vs := [.agg #[.int .i64 x1.kind, .string x1.text, .int .i64 x1.n, .int .i64 x1.at_]]) 26 Tryd.func79 rfl Tryd.ntmps79 rfl hL0 ?_
 show G (Xgc w F r) _ _ _ _
 refine Ai rfl <| Ad rfl rfl ?_
 refine Cj 0 rfl (Rq [.int .i64 x1.kind, .string x1.text, .int .i64 x1.n, .int .i64 x1.at_] rfl rfl rfl fun gb2 => ?_) gn
 refine Aa 1 rfl (Af rfl) gn rfl <| Ak 2 rfl <| Ai rfl <| Ai rfl <| Ad rfl rfl <| Aa 0 rfl (La [.int .i64 x1.kind, .string x1.text, .int .i64 x1.n, .int .i64 x1.at_] 0 ld_84 rfl rfl rfl rfl) gn rfl ?_
 obtain ⟨r7, hv8, h⟩ := h
 refine Cj 1 rfl (D6 [.agg #[.int .i64 x1.kind, .string x1.text, .int .i64 x1.n, .int .i64 x1.at_]] rfl Tryd.func78 rfl rfl rfl fun w4 hL5 => ?_) gn
 have hp6 := pmI hL5 .n (.c 0 rfl .n) (by kernel_rfl)
 refine Calls.mono (Xt w4 (Fl ([] : List C9)) x1 (hL5.hFl hp6 (Bg [] rfl)) (hL5.into hp6 _) r7 hv8) ?_
 rintro _ w9 ⟨rfl, hM10⟩
 have hL11 := hL5.call hp6 hM10
 refine ⟨_, _, _, rfl, hL11, ?_⟩
 refine Aa 2 rfl (Qg rfl) gn rfl <| Ak 3 rfl ?_
 by_cases hp12 : r7 = true
 ·have h := Aq hp12 h
  refine Bj rfl _ rfl ((nf hp12)) <| Cf rfl <| Ai rfl <| Ai rfl <| Ad rfl rfl <| Aa 0 rfl (Aw Uh rfl) gn rfl <| Aa 1 rfl (Ap 0 Xak rfl rfl rfl) gn rfl <| Ak 2 rfl <| Dt rfl <| Ai rfl <| Ad rfl rfl <| Aa 0 rfl (Bh rfl rfl rfl) gn rfl ?_
  refine Aa 1 rfl (Af rfl) gn rfl <| Ak 2 rfl ?_
  by_cases hp13 : x1.kind = 2
  ·have h := Aq hp13 h
   refine Bz rfl _ rfl ((eqi hp13)) <| Ai rfl <| Ad rfl rfl <| Aa 0 rfl (Aw J8 rfl) gn rfl <| Aa 1 rfl (Ap 0 H9 rfl rfl rfl) gn rfl ?_
   obtain ⟨r17, hv18, h⟩ := h
   refine Cj 2 rfl (D6 [.string x1.text] rfl Tryd.func101 rfl rfl rfl fun w14 hL15 => ?_) gn
   have hp16 := pmI hL15 .n (.c 0 rfl .n) (by kernel_rfl)
   refine Calls.mono (Xd3 w14 (Fl ([] : List C9)) x1.text (hL15.hFl hp16 (Bg [] rfl)) (hL15.into hp16 _) r17 hv18) ?_
   rintro _ w19 ⟨rfl, hM20⟩
   have hL21 := hL15.call hp16 hM20
   refine ⟨_, _, _, rfl, hL21, ?_⟩
   refine Aa 3 rfl (Af rfl) gn rfl <| Ak 4 rfl ?_
   refine Bo [.string r17] rfl Tryd.func79 rfl (.tmp rfl (.nil)) fun wr hLr => ?_
   have hMr := hLr.pk0 (.c 1 rfl .n)
   show Oq w F  r (.returned (Ce [.string r17])) wr
   rw [h]
   exact ⟨rfl, hMr⟩
  ·have h := Ar hp13 h
   refine Bj rfl _ rfl ((nei hp13)) <| Ai rfl <| Ad rfl rfl <| Aa 0 rfl (Bh rfl rfl rfl) gn rfl <| Aa 1 rfl (Af rfl) gn rfl <| Ak 2 rfl ?_
   by_cases hp22 : x1.kind = 3
   ·have h := Aq hp22 h
    refine Bz rfl _ rfl ((eqi hp22)) <| Ai rfl <| Ad rfl rfl <| Aa 0 rfl (Aw J8 rfl) gn rfl <| Aa 1 rfl (Ap 0 H9 rfl rfl rfl) gn rfl ?_
    obtain ⟨hb23, h⟩ := h
    refine Aa 2 rfl (v_catS rfl rfl hb23) gn rfl ?_
    obtain ⟨hb24, h⟩ := h
    refine Aa 3 rfl (v_catS rfl rfl hb24) gn rfl <| Aa 4 rfl (Af rfl) gn rfl <| Ak 5 rfl ?_
    refine Bo [.string (((⟨#[47]⟩ : ByteArray) ++ x1.text) ++ (⟨#[47]⟩ : ByteArray))] rfl Tryd.func79 rfl (.tmp rfl (.nil)) fun wr hLr => ?_
    have hMr := hLr.pk0 (.c 1 rfl .n)
    show Oq w F  r (.returned (Ce [.string (((⟨#[47]⟩ : ByteArray) ++ x1.text) ++ (⟨#[47]⟩ : ByteArray))])) wr
    rw [h]
    exact ⟨rfl, hMr⟩
   ·have h := Ar hp22 h
    refine Bj rfl _ rfl ((nei hp22)) <| Ai rfl <| Ad rfl rfl <| Aa 0 rfl (Bh rfl rfl rfl) gn rfl <| Aa 1 rfl (Af rfl) gn rfl <| Ak 2 rfl ?_
    by_cases hp25 : x1.kind = 4
    ·have h := Aq hp25 h
     refine Bz rfl _ rfl ((eqi hp25)) <| Ai rfl <| Ad rfl rfl <| Aa 0 rfl (Aw Xi9 rfl) gn rfl <| Aa 1 rfl (Ap 0 Ho rfl rfl rfl) gn rfl ?_
     obtain ⟨r29, hv30, h⟩ := h
     refine Cj 2 rfl (D6 [.int .i64 x1.n] rfl Tryd.func99 rfl rfl rfl fun w26 hL27 => ?_) gn
     have hp28 := pmI hL27 .n (.c 0 rfl .n) (by kernel_rfl)
     refine Calls.mono (Xc5 w26 (Fl ([] : List C9)) x1.n (hL27.tb hp28 hG (me 1 rfl)) (hL27.hFl hp28 (Bg [] rfl)) (hL27.into hp28 _) r29 hv30) ?_
     rintro _ w31 ⟨rfl, hM32⟩
     have hL33 := hL27.call hp28 hM32
     refine ⟨_, _, _, rfl, hL33, ?_⟩
     refine Aa 3 rfl (Af rfl) gn rfl <| Ak 4 rfl ?_
     refine Bo [.string r29] rfl Tryd.func79 rfl (.tmp rfl (.nil)) fun wr hLr => ?_
     have hMr := hLr.pk0 (.c 1 rfl .n)
     show Oq w F  r (.returned (Ce [.string r29])) wr
     rw [h]
     exact ⟨rfl, hMr⟩
    ·have h := Ar hp25 h
     refine Bj rfl _ rfl ((nei hp25)) <| Cf rfl <| D9 <| Ai rfl <| Ad rfl rfl <| Aa 0 rfl (Aw J8 rfl) gn rfl <| Aa 1 rfl (Ap 0 H9 rfl rfl rfl) gn rfl <| Aa 2 rfl (Af rfl) gn rfl <| Ak 3 rfl ?_
     refine Bo [.string x1.text] rfl Tryd.func79 rfl (.tmp rfl (.nil)) fun wr hLr => ?_
     have hMr := hLr.pk0 (.c 1 rfl .n)
     show Oq w F  r (.returned (Ce [.string x1.text])) wr
     rw [h]
     exact ⟨rfl, hMr⟩
 ·have h := Ar hp12 h
  refine Bz rfl _ rfl ((nt (bf hp12))) <| Ai rfl <| Ad rfl rfl <| Aa 0 rfl (Af rfl) gn rfl <| Ak 1 rfl ?_
  refine Bo [.string (⟨#[]⟩ : ByteArray)] rfl Tryd.func79 rfl (.tmp rfl (.nil)) fun wr hLr => ?_
  have hMr := hLr.pk0 (.c 1 rfl .n)
  show Oq w F  r (.returned (Ce [.string (⟨#[]⟩ : ByteArray)])) wr
  rw [h]
  exact ⟨rfl, hMr⟩
abbrev Ws (w : World) (F : Nat → Prop) (r : Bool) : Ending → World → Prop := fun e w' => e = .returned (.bool r) ∧ B.Loc w w' [] [St w []]
noncomputable abbrev Xhq (w : World) (F : Nat → Prop) (r : Bool) : Cx := ⟨Tryd.prog, 77, Tryd.f77, 11, Ws w F  r, w⟩
theorem Qu (w : World) (F : Nat → Prop) (x1 : ByteArray) (hG : Tb Tryd.prog (St w [])) (hF : ∀ b, F b → b < w.heap.size ∧ ∀ o ∈ ([] : List (List Nat)), b ∉ o) (hL0 : B.Loc w w [] [Sm w.heap.size F w [], St w []]) (r : Bool) (h : Pm x1 r) : Calls Tryd.prog 77 #[.string x1] w (Ws w F  r) := by
 unfold Pm at h
 refine Cb (vs := [.string x1]) 11 Tryd.func77 rfl Tryd.ntmps77 rfl hL0 ?_
 show G (Xhq w F r) _ _ _ _
 refine Ai rfl <| Ad rfl rfl <| Aa 0 rfl (Af rfl) gn rfl <| Ak 1 rfl <| Ai rfl <| Ad rfl rfl <| Aa 0 rfl (Ae rfl) gn rfl <| Aa 1 rfl (Ru rfl rfl) gn rfl <| Aa 2 rfl (Ae rfl) gn rfl ?_
 by_cases hp2 : x1 = (⟨#[95]⟩ : ByteArray)
 ·have h := Aq hp2 h
  refine Bl 5 rfl ((nf (Q4 hp2))) <| Ac 3 rfl (ps 5 rfl rfl rfl) <| Ac 4 rfl (ps 5 rfl rfl rfl) <| Ac 5 rfl (ps 5 rfl rfl rfl) <| Ac 6 rfl (ps 5 rfl rfl rfl) <| Aa 7 rfl (Az (b := false) rfl rfl) gn rfl <| Aa 8 rfl (Af rfl) gn rfl <| Ak 9 rfl ?_
  refine Bo [.bool false] rfl Tryd.func77 rfl (.tmp rfl (.nil)) fun wr hLr => ?_
  have hMr := hLr.pk0 (.c 1 rfl .n)
  show Ws w F  r (.returned (Ce [.bool false])) wr
  rw [h]
  exact ⟨rfl, hMr⟩
 ·have h := Ar hp2 h
  refine Bl 5 rfl ((nt (Qd hp2))) <| Aa 3 rfl (Ae rfl) (gy 5 rfl rfl) rfl <| Aa 4 rfl (Iq #[.int .i64 1, .string x1, .int .i64 0, .int .i64 0] Xff rfl (by kernel_rfl)) (gy 5 rfl rfl) rfl ?_
  obtain ⟨r6, hv7, h⟩ := h
  refine Cj 5 rfl (D6 [.agg #[.int .i64 1, .string x1, .int .i64 0, .int .i64 0]] rfl Tryd.func79 rfl rfl rfl fun w3 hL4 => ?_) (gy 5 rfl rfl)
  have hp5 := pmI hL4 .n .n (by kernel_rfl)
  refine Calls.mono (Xn w3 (Fl ([] : List C9)) (⟨1, x1, 0, 0⟩ : Aj) (hL4.tb hp5 hG (me 1 rfl)) (hL4.hFl hp5 (Bg [] rfl)) (hL4.into hp5 _) r6 hv7) ?_
  rintro _ w8 ⟨rfl, hM9⟩
  have hL10 := hL4.call hp5 hM9
  refine ⟨_, _, _, rfl, hL10, ?_⟩
  refine Aa 6 rfl (Ru rfl rfl) (gy 5 rfl rfl) rfl <| Aa 7 rfl (Az (b := true) rfl rfl) gn rfl <| Aa 8 rfl (Af rfl) gn rfl <| Ak 9 rfl ?_
  refine Bo [.bool (!(seq r6 (⟨#[]⟩ : ByteArray)))] rfl Tryd.func77 rfl (.tmp rfl (.nil)) fun wr hLr => ?_
  have hMr := hLr.pk0 (.c 1 rfl .n)
  show Ws w F  r (.returned (Ce [.bool (!(seq r6 (⟨#[]⟩ : ByteArray)))])) wr
  rw [h]
  exact ⟨rfl, hMr⟩
noncomputable abbrev q55c4 := Code.snd (Code.snd (Dp Tryd.f55))
noncomputable abbrev q55c6 := Code.snd (Code.fst (Code.snd (Dp Tryd.f55)))
abbrev Lr (w : World) (F : Nat → Prop) (r : Bool) : Ending → World → Prop := fun e w' => e = .returned (.bool r) ∧ B.Loc w w' [] [St w []]
noncomputable abbrev Xbl (w : World) (F : Nat → Prop) (r : Bool) : Cx := ⟨Tryd.prog, 55, Tryd.f55, 49, Lr w F  r, w⟩
theorem Xcg (w : World) (F : Nat → Prop) (x1 : Ag) (hG : Tb Tryd.prog (St w [])) (hF : ∀ b, F b → b < w.heap.size ∧ ∀ o ∈ ([] : List (List Nat)), b ∉ o) (hL0 : B.Loc w w [] [Sm w.heap.size F w [], St w []]) (r : Bool) (h : Vk x1 r) : Calls Tryd.prog 55 #[.agg #[.string x1.name, .bool x1.lit, .string x1.field, .string x1.capture, .int .i64 x1.kids]] w (Lr w F  r) := by
 unfold Vk at h
 refine Cb (vs := [.agg #[.string x1.name, .bool x1.lit, .string x1.field, .string x1.capture, .int .i64 x1.kids]]) 49 Tryd.func55 rfl Tryd.ntmps55 rfl hL0 ?_
 show G (Xbl w F r) _ _ _ _
 refine Ai rfl <| Ad rfl rfl ?_
 refine Cj 0 rfl (Rq [.string x1.name, .bool x1.lit, .string x1.field, .string x1.capture, .int .i64 x1.kids] rfl rfl rfl fun gb2 => ?_) gn
 refine Aa 1 rfl (Af rfl) gn rfl <| Ak 2 rfl <| Ai rfl <| Ai rfl ?_
 have j1 : ∀ (x17 : Bool) (h : J6 x1 x17 r) , G (Xbl w F r) [.code q55c6, .code q55c4] [(1, .pointer (some ⟨gb2, 0, none⟩)), (30, .bool x17)] [.box gb2 45 [.string x1.name, .bool x1.lit, .string x1.field, .string x1.capture, .int .i64 x1.kids]] [Sm w.heap.size F w [], St w []] := by
  intro x17 h
  unfold J6 at h
  by_cases hp18 : x17 = true
  ·have h := Aq hp18 h
   refine Bz rfl _ rfl (hp18) <| Ai rfl <| Ad rfl rfl <| Aa 0 rfl (Af rfl) gn rfl <| Ak 1 rfl ?_
   refine Bo [.bool false] rfl Tryd.func55 rfl (.tmp rfl (.nil)) fun wr hLr => ?_
   have hMr := hLr.pk0 (.c 1 rfl .n)
   show Lr w F  r (.returned (Ce [.bool false])) wr
   rw [h]
   exact ⟨rfl, hMr⟩
  ·have h := Ar hp18 h
   refine Bj rfl _ rfl ((bf hp18)) <| Cf rfl <| Ai rfl <| Ad rfl rfl <| Aa 0 rfl (Aw U7 rfl) gn rfl <| Aa 1 rfl (Ap 0 H9 rfl rfl rfl) gn rfl <| Aa 2 rfl (Y2 rfl rfl) gn rfl <| Aa 3 rfl (Ae rfl) gn rfl ?_
   by_cases hp19 : x1.field = (⟨#[]⟩ : ByteArray)
   ·have h := Aq hp19 h
    refine Bl 34 rfl ((Q4 hp19)) <| Ac 4 rfl (ps 34 rfl rfl rfl) <| Ac 5 rfl (ps 34 rfl rfl rfl) <| Ac 6 rfl (ps 34 rfl rfl rfl) <| Aa 7 rfl (Az (b := true) rfl rfl) gn rfl <| Aa 8 rfl (Ae rfl) gn rfl <| Aa 9 rfl (Aw U9 rfl) (gy 39 rfl rfl) rfl <| Aa 10 rfl (Ap 0 H9 rfl rfl rfl) (gy 39 rfl rfl) rfl <| Aa 11 rfl (Y2 rfl rfl) (gy 39 rfl rfl) rfl <| Aa 12 rfl (Ae rfl) (gy 39 rfl rfl) rfl ?_
    by_cases hp20 : x1.capture = (⟨#[]⟩ : ByteArray)
    ·have h := Aq hp20 h
     refine Bl 43 rfl ((Q4 hp20)) <| Ac 13 rfl (ps 43 rfl rfl rfl) <| Ac 14 rfl (ps 43 rfl rfl rfl) <| Ac 15 rfl (ps 43 rfl rfl rfl) <| Aa 16 rfl (Az (b := true) rfl rfl) (gy 39 rfl rfl) rfl <| Aa 17 rfl (Az (b := true) rfl rfl) gn rfl <| Aa 18 rfl (Af rfl) gn rfl <| Ak 19 rfl ?_
     refine Bo [.bool true] rfl Tryd.func55 rfl (.tmp rfl (.nil)) fun wr hLr => ?_
     have hMr := hLr.pk0 (.c 1 rfl .n)
     show Lr w F  r (.returned (Ce [.bool true])) wr
     rw [h]
     exact ⟨rfl, hMr⟩
    ·have h := Ar hp20 h
     refine Bl 43 rfl ((Qd hp20)) <| Aa 13 rfl (Aw U9 rfl) (gy 43 rfl rfl) rfl <| Aa 14 rfl (Ap 0 H9 rfl rfl rfl) (gy 43 rfl rfl) rfl ?_
     obtain ⟨r24, hv25, h⟩ := h
     refine Cj 15 rfl (D6 [.string x1.capture] rfl Tryd.func77 rfl rfl rfl fun w21 hL22 => ?_) (gy 43 rfl rfl)
     have hp23 := pmI hL22 .n (.c 0 rfl .n) (by kernel_rfl)
     refine Calls.mono (Qu w21 (Fl ([] : List C9)) x1.capture (hL22.tb hp23 hG (me 1 rfl)) (hL22.hFl hp23 (Bg [] rfl)) (hL22.into hp23 _) r24 hv25) ?_
     rintro _ w26 ⟨rfl, hM27⟩
     have hL28 := hL22.call hp23 hM27
     refine ⟨_, _, _, rfl, hL28, ?_⟩
     refine Aa 16 rfl (Az (b := false) rfl rfl) (gy 39 rfl rfl) rfl <| Aa 17 rfl (Az (b := true) rfl rfl) gn rfl <| Aa 18 rfl (Af rfl) gn rfl <| Ak 19 rfl ?_
     refine Bo [.bool r24] rfl Tryd.func55 rfl (.tmp rfl (.nil)) fun wr hLr => ?_
     have hMr := hLr.pk0 (.c 1 rfl .n)
     show Lr w F  r (.returned (Ce [.bool r24])) wr
     rw [h]
     exact ⟨rfl, hMr⟩
   ·have h := Ar hp19 h
    refine Bl 34 rfl ((Qd hp19)) <| Aa 4 rfl (Aw U7 rfl) (gy 34 rfl rfl) rfl <| Aa 5 rfl (Ap 0 H9 rfl rfl rfl) (gy 34 rfl rfl) rfl ?_
    obtain ⟨r32, hv33, h⟩ := h
    refine Cj 6 rfl (D6 [.string x1.field] rfl Tryd.func77 rfl rfl rfl fun w29 hL30 => ?_) (gy 34 rfl rfl)
    have hp31 := pmI hL30 .n (.c 0 rfl .n) (by kernel_rfl)
    refine Calls.mono (Qu w29 (Fl ([] : List C9)) x1.field (hL30.tb hp31 hG (me 1 rfl)) (hL30.hFl hp31 (Bg [] rfl)) (hL30.into hp31 _) r32 hv33) ?_
    rintro _ w34 ⟨rfl, hM35⟩
    have hL36 := hL30.call hp31 hM35
    refine ⟨_, _, _, rfl, hL36, ?_⟩
    refine Aa 7 rfl (Az (b := false) rfl rfl) gn rfl <| Aa 8 rfl (Ae rfl) gn rfl ?_
    by_cases hp37 : r32 = true
    ·have h := Aq hp37 h
     refine Bl 39 rfl (hp37) <| Aa 9 rfl (Aw U9 rfl) (gy 39 rfl rfl) rfl <| Aa 10 rfl (Ap 0 H9 rfl rfl rfl) (gy 39 rfl rfl) rfl <| Aa 11 rfl (Y2 rfl rfl) (gy 39 rfl rfl) rfl <| Aa 12 rfl (Ae rfl) (gy 39 rfl rfl) rfl ?_
     by_cases hp38 : x1.capture = (⟨#[]⟩ : ByteArray)
     ·have h := Aq hp38 h
      refine Bl 43 rfl ((Q4 hp38)) <| Ac 13 rfl (ps 43 rfl rfl rfl) <| Ac 14 rfl (ps 43 rfl rfl rfl) <| Ac 15 rfl (ps 43 rfl rfl rfl) <| Aa 16 rfl (Az (b := true) rfl rfl) (gy 39 rfl rfl) rfl <| Aa 17 rfl (Az (b := true) rfl rfl) gn rfl <| Aa 18 rfl (Af rfl) gn rfl <| Ak 19 rfl ?_
      refine Bo [.bool true] rfl Tryd.func55 rfl (.tmp rfl (.nil)) fun wr hLr => ?_
      have hMr := hLr.pk0 (.c 1 rfl .n)
      show Lr w F  r (.returned (Ce [.bool true])) wr
      rw [h]
      exact ⟨rfl, hMr⟩
     ·have h := Ar hp38 h
      refine Bl 43 rfl ((Qd hp38)) <| Aa 13 rfl (Aw U9 rfl) (gy 43 rfl rfl) rfl <| Aa 14 rfl (Ap 0 H9 rfl rfl rfl) (gy 43 rfl rfl) rfl ?_
      obtain ⟨r42, hv43, h⟩ := h
      refine Cj 15 rfl (D6 [.string x1.capture] rfl Tryd.func77 rfl rfl rfl fun w39 hL40 => ?_) (gy 43 rfl rfl)
      have hp41 := pmI hL40 .n (.c 0 rfl .n) (by kernel_rfl)
      refine Calls.mono (Qu w39 (Fl ([] : List C9)) x1.capture (hL40.tb hp41 hG (me 1 rfl)) (hL40.hFl hp41 (Bg [] rfl)) (hL40.into hp41 _) r42 hv43) ?_
      rintro _ w44 ⟨rfl, hM45⟩
      have hL46 := hL40.call hp41 hM45
      refine ⟨_, _, _, rfl, hL46, ?_⟩
      refine Aa 16 rfl (Az (b := false) rfl rfl) (gy 39 rfl rfl) rfl <| Aa 17 rfl (Az (b := true) rfl rfl) gn rfl <| Aa 18 rfl (Af rfl) gn rfl <| Ak 19 rfl ?_
      refine Bo [.bool r42] rfl Tryd.func55 rfl (.tmp rfl (.nil)) fun wr hLr => ?_
      have hMr := hLr.pk0 (.c 1 rfl .n)
      show Lr w F  r (.returned (Ce [.bool r42])) wr
      rw [h]
      exact ⟨rfl, hMr⟩
    ·have h := Ar hp37 h
     refine Bl 39 rfl ((bf hp37)) <| Ac 9 rfl (ps 39 rfl rfl rfl) <| Ac 10 rfl (ps 39 rfl rfl rfl) <| Ac 11 rfl (ps 39 rfl rfl rfl) <| Ac 12 rfl (ps 39 rfl rfl rfl) <| Ac 13 rfl (pu 43 rfl rfl) <| Ac 14 rfl (pu 43 rfl rfl) <| Ac 15 rfl (pu 43 rfl rfl) <| Ac 16 rfl (ps 39 rfl rfl rfl) <| Aa 17 rfl (Az (b := false) rfl rfl) gn rfl <| Aa 18 rfl (Af rfl) gn rfl <| Ak 19 rfl ?_
     refine Bo [.bool false] rfl Tryd.func55 rfl (.tmp rfl (.nil)) fun wr hLr => ?_
     have hMr := hLr.pk0 (.c 1 rfl .n)
     show Lr w F  r (.returned (Ce [.bool false])) wr
     rw [h]
     exact ⟨rfl, hMr⟩
 refine Ad rfl rfl <| Aa 0 rfl (Aw Xx rfl) gn rfl <| Aa 1 rfl (Ap 0 Xc3 rfl rfl rfl) gn rfl <| Aa 2 rfl (Ae rfl) gn rfl ?_
 by_cases hp47 : x1.lit = true
 ·have h := Aq hp47 h
  refine Bl 5 rfl (hp47) <| Aa 3 rfl (Aw Uj rfl) (gy 5 rfl rfl) rfl <| Aa 4 rfl (Ap 0 H9 rfl rfl rfl) (gy 5 rfl rfl) rfl <| Aa 5 rfl (Y2 rfl rfl) (gy 5 rfl rfl) rfl <| Aa 6 rfl (Ae rfl) (gy 5 rfl rfl) rfl ?_
  by_cases hp48 : x1.name = (⟨#[]⟩ : ByteArray)
  ·have h := Aq hp48 h
   refine Bl 9 rfl ((Q4 hp48)) <| Ac 7 rfl (ps 9 rfl rfl rfl) <| Ac 8 rfl (ps 9 rfl rfl rfl) <| Ac 9 rfl (ps 9 rfl rfl rfl) <| Aa 10 rfl (Az (b := true) rfl rfl) (gy 5 rfl rfl) rfl <| Aa 11 rfl (Az (b := true) rfl rfl) gn rfl <| Aa 12 rfl (Ae rfl) gn rfl <| Ac 13 rfl (ps 15 rfl rfl rfl) <| Ac 14 rfl (ps 15 rfl rfl rfl) <| Ac 15 rfl (ps 15 rfl rfl rfl) <| Ac 16 rfl (ps 15 rfl rfl rfl) <| Ac 17 rfl (pu 19 rfl rfl) ?_
   refine Ac 18 rfl (pu 19 rfl rfl) <| Ac 19 rfl (pu 19 rfl rfl) <| Ac 20 rfl (ps 15 rfl rfl rfl) <| Ac 21 rfl (ps 15 rfl rfl rfl) <| Ac 22 rfl (pu 24 rfl rfl) <| Ac 23 rfl (pu 24 rfl rfl) <| Ac 24 rfl (pu 24 rfl rfl) <| Ac 25 rfl (pu 24 rfl rfl) <| Ac 26 rfl (ps 15 rfl rfl rfl) <| Aa 27 rfl (Az (b := true) rfl rfl) gn rfl <| Ak 28 rfl ?_
   exact D7 [0, 1] (j1 true h) ⟨rfl, rfl, trivial⟩ (.cons_cons _ (.slnil)) rfl
  ·have h := Ar hp48 h
   refine Bl 9 rfl ((Qd hp48)) <| Aa 7 rfl (Aw Yx rfl) (gy 9 rfl rfl) rfl <| Aa 8 rfl (Ap 0 Ho rfl rfl rfl) (gy 9 rfl rfl) rfl <| Aa 9 rfl (Bh rfl rfl rfl) (gy 9 rfl rfl) rfl <| Aa 10 rfl (Az (b := false) rfl rfl) (gy 5 rfl rfl) rfl <| Aa 11 rfl (Az (b := true) rfl rfl) gn rfl <| Aa 12 rfl (Ae rfl) gn rfl ?_
   by_cases hp49 : x1.kids = 0
   ·have h := Aq hp49 h
    refine Bl 15 rfl ((Xaf hp49)) <| Aa 13 rfl (Aw Xx rfl) (gy 15 rfl rfl) rfl <| Aa 14 rfl (Ap 0 Xc3 rfl rfl rfl) (gy 15 rfl rfl) rfl <| Aa 15 rfl (Qg rfl) (gy 15 rfl rfl) rfl <| Aa 16 rfl (Ae rfl) (gy 15 rfl rfl) rfl <| Bl 19 rfl ((nf hp47)) <| Ac 17 rfl (ps 19 rfl rfl rfl) <| Ac 18 rfl (ps 19 rfl rfl rfl) <| Ac 19 rfl (ps 19 rfl rfl rfl) <| Aa 20 rfl (Az (b := false) rfl rfl) (gy 15 rfl rfl) rfl <| Aa 21 rfl (Ae rfl) (gy 15 rfl rfl) rfl <| Ac 22 rfl (ps 24 rfl rfl rfl) ?_
    refine Ac 23 rfl (ps 24 rfl rfl rfl) <| Ac 24 rfl (ps 24 rfl rfl rfl) <| Ac 25 rfl (ps 24 rfl rfl rfl) <| Aa 26 rfl (Az (b := false) rfl rfl) (gy 15 rfl rfl) rfl <| Aa 27 rfl (Az (b := false) rfl rfl) gn rfl <| Ak 28 rfl ?_
    exact D7 [0, 1] (j1 false h) ⟨rfl, rfl, trivial⟩ (.cons_cons _ (.slnil)) rfl
   ·have h := Ar hp49 h
    refine Bl 15 rfl ((Zz hp49)) <| Ac 13 rfl (ps 15 rfl rfl rfl) <| Ac 14 rfl (ps 15 rfl rfl rfl) <| Ac 15 rfl (ps 15 rfl rfl rfl) <| Ac 16 rfl (ps 15 rfl rfl rfl) <| Ac 17 rfl (pu 19 rfl rfl) <| Ac 18 rfl (pu 19 rfl rfl) <| Ac 19 rfl (pu 19 rfl rfl) <| Ac 20 rfl (ps 15 rfl rfl rfl) <| Ac 21 rfl (ps 15 rfl rfl rfl) <| Ac 22 rfl (pu 24 rfl rfl) <| Ac 23 rfl (pu 24 rfl rfl) ?_
    refine Ac 24 rfl (pu 24 rfl rfl) <| Ac 25 rfl (pu 24 rfl rfl) <| Ac 26 rfl (ps 15 rfl rfl rfl) <| Aa 27 rfl (Az (b := true) rfl rfl) gn rfl <| Ak 28 rfl ?_
    exact D7 [0, 1] (j1 true h) ⟨rfl, rfl, trivial⟩ (.cons_cons _ (.slnil)) rfl
 ·have h := Ar hp47 h
  refine Bl 5 rfl ((bf hp47)) <| Ac 3 rfl (ps 5 rfl rfl rfl) <| Ac 4 rfl (ps 5 rfl rfl rfl) <| Ac 5 rfl (ps 5 rfl rfl rfl) <| Ac 6 rfl (ps 5 rfl rfl rfl) <| Ac 7 rfl (pu 9 rfl rfl) <| Ac 8 rfl (pu 9 rfl rfl) <| Ac 9 rfl (pu 9 rfl rfl) <| Ac 10 rfl (ps 5 rfl rfl rfl) <| Aa 11 rfl (Az (b := false) rfl rfl) gn rfl <| Aa 12 rfl (Ae rfl) gn rfl <| Aa 13 rfl (Aw Xx rfl) (gy 15 rfl rfl) rfl ?_
  refine Aa 14 rfl (Ap 0 Xc3 rfl rfl rfl) (gy 15 rfl rfl) rfl <| Aa 15 rfl (Qg rfl) (gy 15 rfl rfl) rfl <| Aa 16 rfl (Ae rfl) (gy 15 rfl rfl) rfl <| Bl 19 rfl ((nt (bf hp47))) <| Aa 17 rfl (Aw Uj rfl) (gy 19 rfl rfl) rfl <| Aa 18 rfl (Ap 0 H9 rfl rfl rfl) (gy 19 rfl rfl) rfl <| Aa 19 rfl (Ru rfl rfl) (gy 19 rfl rfl) rfl <| Aa 20 rfl (Az (b := true) rfl rfl) (gy 15 rfl rfl) rfl <| Aa 21 rfl (Ae rfl) (gy 15 rfl rfl) rfl ?_
  by_cases hp50 : x1.name = (⟨#[]⟩ : ByteArray)
  ·have h := Aq hp50 h
   refine Bl 24 rfl ((nf (Q4 hp50))) <| Ac 22 rfl (ps 24 rfl rfl rfl) <| Ac 23 rfl (ps 24 rfl rfl rfl) <| Ac 24 rfl (ps 24 rfl rfl rfl) <| Ac 25 rfl (ps 24 rfl rfl rfl) <| Aa 26 rfl (Az (b := false) rfl rfl) (gy 15 rfl rfl) rfl <| Aa 27 rfl (Az (b := false) rfl rfl) gn rfl <| Ak 28 rfl ?_
   exact D7 [0, 1] (j1 false h) ⟨rfl, rfl, trivial⟩ (.cons_cons _ (.slnil)) rfl
  ·have h := Ar hp50 h
   refine Bl 24 rfl ((nt (Qd hp50))) <| Aa 22 rfl (Aw Uj rfl) (gy 24 rfl rfl) rfl <| Aa 23 rfl (Ap 0 H9 rfl rfl rfl) (gy 24 rfl rfl) rfl ?_
   obtain ⟨r54, hv55, h⟩ := h
   refine Cj 24 rfl (D6 [.string x1.name] rfl Tryd.func77 rfl rfl rfl fun w51 hL52 => ?_) (gy 24 rfl rfl)
   have hp53 := pmI hL52 .n (.c 0 rfl .n) (by kernel_rfl)
   refine Calls.mono (Qu w51 (Fl ([] : List C9)) x1.name (hL52.tb hp53 hG (me 1 rfl)) (hL52.hFl hp53 (Bg [] rfl)) (hL52.into hp53 _) r54 hv55) ?_
   rintro _ w56 ⟨rfl, hM57⟩
   have hL58 := hL52.call hp53 hM57
   refine ⟨_, _, _, rfl, hL58, ?_⟩
   refine Aa 25 rfl (Qg rfl) (gy 24 rfl rfl) rfl <| Aa 26 rfl (Az (b := true) rfl rfl) (gy 15 rfl rfl) rfl <| Aa 27 rfl (Az (b := false) rfl rfl) gn rfl <| Ak 28 rfl ?_
   exact D7 [0, 1] (j1 (!r54) h) ⟨rfl, rfl, trivial⟩ (.cons_cons _ (.slnil)) rfl
abbrev Tf (w : World) (F : Nat → Prop) (g3 : Nat) (Tb4 : Nat) (r : Bool × ByteArray) : Ending → World → Prop := fun e w' => e = .returned (.bool r.1) ∧ B.Loc w w' [.box g3 Tb4 [.string r.2]] [St w [[g3]]]
noncomputable abbrev Xbw (w : World) (F : Nat → Prop) (g3 : Nat) (Tb4 : Nat) (r : Bool × ByteArray) : Cx := ⟨Tryd.prog, 73, Tryd.f73, 8, Tf w F g3 Tb4 r, w⟩
theorem Yz (w : World) (F : Nat → Prop) (x1 : Ag) (x2 : ByteArray) (g3 : Nat) (Tb4 : Nat) (hF : ∀ b, F b → b < w.heap.size ∧ ∀ o ∈ ([[g3]] : List (List Nat)), b ∉ o) (hL0 : B.Loc w w [.box g3 Tb4 [.string x2]] [Sm w.heap.size F w [[g3]], St w [[g3]]]) (r : Bool × ByteArray) (h : Uy x1 x2 r) : Calls Tryd.prog 73 #[.agg #[.string x1.name, .bool x1.lit, .string x1.field, .string x1.capture, .int .i64 x1.kids], .pointer (some ⟨g3, 0, none⟩)] w (Tf w F g3 Tb4 r) := by
 unfold Uy at h
 refine Cb (vs := [.agg #[.string x1.name, .bool x1.lit, .string x1.field, .string x1.capture, .int .i64 x1.kids], .pointer (some ⟨g3, 0, none⟩)]) 8 Tryd.func73 rfl Tryd.ntmps73 rfl hL0 ?_
 show G (Xbw w F g3 Tb4 r) _ _ _ _
 refine Ai rfl <| Ad rfl rfl ?_
 refine Cj 0 rfl (Rq [.string x1.name, .bool x1.lit, .string x1.field, .string x1.capture, .int .i64 x1.kids] rfl rfl rfl fun gb5 => ?_) gn
 refine Aa 1 rfl (Af rfl) gn rfl <| Ak 2 rfl <| Ai rfl <| Ad rfl rfl <| Aa 0 rfl (Aw U9 rfl) gn rfl <| Aa 1 rfl (Ap 0 H9 rfl rfl rfl) gn rfl <| Aa 2 rfl (Ap 1 H9 rfl rfl rfl) gn rfl <| Aa 3 rfl (Y2 rfl rfl) gn rfl <| Aa 4 rfl (Af rfl) gn rfl <| Ak 5 rfl ?_
 refine Bo [.bool (seq x1.capture x2)] rfl Tryd.func73 rfl (.tmp rfl (.nil)) fun wr hLr => ?_
 have hMr := hLr.pkI (.c 1 rfl .n) (.c 0 rfl .n) (by kernel_rfl) (.c 1 rfl .n)
 show Tf w F g3 Tb4 r (.returned (Ce [.bool (seq x1.capture x2)])) wr
 rw [h]
 exact ⟨rfl, hMr⟩
noncomputable abbrev q72c4 := Code.snd (Code.snd (Dp Tryd.f72))
noncomputable abbrev Xgs := Code.fst (Code.fst (Code.snd (Code.fst (Code.snd (Dp Tryd.f72)))))
abbrev F5 (w : World) (F : Nat → Prop) (g7 : Nat) (Tb8 : Nat) (r : Int × ByteArray) : Ending → World → Prop := fun e w' => e = .returned (.int .i64 r.1) ∧ B.Loc w w' [.box g7 Tb8 [.string r.2]] [St w [[g7]]]
noncomputable abbrev Ez (w : World) (F : Nat → Prop) (g7 : Nat) (Tb8 : Nat) (r : Int × ByteArray) : Cx := ⟨Tryd.prog, 72, Tryd.f72, 19, F5 w F g7 Tb8 r, w⟩
theorem Oj (w : World) (F : Nat → Prop) (x1 : List Ag) (x6 : ByteArray) (A2 : Option Addr) (n3 : Nat) (c4 : Nat) (g7 : Nat) (Tb8 : Nat) (h5 : Rw Di w (St w [[g7]]).av A2 n3 c4 x1) (hF : ∀ b, F b → b < w.heap.size ∧ ∀ o ∈ ([[g7]] : List (List Nat)), b ∉ o) (hL0 : B.Loc w w [.box g7 Tb8 [.string x6]] [Sm w.heap.size F w [[g7]], St w [[g7]]]) (r : Int × ByteArray) (h : Fa x1 x6 r) : Calls Tryd.prog 72 #[.slice A2 n3 c4, .func (.func 73) #[] #[.pointer (some ⟨g7, 0, none⟩)]] w (F5 w F g7 Tb8 r) := by
 unfold Fa at h
 refine Cb (vs := [.slice A2 n3 c4, .func (.func 73) #[] #[.pointer (some ⟨g7, 0, none⟩)]]) 19 Tryd.func72 rfl Tryd.ntmps72 rfl hL0 ?_
 show G (Ez w F g7 Tb8 r) _ _ _ _
 refine Ai rfl <| Ad rfl rfl <| Aa 0 rfl (Af rfl) gn rfl <| Ak 1 rfl <| Ai rfl <| Ai rfl <| Ad rfl rfl <| Aa 0 rfl (Ae rfl) gn rfl <| Aa 1 rfl (Dy Xp rfl h5.hq) gn rfl <| Aa 2 rfl (Ae rfl) gn rfl <| Ak 3 rfl <| Dt rfl ?_
 refine Om rfl ?_
 have key1 : ∀ s, Bv (fun (s : Int × ByteArray) o => Dc x1 s.1 s.2 o) s r → (fun (s : Int × ByteArray) => ∀ (_ : Unit), G (Ez w F g7 Tb8 r) [.code Xgs, .inLoop Xgs, .inBlock 0, .code q72c4] [(0, .slice A2 n3 c4), (1, .func (.func 73) #[] #[.pointer (some ⟨g7, 0, none⟩)]), (7, .int .i64 (x1.length : Int)), (8, .int .i64 s.1)] [.box g7 Tb8 [.string s.2]] [Sm w.heap.size F w [[g7]], St w [[g7]]]) s := by
  intro s hs
  refine Bv.ind (mot := (fun (s : Int × ByteArray) => ∀ (_ : Unit), G (Ez w F g7 Tb8 r) [.code Xgs, .inLoop Xgs, .inBlock 0, .code q72c4] [(0, .slice A2 n3 c4), (1, .func (.func 73) #[] #[.pointer (some ⟨g7, 0, none⟩)]), (7, .int .i64 (x1.length : Int)), (8, .int .i64 s.1)] [.box g7 Tb8 [.string s.2]] [Sm w.heap.size F w [[g7]], St w [[g7]]])) ?_ hs
  clear hs s
  intro s o1 h hO1
  obtain ⟨x22, x23⟩ := s
  show ∀ (_ : Unit), G (Ez w F g7 Tb8 r) [.code Xgs, .inLoop Xgs, .inBlock 0, .code q72c4] [(0, .slice A2 n3 c4), (1, .func (.func 73) #[] #[.pointer (some ⟨g7, 0, none⟩)]), (7, .int .i64 (x1.length : Int)), (8, .int .i64 x22)] [.box g7 Tb8 [.string x23]] [Sm w.heap.size F w [[g7]], St w [[g7]]]
  intro _
  have h : Dc x1 x22 x23 o1 := h
  unfold Dc at h
  refine Ai rfl <| Ad rfl rfl <| Aa 0 rfl (Bh rfl rfl rfl) gn rfl <| Ak 1 rfl <| Ai rfl ?_
  by_cases hp36 : x22 < (x1.length : Int)
  ·have h := Aq hp36 h
   refine Bz rfl _ rfl ((decide_eq_true hp36)) <| Cf rfl <| Ai rfl <| Dt rfl <| Ai rfl <| Ad rfl rfl <| Aa 0 rfl (Ae rfl) gn rfl <| Aa 1 rfl (Af rfl) gn rfl <| Ak 2 rfl <| Ai rfl <| Ad rfl rfl <| Aa 0 rfl (Ae rfl) gn rfl ?_
   refine Aa 1 rfl (Ae rfl) gn rfl <| Aa 2 rfl (Ae rfl) gn rfl ?_
   obtain ⟨hb37, h⟩ := h
   have hr38 := Rw.readF (s := St w [[g7]]) (hl := Gi) (h1 := I7) h5 hb37
   refine Aa 3 rfl (Gm (s := St w [[g7]]) X7 rfl rfl h5 hb37) gn rfl <| Aa 4 rfl (X8 (St w [[g7]]) Xbh rfl hr38 rfl (me 1 rfl)) gn rfl ?_
   obtain ⟨r42, hv43, h⟩ := h
   refine Cj 5 rfl (Hz [.agg #[.string ((ix x1 x22).name), .bool ((ix x1 x22).lit), .string ((ix x1 x22).field), .string ((ix x1 x22).capture), .int .i64 ((ix x1 x22).kids)]] [.pointer (some ⟨g7, 0, none⟩)] rfl rfl Tryd.func73 rfl rfl rfl fun w39 hL40 => ?_) gn
   have hp41 := pmI hL40 (.c 0 rfl .n) .n (by kernel_rfl)
   refine Calls.mono (Yz w39 (Fl ([] : List C9)) (ix x1 x22) x23 g7 Tb8 (hL40.hFl hp41 (Bg [] rfl)) (hL40.into hp41 _) r42 hv43) ?_
   rintro _ w44 ⟨rfl, hM45⟩
   have hL46 := hL40.call hp41 hM45
   refine ⟨_, _, _, rfl, hL46, ?_⟩
   refine Ak 6 rfl ?_
   by_cases hp47 : r42.1 = true
   ·have h := Aq hp47 h
    refine Bz rfl _ rfl (hp47) <| Ai rfl <| Ad rfl rfl <| Aa 0 rfl (Ae rfl) gn rfl <| Aa 1 rfl (Af rfl) gn rfl <| Ak 2 rfl ?_
    have h := Out.inr hO1 h
    refine Bo [.int .i64 x22] rfl Tryd.func72 rfl (.tmp rfl (.nil)) fun wr hLr => ?_
    have hMr := hLr.pkI (.c 0 rfl .n) .n (by kernel_rfl) (.c 1 rfl .n)
    show F5 w F g7 Tb8 r (.returned (Ce [.int .i64 x22])) wr
    rw [h]
    exact ⟨rfl, hMr⟩
   ·have h := Ar hp47 h
    refine Bj rfl _ rfl ((bf hp47)) <| Cf rfl <| D9 <| Ad rfl rfl <| Aa 0 rfl (Bh rfl rfl rfl) gn rfl <| Aa 1 rfl (Ae rfl) gn rfl <| Ak 2 rfl <| Ep ?_
    have ih := Out.inl hO1 h
    exact D7 [0, 1] (ih ()) ⟨rfl, rfl, rfl, rfl, trivial⟩ (.cons_cons _ (.slnil)) rfl
  ·have h := Ar hp36 h
   refine Bj rfl _ rfl ((decide_eq_false hp36)) <| Jq [.code q72c4] rfl rfl <| Ai rfl <| Ad rfl rfl <| Aa 0 rfl (Af rfl) gn rfl <| Ak 1 rfl ?_
   have h := Out.inr hO1 h
   refine Bo [.int .i64 (-1)] rfl Tryd.func72 rfl (.tmp rfl (.nil)) fun wr hLr => ?_
   have hMr := hLr.pkI (.c 0 rfl .n) .n (by kernel_rfl) (.c 1 rfl .n)
   show F5 w F g7 Tb8 r (.returned (Ce [.int .i64 (-1)])) wr
   rw [h]
   exact ⟨rfl, hMr⟩
 exact D7 [0, 1] (key1 _ h ()) ⟨rfl, rfl, rfl, rfl, trivial⟩ (.cons_cons _ (.slnil)) rfl
abbrev Ri (w : World) (F : Nat → Prop) (r : Int) : Ending → World → Prop := fun e w' => e = .returned (.int .i64 r) ∧ B.Loc w w' [] [St w []]
noncomputable abbrev Xdg (w : World) (F : Nat → Prop) (r : Int) : Cx := ⟨Tryd.prog, 43, Tryd.f43, 11, Ri w F  r, w⟩
theorem Ig (w : World) (F : Nat → Prop) (x1 : Au) (x10 : ByteArray) (A2 : Option Addr) (n3 : Nat) (c4 : Nat) (A6 : Option Addr) (n7 : Nat) (c8 : Nat) (h5 : Rw Di w (St w []).av A2 n3 c4 x1.nodes) (h9 : Rw Eu w (St w []).av A6 n7 c8 x1.conds) (hF : ∀ b, F b → b < w.heap.size ∧ ∀ o ∈ ([] : List (List Nat)), b ∉ o) (hL0 : B.Loc w w [] [Sm w.heap.size F w [], St w []]) (r : Int) (h : Gh x1 x10 r) : Calls Tryd.prog 43 #[.agg #[.slice A2 n3 c4, .slice A6 n7 c8], .string x10] w (Ri w F  r) := by
 unfold Gh at h
 refine Cb (vs := [.agg #[.slice A2 n3 c4, .slice A6 n7 c8], .string x10]) 11 Tryd.func43 rfl Tryd.ntmps43 rfl hL0 ?_
 show G (Xdg w F r) _ _ _ _
 refine Ai rfl <| Ad rfl rfl ?_
 refine Cj 0 rfl (Rq [.slice A2 n3 c4, .slice A6 n7 c8] rfl rfl rfl fun gb11 => ?_) gn
 refine Cj 1 rfl (Rq [.string x10] rfl rfl rfl fun gb13 => ?_) gn
 refine Aa 2 rfl (Af rfl) gn rfl <| Ak 3 rfl <| Ai rfl <| Ai rfl <| Ad rfl rfl <| Aa 0 rfl (Ap 0 H9 rfl rfl rfl) gn rfl <| Aa 1 rfl (Y2 rfl rfl) gn rfl <| Ak 2 rfl ?_
 by_cases hp15 : x10 = (⟨#[]⟩ : ByteArray)
 ·have h := Aq hp15 h
  refine Bz rfl _ rfl ((Q4 hp15)) <| Ai rfl <| Ad rfl rfl <| Aa 0 rfl (Af rfl) gn rfl <| Ak 1 rfl ?_
  refine Bo [.int .i64 (-1)] rfl Tryd.func43 rfl (.tmp rfl (.nil)) fun wr hLr => ?_
  have hMr := hLr.pk0 (.c 1 rfl .n)
  show Ri w F  r (.returned (Ce [.int .i64 (-1)])) wr
  rw [h]
  exact ⟨rfl, hMr⟩
 ·have h := Ar hp15 h
  refine Bj rfl _ rfl ((Qd hp15)) <| Cf rfl <| Ai rfl <| Ad rfl rfl <| Aa 0 rfl (Aw J9 rfl) gn rfl <| Aa 1 rfl (Ap 1 Qj rfl rfl rfl) gn rfl <| Aa 2 rfl (Us [.pointer (some ⟨gb13, 0, none⟩)] rfl) gn rfl ?_
  obtain ⟨r19, hv20, h⟩ := h
  refine Cj 3 rfl (D6 [.slice A2 n3 c4, .func (.func 73) #[] #[.pointer (some ⟨gb13, 0, none⟩)]] rfl Tryd.func72 rfl rfl rfl fun w16 hL17 => ?_) gn
  have hp18 := pmI hL17 (.c 0 rfl .n) (.c 1 rfl .n) (by kernel_rfl)
  refine Calls.mono (Oj w16 (Fl ([] : List C9)) x1.nodes x10 A2 n3 c4 gb13 9 (Rw.mono h5 (hL17.toSt hp18 (me 1 rfl))) (hL17.hFl hp18 (Bg [] rfl)) (hL17.into hp18 _) r19 hv20) ?_
  rintro _ w21 ⟨rfl, hM22⟩
  have hL23 := hL17.call hp18 hM22
  refine ⟨_, _, _, rfl, hL23, ?_⟩
  refine Aa 4 rfl (Af rfl) gn rfl <| Ak 5 rfl ?_
  refine Bo [.int .i64 r19.1] rfl Tryd.func43 rfl (.tmp rfl (.nil)) fun wr hLr => ?_
  have hMr := hLr.pk0 (.c 1 rfl .n)
  show Ri w F  r (.returned (Ce [.int .i64 r19.1])) wr
  rw [h]
  exact ⟨rfl, hMr⟩
noncomputable abbrev q24c4 := Code.snd (Code.snd (Dp Tryd.f24))
noncomputable abbrev q24c5 := Code.fst (Code.fst (Code.snd (Dp Tryd.f24)))
noncomputable abbrev q24c6 := Code.snd (Code.fst (Code.snd (Dp Tryd.f24)))
noncomputable abbrev Xdt := Code.snd q24c4
noncomputable abbrev Xdx := Code.fst (Code.fst (Code.snd (Code.fst q24c4)))
noncomputable abbrev Xib := Code.snd Xdt
noncomputable abbrev Xdf := Code.fst (Code.fst (Code.snd (Code.fst Xdt)))
abbrev Ir (w : World) (F : Nat → Prop) (r : Bool) : Ending → World → Prop := fun e w' => e = .returned (.bool r) ∧ B.Loc w w' [] [St w []]
noncomputable abbrev Jt (w : World) (F : Nat → Prop) (r : Bool) : Cx := ⟨Tryd.prog, 24, Tryd.f24, 81, Ir w F  r, w⟩
theorem Td (w : World) (F : Nat → Prop) (x1 : Au) (A2 : Option Addr) (n3 : Nat) (c4 : Nat) (A6 : Option Addr) (n7 : Nat) (c8 : Nat) (h5 : Rw Di w (St w []).av A2 n3 c4 x1.nodes) (h9 : Rw Eu w (St w []).av A6 n7 c8 x1.conds) (hG : Tb Tryd.prog (St w [])) (hF : ∀ b, F b → b < w.heap.size ∧ ∀ o ∈ ([] : List (List Nat)), b ∉ o) (hL0 : B.Loc w w [] [Sm w.heap.size F w [], St w []]) (r : Bool) (h : Lm x1 r) : Calls Tryd.prog 24 #[.agg #[.slice A2 n3 c4, .slice A6 n7 c8]] w (Ir w F  r) := by
 unfold Lm at h
 refine Cb (vs := [.agg #[.slice A2 n3 c4, .slice A6 n7 c8]]) 81 Tryd.func24 rfl Tryd.ntmps24 rfl hL0 ?_
 show G (Jt w F r) _ _ _ _
 refine Ai rfl <| Ad rfl rfl ?_
 refine Cj 0 rfl (Rq [.slice A2 n3 c4, .slice A6 n7 c8] rfl rfl rfl fun gb10 => ?_) gn
 refine Aa 1 rfl (Af rfl) gn rfl <| Ak 2 rfl <| Ai rfl <| Ai rfl ?_
 have j1 : ∀ (x84 : Bool) (h : Ia x1 x84 r) , G (Jt w F r) [.code q24c6, .code q24c4] [(1, .pointer (some ⟨gb10, 0, none⟩)), (25, .bool x84)] [.box gb10 25 [.slice A2 n3 c4, .slice A6 n7 c8]] [Sm w.heap.size F w [], St w []] := by
  intro x84 h
  unfold Ia at h
  by_cases hp85 : x84 = true
  ·have h := Aq hp85 h
   refine Bz rfl _ rfl (hp85) <| Ai rfl <| Ad rfl rfl <| Aa 0 rfl (Af rfl) gn rfl <| Ak 1 rfl ?_
   refine Bo [.bool false] rfl Tryd.func24 rfl (.tmp rfl (.nil)) fun wr hLr => ?_
   have hMr := hLr.pk0 (.c 1 rfl .n)
   show Ir w F  r (.returned (Ce [.bool false])) wr
   rw [h]
   exact ⟨rfl, hMr⟩
  ·have h := Ar hp85 h
   refine Bj rfl _ rfl ((bf hp85)) <| Cf rfl <| Ai rfl <| Ai rfl <| Ad rfl rfl <| Aa 0 rfl (Aw J9 rfl) gn rfl <| Aa 1 rfl (Ap 0 Qj rfl rfl rfl) gn rfl <| Aa 2 rfl (Dy Xp rfl h5.hq) gn rfl <| Aa 3 rfl (Ae rfl) gn rfl <| Ak 4 rfl <| Dt rfl <| Om rfl ?_
   have key2 : ∀ s, Bv (fun (s : Int) o => Je x1 s o) s r → (fun (s : Int) => ∀ (_ : Unit), G (Jt w F r) [.code Xdx, .inLoop Xdx, .inBlock 0, .code Xdt] [(1, .pointer (some ⟨gb10, 0, none⟩)), (27, .slice A2 n3 c4), (28, .int .i64 (x1.nodes.length : Int)), (29, .int .i64 s)] [.box gb10 25 [.slice A2 n3 c4, .slice A6 n7 c8]] [Sm w.heap.size F w [], St w []]) s := by
    intro s hs
    refine Bv.ind (mot := (fun (s : Int) => ∀ (_ : Unit), G (Jt w F r) [.code Xdx, .inLoop Xdx, .inBlock 0, .code Xdt] [(1, .pointer (some ⟨gb10, 0, none⟩)), (27, .slice A2 n3 c4), (28, .int .i64 (x1.nodes.length : Int)), (29, .int .i64 s)] [.box gb10 25 [.slice A2 n3 c4, .slice A6 n7 c8]] [Sm w.heap.size F w [], St w []])) ?_ hs
    clear hs s
    intro x188 o1 h hO1
    show ∀ (_ : Unit), G (Jt w F r) [.code Xdx, .inLoop Xdx, .inBlock 0, .code Xdt] [(1, .pointer (some ⟨gb10, 0, none⟩)), (27, .slice A2 n3 c4), (28, .int .i64 (x1.nodes.length : Int)), (29, .int .i64 x188)] [.box gb10 25 [.slice A2 n3 c4, .slice A6 n7 c8]] [Sm w.heap.size F w [], St w []]
    intro _
    have h : Je x1 x188 o1 := h
    unfold Je at h
    refine Ai rfl <| Ad rfl rfl <| Aa 0 rfl (Bh rfl rfl rfl) gn rfl <| Ak 1 rfl <| Ai rfl ?_
    by_cases hp290 : x188 < (x1.nodes.length : Int)
    ·have h := Aq hp290 h
     refine Bz rfl _ rfl ((decide_eq_true hp290)) <| Cf rfl <| Ai rfl <| Dt rfl <| Ai rfl <| Ad rfl rfl <| Aa 0 rfl (Ae rfl) gn rfl ?_
     obtain ⟨hb291, h⟩ := h
     have hr292 := Rw.readF (s := St w []) (hl := Gi) (h1 := I7) h5 hb291
     refine Aa 1 rfl (Gm (s := St w []) X7 rfl rfl h5 hb291) gn rfl <| Aa 2 rfl (X8 (St w []) Xbh rfl hr292 rfl (me 1 rfl)) gn rfl ?_
     refine Cj 3 rfl (Gp [.string (⟨#[]⟩ : ByteArray), .bool false, .string (⟨#[]⟩ : ByteArray), .string (⟨#[]⟩ : ByteArray), .int .i64 0] Xjb rfl fun gb293 => ?_) gn
     refine Aa 4 rfl (Af rfl) gn rfl ?_
     refine Cj 5 rfl (Fg (vs := [.string ((ix x1.nodes x188).name), .bool ((ix x1.nodes x188).lit), .string ((ix x1.nodes x188).field), .string ((ix x1.nodes x188).capture), .int .i64 ((ix x1.nodes x188).kids)]) (cs' := [.string ((ix x1.nodes x188).name), .bool ((ix x1.nodes x188).lit), .string ((ix x1.nodes x188).field), .string ((ix x1.nodes x188).capture), .int .i64 ((ix x1.nodes x188).kids)]) (M' := [.box gb293 45 [.string ((ix x1.nodes x188).name), .bool ((ix x1.nodes x188).lit), .string ((ix x1.nodes x188).field), .string ((ix x1.nodes x188).capture), .int .i64 ((ix x1.nodes x188).kids)], .box gb10 25 [.slice A2 n3 c4, .slice A6 n7 c8]]) 0 Xf1 rfl rfl rfl rfl rfl rfl rfl rfl rfl ?_) gn
     refine Ak 6 rfl <| Ai rfl <| Ad rfl rfl <| Aa 0 rfl (La [.string ((ix x1.nodes x188).name), .bool ((ix x1.nodes x188).lit), .string ((ix x1.nodes x188).field), .string ((ix x1.nodes x188).capture), .int .i64 ((ix x1.nodes x188).kids)] 0 Xbh rfl rfl rfl rfl) gn rfl ?_
     obtain ⟨r298, hv299, h⟩ := h
     refine Cj 1 rfl (D6 [.agg #[.string ((ix x1.nodes x188).name), .bool ((ix x1.nodes x188).lit), .string ((ix x1.nodes x188).field), .string ((ix x1.nodes x188).capture), .int .i64 ((ix x1.nodes x188).kids)]] rfl Tryd.func55 rfl rfl rfl fun w295 hL296 => ?_) gn
     have hp297 := pmI hL296 .n (.c 0 rfl (.c 1 rfl .n)) (by kernel_rfl)
     refine Calls.mono (Xcg w295 (Fl ([] : List C9)) (ix x1.nodes x188) (hL296.tb hp297 hG (me 1 rfl)) (hL296.hFl hp297 (Bg [] rfl)) (hL296.into hp297 _) r298 hv299) ?_
     rintro _ w300 ⟨rfl, hM301⟩
     have hL302 := hL296.call hp297 hM301
     refine ⟨_, _, _, rfl, hL302, ?_⟩
     refine Aa 2 rfl (Qg rfl) gn rfl <| Aa 3 rfl (Ae rfl) gn rfl ?_
     by_cases hp303 : r298 = true
     ·have h := Aq hp303 h
      refine Bl 37 rfl ((nf hp303)) <| Aa 4 rfl (Aw U9 rfl) (gy 37 rfl rfl) rfl <| Aa 5 rfl (Ap 0 H9 rfl rfl rfl) (gy 37 rfl rfl) rfl <| Aa 6 rfl (Ru rfl rfl) (gy 37 rfl rfl) rfl <| Aa 7 rfl (Ae rfl) (gy 37 rfl rfl) rfl ?_
      by_cases hp304 : (ix x1.nodes x188).capture = (⟨#[]⟩ : ByteArray)
      ·have h := Aq hp304 h
       refine Bl 41 rfl ((nf (Q4 hp304))) <| Ac 8 rfl (ps 41 rfl rfl rfl) <| Ac 9 rfl (ps 41 rfl rfl rfl) <| Ac 10 rfl (ps 41 rfl rfl rfl) <| Ac 11 rfl (ps 41 rfl rfl rfl) <| Ac 12 rfl (ps 41 rfl rfl rfl) <| Ac 13 rfl (ps 41 rfl rfl rfl) <| Aa 14 rfl (Az (b := false) rfl rfl) (gy 37 rfl rfl) rfl <| Aa 15 rfl (Az (b := false) rfl rfl) gn rfl <| Ak 16 rfl <| Bj rfl _ rfl (rfl) <| Cf rfl ?_
       refine D9 <| Ad rfl rfl <| Aa 0 rfl (Bh rfl rfl rfl) gn rfl <| Aa 1 rfl (Ae rfl) gn rfl <| Ak 2 rfl <| Ep ?_
       have ih := Out.inl hO1 h
       exact D7 [0, 1] (ih ()) ⟨rfl, rfl, rfl, rfl, trivial⟩ (.cons _ (.cons_cons _ (.slnil))) rfl
      ·have h := Ar hp304 h
       refine Bl 41 rfl ((nt (Qd hp304))) <| Aa 8 rfl (La [.slice A2 n3 c4, .slice A6 n7 c8] 1 Rt rfl rfl rfl rfl) (gy 41 rfl rfl) rfl <| Aa 9 rfl (Aw U9 rfl) (gy 41 rfl rfl) rfl <| Aa 10 rfl (Ap 0 H9 rfl rfl rfl) (gy 41 rfl rfl) rfl ?_
       obtain ⟨r308, hv309, h⟩ := h
       refine Cj 11 rfl (D6 [.agg #[.slice A2 n3 c4, .slice A6 n7 c8], .string ((ix x1.nodes x188).capture)] rfl Tryd.func43 rfl rfl rfl fun w305 hL306 => ?_) (gy 41 rfl rfl)
       have hp307 := pmI hL306 .n (.c 0 rfl (.c 1 rfl .n)) (by kernel_rfl)
       refine Calls.mono (Ig w305 (Fl ([] : List C9)) x1 ((ix x1.nodes x188).capture) A2 n3 c4 A6 n7 c8 (Rw.mono h5 (hL306.toSt hp307 (me 1 rfl))) (Rw.mono h9 (hL306.toSt hp307 (me 1 rfl))) (hL306.hFl hp307 (Bg [] rfl)) (hL306.into hp307 _) r308 hv309) ?_
       rintro _ w310 ⟨rfl, hM311⟩
       have hL312 := hL306.call hp307 hM311
       refine ⟨_, _, _, rfl, hL312, ?_⟩
       refine Aa 12 rfl (Ae rfl) (gy 41 rfl rfl) rfl <| Aa 13 rfl (Bh rfl rfl rfl) (gy 41 rfl rfl) rfl <| Aa 14 rfl (Az (b := true) rfl rfl) (gy 37 rfl rfl) rfl <| Aa 15 rfl (Az (b := false) rfl rfl) gn rfl <| Ak 16 rfl ?_
       by_cases hp313 : r308 = x188
       ·have h := Aq hp313 h
        refine Bj rfl _ rfl ((Xaf hp313)) <| Cf rfl <| D9 <| Ad rfl rfl <| Aa 0 rfl (Bh rfl rfl rfl) gn rfl <| Aa 1 rfl (Ae rfl) gn rfl <| Ak 2 rfl <| Ep ?_
        have ih := Out.inl hO1 h
        exact D7 [0, 1] (ih ()) ⟨rfl, rfl, rfl, rfl, trivial⟩ (.cons _ (.cons_cons _ (.slnil))) rfl
       ·have h := Ar hp313 h
        refine Bz rfl _ rfl ((Zz hp313)) <| Ai rfl <| Ad rfl rfl <| Aa 0 rfl (Af rfl) gn rfl <| Ak 1 rfl ?_
        have h := Out.inr hO1 h
        refine Bo [.bool false] rfl Tryd.func24 rfl (.tmp rfl (.nil)) fun wr hLr => ?_
        have hMr := hLr.pk0 (.c 1 rfl .n)
        show Ir w F  r (.returned (Ce [.bool false])) wr
        rw [h]
        exact ⟨rfl, hMr⟩
     ·have h := Ar hp303 h
      refine Bl 37 rfl ((nt (bf hp303))) <| Ac 4 rfl (ps 37 rfl rfl rfl) <| Ac 5 rfl (ps 37 rfl rfl rfl) <| Ac 6 rfl (ps 37 rfl rfl rfl) <| Ac 7 rfl (ps 37 rfl rfl rfl) <| Ac 8 rfl (pu 41 rfl rfl) <| Ac 9 rfl (pu 41 rfl rfl) <| Ac 10 rfl (pu 41 rfl rfl) <| Ac 11 rfl (pu 41 rfl rfl) <| Ac 12 rfl (pu 41 rfl rfl) <| Ac 13 rfl (pu 41 rfl rfl) <| Ac 14 rfl (ps 37 rfl rfl rfl) ?_
      refine Aa 15 rfl (Az (b := true) rfl rfl) gn rfl <| Ak 16 rfl <| Bz rfl _ rfl (rfl) <| Ai rfl <| Ad rfl rfl <| Aa 0 rfl (Af rfl) gn rfl <| Ak 1 rfl ?_
      have h := Out.inr hO1 h
      refine Bo [.bool false] rfl Tryd.func24 rfl (.tmp rfl (.nil)) fun wr hLr => ?_
      have hMr := hLr.pk0 (.c 1 rfl .n)
      show Ir w F  r (.returned (Ce [.bool false])) wr
      rw [h]
      exact ⟨rfl, hMr⟩
    ·have h := Ar hp290 h
     refine Bj rfl _ rfl ((decide_eq_false hp290)) <| Jq [.code Xdt] rfl rfl <| Ai rfl <| Ai rfl <| Ad rfl rfl <| Aa 0 rfl (Aw Lp rfl) gn rfl <| Aa 1 rfl (Ap 0 Vy rfl rfl rfl) gn rfl <| Aa 2 rfl (Dy Xa6 rfl h9.hq) gn rfl <| Aa 3 rfl (Ae rfl) gn rfl <| Ak 4 rfl <| Dt rfl <| Om rfl ?_
     have key3 : ∀ s, Bv (fun (s : Int) o => Jf x1 s o) s o1 → (fun (s : Int) => ∀ (_ : Unit), G (Jt w F r) [.code Xdf, .inLoop Xdf, .inBlock 2, .code Xib] [(1, .pointer (some ⟨gb10, 0, none⟩)), (52, .slice A6 n7 c8), (53, .int .i64 (x1.conds.length : Int)), (54, .int .i64 s)] [.box gb10 25 [.slice A2 n3 c4, .slice A6 n7 c8]] [Sm w.heap.size F w [], St w []]) s := by
      intro s hs
      refine Bv.ind (mot := (fun (s : Int) => ∀ (_ : Unit), G (Jt w F r) [.code Xdf, .inLoop Xdf, .inBlock 2, .code Xib] [(1, .pointer (some ⟨gb10, 0, none⟩)), (52, .slice A6 n7 c8), (53, .int .i64 (x1.conds.length : Int)), (54, .int .i64 s)] [.box gb10 25 [.slice A2 n3 c4, .slice A6 n7 c8]] [Sm w.heap.size F w [], St w []])) ?_ hs
      clear hs s
      intro x340 o2 h hO2
      show ∀ (_ : Unit), G (Jt w F r) [.code Xdf, .inLoop Xdf, .inBlock 2, .code Xib] [(1, .pointer (some ⟨gb10, 0, none⟩)), (52, .slice A6 n7 c8), (53, .int .i64 (x1.conds.length : Int)), (54, .int .i64 x340)] [.box gb10 25 [.slice A2 n3 c4, .slice A6 n7 c8]] [Sm w.heap.size F w [], St w []]
      intro _
      have h : Jf x1 x340 o2 := h
      unfold Jf at h
      refine Ai rfl <| Ad rfl rfl <| Aa 0 rfl (Bh rfl rfl rfl) gn rfl <| Ak 1 rfl <| Ai rfl ?_
      by_cases hp366 : x340 < (x1.conds.length : Int)
      ·have h := Aq hp366 h
       refine Bz rfl _ rfl ((decide_eq_true hp366)) <| Cf rfl <| Ai rfl <| Dt rfl <| Ai rfl <| Ad rfl rfl ?_
       obtain ⟨hb367, h⟩ := h
       have hr368 := Rw.readF (s := St w []) (hl := O3) (h1 := Og) h9 hb367
       refine Aa 0 rfl (Gm (s := St w []) Xfe rfl rfl h9 hb367) gn rfl <| Aa 1 rfl (X8 (St w []) Xe5 rfl hr368 rfl (me 1 rfl)) gn rfl ?_
       refine Cj 2 rfl (Gp [.bool false, .string (⟨#[]⟩ : ByteArray), .string (⟨#[]⟩ : ByteArray), .string (⟨#[]⟩ : ByteArray)] zr_47 rfl fun gb369 => ?_) gn
       refine Cj 3 rfl (Fg (vs := [.bool ((ix x1.conds x340).not), .string ((ix x1.conds x340).a), .string ((ix x1.conds x340).b), .string ((ix x1.conds x340).text)]) (cs' := [.bool ((ix x1.conds x340).not), .string ((ix x1.conds x340).a), .string ((ix x1.conds x340).b), .string ((ix x1.conds x340).text)]) (M' := [.box gb369 47 [.bool ((ix x1.conds x340).not), .string ((ix x1.conds x340).a), .string ((ix x1.conds x340).b), .string ((ix x1.conds x340).text)], .box gb10 25 [.slice A2 n3 c4, .slice A6 n7 c8]]) 0 sz_47 rfl rfl rfl rfl rfl rfl rfl rfl rfl ?_) gn
       refine Ak 4 rfl <| Ai rfl <| Ad rfl rfl <| Aa 0 rfl (La [.slice A2 n3 c4, .slice A6 n7 c8] 1 Rt rfl rfl rfl rfl) gn rfl <| Aa 1 rfl (Aw Xcp rfl) gn rfl <| Aa 2 rfl (Ap 0 H9 rfl rfl rfl) gn rfl ?_
       obtain ⟨r374, hv375, h⟩ := h
       refine Cj 3 rfl (D6 [.agg #[.slice A2 n3 c4, .slice A6 n7 c8], .string ((ix x1.conds x340).a)] rfl Tryd.func43 rfl rfl rfl fun w371 hL372 => ?_) gn
       have hp373 := pmI hL372 .n (.c 0 rfl (.c 1 rfl .n)) (by kernel_rfl)
       refine Calls.mono (Ig w371 (Fl ([] : List C9)) x1 ((ix x1.conds x340).a) A2 n3 c4 A6 n7 c8 (Rw.mono h5 (hL372.toSt hp373 (me 1 rfl))) (Rw.mono h9 (hL372.toSt hp373 (me 1 rfl))) (hL372.hFl hp373 (Bg [] rfl)) (hL372.into hp373 _) r374 hv375) ?_
       rintro _ w376 ⟨rfl, hM377⟩
       have hL378 := hL372.call hp373 hM377
       refine ⟨_, _, _, rfl, hL378, ?_⟩
       refine Aa 4 rfl (Bh rfl rfl rfl) gn rfl <| Aa 5 rfl (Ae rfl) gn rfl ?_
       by_cases hp379 : r374 < 0
       ·have h := Aq hp379 h
        refine Bl 63 rfl ((decide_eq_true hp379)) <| Ac 6 rfl (ps 63 rfl rfl rfl) <| Ac 7 rfl (ps 63 rfl rfl rfl) <| Ac 8 rfl (ps 63 rfl rfl rfl) <| Ac 9 rfl (ps 63 rfl rfl rfl) <| Ac 10 rfl (pu 67 rfl rfl) <| Ac 11 rfl (pu 67 rfl rfl) <| Ac 12 rfl (pu 67 rfl rfl) <| Ac 13 rfl (pu 67 rfl rfl) <| Ac 14 rfl (pu 67 rfl rfl) <| Ac 15 rfl (pu 67 rfl rfl) <| Ac 16 rfl (pu 73 rfl rfl) ?_
        refine Ac 17 rfl (pu 73 rfl rfl) <| Ac 18 rfl (pu 73 rfl rfl) <| Ac 19 rfl (pu 67 rfl rfl) <| Ac 20 rfl (ps 63 rfl rfl rfl) <| Aa 21 rfl (Az (b := true) rfl rfl) gn rfl <| Ak 22 rfl <| Bz rfl _ rfl (rfl) <| Ai rfl <| Ad rfl rfl <| Aa 0 rfl (Af rfl) gn rfl <| Ak 1 rfl ?_
        have h := Out.inr hO2 h
        have h := Out.inr hO1 h
        refine Bo [.bool false] rfl Tryd.func24 rfl (.tmp rfl (.nil)) fun wr hLr => ?_
        have hMr := hLr.pk0 (.c 1 rfl .n)
        show Ir w F  r (.returned (Ce [.bool false])) wr
        rw [h]
        exact ⟨rfl, hMr⟩
       ·have h := Ar hp379 h
        refine Bl 63 rfl ((decide_eq_false hp379)) <| Aa 6 rfl (Aw Z9 rfl) (gy 63 rfl rfl) rfl <| Aa 7 rfl (Ap 0 H9 rfl rfl rfl) (gy 63 rfl rfl) rfl <| Aa 8 rfl (Ru rfl rfl) (gy 63 rfl rfl) rfl <| Aa 9 rfl (Ae rfl) (gy 63 rfl rfl) rfl ?_
        by_cases hp380 : (ix x1.conds x340).b = (⟨#[]⟩ : ByteArray)
        ·have h := Aq hp380 h
         refine Bl 67 rfl ((nf (Q4 hp380))) <| Ac 10 rfl (ps 67 rfl rfl rfl) <| Ac 11 rfl (ps 67 rfl rfl rfl) <| Ac 12 rfl (ps 67 rfl rfl rfl) <| Ac 13 rfl (ps 67 rfl rfl rfl) <| Ac 14 rfl (ps 67 rfl rfl rfl) <| Ac 15 rfl (ps 67 rfl rfl rfl) <| Ac 16 rfl (pu 73 rfl rfl) <| Ac 17 rfl (pu 73 rfl rfl) <| Ac 18 rfl (pu 73 rfl rfl) <| Ac 19 rfl (ps 67 rfl rfl rfl) <| Aa 20 rfl (Az (b := false) rfl rfl) (gy 63 rfl rfl) rfl ?_
         refine Aa 21 rfl (Az (b := false) rfl rfl) gn rfl <| Ak 22 rfl <| Bj rfl _ rfl (rfl) <| Cf rfl <| D9 <| Ad rfl rfl <| Aa 0 rfl (Bh rfl rfl rfl) gn rfl <| Aa 1 rfl (Ae rfl) gn rfl <| Ak 2 rfl <| Ep ?_
         have ih := Out.inl hO2 h
         exact D7 [0, 1] (ih ()) ⟨rfl, rfl, rfl, rfl, trivial⟩ (.cons _ (.cons_cons _ (.slnil))) rfl
        ·have h := Ar hp380 h
         refine Bl 67 rfl ((nt (Qd hp380))) <| Aa 10 rfl (La [.slice A2 n3 c4, .slice A6 n7 c8] 1 Rt rfl rfl rfl rfl) (gy 67 rfl rfl) rfl <| Aa 11 rfl (Aw Z9 rfl) (gy 67 rfl rfl) rfl <| Aa 12 rfl (Ap 0 H9 rfl rfl rfl) (gy 67 rfl rfl) rfl ?_
         obtain ⟨r384, hv385, h⟩ := h
         refine Cj 13 rfl (D6 [.agg #[.slice A2 n3 c4, .slice A6 n7 c8], .string ((ix x1.conds x340).b)] rfl Tryd.func43 rfl rfl rfl fun w381 hL382 => ?_) (gy 67 rfl rfl)
         have hp383 := pmI hL382 .n (.c 0 rfl (.c 1 rfl .n)) (by kernel_rfl)
         refine Calls.mono (Ig w381 (Fl ([] : List C9)) x1 ((ix x1.conds x340).b) A2 n3 c4 A6 n7 c8 (Rw.mono h5 (hL382.toSt hp383 (me 1 rfl))) (Rw.mono h9 (hL382.toSt hp383 (me 1 rfl))) (hL382.hFl hp383 (Bg [] rfl)) (hL382.into hp383 _) r384 hv385) ?_
         rintro _ w386 ⟨rfl, hM387⟩
         have hL388 := hL382.call hp383 hM387
         refine ⟨_, _, _, rfl, hL388, ?_⟩
         refine Aa 14 rfl (Bh rfl rfl rfl) (gy 67 rfl rfl) rfl <| Aa 15 rfl (Ae rfl) (gy 67 rfl rfl) rfl ?_
         by_cases hp389 : r384 < 0
         ·have h := Aq hp389 h
          refine Bl 73 rfl ((decide_eq_true hp389)) <| Ac 16 rfl (ps 73 rfl rfl rfl) <| Ac 17 rfl (ps 73 rfl rfl rfl) <| Ac 18 rfl (ps 73 rfl rfl rfl) <| Aa 19 rfl (Az (b := true) rfl rfl) (gy 67 rfl rfl) rfl <| Aa 20 rfl (Az (b := true) rfl rfl) (gy 63 rfl rfl) rfl <| Aa 21 rfl (Az (b := false) rfl rfl) gn rfl <| Ak 22 rfl <| Bz rfl _ rfl (rfl) <| Ai rfl <| Ad rfl rfl <| Aa 0 rfl (Af rfl) gn rfl ?_
          refine Ak 1 rfl ?_
          have h := Out.inr hO2 h
          have h := Out.inr hO1 h
          refine Bo [.bool false] rfl Tryd.func24 rfl (.tmp rfl (.nil)) fun wr hLr => ?_
          have hMr := hLr.pk0 (.c 1 rfl .n)
          show Ir w F  r (.returned (Ce [.bool false])) wr
          rw [h]
          exact ⟨rfl, hMr⟩
         ·have h := Ar hp389 h
          refine Bl 73 rfl ((decide_eq_false hp389)) <| Aa 16 rfl (Aw Xet rfl) (gy 73 rfl rfl) rfl <| Aa 17 rfl (Ap 0 H9 rfl rfl rfl) (gy 73 rfl rfl) rfl <| Aa 18 rfl (Ru rfl rfl) (gy 73 rfl rfl) rfl <| Aa 19 rfl (Az (b := false) rfl rfl) (gy 67 rfl rfl) rfl <| Aa 20 rfl (Az (b := true) rfl rfl) (gy 63 rfl rfl) rfl <| Aa 21 rfl (Az (b := false) rfl rfl) gn rfl <| Ak 22 rfl ?_
          by_cases hp390 : (ix x1.conds x340).text = (⟨#[]⟩ : ByteArray)
          ·have h := Aq hp390 h
           refine Bj rfl _ rfl ((nf (Q4 hp390))) <| Cf rfl <| D9 <| Ad rfl rfl <| Aa 0 rfl (Bh rfl rfl rfl) gn rfl <| Aa 1 rfl (Ae rfl) gn rfl <| Ak 2 rfl <| Ep ?_
           have ih := Out.inl hO2 h
           exact D7 [0, 1] (ih ()) ⟨rfl, rfl, rfl, rfl, trivial⟩ (.cons _ (.cons_cons _ (.slnil))) rfl
          ·have h := Ar hp390 h
           refine Bz rfl _ rfl ((nt (Qd hp390))) <| Ai rfl <| Ad rfl rfl <| Aa 0 rfl (Af rfl) gn rfl <| Ak 1 rfl ?_
           have h := Out.inr hO2 h
           have h := Out.inr hO1 h
           refine Bo [.bool false] rfl Tryd.func24 rfl (.tmp rfl (.nil)) fun wr hLr => ?_
           have hMr := hLr.pk0 (.c 1 rfl .n)
           show Ir w F  r (.returned (Ce [.bool false])) wr
           rw [h]
           exact ⟨rfl, hMr⟩
      ·have h := Ar hp366 h
       refine Bj rfl _ rfl ((decide_eq_false hp366)) <| Jq [.code Xib] rfl rfl <| Ai rfl <| Ad rfl rfl <| Aa 0 rfl (Af rfl) gn rfl <| Ak 1 rfl ?_
       have h := Out.inr hO2 h
       have h := Out.inr hO1 h
       refine Bo [.bool true] rfl Tryd.func24 rfl (.tmp rfl (.nil)) fun wr hLr => ?_
       have hMr := hLr.pk0 (.c 1 rfl .n)
       show Ir w F  r (.returned (Ce [.bool true])) wr
       rw [h]
       exact ⟨rfl, hMr⟩
     exact D7 [0, 1] (key3 _ h ()) ⟨rfl, rfl, rfl, rfl, trivial⟩ (.cons_cons _ (.slnil)) rfl
   exact D7 [0, 1] (key2 _ h ()) ⟨rfl, rfl, rfl, rfl, trivial⟩ (.cons_cons _ (.slnil)) rfl
 by_cases hp391 : (x1.nodes.length : Int) > 32
 ·have h := Aq hp391 h
  have hns : Region.noSelect (Code.ops q24c5) = true := by kernel_rfl
  refine G5 [] 19 rfl rfl mix rfl (.c 0 rfl (.c 1 rfl .n)) <| wfv 0 rfl (Aw J9 rfl) gn hns rfl <| wfv 1 rfl (Ap 0 Qj rfl rfl rfl) gn hns rfl <| wfv 2 rfl (Dy Xp rfl h5.hq) gn hns rfl <| wfv 3 rfl (Bh rfl rfl rfl) gn hns rfl <| wfv 4 rfl (Ae rfl) gn hns rfl <| Jh 11 rfl ((decide_eq_true hp391)) <| wfp 5 rfl (ps 11 rfl rfl rfl) hns rfl <| wfp 6 rfl (ps 11 rfl rfl rfl) hns rfl <| wfp 7 rfl (ps 11 rfl rfl rfl) hns rfl <| wfp 8 rfl (ps 11 rfl rfl rfl) hns rfl <| wfv 9 rfl (Az (b := true) rfl rfl) gn hns rfl ?_
  refine wfv 10 rfl (Ae rfl) gn hns rfl <| wfp 11 rfl (ps 17 rfl rfl rfl) hns rfl <| wfp 12 rfl (ps 17 rfl rfl rfl) hns rfl <| wfp 13 rfl (ps 17 rfl rfl rfl) hns rfl <| wfp 14 rfl (ps 17 rfl rfl rfl) hns rfl <| wfp 15 rfl (ps 17 rfl rfl rfl) hns rfl <| wfp 16 rfl (ps 17 rfl rfl rfl) hns rfl <| wfp 17 rfl (ps 17 rfl rfl rfl) hns rfl <| wfv 18 rfl (Az (b := true) rfl rfl) gn hns rfl <| Dw (by kernel_rfl) ?_
  exact D7 [0, 1] (j1 true h) ⟨rfl, rfl, trivial⟩ (.cons_cons _ (.slnil)) rfl
 ·have h := Ar hp391 h
  by_cases hp392 : (x1.conds.length : Int) > 16
  ·have h := Aq hp392 h
   have hns : Region.noSelect (Code.ops q24c5) = true := by kernel_rfl
   refine G5 [] 19 rfl rfl mix rfl (.c 0 rfl (.c 1 rfl .n)) <| wfv 0 rfl (Aw J9 rfl) gn hns rfl <| wfv 1 rfl (Ap 0 Qj rfl rfl rfl) gn hns rfl <| wfv 2 rfl (Dy Xp rfl h5.hq) gn hns rfl <| wfv 3 rfl (Bh rfl rfl rfl) gn hns rfl <| wfv 4 rfl (Ae rfl) gn hns rfl <| Jh 11 rfl ((decide_eq_false hp391)) <| wfv 5 rfl (Aw Lp rfl) (gy 11 rfl rfl) hns rfl <| wfv 6 rfl (Ap 0 Vy rfl rfl rfl) (gy 11 rfl rfl) hns rfl <| wfv 7 rfl (Dy Xa6 rfl h9.hq) (gy 11 rfl rfl) hns rfl <| wfv 8 rfl (Bh rfl rfl rfl) (gy 11 rfl rfl) hns rfl <| wfv 9 rfl (Az (b := false) rfl rfl) gn hns rfl ?_
   refine wfv 10 rfl (Ae rfl) gn hns rfl <| Jh 17 rfl ((decide_eq_true hp392)) <| wfp 11 rfl (ps 17 rfl rfl rfl) hns rfl <| wfp 12 rfl (ps 17 rfl rfl rfl) hns rfl <| wfp 13 rfl (ps 17 rfl rfl rfl) hns rfl <| wfp 14 rfl (ps 17 rfl rfl rfl) hns rfl <| wfp 15 rfl (ps 17 rfl rfl rfl) hns rfl <| wfp 16 rfl (ps 17 rfl rfl rfl) hns rfl <| wfp 17 rfl (ps 17 rfl rfl rfl) hns rfl <| wfv 18 rfl (Az (b := true) rfl rfl) gn hns rfl <| Dw (by kernel_rfl) ?_
   exact D7 [0, 1] (j1 true h) ⟨rfl, rfl, trivial⟩ (.cons_cons _ (.slnil)) rfl
  ·have h := Ar hp392 h
   obtain ⟨r396, hv397, h⟩ := h
   have hns : Region.noSelect (Code.ops q24c5) = true := by kernel_rfl
   refine G5 [] 19 rfl rfl mix rfl (.c 0 rfl (.c 1 rfl .n)) <| wfv 0 rfl (Aw J9 rfl) gn hns rfl <| wfv 1 rfl (Ap 0 Qj rfl rfl rfl) gn hns rfl <| wfv 2 rfl (Dy Xp rfl h5.hq) gn hns rfl <| wfv 3 rfl (Bh rfl rfl rfl) gn hns rfl <| wfv 4 rfl (Ae rfl) gn hns rfl <| Jh 11 rfl ((decide_eq_false hp391)) <| wfv 5 rfl (Aw Lp rfl) (gy 11 rfl rfl) hns rfl <| wfv 6 rfl (Ap 0 Vy rfl rfl rfl) (gy 11 rfl rfl) hns rfl <| wfv 7 rfl (Dy Xa6 rfl h9.hq) (gy 11 rfl rfl) hns rfl <| wfv 8 rfl (Bh rfl rfl rfl) (gy 11 rfl rfl) hns rfl <| wfv 9 rfl (Az (b := false) rfl rfl) gn hns rfl ?_
   refine wfv 10 rfl (Ae rfl) gn hns rfl <| Jh 17 rfl ((decide_eq_false hp392)) <| wfv 11 rfl (Aw J9 rfl) (gy 17 rfl rfl) hns rfl <| wfv 12 rfl (Ap 0 Qj rfl rfl rfl) (gy 17 rfl rfl) hns rfl <| wfv 14 rfl (Aw J9 rfl) (gy 17 rfl rfl) hns rfl <| wfv 15 rfl (Ap 0 Qj rfl rfl rfl) (gy 17 rfl rfl) hns rfl <| wfv 16 rfl (Dy Xp rfl h5.hq) (gy 17 rfl rfl) hns rfl ?_
   refine Cm [13] (by kernel_rfl) rfl ⟨Eo 13 rfl (gy 17 rfl rfl) rfl (D6 [.slice A2 n3 c4, .int .i64 0] rfl Tryd.func54 rfl rfl rfl fun w455 hL456 => ?_), trivial⟩
   have hp457 := pmI hL456 .n (.c 0 rfl .n) (by kernel_rfl)
   refine Calls.mono (Xb6 w455 (Fl ([] : List C9)) x1.nodes 0 A2 n3 c4 (Rw.mono h5 (hL456.toSt hp457 (me 1 rfl))) (hL456.hFl hp457 (Bg [] rfl)) (hL456.into hp457 _) r396 hv397) ?_
   rintro _ w458 ⟨rfl, hM459⟩
   have hL460 := hL456.call hp457 hM459
   refine ⟨_, _, _, rfl, hL460, ?_⟩
   refine ⟨Bg [0] rfl, Bg [0, 1] rfl, ?_⟩
   refine wfv 17 rfl (Bh rfl rfl rfl) (gy 17 rfl rfl) hns rfl <| wfv 18 rfl (Az (b := false) rfl rfl) gn hns rfl <| Dw (by kernel_rfl) ?_
   exact D7 [0, 1] (j1 (r396 != (x1.nodes.length : Int)) h) ⟨rfl, rfl, trivial⟩ (.cons_cons _ (.slnil)) rfl
end Go.Proofs.YtjookebbmfiidaaDoor.K
