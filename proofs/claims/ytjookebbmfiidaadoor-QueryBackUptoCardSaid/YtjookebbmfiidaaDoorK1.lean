/- What the machine's calls do, function by function, printed by my own tool. Condition of each: its relation holds of the answer, and what is handed in lies in memory as told. -/
import Derived.Test.YtjookebbmfiidaaDoorK0
set_option linter.unusedVariables false
set_option maxRecDepth 100000
set_option maxHeartbeats 4000000
namespace Go.Proofs.YtjookebbmfiidaaDoor.K
open Go.Proofs.YtjookebbmfiidaaDoor.B Go.Proofs.YtjookebbmfiidaaDoor.R Go.RowKit
noncomputable abbrev Tm := Code.snd (Code.snd (Code.snd (Bt Tryd.f10)))
noncomputable abbrev Ld := Code.fst (Code.fst (Code.snd (Code.fst (Code.snd (Code.snd (Bt Tryd.f10))))))
noncomputable abbrev W9 := Code.snd (Code.snd Ld)
noncomputable abbrev Wi := Code.snd (Code.fst (Code.fst (Code.snd Ld)))
noncomputable abbrev V2 := Code.fst (Code.fst (Code.fst (Code.fst (Code.fst (Code.snd Ld)))))
abbrev Fp (w : World) (F : Nat → Prop) (r : Bool) : Ending → World → Prop := fun e w' => e = .returned (.bool r) ∧ B.Loc w w' [] [St w []]
noncomputable abbrev Dv (w : World) (F : Nat → Prop) (r : Bool) : Cx := ⟨Tryd.prog, 10, Tryd.f10, 54, Fp w F  r, w⟩
theorem Oc (w : World) (F : Nat → Prop) (x1 : List Ae) (A2 : Option Addr) (n3 : Nat) (c4 : Nat) (h5 : Rw Bl w (St w []).av A2 n3 c4 x1) (hF : ∀ b, F b → b < w.heap.size ∧ ∀ o ∈ ([] : List (List Nat)), b ∉ o) (hL0 : B.Loc w w [] [Sm w.heap.size F w [], St w []]) (r : Bool) (h : Ia x1 r) : Calls Tryd.prog 10 #[.slice A2 n3 c4] w (Fp w F  r) := by
 unfold Ia at h
 refine B6 (vs := [.slice A2 n3 c4]) 54 Tryd.func10 rfl Tryd.ntmps10 rfl hL0 ?_
 show G (Dv w F r) _ _ _ _
 refine Ah rfl <| Ab rfl rfl <| A3 0 rfl (Ad rfl) gn rfl <| Ai 1 rfl <| Ah rfl <| Ab rfl rfl <| A3 0 rfl (Ad rfl) gn rfl <| Ai 1 rfl <| Ah rfl <| Ah rfl <| Ab rfl rfl <| A3 0 rfl (Ad rfl) gn rfl ?_
 refine Ai 1 rfl <| Bs rfl <| H3 rfl ?_
 have key1 : ∀ s, B0 (fun (s : (List Int) × Int) o => D0 x1 s.1 s.2 o) s r → (fun (s : (List Int) × Int) => ∀ (A36 : Option Addr) (n37 : Nat) (c38 : Nat) (h39 : Ow w.heap.size A36 n37 c38 s.1), G (Dv w F r) [.code Ld, .inLoop Ld, .inBlock 0, .code Tm] [(0, .slice A2 n3 c4), (3, .slice A36 n37 c38), (4, .int .i64 s.2)] [.own (.slice A36 n37 c38) 3 1 n37 (s.1.flatMap (eI .i64))] [Sm w.heap.size F w [], St w []]) s := by
  intro s hs
  refine B0.ind (mot := (fun (s : (List Int) × Int) => ∀ (A36 : Option Addr) (n37 : Nat) (c38 : Nat) (h39 : Ow w.heap.size A36 n37 c38 s.1), G (Dv w F r) [.code Ld, .inLoop Ld, .inBlock 0, .code Tm] [(0, .slice A2 n3 c4), (3, .slice A36 n37 c38), (4, .int .i64 s.2)] [.own (.slice A36 n37 c38) 3 1 n37 (s.1.flatMap (eI .i64))] [Sm w.heap.size F w [], St w []])) ?_ hs
  clear hs s
  intro s o1 h hO1
  obtain ⟨x35, x40⟩ := s
  show ∀ (A36 : Option Addr) (n37 : Nat) (c38 : Nat) (h39 : Ow w.heap.size A36 n37 c38 x35), G (Dv w F r) [.code Ld, .inLoop Ld, .inBlock 0, .code Tm] [(0, .slice A2 n3 c4), (3, .slice A36 n37 c38), (4, .int .i64 x40)] [.own (.slice A36 n37 c38) 3 1 n37 (x35.flatMap (eI .i64))] [Sm w.heap.size F w [], St w []]
  intro A36 n37 c38 h39
  have h : D0 x1 x35 x40 o1 := h
  unfold D0 at h
  refine Ah rfl <| Ah rfl <| Ab rfl rfl <| A3 0 rfl (Ac rfl) gn rfl <| A3 1 rfl (Ac rfl) gn rfl <| A3 2 rfl (Br Oi rfl h5.hq) gn rfl <| A3 3 rfl (Aw rfl rfl rfl) gn rfl <| Ai 4 rfl ?_
  by_cases hp166 : x40 < (x1.length : Int)
  ·have h := Al hp166 h
   refine B3 rfl _ rfl ((decide_eq_true hp166)) <| B8 rfl <| Ah rfl <| Bs rfl <| Ah rfl <| Bs rfl <| H3 rfl ?_
   have key2 : ∀ s, B0 (fun (s : (List Int)) o => Cz x40 x1 s o) s o1 → (fun (s : (List Int)) => ∀ (A208 : Option Addr) (n209 : Nat) (c210 : Nat) (h211 : Ow w.heap.size A208 n209 c210 s), G (Dv w F r) [.code V2, .inLoop V2, .inBlock 2, .code Wi, .inBlock 1, .code W9, .inLoop Ld, .inBlock 0, .code Tm] [(0, .slice A2 n3 c4), (3, .slice A208 n209 c210), (4, .int .i64 x40)] [.own (.slice A208 n209 c210) 3 1 n209 (s.flatMap (eI .i64))] [Sm w.heap.size F w [], St w []]) s := by
    intro s hs
    refine B0.ind (mot := (fun (s : (List Int)) => ∀ (A208 : Option Addr) (n209 : Nat) (c210 : Nat) (h211 : Ow w.heap.size A208 n209 c210 s), G (Dv w F r) [.code V2, .inLoop V2, .inBlock 2, .code Wi, .inBlock 1, .code W9, .inLoop Ld, .inBlock 0, .code Tm] [(0, .slice A2 n3 c4), (3, .slice A208 n209 c210), (4, .int .i64 x40)] [.own (.slice A208 n209 c210) 3 1 n209 (s.flatMap (eI .i64))] [Sm w.heap.size F w [], St w []])) ?_ hs
    clear hs s
    intro x207 o2 h hO2
    show ∀ (A208 : Option Addr) (n209 : Nat) (c210 : Nat) (h211 : Ow w.heap.size A208 n209 c210 x207), G (Dv w F r) [.code V2, .inLoop V2, .inBlock 2, .code Wi, .inBlock 1, .code W9, .inLoop Ld, .inBlock 0, .code Tm] [(0, .slice A2 n3 c4), (3, .slice A208 n209 c210), (4, .int .i64 x40)] [.own (.slice A208 n209 c210) 3 1 n209 (x207.flatMap (eI .i64))] [Sm w.heap.size F w [], St w []]
    intro A208 n209 c210 h211
    have h : Cz x40 x1 x207 o2 := h
    unfold Cz at h
    refine Ah rfl <| Ah rfl <| Ab rfl rfl <| A3 0 rfl (Ac rfl) gn rfl <| A3 1 rfl (Br Io rfl h211.hq) gn rfl <| A3 2 rfl (Aw rfl rfl rfl) gn rfl <| A3 3 rfl (Ac rfl) gn rfl ?_
    by_cases hp251 : (x207.length : Int) > 0
    ·have h := Al hp251 h
     refine B1 14 rfl ((decide_eq_true hp251)) <| A3 4 rfl (Ac rfl) (gy 14 rfl rfl) rfl <| A3 5 rfl (Ac rfl) (gy 14 rfl rfl) rfl <| A3 6 rfl (Br Io rfl h211.hq) (gy 14 rfl rfl) rfl <| A3 7 rfl (Aw rfl rfl rfl) (gy 14 rfl rfl) rfl ?_
     obtain ⟨hb252, h⟩ := h
     refine A3 8 rfl (D8 I4 rfl rfl h211 hb252) (gy 14 rfl rfl) rfl <| A3 9 rfl (Nu (.int .i64 (ix x207 (w64 ((x207.length : Int) - 1)))) 0 Dx rfl rfl (Ov (hlI .i64) hb252 rfl)) (gy 14 rfl rfl) rfl <| A3 10 rfl (Aw rfl rfl rfl) (gy 14 rfl rfl) rfl <| A3 11 rfl (Aq (b := true) rfl rfl) gn rfl <| Ai 12 rfl ?_
     by_cases hp253 : ix x207 (w64 ((x207.length : Int) - 1)) ≤ 0
     ·have h := Al hp253 h
      refine B3 rfl _ rfl ((decide_eq_true hp253)) <| B8 rfl <| Bs rfl <| Ab rfl rfl <| A3 0 rfl (Ac rfl) gn rfl <| A3 1 rfl (Ac rfl) gn rfl <| A3 2 rfl (Br Io rfl h211.hq) gn rfl <| A3 3 rfl (Aw rfl rfl rfl) gn rfl ?_
      obtain ⟨hb254, h⟩ := h
      obtain ⟨x256, hv257, h⟩ := h
      have hle255 : (w64 ((x207.length : Int) - 1) : Int).toNat ≤ n209 := by have q := hb254; have q1 := h211.hq; omega
      have h258 : Ow w.heap.size A208 (w64 ((x207.length : Int) - 1) : Int).toNat c210 x256 := Ow.w (Ow.cut h211 hle255) (by rw [hv257])
      refine A3 4 rfl (Z6 (i := w64 ((x207.length : Int) - 1)) I4 rfl rfl (by have q := hb254; have q1 := h211.hq; have q2 := h211.hn; omega) h211.hn rfl) gn rfl <| A3 5 rfl (Ad rfl) gn rfl <| Ai 6 rfl <| Bg <| Cb ?_
      have h259 : Ow w.heap.size A208 ((w64 ((x207.length : Int) - 1) : Int).toNat) c210 x256 := (Ow.w (Ow.cut h211 hle255) (by rw [hv257]))
      refine Zi (j := 0) (m := ((w64 ((x207.length : Int) - 1) : Int).toNat)) (cells' := x256.flatMap (eI .i64)) rfl hle255 (by rw [U9 (hlI .i64), hv257]) ?_
      have ih := Out.inl hO2 h
      exact Bf [0, 1] (ih A208 ((w64 ((x207.length : Int) - 1) : Int).toNat) c210 h259) ⟨rfl, rfl, rfl, trivial⟩ (.cons_cons _ (.slnil)) rfl
     ·have h := Am hp253 h
      refine Az rfl _ rfl ((decide_eq_false hp253)) <| Fd [.code Wi, .inBlock 1, .code W9, .inLoop Ld, .inBlock 0, .code Tm] rfl rfl <| Ah rfl <| Ah rfl <| Ab rfl rfl <| A3 0 rfl (Ac rfl) gn rfl <| A3 1 rfl (Br Io rfl h211.hq) gn rfl <| A3 2 rfl (Aw rfl rfl rfl) gn rfl <| Ai 3 rfl <| B3 rfl _ rfl ((decide_eq_true hp251)) <| Ab rfl rfl <| A3 0 rfl (Ac rfl) gn rfl ?_
      refine A3 1 rfl (Ac rfl) gn rfl <| A3 2 rfl (Br Io rfl h211.hq) gn rfl <| A3 3 rfl (Aw rfl rfl rfl) gn rfl <| A3 4 rfl (Ac rfl) gn rfl <| A3 5 rfl (Ac rfl) gn rfl <| A3 6 rfl (Br Io rfl h211.hq) gn rfl <| A3 7 rfl (Aw rfl rfl rfl) gn rfl <| A3 8 rfl (D8 I4 rfl rfl h211 hb252) gn rfl <| A3 9 rfl (Nu (.int .i64 (ix x207 (w64 ((x207.length : Int) - 1)))) 0 Dx rfl rfl (Ov (hlI .i64) hb252 rfl)) gn rfl <| A3 10 rfl (Aw rfl rfl rfl) gn rfl <| A3 11 rfl (D8 I4 rfl rfl h211 hb252) gn rfl ?_
      obtain ⟨x260, hv261, h⟩ := h
      refine Bb 12 rfl (L4 (enc := (eI .i64)) (o := 0) (z := (w64 ((ix x207 (w64 ((x207.length : Int) - 1))) - 1))) (vs := [.int .i64 (w64 ((ix x207 (w64 ((x207.length : Int) - 1))) - 1))]) (i := (w64 ((x207.length : Int) - 1))) 0 (hlI .i64) Rh rfl rfl rfl rfl rfl h211 hb252 rfl rfl rfl hv261 fun h262 => ?_) gn
      refine Ai 13 rfl <| Ah rfl <| Ab rfl rfl <| A3 0 rfl (Ac rfl) gn rfl <| A3 1 rfl (Ac rfl) gn rfl <| A3 2 rfl (Ac rfl) gn rfl ?_
      obtain ⟨hb263, h⟩ := h
      have hr264 := Rw.readF (s := St w []) (hl := Co) (h1 := Dl) h5 hb263
      refine A3 3 rfl (Dc (s := St w []) M4 rfl rfl h5 hb263) gn rfl <| A3 4 rfl (H2 Na rfl) gn rfl <| A3 5 rfl (Fs (kk := (x40 : Int).toNat * 5) (j := 4) (St w []) Dx rfl hr264 rfl (me 1 rfl)) gn rfl ?_
      refine Bb 6 rfl (Ec (xs := ([(ix x1 x40).kids] : List Int)) [.int .i64 ((ix x1 x40).kids)] Nb rfl (by kernel_rfl) rfl rfl rfl rfl fun gb266 h267 => ?_) gn
      obtain ⟨x275, hv276, h⟩ := h
      obtain ⟨hb277, h⟩ := h
      refine w_deep0 ?_
      refine Bb 7 rfl (s_appE (zs := x275) (cells' := x275.flatMap (eI .i64)) 2 0 rfl Sf rfl rfl rfl rfl Eld.self h262 (Nat.le_refl _) (Src.ownF (hl := (hlI .i64)) (h1 := (Db .i64)) 1 rfl h267) (by rw [hv276, List.flatMap_append] <;> rfl) (Dj hv276 h267.hq) hb277 rfl rfl fun A268 c269 bs272 p273 h270 hE274 => ?_) gn
      refine A3 8 rfl (Ad rfl) gn rfl <| Ai 9 rfl <| Ah rfl <| Ab rfl rfl <| A3 0 rfl (Ac rfl) gn rfl <| A3 1 rfl (Br Io rfl h270.hq) gn rfl <| A3 2 rfl (Aw rfl rfl rfl) gn rfl <| Ai 3 rfl ?_
      by_cases hp278 : (x275.length : Int) > 65536
      ·have h := Al hp278 h
       refine B3 rfl _ rfl ((decide_eq_true hp278)) <| Ah rfl <| Ab rfl rfl <| A3 0 rfl (Ad rfl) gn rfl <| Ai 1 rfl ?_
       have h := Out.inr hO2 h
       have h := Out.inr hO1 h
       refine B2 [.bool true] rfl Tryd.func10 rfl (.tmp rfl (.nil)) fun wr hLr => ?_
       have hMr := hLr.pk0 (.c 1 rfl .n)
       show Fp w F  r (.returned (B7 [.bool true])) wr
       rw [h]
       exact ⟨rfl, hMr⟩
      ·have h := Am hp278 h
       refine Az rfl _ rfl ((decide_eq_false hp278)) <| B8 rfl <| Bg <| Ab rfl rfl <| A3 0 rfl (Ac rfl) gn rfl <| A3 1 rfl (Aw rfl rfl rfl) gn rfl <| A3 2 rfl (Ad rfl) gn rfl <| Ai 3 rfl <| Cb ?_
       have h := Out.inr hO2 h
       have ih := Out.inl hO1 h
       exact Bf [0, 1] (ih A268 (n209 + 1) c269 h270) ⟨rfl, rfl, rfl, trivial⟩ (.cons _ (.cons _ (.cons_cons _ (.slnil)))) rfl
    ·have h := Am hp251 h
     refine B1 14 rfl ((decide_eq_false hp251)) <| Aa 4 rfl (ps 14 rfl rfl rfl) <| Aa 5 rfl (ps 14 rfl rfl rfl) <| Aa 6 rfl (ps 14 rfl rfl rfl) <| Aa 7 rfl (ps 14 rfl rfl rfl) <| Aa 8 rfl (ps 14 rfl rfl rfl) <| Aa 9 rfl (ps 14 rfl rfl rfl) <| Aa 10 rfl (ps 14 rfl rfl rfl) <| A3 11 rfl (Aq (b := false) rfl rfl) gn rfl <| Ai 12 rfl <| Az rfl _ rfl (rfl) <| Fd [.code Wi, .inBlock 1, .code W9, .inLoop Ld, .inBlock 0, .code Tm] rfl rfl ?_
     refine Ah rfl <| Ah rfl <| Ab rfl rfl <| A3 0 rfl (Ac rfl) gn rfl <| A3 1 rfl (Br Io rfl h211.hq) gn rfl <| A3 2 rfl (Aw rfl rfl rfl) gn rfl <| Ai 3 rfl <| Az rfl _ rfl ((decide_eq_false hp251)) <| B8 rfl <| Ah rfl <| Ab rfl rfl <| A3 0 rfl (Ac rfl) gn rfl ?_
     refine A3 1 rfl (Ac rfl) gn rfl <| A3 2 rfl (Ac rfl) gn rfl ?_
     obtain ⟨hb279, h⟩ := h
     have hr280 := Rw.readF (s := St w []) (hl := Co) (h1 := Dl) h5 hb279
     refine A3 3 rfl (Dc (s := St w []) M4 rfl rfl h5 hb279) gn rfl <| A3 4 rfl (H2 Na rfl) gn rfl <| A3 5 rfl (Fs (kk := (x40 : Int).toNat * 5) (j := 4) (St w []) Dx rfl hr280 rfl (me 1 rfl)) gn rfl ?_
     refine Bb 6 rfl (Ec (xs := ([(ix x1 x40).kids] : List Int)) [.int .i64 ((ix x1 x40).kids)] Nb rfl (by kernel_rfl) rfl rfl rfl rfl fun gb282 h283 => ?_) gn
     obtain ⟨x287, hv288, h⟩ := h
     obtain ⟨hb289, h⟩ := h
     refine Bb 7 rfl (He (zs := x287) (cells' := x287.flatMap (eI .i64)) 1 Sf rfl rfl rfl h211 (Nat.le_refl _) (Src.ownF (hl := (hlI .i64)) (h1 := (Db .i64)) 0 rfl h283) (by rw [hv288, List.flatMap_append] <;> rfl) (Dj hv288 h283.hq) hb289 rfl rfl fun A284 c285 h286 => ?_) gn
     refine A3 8 rfl (Ad rfl) gn rfl <| Ai 9 rfl <| Ah rfl <| Ab rfl rfl <| A3 0 rfl (Ac rfl) gn rfl <| A3 1 rfl (Br Io rfl h286.hq) gn rfl <| A3 2 rfl (Aw rfl rfl rfl) gn rfl <| Ai 3 rfl ?_
     by_cases hp290 : (x287.length : Int) > 65536
     ·have h := Al hp290 h
      refine B3 rfl _ rfl ((decide_eq_true hp290)) <| Ah rfl <| Ab rfl rfl <| A3 0 rfl (Ad rfl) gn rfl <| Ai 1 rfl ?_
      have h := Out.inr hO2 h
      have h := Out.inr hO1 h
      refine B2 [.bool true] rfl Tryd.func10 rfl (.tmp rfl (.nil)) fun wr hLr => ?_
      have hMr := hLr.pk0 (.c 1 rfl .n)
      show Fp w F  r (.returned (B7 [.bool true])) wr
      rw [h]
      exact ⟨rfl, hMr⟩
     ·have h := Am hp290 h
      refine Az rfl _ rfl ((decide_eq_false hp290)) <| B8 rfl <| Bg <| Ab rfl rfl <| A3 0 rfl (Ac rfl) gn rfl <| A3 1 rfl (Aw rfl rfl rfl) gn rfl <| A3 2 rfl (Ad rfl) gn rfl <| Ai 3 rfl <| Cb ?_
      have h := Out.inr hO2 h
      have ih := Out.inl hO1 h
      exact Bf [0, 1] (ih A284 (n209 + 1) c285 h286) ⟨rfl, rfl, rfl, trivial⟩ (.cons _ (.cons_cons _ (.slnil))) rfl
   exact Bf [0, 1] (key2 _ h A36 n37 c38 h39) ⟨rfl, rfl, rfl, trivial⟩ (.cons_cons _ (.slnil)) rfl
  ·have h := Am hp166 h
   refine Az rfl _ rfl ((decide_eq_false hp166)) <| Fd [.code Tm] rfl rfl <| Ah rfl <| Ab rfl rfl <| A3 0 rfl (Ad rfl) gn rfl <| Ai 1 rfl ?_
   have h := Out.inr hO1 h
   refine B2 [.bool false] rfl Tryd.func10 rfl (.tmp rfl (.nil)) fun wr hLr => ?_
   have hMr := hLr.pk0 (.c 1 rfl .n)
   show Fp w F  r (.returned (B7 [.bool false])) wr
   rw [h]
   exact ⟨rfl, hMr⟩
 refine Iq 3 1 ?_
 exact Bf [0, 1] (key1 _ h none 0 0 (Ow.nil (z := w.heap.size))) ⟨rfl, rfl, rfl, trivial⟩ (.cons_cons _ (.slnil)) rfl
noncomputable abbrev q54c4 := Code.snd (Code.snd (Bt Tryd.f54))
noncomputable abbrev q54c6 := Code.snd (Code.fst (Code.snd (Bt Tryd.f54)))
noncomputable abbrev Z4 := Code.snd (Code.snd q54c4)
noncomputable abbrev Uv := Code.fst (Code.fst (Code.snd (Code.fst (Code.snd q54c4))))
abbrev Hi (w : World) (F : Nat → Prop) (r : Int) : Ending → World → Prop := fun e w' => e = .returned (.int .i64 r) ∧ B.Loc w w' [] [St w []]
noncomputable abbrev J0 (w : World) (F : Nat → Prop) (r : Int) : Cx := ⟨Tryd.prog, 54, Tryd.f54, 34, Hi w F  r, w⟩
def M6 (rl : (List Ae) → Int → Int → Prop) : Prop := ∀ (w : World) (F : Nat → Prop) (x1 : List Ae) (x6 : Int) (A2 : Option Addr) (n3 : Nat) (c4 : Nat) (h5 : Rw Bl w (St w []).av A2 n3 c4 x1) (hF : ∀ b, F b → b < w.heap.size ∧ ∀ o ∈ ([] : List (List Nat)), b ∉ o) (hL0 : B.Loc w w [] [Sm w.heap.size F w [], St w []]) (r : Int) (h : rl x1 x6 r), Calls Tryd.prog 54 #[.slice A2 n3 c4, .int .i64 x6] w (Hi w F  r)
theorem Te (rc_query_subtree : (List Ae) → Int → Int → Prop) (ih_query_subtree : M6 rc_query_subtree) : M6 (H4 rc_query_subtree) := by
 intro w F x1 x6 A2 n3 c4 h5 hF hL0 r h
 unfold H4 at h
 refine B6 (vs := [.slice A2 n3 c4, .int .i64 x6]) 34 Tryd.func54 rfl Tryd.ntmps54 rfl hL0 ?_
 show G (J0 w F r) _ _ _ _
 refine Ah rfl <| Ab rfl rfl <| A3 0 rfl (Ad rfl) gn rfl <| Ai 1 rfl <| Ah rfl <| Ah rfl ?_
 have j1 : ∀ (x11 : Bool) (h : Gx x6 x1 rc_query_subtree x11 r) , G (J0 w F r) [.code q54c6, .code q54c4] [(0, .slice A2 n3 c4), (1, .int .i64 x6), (17, .bool x11)] [] [Sm w.heap.size F w [], St w []] := by
  intro x11 h
  unfold Gx at h
  by_cases hp12 : x11 = true
  ·have h := Al hp12 h
   refine B3 rfl _ rfl (hp12) <| Ah rfl <| Ab rfl rfl <| A3 0 rfl (Ad rfl) gn rfl <| Ai 1 rfl ?_
   refine B2 [.int .i64 (-1)] rfl Tryd.func54 rfl (.tmp rfl (.nil)) fun wr hLr => ?_
   have hMr := hLr.pk0 (.c 1 rfl .n)
   show Hi w F  r (.returned (B7 [.int .i64 (-1)])) wr
   rw [h]
   exact ⟨rfl, hMr⟩
  ·have h := Am hp12 h
   refine Az rfl _ rfl ((bf hp12)) <| B8 rfl <| Ah rfl <| Ab rfl rfl <| A3 0 rfl (Ac rfl) gn rfl <| A3 1 rfl (Aw rfl rfl rfl) gn rfl <| A3 2 rfl (Ad rfl) gn rfl <| Ai 3 rfl <| Ah rfl <| Ah rfl <| Ab rfl rfl <| A3 0 rfl (Ac rfl) gn rfl ?_
   refine A3 1 rfl (Ac rfl) gn rfl ?_
   obtain ⟨hb13, h⟩ := h
   have hr14 := Rw.readF (s := St w []) (hl := Co) (h1 := Dl) h5 hb13
   refine A3 2 rfl (Dc (s := St w []) M4 rfl rfl h5 hb13) gn rfl <| A3 3 rfl (H2 Na rfl) gn rfl <| A3 4 rfl (Fs (kk := (x6 : Int).toNat * 5) (j := 4) (St w []) Dx rfl hr14 rfl (me 1 rfl)) gn rfl <| A3 5 rfl (Ac rfl) gn rfl <| Ai 6 rfl <| Bs rfl <| H3 rfl ?_
   have key2 : ∀ s, B0 (fun (s : Int × Int) o => E5 x1 x6 rc_query_subtree s.1 s.2 o) s r → (fun (s : Int × Int) => ∀ (_ : Unit), G (J0 w F r) [.code Uv, .inLoop Uv, .inBlock 0, .code Z4] [(0, .slice A2 n3 c4), (5, .int .i64 s.1), (24, .int .i64 ((ix x1 x6).kids)), (25, .int .i64 s.2)] [] [Sm w.heap.size F w [], St w []]) s := by
    intro s hs
    refine B0.ind (mot := (fun (s : Int × Int) => ∀ (_ : Unit), G (J0 w F r) [.code Uv, .inLoop Uv, .inBlock 0, .code Z4] [(0, .slice A2 n3 c4), (5, .int .i64 s.1), (24, .int .i64 ((ix x1 x6).kids)), (25, .int .i64 s.2)] [] [Sm w.heap.size F w [], St w []])) ?_ hs
    clear hs s
    intro s o1 h hO1
    obtain ⟨x26, x27⟩ := s
    show ∀ (_ : Unit), G (J0 w F r) [.code Uv, .inLoop Uv, .inBlock 0, .code Z4] [(0, .slice A2 n3 c4), (5, .int .i64 x26), (24, .int .i64 ((ix x1 x6).kids)), (25, .int .i64 x27)] [] [Sm w.heap.size F w [], St w []]
    intro _
    have h : E5 x1 x6 rc_query_subtree x26 x27 o1 := h
    unfold E5 at h
    refine Ah rfl <| Ab rfl rfl <| A3 0 rfl (Aw rfl rfl rfl) gn rfl <| Ai 1 rfl <| Ah rfl ?_
    by_cases hp38 : x27 < (ix x1 x6).kids
    ·have h := Al hp38 h
     refine B3 rfl _ rfl ((decide_eq_true hp38)) <| B8 rfl <| Ah rfl <| Bs rfl <| Ah rfl <| Ab rfl rfl <| A3 0 rfl (Ac rfl) gn rfl <| A3 1 rfl (Ac rfl) gn rfl ?_
     obtain ⟨r42, hv43, h⟩ := h
     refine Bb 2 rfl (Be [.slice A2 n3 c4, .int .i64 x26] rfl Tryd.func54 rfl rfl rfl fun w39 hL40 => ?_) gn
     have hp41 := pmI hL40 .n .n (by kernel_rfl)
     refine Calls.mono (ih_query_subtree w39 (Fl ([] : List B5)) x1 x26 A2 n3 c4 (Rw.mono h5 (hL40.toSt hp41 (me 1 rfl))) (hL40.hFl hp41 (Ay [] rfl)) (hL40.into hp41 _) r42 hv43) ?_
     rintro _ w44 ⟨rfl, hM45⟩
     have hL46 := hL40.call hp41 hM45
     refine ⟨_, _, _, rfl, hL46, ?_⟩
     refine A3 3 rfl (Ad rfl) gn rfl <| Ai 4 rfl <| Ah rfl <| Ab rfl rfl <| A3 0 rfl (Ac rfl) gn rfl <| A3 1 rfl (Aw rfl rfl rfl) gn rfl <| Ai 2 rfl ?_
     by_cases hp47 : r42 < 0
     ·have h := Al hp47 h
      refine B3 rfl _ rfl ((decide_eq_true hp47)) <| Ah rfl <| Ab rfl rfl <| A3 0 rfl (Ad rfl) gn rfl <| Ai 1 rfl ?_
      have h := Out.inr hO1 h
      refine B2 [.int .i64 (-1)] rfl Tryd.func54 rfl (.tmp rfl (.nil)) fun wr hLr => ?_
      have hMr := hLr.pk0 (.c 1 rfl .n)
      show Hi w F  r (.returned (B7 [.int .i64 (-1)])) wr
      rw [h]
      exact ⟨rfl, hMr⟩
     ·have h := Am hp47 h
      refine Az rfl _ rfl ((decide_eq_false hp47)) <| B8 rfl <| Bg <| Ab rfl rfl <| A3 0 rfl (Aw rfl rfl rfl) gn rfl <| A3 1 rfl (Ac rfl) gn rfl <| Ai 2 rfl <| Cb ?_
      have ih := Out.inl hO1 h
      exact Bf [0, 1] (ih ()) ⟨rfl, rfl, rfl, rfl, trivial⟩ (.slnil) rfl
    ·have h := Am hp38 h
     refine Az rfl _ rfl ((decide_eq_false hp38)) <| Fd [.code Z4] rfl rfl <| Ah rfl <| Ab rfl rfl <| A3 0 rfl (Ac rfl) gn rfl <| A3 1 rfl (Ad rfl) gn rfl <| Ai 2 rfl ?_
     have h := Out.inr hO1 h
     refine B2 [.int .i64 x26] rfl Tryd.func54 rfl (.tmp rfl (.nil)) fun wr hLr => ?_
     have hMr := hLr.pk0 (.c 1 rfl .n)
     show Hi w F  r (.returned (B7 [.int .i64 x26])) wr
     rw [h]
     exact ⟨rfl, hMr⟩
   exact Bf [0, 1] (key2 _ h ()) ⟨rfl, rfl, rfl, rfl, trivial⟩ (.slnil) rfl
 refine Ab rfl rfl <| A3 0 rfl (Ac rfl) gn rfl <| A3 1 rfl (Ac rfl) gn rfl <| A3 2 rfl (Br Oi rfl h5.hq) gn rfl <| A3 3 rfl (Aw rfl rfl rfl) gn rfl <| A3 4 rfl (Ac rfl) gn rfl ?_
 by_cases hp48 : x6 ≥ (x1.length : Int)
 ·have h := Al hp48 h
  refine B1 10 rfl ((decide_eq_true hp48)) <| Aa 5 rfl (ps 10 rfl rfl rfl) <| Aa 6 rfl (ps 10 rfl rfl rfl) <| Aa 7 rfl (ps 10 rfl rfl rfl) <| Aa 8 rfl (ps 10 rfl rfl rfl) <| Aa 9 rfl (ps 10 rfl rfl rfl) <| Aa 10 rfl (ps 10 rfl rfl rfl) <| A3 11 rfl (Aq (b := true) rfl rfl) gn rfl <| Ai 12 rfl ?_
  exact Bf [0, 1] (j1 true h) ⟨rfl, rfl, rfl, trivial⟩ (.slnil) rfl
 ·have h := Am hp48 h
  refine B1 10 rfl ((decide_eq_false hp48)) <| A3 5 rfl (Ac rfl) (gy 10 rfl rfl) rfl <| A3 6 rfl (Ac rfl) (gy 10 rfl rfl) rfl ?_
  obtain ⟨hb49, h⟩ := h
  have hr50 := Rw.readF (s := St w []) (hl := Co) (h1 := Dl) h5 hb49
  refine A3 7 rfl (Dc (s := St w []) M4 rfl rfl h5 hb49) (gy 10 rfl rfl) rfl <| A3 8 rfl (H2 Na rfl) (gy 10 rfl rfl) rfl <| A3 9 rfl (Fs (kk := (x6 : Int).toNat * 5) (j := 4) (St w []) Dx rfl hr50 rfl (me 1 rfl)) (gy 10 rfl rfl) rfl <| A3 10 rfl (Aw rfl rfl rfl) (gy 10 rfl rfl) rfl <| A3 11 rfl (Aq (b := false) rfl rfl) gn rfl <| Ai 12 rfl ?_
  exact Bf [0, 1] (j1 (decide ((ix x1 x6).kids < 0)) h) ⟨rfl, rfl, rfl, trivial⟩ (.slnil) rfl
theorem Ou : ∀ n, M6 (Hj n)
 | 0 => fun w F x1 x6 A2 n3 c4 h5 hF hL0 r h => h.elim
 | n + 1 => by
  have ih := Ou n
  exact Te _ ih
theorem S3 (w : World) (F : Nat → Prop) (x1 : List Ae) (x6 : Int) (A2 : Option Addr) (n3 : Nat) (c4 : Nat) (h5 : Rw Bl w (St w []).av A2 n3 c4 x1) (hF : ∀ b, F b → b < w.heap.size ∧ ∀ o ∈ ([] : List (List Nat)), b ∉ o) (hL0 : B.Loc w w [] [Sm w.heap.size F w [], St w []]) (r : Int) (h : Pe x1 x6 r) : Calls Tryd.prog 54 #[.slice A2 n3 c4, .int .i64 x6] w (Hi w F  r) := by
 obtain ⟨n, h⟩ := h
 exact (Ou n) w F x1 x6 A2 n3 c4 h5 hF hL0 r h
abbrev Mg (w : World) (F : Nat → Prop) (r : Bool) : Ending → World → Prop := fun e w' => e = .returned (.bool r) ∧ B.Loc w w' [] [St w []]
noncomputable abbrev Xr (w : World) (F : Nat → Prop) (r : Bool) : Cx := ⟨Tryd.prog, 83, Tryd.f83, 9, Mg w F  r, w⟩
theorem Gf (w : World) (F : Nat → Prop) (x1 : Int) (hF : ∀ b, F b → b < w.heap.size ∧ ∀ o ∈ ([] : List (List Nat)), b ∉ o) (hL0 : B.Loc w w [] [Sm w.heap.size F w [], St w []]) (r : Bool) (h : G3 x1 r) : Calls Tryd.prog 83 #[.int .u8 x1] w (Mg w F  r) := by
 unfold G3 at h
 refine B6 (vs := [.int .u8 x1]) 9 Tryd.func83 rfl Tryd.ntmps83 rfl hL0 ?_
 show G (Xr w F r) _ _ _ _
 refine Ah rfl <| Ab rfl rfl <| A3 0 rfl (Ad rfl) gn rfl <| Ai 1 rfl <| Ah rfl <| Ab rfl rfl <| A3 0 rfl (Ac rfl) gn rfl <| A3 1 rfl (Aw rfl rfl rfl) gn rfl <| A3 2 rfl (Ac rfl) gn rfl ?_
 by_cases hp2 : x1 ≥ 48
 ·have h := Al hp2 h
  refine B1 5 rfl ((decide_eq_true hp2)) <| A3 3 rfl (Ac rfl) (gy 5 rfl rfl) rfl <| A3 4 rfl (Aw rfl rfl rfl) (gy 5 rfl rfl) rfl <| A3 5 rfl (Aq (b := true) rfl rfl) gn rfl <| A3 6 rfl (Ad rfl) gn rfl <| Ai 7 rfl ?_
  refine B2 [.bool (decide (x1 ≤ 57))] rfl Tryd.func83 rfl (.tmp rfl (.nil)) fun wr hLr => ?_
  have hMr := hLr.pk0 (.c 1 rfl .n)
  show Mg w F  r (.returned (B7 [.bool (decide (x1 ≤ 57))])) wr
  rw [h]
  exact ⟨rfl, hMr⟩
 ·have h := Am hp2 h
  refine B1 5 rfl ((decide_eq_false hp2)) <| Aa 3 rfl (ps 5 rfl rfl rfl) <| Aa 4 rfl (ps 5 rfl rfl rfl) <| A3 5 rfl (Aq (b := false) rfl rfl) gn rfl <| A3 6 rfl (Ad rfl) gn rfl <| Ai 7 rfl ?_
  refine B2 [.bool false] rfl Tryd.func83 rfl (.tmp rfl (.nil)) fun wr hLr => ?_
  have hMr := hLr.pk0 (.c 1 rfl .n)
  show Mg w F  r (.returned (B7 [.bool false])) wr
  rw [h]
  exact ⟨rfl, hMr⟩
abbrev Fa (w : World) (F : Nat → Prop) (r : Bool) : Ending → World → Prop := fun e w' => e = .returned (.bool r) ∧ B.Loc w w' [] [St w []]
noncomputable abbrev X8 (w : World) (F : Nat → Prop) (r : Bool) : Cx := ⟨Tryd.prog, 82, Tryd.f82, 21, Fa w F  r, w⟩
theorem Kt (w : World) (F : Nat → Prop) (x1 : Int) (hF : ∀ b, F b → b < w.heap.size ∧ ∀ o ∈ ([] : List (List Nat)), b ∉ o) (hL0 : B.Loc w w [] [Sm w.heap.size F w [], St w []]) (r : Bool) (h : Hz x1 r) : Calls Tryd.prog 82 #[.int .u8 x1] w (Fa w F  r) := by
 unfold Hz at h
 refine B6 (vs := [.int .u8 x1]) 21 Tryd.func82 rfl Tryd.ntmps82 rfl hL0 ?_
 show G (X8 w F r) _ _ _ _
 refine Ah rfl <| Ab rfl rfl <| A3 0 rfl (Ad rfl) gn rfl <| Ai 1 rfl <| Ah rfl <| Ab rfl rfl <| A3 0 rfl (Ac rfl) gn rfl <| A3 1 rfl (Aw rfl rfl rfl) gn rfl <| A3 2 rfl (Ac rfl) gn rfl ?_
 by_cases hp2 : x1 ≥ 97
 ·have h := Al hp2 h
  refine B1 5 rfl ((decide_eq_true hp2)) <| A3 3 rfl (Ac rfl) (gy 5 rfl rfl) rfl <| A3 4 rfl (Aw rfl rfl rfl) (gy 5 rfl rfl) rfl <| A3 5 rfl (Aq (b := true) rfl rfl) gn rfl <| A3 6 rfl (Ac rfl) gn rfl ?_
  by_cases hp3 : x1 ≤ 122
  ·have h := Al hp3 h
   refine B1 9 rfl ((decide_eq_true hp3)) <| Aa 7 rfl (ps 9 rfl rfl rfl) <| Aa 8 rfl (ps 9 rfl rfl rfl) <| Aa 9 rfl (ps 9 rfl rfl rfl) <| Aa 10 rfl (pu 12 rfl rfl) <| Aa 11 rfl (pu 12 rfl rfl) <| Aa 12 rfl (ps 9 rfl rfl rfl) <| A3 13 rfl (Aq (b := true) rfl rfl) gn rfl <| A3 14 rfl (Ac rfl) gn rfl <| Aa 15 rfl (ps 17 rfl rfl rfl) <| Aa 16 rfl (ps 17 rfl rfl rfl) <| A3 17 rfl (Aq (b := true) rfl rfl) gn rfl ?_
   refine A3 18 rfl (Ad rfl) gn rfl <| Ai 19 rfl ?_
   refine B2 [.bool true] rfl Tryd.func82 rfl (.tmp rfl (.nil)) fun wr hLr => ?_
   have hMr := hLr.pk0 (.c 1 rfl .n)
   show Fa w F  r (.returned (B7 [.bool true])) wr
   rw [h]
   exact ⟨rfl, hMr⟩
  ·have h := Am hp3 h
   refine B1 9 rfl ((decide_eq_false hp3)) <| A3 7 rfl (Ac rfl) (gy 9 rfl rfl) rfl <| A3 8 rfl (Aw rfl rfl rfl) (gy 9 rfl rfl) rfl <| A3 9 rfl (Ac rfl) (gy 9 rfl rfl) rfl ?_
   by_cases hp4 : x1 ≥ 65
   ·have h := Al hp4 h
    refine B1 12 rfl ((decide_eq_true hp4)) <| A3 10 rfl (Ac rfl) (gy 12 rfl rfl) rfl <| A3 11 rfl (Aw rfl rfl rfl) (gy 12 rfl rfl) rfl <| A3 12 rfl (Aq (b := true) rfl rfl) (gy 9 rfl rfl) rfl <| A3 13 rfl (Aq (b := false) rfl rfl) gn rfl <| A3 14 rfl (Ac rfl) gn rfl ?_
    by_cases hp5 : x1 ≤ 90
    ·have h := Al hp5 h
     refine B1 17 rfl ((decide_eq_true hp5)) <| Aa 15 rfl (ps 17 rfl rfl rfl) <| Aa 16 rfl (ps 17 rfl rfl rfl) <| A3 17 rfl (Aq (b := true) rfl rfl) gn rfl <| A3 18 rfl (Ad rfl) gn rfl <| Ai 19 rfl ?_
     refine B2 [.bool true] rfl Tryd.func82 rfl (.tmp rfl (.nil)) fun wr hLr => ?_
     have hMr := hLr.pk0 (.c 1 rfl .n)
     show Fa w F  r (.returned (B7 [.bool true])) wr
     rw [h]
     exact ⟨rfl, hMr⟩
    ·have h := Am hp5 h
     refine B1 17 rfl ((decide_eq_false hp5)) <| A3 15 rfl (Ac rfl) (gy 17 rfl rfl) rfl <| A3 16 rfl (Aw rfl rfl rfl) (gy 17 rfl rfl) rfl <| A3 17 rfl (Aq (b := false) rfl rfl) gn rfl <| A3 18 rfl (Ad rfl) gn rfl <| Ai 19 rfl ?_
     refine B2 [.bool (x1 == 95)] rfl Tryd.func82 rfl (.tmp rfl (.nil)) fun wr hLr => ?_
     have hMr := hLr.pk0 (.c 1 rfl .n)
     show Fa w F  r (.returned (B7 [.bool (x1 == 95)])) wr
     rw [h]
     exact ⟨rfl, hMr⟩
   ·have h := Am hp4 h
    refine B1 12 rfl ((decide_eq_false hp4)) <| Aa 10 rfl (ps 12 rfl rfl rfl) <| Aa 11 rfl (ps 12 rfl rfl rfl) <| A3 12 rfl (Aq (b := false) rfl rfl) (gy 9 rfl rfl) rfl <| A3 13 rfl (Aq (b := false) rfl rfl) gn rfl <| A3 14 rfl (Ac rfl) gn rfl <| A3 15 rfl (Ac rfl) (gy 17 rfl rfl) rfl <| A3 16 rfl (Aw rfl rfl rfl) (gy 17 rfl rfl) rfl <| A3 17 rfl (Aq (b := false) rfl rfl) gn rfl <| A3 18 rfl (Ad rfl) gn rfl <| Ai 19 rfl ?_
    refine B2 [.bool (x1 == 95)] rfl Tryd.func82 rfl (.tmp rfl (.nil)) fun wr hLr => ?_
    have hMr := hLr.pk0 (.c 1 rfl .n)
    show Fa w F  r (.returned (B7 [.bool (x1 == 95)])) wr
    rw [h]
    exact ⟨rfl, hMr⟩
 ·have h := Am hp2 h
  refine B1 5 rfl ((decide_eq_false hp2)) <| Aa 3 rfl (ps 5 rfl rfl rfl) <| Aa 4 rfl (ps 5 rfl rfl rfl) <| A3 5 rfl (Aq (b := false) rfl rfl) gn rfl <| A3 6 rfl (Ac rfl) gn rfl <| A3 7 rfl (Ac rfl) (gy 9 rfl rfl) rfl <| A3 8 rfl (Aw rfl rfl rfl) (gy 9 rfl rfl) rfl <| A3 9 rfl (Ac rfl) (gy 9 rfl rfl) rfl ?_
  by_cases hp6 : x1 ≥ 65
  ·have h := Al hp6 h
   refine B1 12 rfl ((decide_eq_true hp6)) <| A3 10 rfl (Ac rfl) (gy 12 rfl rfl) rfl <| A3 11 rfl (Aw rfl rfl rfl) (gy 12 rfl rfl) rfl <| A3 12 rfl (Aq (b := true) rfl rfl) (gy 9 rfl rfl) rfl <| A3 13 rfl (Aq (b := false) rfl rfl) gn rfl <| A3 14 rfl (Ac rfl) gn rfl ?_
   by_cases hp7 : x1 ≤ 90
   ·have h := Al hp7 h
    refine B1 17 rfl ((decide_eq_true hp7)) <| Aa 15 rfl (ps 17 rfl rfl rfl) <| Aa 16 rfl (ps 17 rfl rfl rfl) <| A3 17 rfl (Aq (b := true) rfl rfl) gn rfl <| A3 18 rfl (Ad rfl) gn rfl <| Ai 19 rfl ?_
    refine B2 [.bool true] rfl Tryd.func82 rfl (.tmp rfl (.nil)) fun wr hLr => ?_
    have hMr := hLr.pk0 (.c 1 rfl .n)
    show Fa w F  r (.returned (B7 [.bool true])) wr
    rw [h]
    exact ⟨rfl, hMr⟩
   ·have h := Am hp7 h
    refine B1 17 rfl ((decide_eq_false hp7)) <| A3 15 rfl (Ac rfl) (gy 17 rfl rfl) rfl <| A3 16 rfl (Aw rfl rfl rfl) (gy 17 rfl rfl) rfl <| A3 17 rfl (Aq (b := false) rfl rfl) gn rfl <| A3 18 rfl (Ad rfl) gn rfl <| Ai 19 rfl ?_
    refine B2 [.bool (x1 == 95)] rfl Tryd.func82 rfl (.tmp rfl (.nil)) fun wr hLr => ?_
    have hMr := hLr.pk0 (.c 1 rfl .n)
    show Fa w F  r (.returned (B7 [.bool (x1 == 95)])) wr
    rw [h]
    exact ⟨rfl, hMr⟩
  ·have h := Am hp6 h
   refine B1 12 rfl ((decide_eq_false hp6)) <| Aa 10 rfl (ps 12 rfl rfl rfl) <| Aa 11 rfl (ps 12 rfl rfl rfl) <| A3 12 rfl (Aq (b := false) rfl rfl) (gy 9 rfl rfl) rfl <| A3 13 rfl (Aq (b := false) rfl rfl) gn rfl <| A3 14 rfl (Ac rfl) gn rfl <| A3 15 rfl (Ac rfl) (gy 17 rfl rfl) rfl <| A3 16 rfl (Aw rfl rfl rfl) (gy 17 rfl rfl) rfl <| A3 17 rfl (Aq (b := false) rfl rfl) gn rfl <| A3 18 rfl (Ad rfl) gn rfl <| Ai 19 rfl ?_
   refine B2 [.bool (x1 == 95)] rfl Tryd.func82 rfl (.tmp rfl (.nil)) fun wr hLr => ?_
   have hMr := hLr.pk0 (.c 1 rfl .n)
   show Fa w F  r (.returned (B7 [.bool (x1 == 95)])) wr
   rw [h]
   exact ⟨rfl, hMr⟩
abbrev Sk (w : World) (F : Nat → Prop) (r : Bool) : Ending → World → Prop := fun e w' => e = .returned (.bool r) ∧ B.Loc w w' [] [St w []]
theorem Qb (w : World) (F : Nat → Prop) (x1 : ByteArray) (x2 : ByteArray) (hF : ∀ b, F b → b < w.heap.size ∧ ∀ o ∈ ([] : List (List Nat)), b ∉ o) (hL0 : B.Loc w w [] [Sm w.heap.size F w [], St w []]) (r : Bool) (h : Md x1 x2 r) : Calls Tryd.prog 100 #[.string x1, .string x2] w (Sk w F  r) := by
 unfold Md at h
 obtain ⟨h1, rfl⟩ := h
 rw [one_byte h1]
 refine Calls.mono (Tryd.strings_Contains_one x1 _ w) ?_
 rintro e w' ⟨rfl, rfl⟩
 exact ⟨rfl, Loc.of_below (Below.refl _ _)⟩
noncomputable abbrev Sg := Code.snd (Code.snd (Bt Tryd.f78))
noncomputable abbrev Xc4 := Code.snd (Code.fst (Code.snd (Code.fst (Code.snd (Code.fst (Code.snd (Bt Tryd.f78)))))))
noncomputable abbrev q78c15 := Code.snd (Code.fst (Code.fst (Code.snd (Code.fst (Code.snd (Code.fst (Code.snd (Bt Tryd.f78))))))))
noncomputable abbrev Zn := Code.snd Xc4
noncomputable abbrev Um := Code.fst (Code.fst (Code.snd (Code.fst Xc4)))
noncomputable abbrev X0 := Code.snd (Code.fst (Code.snd (Code.snd (Code.snd (Code.snd (Code.snd (Code.fst (Code.snd (Code.fst (Code.snd (Bt Tryd.f78)))))))))))
noncomputable abbrev Q6 := Code.fst (Code.fst (Code.snd (Code.fst (Code.fst (Code.snd (Code.snd (Code.snd (Code.snd (Code.snd (Code.fst (Code.snd (Code.fst (Code.snd (Bt Tryd.f78))))))))))))))
noncomputable abbrev q78c66 := Code.snd (Code.snd Q6)
noncomputable abbrev q78c72 := Code.snd (Code.fst (Code.snd (Code.fst (Code.fst (Code.snd Q6)))))
abbrev D6 (w : World) (F : Nat → Prop) (r : Bool) : Ending → World → Prop := fun e w' => e = .returned (.bool r) ∧ B.Loc w w' [] [St w []]
noncomputable abbrev Fx (w : World) (F : Nat → Prop) (r : Bool) : Cx := ⟨Tryd.prog, 78, Tryd.f78, 100, D6 w F  r, w⟩
theorem P6 (w : World) (F : Nat → Prop) (x1 : Af) (hF : ∀ b, F b → b < w.heap.size ∧ ∀ o ∈ ([] : List (List Nat)), b ∉ o) (hL0 : B.Loc w w [] [Sm w.heap.size F w [], St w []]) (r : Bool) (h : Ku x1 r) : Calls Tryd.prog 78 #[.agg #[.int .i64 x1.kind, .string x1.text, .int .i64 x1.n, .int .i64 x1.at_]] w (D6 w F  r) := by
 unfold Ku at h
 refine B6 (vs := [.agg #[.int .i64 x1.kind, .string x1.text, .int .i64 x1.n, .int .i64 x1.at_]]) 100 Tryd.func78 rfl Tryd.ntmps78 rfl hL0 ?_
 show G (Fx w F r) _ _ _ _
 refine Ah rfl <| Ab rfl rfl ?_
 refine Bb 0 rfl (K0 [.int .i64 x1.kind, .string x1.text, .int .i64 x1.n, .int .i64 x1.at_] rfl rfl rfl fun gb2 => ?_) gn
 refine A3 1 rfl (Ad rfl) gn rfl <| Ai 2 rfl <| Ah rfl <| Ah rfl <| Ab rfl rfl <| A3 0 rfl (Ao Lc rfl) gn rfl <| A3 1 rfl (Ak 0 R1 rfl rfl rfl) gn rfl <| Ai 2 rfl <| Bs rfl <| Ah rfl <| Ab rfl rfl <| A3 0 rfl (Aw rfl rfl rfl) gn rfl ?_
 refine A3 1 rfl (Ad rfl) gn rfl <| Ai 2 rfl ?_
 by_cases hp4 : x1.kind = 1
 ·have h := Al hp4 h
  refine B3 rfl _ rfl ((eqi hp4)) <| Ah rfl <| Ah rfl ?_
  have j1 : ∀ (x17 : Bool) (h : Ha x1 x17 r) , G (Fx w F r) [.code q78c15, .code Xc4, .inBlock 0, .code Sg] [(1, .pointer (some ⟨gb2, 0, none⟩)), (23, .bool x17)] [.box gb2 84 [.int .i64 x1.kind, .string x1.text, .int .i64 x1.n, .int .i64 x1.at_]] [Sm w.heap.size F w [], St w []] := by
   intro x17 h
   unfold Ha at h
   by_cases hp18 : x17 = true
   ·have h := Al hp18 h
    refine B3 rfl _ rfl (hp18) <| Ah rfl <| Ab rfl rfl <| A3 0 rfl (Ad rfl) gn rfl <| Ai 1 rfl ?_
    refine B2 [.bool false] rfl Tryd.func78 rfl (.tmp rfl (.nil)) fun wr hLr => ?_
    have hMr := hLr.pk0 (.c 1 rfl .n)
    show D6 w F  r (.returned (B7 [.bool false])) wr
    rw [h]
    exact ⟨rfl, hMr⟩
   ·have h := Am hp18 h
    refine Az rfl _ rfl ((bf hp18)) <| B8 rfl <| Ah rfl <| Ah rfl <| Ab rfl rfl <| A3 0 rfl (Ad rfl) gn rfl <| Ai 1 rfl <| Bs rfl <| H3 rfl ?_
    have key2 : ∀ s, B0 (fun (s : Int) o => H0 x1 s o) s r → (fun (s : Int) => ∀ (_ : Unit), G (Fx w F r) [.code Um, .inLoop Um, .inBlock 1, .code Zn, .inBlock 0, .code Sg] [(1, .pointer (some ⟨gb2, 0, none⟩)), (3, .int .i64 s)] [.box gb2 84 [.int .i64 x1.kind, .string x1.text, .int .i64 x1.n, .int .i64 x1.at_]] [Sm w.heap.size F w [], St w []]) s := by
     intro s hs
     refine B0.ind (mot := (fun (s : Int) => ∀ (_ : Unit), G (Fx w F r) [.code Um, .inLoop Um, .inBlock 1, .code Zn, .inBlock 0, .code Sg] [(1, .pointer (some ⟨gb2, 0, none⟩)), (3, .int .i64 s)] [.box gb2 84 [.int .i64 x1.kind, .string x1.text, .int .i64 x1.n, .int .i64 x1.at_]] [Sm w.heap.size F w [], St w []])) ?_ hs
     clear hs s
     intro x40 o1 h hO1
     show ∀ (_ : Unit), G (Fx w F r) [.code Um, .inLoop Um, .inBlock 1, .code Zn, .inBlock 0, .code Sg] [(1, .pointer (some ⟨gb2, 0, none⟩)), (3, .int .i64 x40)] [.box gb2 84 [.int .i64 x1.kind, .string x1.text, .int .i64 x1.n, .int .i64 x1.at_]] [Sm w.heap.size F w [], St w []]
     intro _
     have h : H0 x1 x40 o1 := h
     unfold H0 at h
     refine Ah rfl <| Ah rfl <| Ab rfl rfl <| A3 0 rfl (Ac rfl) gn rfl <| A3 1 rfl (Ao F4 rfl) gn rfl <| A3 2 rfl (Ak 0 Dz rfl rfl rfl) gn rfl <| A3 3 rfl (It Gi rfl) gn rfl <| A3 4 rfl (Aw rfl rfl rfl) gn rfl <| Ai 5 rfl ?_
     by_cases hp61 : x40 < (x1.text.size : Int)
     ·have h := Al hp61 h
      refine B3 rfl _ rfl ((decide_eq_true hp61)) <| B8 rfl <| Ah rfl <| Bs rfl <| Ah rfl <| Ab rfl rfl <| A3 0 rfl (Ao F4 rfl) gn rfl <| A3 1 rfl (Ak 0 Dz rfl rfl rfl) gn rfl <| A3 2 rfl (Ac rfl) gn rfl ?_
      obtain ⟨hb62, h⟩ := h
      refine A3 3 rfl (Dw Gi rfl rfl hb62) gn rfl ?_
      obtain ⟨r66, hv67, h⟩ := h
      refine Bb 4 rfl (Be [.int .u8 (bt x1.text x40)] rfl Tryd.func82 rfl rfl rfl fun w63 hL64 => ?_) gn
      have hp65 := pmI hL64 .n (.c 0 rfl .n) (by kernel_rfl)
      refine Calls.mono (Kt w63 (Fl ([] : List B5)) (bt x1.text x40) (hL64.hFl hp65 (Ay [] rfl)) (hL64.into hp65 _) r66 hv67) ?_
      rintro _ w68 ⟨rfl, hM69⟩
      have hL70 := hL64.call hp65 hM69
      refine ⟨_, _, _, rfl, hL70, ?_⟩
      refine A3 5 rfl (Jc rfl) gn rfl <| A3 6 rfl (Ac rfl) gn rfl ?_
      by_cases hp71 : r66 = true
      ·have h := Al hp71 h
       refine B1 37 rfl ((nf hp71)) <| Aa 7 rfl (ps 37 rfl rfl rfl) <| Aa 8 rfl (ps 37 rfl rfl rfl) <| Aa 9 rfl (ps 37 rfl rfl rfl) <| Aa 10 rfl (ps 37 rfl rfl rfl) <| Aa 11 rfl (ps 37 rfl rfl rfl) <| Aa 12 rfl (ps 37 rfl rfl rfl) <| A3 13 rfl (Aq (b := false) rfl rfl) gn rfl <| Ai 14 rfl <| Az rfl _ rfl (rfl) <| B8 rfl <| Bg ?_
       refine Ab rfl rfl <| A3 0 rfl (Ac rfl) gn rfl <| A3 1 rfl (Aw rfl rfl rfl) gn rfl <| A3 2 rfl (Ad rfl) gn rfl <| Ai 3 rfl <| Cb ?_
       have ih := Out.inl hO1 h
       exact Bf [0, 1] (ih ()) ⟨rfl, rfl, trivial⟩ (.cons_cons _ (.slnil)) rfl
      ·have h := Am hp71 h
       refine B1 37 rfl ((nt (bf hp71))) <| A3 7 rfl (Ao F4 rfl) (gy 37 rfl rfl) rfl <| A3 8 rfl (Ak 0 Dz rfl rfl rfl) (gy 37 rfl rfl) rfl <| A3 9 rfl (Ac rfl) (gy 37 rfl rfl) rfl <| A3 10 rfl (Dw Gi rfl rfl hb62) (gy 37 rfl rfl) rfl ?_
       obtain ⟨r75, hv76, h⟩ := h
       refine Bb 11 rfl (Be [.int .u8 (bt x1.text x40)] rfl Tryd.func83 rfl rfl rfl fun w72 hL73 => ?_) (gy 37 rfl rfl)
       have hp74 := pmI hL73 .n (.c 0 rfl .n) (by kernel_rfl)
       refine Calls.mono (Gf w72 (Fl ([] : List B5)) (bt x1.text x40) (hL73.hFl hp74 (Ay [] rfl)) (hL73.into hp74 _) r75 hv76) ?_
       rintro _ w77 ⟨rfl, hM78⟩
       have hL79 := hL73.call hp74 hM78
       refine ⟨_, _, _, rfl, hL79, ?_⟩
       refine A3 12 rfl (Jc rfl) (gy 37 rfl rfl) rfl <| A3 13 rfl (Aq (b := true) rfl rfl) gn rfl <| Ai 14 rfl ?_
       by_cases hp80 : r75 = true
       ·have h := Al hp80 h
        refine Az rfl _ rfl ((nf hp80)) <| B8 rfl <| Bg <| Ab rfl rfl <| A3 0 rfl (Ac rfl) gn rfl <| A3 1 rfl (Aw rfl rfl rfl) gn rfl <| A3 2 rfl (Ad rfl) gn rfl <| Ai 3 rfl <| Cb ?_
        have ih := Out.inl hO1 h
        exact Bf [0, 1] (ih ()) ⟨rfl, rfl, trivial⟩ (.cons_cons _ (.slnil)) rfl
       ·have h := Am hp80 h
        refine B3 rfl _ rfl ((nt (bf hp80))) <| Ah rfl <| Ab rfl rfl <| A3 0 rfl (Ad rfl) gn rfl <| Ai 1 rfl ?_
        have h := Out.inr hO1 h
        refine B2 [.bool false] rfl Tryd.func78 rfl (.tmp rfl (.nil)) fun wr hLr => ?_
        have hMr := hLr.pk0 (.c 1 rfl .n)
        show D6 w F  r (.returned (B7 [.bool false])) wr
        rw [h]
        exact ⟨rfl, hMr⟩
     ·have h := Am hp61 h
      refine Az rfl _ rfl ((decide_eq_false hp61)) <| Fd [.code Zn, .inBlock 0, .code Sg] rfl rfl <| Ah rfl <| Ab rfl rfl <| A3 0 rfl (Ad rfl) gn rfl <| Ai 1 rfl ?_
      have h := Out.inr hO1 h
      refine B2 [.bool true] rfl Tryd.func78 rfl (.tmp rfl (.nil)) fun wr hLr => ?_
      have hMr := hLr.pk0 (.c 1 rfl .n)
      show D6 w F  r (.returned (B7 [.bool true])) wr
      rw [h]
      exact ⟨rfl, hMr⟩
    exact Bf [0, 1] (key2 _ h ()) ⟨rfl, rfl, trivial⟩ (.cons_cons _ (.slnil)) rfl
  refine Ab rfl rfl <| A3 0 rfl (Ao F4 rfl) gn rfl <| A3 1 rfl (Ak 0 Dz rfl rfl rfl) gn rfl <| A3 2 rfl (O4 rfl rfl) gn rfl <| A3 3 rfl (Ac rfl) gn rfl ?_
  by_cases hp81 : x1.text = (⟨#[]⟩ : ByteArray)
  ·have h := Al hp81 h
   refine B1 12 rfl ((Ip hp81)) <| Aa 4 rfl (ps 12 rfl rfl rfl) <| Aa 5 rfl (ps 12 rfl rfl rfl) <| Aa 6 rfl (ps 12 rfl rfl rfl) <| Aa 7 rfl (ps 12 rfl rfl rfl) <| A3 8 rfl (Aq (b := true) rfl rfl) gn rfl <| A3 9 rfl (Ac rfl) gn rfl <| Aa 10 rfl (ps 18 rfl rfl rfl) <| Aa 11 rfl (ps 18 rfl rfl rfl) <| Aa 12 rfl (ps 18 rfl rfl rfl) <| Aa 13 rfl (ps 18 rfl rfl rfl) <| A3 14 rfl (Aq (b := true) rfl rfl) gn rfl ?_
   refine Ai 15 rfl ?_
   exact Bf [0, 1] (j1 true h) ⟨rfl, rfl, trivial⟩ (.cons_cons _ (.slnil)) rfl
  ·have h := Am hp81 h
   refine B1 12 rfl ((Jb hp81)) <| A3 4 rfl (Ao F4 rfl) (gy 12 rfl rfl) rfl <| A3 5 rfl (Ak 0 Dz rfl rfl rfl) (gy 12 rfl rfl) rfl <| A3 6 rfl (It Gi rfl) (gy 12 rfl rfl) rfl <| A3 7 rfl (Aw rfl rfl rfl) (gy 12 rfl rfl) rfl <| A3 8 rfl (Aq (b := false) rfl rfl) gn rfl <| A3 9 rfl (Ac rfl) gn rfl ?_
   by_cases hp82 : (x1.text.size : Int) > 24
   ·have h := Al hp82 h
    refine B1 18 rfl ((decide_eq_true hp82)) <| Aa 10 rfl (ps 18 rfl rfl rfl) <| Aa 11 rfl (ps 18 rfl rfl rfl) <| Aa 12 rfl (ps 18 rfl rfl rfl) <| Aa 13 rfl (ps 18 rfl rfl rfl) <| A3 14 rfl (Aq (b := true) rfl rfl) gn rfl <| Ai 15 rfl ?_
    exact Bf [0, 1] (j1 true h) ⟨rfl, rfl, trivial⟩ (.cons_cons _ (.slnil)) rfl
   ·have h := Am hp82 h
    refine B1 18 rfl ((decide_eq_false hp82)) <| A3 10 rfl (Ao F4 rfl) (gy 18 rfl rfl) rfl <| A3 11 rfl (Ak 0 Dz rfl rfl rfl) (gy 18 rfl rfl) rfl ?_
    obtain ⟨hb83, h⟩ := h
    refine A3 12 rfl (Dw Gi rfl rfl hb83) (gy 18 rfl rfl) rfl ?_
    obtain ⟨r87, hv88, h⟩ := h
    refine Bb 13 rfl (Be [.int .u8 (bt x1.text 0)] rfl Tryd.func83 rfl rfl rfl fun w84 hL85 => ?_) (gy 18 rfl rfl)
    have hp86 := pmI hL85 .n (.c 0 rfl .n) (by kernel_rfl)
    refine Calls.mono (Gf w84 (Fl ([] : List B5)) (bt x1.text 0) (hL85.hFl hp86 (Ay [] rfl)) (hL85.into hp86 _) r87 hv88) ?_
    rintro _ w89 ⟨rfl, hM90⟩
    have hL91 := hL85.call hp86 hM90
    refine ⟨_, _, _, rfl, hL91, ?_⟩
    refine A3 14 rfl (Aq (b := false) rfl rfl) gn rfl <| Ai 15 rfl ?_
    exact Bf [0, 1] (j1 r87 h) ⟨rfl, rfl, trivial⟩ (.cons_cons _ (.slnil)) rfl
 ·have h := Am hp4 h
  refine Az rfl _ rfl ((nei hp4)) <| Ah rfl <| Ab rfl rfl <| A3 0 rfl (Aw rfl rfl rfl) gn rfl <| A3 1 rfl (Ad rfl) gn rfl <| Ai 2 rfl ?_
  by_cases hp92 : x1.kind = 2
  ·have h := Al hp92 h
   refine B3 rfl _ rfl ((eqi hp92)) <| Ah rfl <| Ab rfl rfl <| A3 0 rfl (Ad rfl) gn rfl <| Ai 1 rfl ?_
   refine B2 [.bool true] rfl Tryd.func78 rfl (.tmp rfl (.nil)) fun wr hLr => ?_
   have hMr := hLr.pk0 (.c 1 rfl .n)
   show D6 w F  r (.returned (B7 [.bool true])) wr
   rw [h]
   exact ⟨rfl, hMr⟩
  ·have h := Am hp92 h
   refine Az rfl _ rfl ((nei hp92)) <| Ah rfl <| Ab rfl rfl <| A3 0 rfl (Aw rfl rfl rfl) gn rfl <| A3 1 rfl (Ad rfl) gn rfl <| Ai 2 rfl ?_
   by_cases hp93 : x1.kind = 3
   ·have h := Al hp93 h
    refine B3 rfl _ rfl ((eqi hp93)) <| Ah rfl <| Ah rfl <| Ab rfl rfl <| A3 0 rfl (Ad rfl) gn rfl <| Ai 1 rfl <| Bs rfl <| H3 rfl ?_
    have key3 : ∀ s, B0 (fun (s : Int) o => F2 x1 s o) s r → (fun (s : Int) => ∀ (_ : Unit), G (Fx w F r) [.code Q6, .inLoop Q6, .inBlock 3, .code X0, .inBlock 0, .code Sg] [(1, .pointer (some ⟨gb2, 0, none⟩)), (4, .int .i64 s)] [.box gb2 84 [.int .i64 x1.kind, .string x1.text, .int .i64 x1.n, .int .i64 x1.at_]] [Sm w.heap.size F w [], St w []]) s := by
     intro s hs
     refine B0.ind (mot := (fun (s : Int) => ∀ (_ : Unit), G (Fx w F r) [.code Q6, .inLoop Q6, .inBlock 3, .code X0, .inBlock 0, .code Sg] [(1, .pointer (some ⟨gb2, 0, none⟩)), (4, .int .i64 s)] [.box gb2 84 [.int .i64 x1.kind, .string x1.text, .int .i64 x1.n, .int .i64 x1.at_]] [Sm w.heap.size F w [], St w []])) ?_ hs
     clear hs s
     intro x105 o1 h hO1
     show ∀ (_ : Unit), G (Fx w F r) [.code Q6, .inLoop Q6, .inBlock 3, .code X0, .inBlock 0, .code Sg] [(1, .pointer (some ⟨gb2, 0, none⟩)), (4, .int .i64 x105)] [.box gb2 84 [.int .i64 x1.kind, .string x1.text, .int .i64 x1.n, .int .i64 x1.at_]] [Sm w.heap.size F w [], St w []]
     intro _
     have h : F2 x1 x105 o1 := h
     unfold F2 at h
     refine Ah rfl <| Ah rfl <| Ab rfl rfl <| A3 0 rfl (Ac rfl) gn rfl <| A3 1 rfl (Ao F4 rfl) gn rfl <| A3 2 rfl (Ak 0 Dz rfl rfl rfl) gn rfl <| A3 3 rfl (It Gi rfl) gn rfl <| A3 4 rfl (Aw rfl rfl rfl) gn rfl <| Ai 5 rfl ?_
     by_cases hp116 : x105 < (x1.text.size : Int)
     ·have h := Al hp116 h
      refine B3 rfl _ rfl ((decide_eq_true hp116)) <| B8 rfl <| Ah rfl <| Bs rfl <| Ah rfl <| Ab rfl rfl <| A3 0 rfl (Ao F4 rfl) gn rfl <| A3 1 rfl (Ak 0 Dz rfl rfl rfl) gn rfl <| A3 2 rfl (Ac rfl) gn rfl ?_
      obtain ⟨hb117, h⟩ := h
      refine A3 3 rfl (Dw Gi rfl rfl hb117) gn rfl <| Ai 4 rfl <| Bs rfl <| Ah rfl <| Ah rfl <| Ab rfl rfl <| A3 0 rfl (Aw rfl rfl rfl) gn rfl <| A3 1 rfl (Ad rfl) gn rfl <| Ai 2 rfl ?_
      have j4 : ∀ (x120 : Bool) (h : Ei x1 x105 x120 o1) , G (Fx w F r) [.code q78c72, .inBlock 5, .inBlock 4, .code q78c66, .inLoop Q6, .inBlock 3, .code X0, .inBlock 0, .code Sg] [(1, .pointer (some ⟨gb2, 0, none⟩)), (4, .int .i64 x105), (59, .int .u8 (bt x1.text x105)), (60, .bool x120)] [.box gb2 84 [.int .i64 x1.kind, .string x1.text, .int .i64 x1.n, .int .i64 x1.at_]] [Sm w.heap.size F w [], St w []] := by
       intro x120 h
       unfold Ei at h
       by_cases hp121 : x120 = true
       ·have h := Al hp121 h
        refine B3 rfl _ rfl (hp121) <| Ah rfl <| Ab rfl rfl <| A3 0 rfl (Ad rfl) gn rfl <| Ai 1 rfl ?_
        have h := Out.inr hO1 h
        refine B2 [.bool false] rfl Tryd.func78 rfl (.tmp rfl (.nil)) fun wr hLr => ?_
        have hMr := hLr.pk0 (.c 1 rfl .n)
        show D6 w F  r (.returned (B7 [.bool false])) wr
        rw [h]
        exact ⟨rfl, hMr⟩
       ·have h := Am hp121 h
        refine Az rfl _ rfl ((bf hp121)) <| Ah rfl <| Ab rfl rfl <| A3 0 rfl (Aw rfl rfl rfl) gn rfl <| A3 1 rfl (Ad rfl) gn rfl <| Ai 2 rfl ?_
        by_cases hp122 : bt x1.text x105 = 92
        ·have h := Al hp122 h
         refine B3 rfl _ rfl ((eqi hp122)) <| Ah rfl <| Ab rfl rfl <| A3 0 rfl (Ac rfl) gn rfl <| A3 1 rfl (Aw rfl rfl rfl) gn rfl <| A3 2 rfl (Ad rfl) gn rfl <| Ai 3 rfl <| Ah rfl <| Ab rfl rfl <| A3 0 rfl (Ac rfl) gn rfl <| A3 1 rfl (Ao F4 rfl) gn rfl <| A3 2 rfl (Ak 0 Dz rfl rfl rfl) gn rfl ?_
         refine A3 3 rfl (It Gi rfl) gn rfl <| A3 4 rfl (Aw rfl rfl rfl) gn rfl <| A3 5 rfl (Ac rfl) gn rfl ?_
         by_cases hp123 : w64 (x105 + 1) = (x1.text.size : Int)
         ·have h := Al hp123 h
          refine B1 72 rfl ((eqi hp123)) <| Aa 6 rfl (ps 72 rfl rfl rfl) <| Aa 7 rfl (ps 72 rfl rfl rfl) <| Aa 8 rfl (ps 72 rfl rfl rfl) <| Aa 9 rfl (ps 72 rfl rfl rfl) <| Aa 10 rfl (ps 72 rfl rfl rfl) <| A3 11 rfl (Aq (b := true) rfl rfl) gn rfl <| Ai 12 rfl <| B3 rfl _ rfl (rfl) <| Ah rfl <| Ab rfl rfl <| A3 0 rfl (Ad rfl) gn rfl ?_
          refine Ai 1 rfl ?_
          have h := Out.inr hO1 h
          refine B2 [.bool false] rfl Tryd.func78 rfl (.tmp rfl (.nil)) fun wr hLr => ?_
          have hMr := hLr.pk0 (.c 1 rfl .n)
          show D6 w F  r (.returned (B7 [.bool false])) wr
          rw [h]
          exact ⟨rfl, hMr⟩
         ·have h := Am hp123 h
          refine B1 72 rfl ((nei hp123)) <| A3 6 rfl (Ao F4 rfl) (gy 72 rfl rfl) rfl <| A3 7 rfl (Ak 0 Dz rfl rfl rfl) (gy 72 rfl rfl) rfl <| A3 8 rfl (Ac rfl) (gy 72 rfl rfl) rfl ?_
          obtain ⟨hb124, h⟩ := h
          refine A3 9 rfl (Dw Gi rfl rfl hb124) (gy 72 rfl rfl) rfl <| A3 10 rfl (Aw rfl rfl rfl) (gy 72 rfl rfl) rfl <| A3 11 rfl (Aq (b := false) rfl rfl) gn rfl <| Ai 12 rfl ?_
          by_cases hp125 : bt x1.text (w64 (x105 + 1)) = 10
          ·have h := Al hp125 h
           refine B3 rfl _ rfl ((eqi hp125)) <| Ah rfl <| Ab rfl rfl <| A3 0 rfl (Ad rfl) gn rfl <| Ai 1 rfl ?_
           have h := Out.inr hO1 h
           refine B2 [.bool false] rfl Tryd.func78 rfl (.tmp rfl (.nil)) fun wr hLr => ?_
           have hMr := hLr.pk0 (.c 1 rfl .n)
           show D6 w F  r (.returned (B7 [.bool false])) wr
           rw [h]
           exact ⟨rfl, hMr⟩
          ·have h := Am hp125 h
           refine Az rfl _ rfl ((nei hp125)) <| B8 rfl <| Bg <| Bg <| Ab rfl rfl <| A3 0 rfl (Ac rfl) gn rfl <| A3 1 rfl (Aw rfl rfl rfl) gn rfl <| A3 2 rfl (Ad rfl) gn rfl <| Ai 3 rfl <| Cb ?_
           have ih := Out.inl hO1 h
           exact Bf [0, 1] (ih ()) ⟨rfl, rfl, trivial⟩ (.cons_cons _ (.slnil)) rfl
        ·have h := Am hp122 h
         refine Az rfl _ rfl ((nei hp122)) <| B8 rfl <| Bg <| Bg <| Ab rfl rfl <| A3 0 rfl (Ac rfl) gn rfl <| A3 1 rfl (Aw rfl rfl rfl) gn rfl <| A3 2 rfl (Ad rfl) gn rfl <| Ai 3 rfl <| Cb ?_
         have ih := Out.inl hO1 h
         exact Bf [0, 1] (ih ()) ⟨rfl, rfl, trivial⟩ (.cons_cons _ (.slnil)) rfl
      by_cases hp118 : bt x1.text x105 = 47
      ·have h := Al hp118 h
       refine B3 rfl _ rfl ((eqi hp118)) <| B8 rfl ?_
       exact Bf [0, 1] (j4 ((bt x1.text x105) == 47) h) ⟨rfl, rfl, rfl, rfl, trivial⟩ (.cons_cons _ (.slnil)) rfl
      ·have h := Am hp118 h
       refine Az rfl _ rfl ((nei hp118)) <| Ab rfl rfl <| A3 0 rfl (Aw rfl rfl rfl) gn rfl <| A3 1 rfl (Ad rfl) gn rfl <| Ai 2 rfl ?_
       exact Bf [0, 1] (j4 ((bt x1.text x105) == 10) h) ⟨rfl, rfl, rfl, rfl, trivial⟩ (.cons_cons _ (.slnil)) rfl
     ·have h := Am hp116 h
      refine Az rfl _ rfl ((decide_eq_false hp116)) <| Fd [.code X0, .inBlock 0, .code Sg] rfl rfl <| Ah rfl <| Ab rfl rfl <| A3 0 rfl (Ad rfl) gn rfl <| Ai 1 rfl ?_
      have h := Out.inr hO1 h
      refine B2 [.bool true] rfl Tryd.func78 rfl (.tmp rfl (.nil)) fun wr hLr => ?_
      have hMr := hLr.pk0 (.c 1 rfl .n)
      show D6 w F  r (.returned (B7 [.bool true])) wr
      rw [h]
      exact ⟨rfl, hMr⟩
    exact Bf [0, 1] (key3 _ h ()) ⟨rfl, rfl, trivial⟩ (.cons_cons _ (.slnil)) rfl
   ·have h := Am hp93 h
    refine Az rfl _ rfl ((nei hp93)) <| Ah rfl <| Ab rfl rfl <| A3 0 rfl (Aw rfl rfl rfl) gn rfl <| A3 1 rfl (Ad rfl) gn rfl <| Ai 2 rfl ?_
    by_cases hp126 : x1.kind = 4
    ·have h := Al hp126 h
     refine B3 rfl _ rfl ((eqi hp126)) <| Ah rfl <| Ab rfl rfl <| A3 0 rfl (Ao Zy rfl) gn rfl <| A3 1 rfl (Ak 0 Dx rfl rfl rfl) gn rfl <| A3 2 rfl (Aw rfl rfl rfl) gn rfl <| A3 3 rfl (Ac rfl) gn rfl ?_
     by_cases hp127 : x1.n ≥ 0
     ·have h := Al hp127 h
      refine B1 84 rfl ((decide_eq_true hp127)) <| A3 4 rfl (Ao Zy rfl) (gy 84 rfl rfl) rfl <| A3 5 rfl (Ak 0 Dx rfl rfl rfl) (gy 84 rfl rfl) rfl <| A3 6 rfl (Aw rfl rfl rfl) (gy 84 rfl rfl) rfl <| A3 7 rfl (Aq (b := true) rfl rfl) gn rfl <| A3 8 rfl (Ad rfl) gn rfl <| Ai 9 rfl ?_
      refine B2 [.bool (decide (x1.n ≤ 65535))] rfl Tryd.func78 rfl (.tmp rfl (.nil)) fun wr hLr => ?_
      have hMr := hLr.pk0 (.c 1 rfl .n)
      show D6 w F  r (.returned (B7 [.bool (decide (x1.n ≤ 65535))])) wr
      rw [h]
      exact ⟨rfl, hMr⟩
     ·have h := Am hp127 h
      refine B1 84 rfl ((decide_eq_false hp127)) <| Aa 4 rfl (ps 84 rfl rfl rfl) <| Aa 5 rfl (ps 84 rfl rfl rfl) <| Aa 6 rfl (ps 84 rfl rfl rfl) <| A3 7 rfl (Aq (b := false) rfl rfl) gn rfl <| A3 8 rfl (Ad rfl) gn rfl <| Ai 9 rfl ?_
      refine B2 [.bool false] rfl Tryd.func78 rfl (.tmp rfl (.nil)) fun wr hLr => ?_
      have hMr := hLr.pk0 (.c 1 rfl .n)
      show D6 w F  r (.returned (B7 [.bool false])) wr
      rw [h]
      exact ⟨rfl, hMr⟩
    ·have h := Am hp126 h
     refine Az rfl _ rfl ((nei hp126)) <| Ah rfl <| Ab rfl rfl <| A3 0 rfl (Aw rfl rfl rfl) gn rfl <| A3 1 rfl (Ad rfl) gn rfl <| Ai 2 rfl ?_
     by_cases hp128 : x1.kind = 5
     ·have h := Al hp128 h
      refine B3 rfl _ rfl ((eqi hp128)) <| Ah rfl <| Ab rfl rfl <| A3 0 rfl (Ao F4 rfl) gn rfl <| A3 1 rfl (Ak 0 Dz rfl rfl rfl) gn rfl <| A3 2 rfl (It Gi rfl) gn rfl <| A3 3 rfl (Aw rfl rfl rfl) gn rfl <| A3 4 rfl (Ac rfl) gn rfl ?_
      by_cases hp129 : (x1.text.size : Int) = 1
      ·have h := Al hp129 h
       refine B1 95 rfl ((eqi hp129)) <| A3 5 rfl (Ao F4 rfl) (gy 95 rfl rfl) rfl <| A3 6 rfl (Ak 0 Dz rfl rfl rfl) (gy 95 rfl rfl) rfl ?_
       obtain ⟨r133, hv134, h⟩ := h
       refine Bb 7 rfl (Be [.string (⟨#[123, 125, 40, 41, 124, 42, 43, 63, 58, 59, 44, 61, 64]⟩ : ByteArray), .string x1.text] rfl Tryd.func100 rfl rfl rfl fun w130 hL131 => ?_) (gy 95 rfl rfl)
       have hp132 := pmI hL131 .n (.c 0 rfl .n) (by kernel_rfl)
       refine Calls.mono (Qb w130 (Fl ([] : List B5)) (⟨#[123, 125, 40, 41, 124, 42, 43, 63, 58, 59, 44, 61, 64]⟩ : ByteArray) x1.text (hL131.hFl hp132 (Ay [] rfl)) (hL131.into hp132 _) r133 hv134) ?_
       rintro _ w135 ⟨rfl, hM136⟩
       have hL137 := hL131.call hp132 hM136
       refine ⟨_, _, _, rfl, hL137, ?_⟩
       refine A3 8 rfl (Aq (b := true) rfl rfl) gn rfl <| A3 9 rfl (Ad rfl) gn rfl <| Ai 10 rfl ?_
       refine B2 [.bool r133] rfl Tryd.func78 rfl (.tmp rfl (.nil)) fun wr hLr => ?_
       have hMr := hLr.pk0 (.c 1 rfl .n)
       show D6 w F  r (.returned (B7 [.bool r133])) wr
       rw [h]
       exact ⟨rfl, hMr⟩
      ·have h := Am hp129 h
       refine B1 95 rfl ((nei hp129)) <| Aa 5 rfl (ps 95 rfl rfl rfl) <| Aa 6 rfl (ps 95 rfl rfl rfl) <| Aa 7 rfl (ps 95 rfl rfl rfl) <| A3 8 rfl (Aq (b := false) rfl rfl) gn rfl <| A3 9 rfl (Ad rfl) gn rfl <| Ai 10 rfl ?_
       refine B2 [.bool false] rfl Tryd.func78 rfl (.tmp rfl (.nil)) fun wr hLr => ?_
       have hMr := hLr.pk0 (.c 1 rfl .n)
       show D6 w F  r (.returned (B7 [.bool false])) wr
       rw [h]
       exact ⟨rfl, hMr⟩
     ·have h := Am hp128 h
      refine Az rfl _ rfl ((nei hp128)) <| B8 rfl <| Bg <| Ah rfl <| Ab rfl rfl <| A3 0 rfl (Ad rfl) gn rfl <| Ai 1 rfl ?_
      refine B2 [.bool false] rfl Tryd.func78 rfl (.tmp rfl (.nil)) fun wr hLr => ?_
      have hMr := hLr.pk0 (.c 1 rfl .n)
      show D6 w F  r (.returned (B7 [.bool false])) wr
      rw [h]
      exact ⟨rfl, hMr⟩
noncomputable abbrev Un := Code.snd (Code.snd (Code.snd (Bt Tryd.f101)))
noncomputable abbrev Me := Code.fst (Code.fst (Code.snd (Code.fst (Code.snd (Code.snd (Bt Tryd.f101))))))
noncomputable abbrev Xcz := Code.snd (Code.snd Me)
noncomputable abbrev Xd2 := Code.snd (Code.fst (Code.snd (Code.fst (Code.fst (Code.snd Me)))))
noncomputable abbrev Xcy := Code.snd (Code.snd (Code.snd (Code.snd (Code.snd (Code.snd (Code.snd (Code.snd Xd2)))))))
noncomputable abbrev q101c41 := Code.fst Xcy
abbrev P8 (w : World) (F : Nat → Prop) (r : ByteArray) : Ending → World → Prop := fun e w' => e = .returned (.string r) ∧ B.Loc w w' [] [St w []]
noncomputable abbrev J6 (w : World) (F : Nat → Prop) (r : ByteArray) : Cx := ⟨Tryd.prog, 101, Tryd.f101, 69, P8 w F  r, w⟩
theorem Tn (w : World) (F : Nat → Prop) (x1 : ByteArray) (hF : ∀ b, F b → b < w.heap.size ∧ ∀ o ∈ ([] : List (List Nat)), b ∉ o) (hL0 : B.Loc w w [] [Sm w.heap.size F w [], St w []]) (r : ByteArray) (h : Mo x1 r) : Calls Tryd.prog 101 #[.string x1] w (P8 w F  r) := by
 unfold Mo at h
 refine B6 (vs := [.string x1]) 69 Tryd.func101 rfl Tryd.ntmps101 rfl hL0 ?_
 show G (J6 w F r) _ _ _ _
 refine Ah rfl <| Ab rfl rfl <| A3 0 rfl (Ad rfl) gn rfl <| Ai 1 rfl <| Ah rfl <| Ab rfl rfl ?_
 refine Bb 0 rfl (Ec (xs := ([34] : List Int)) [.int .u8 34] Qt rfl (by kernel_rfl) rfl rfl rfl rfl fun gb3 h4 => ?_) gn
 refine A3 1 rfl (Ad rfl) gn rfl <| Ai 2 rfl <| Ah rfl <| Ah rfl <| Ab rfl rfl <| A3 0 rfl (Ad rfl) gn rfl <| Ai 1 rfl <| Bs rfl <| H3 rfl ?_
 have key1 : ∀ s, B0 (fun (s : (List Int) × Int) o => Ey x1 s.1 s.2 o) s r → (fun (s : (List Int) × Int) => ∀ (A101 : Option Addr) (n102 : Nat) (c103 : Nat) (h104 : Ow w.heap.size A101 n102 c103 s.1), G (J6 w F r) [.code Me, .inLoop Me, .inBlock 0, .code Un] [(0, .string x1), (3, .slice A101 n102 c103), (4, .int .i64 s.2)] [.own (.slice A101 n102 c103) 5 1 n102 (s.1.flatMap (eI .u8))] [Sm w.heap.size F w [], St w []]) s := by
  intro s hs
  refine B0.ind (mot := (fun (s : (List Int) × Int) => ∀ (A101 : Option Addr) (n102 : Nat) (c103 : Nat) (h104 : Ow w.heap.size A101 n102 c103 s.1), G (J6 w F r) [.code Me, .inLoop Me, .inBlock 0, .code Un] [(0, .string x1), (3, .slice A101 n102 c103), (4, .int .i64 s.2)] [.own (.slice A101 n102 c103) 5 1 n102 (s.1.flatMap (eI .u8))] [Sm w.heap.size F w [], St w []])) ?_ hs
  clear hs s
  intro s o1 h hO1
  obtain ⟨x100, x105⟩ := s
  show ∀ (A101 : Option Addr) (n102 : Nat) (c103 : Nat) (h104 : Ow w.heap.size A101 n102 c103 x100), G (J6 w F r) [.code Me, .inLoop Me, .inBlock 0, .code Un] [(0, .string x1), (3, .slice A101 n102 c103), (4, .int .i64 x105)] [.own (.slice A101 n102 c103) 5 1 n102 (x100.flatMap (eI .u8))] [Sm w.heap.size F w [], St w []]
  intro A101 n102 c103 h104
  have h : Ey x1 x100 x105 o1 := h
  unfold Ey at h
  refine Ah rfl <| Ah rfl <| Ab rfl rfl <| A3 0 rfl (Ac rfl) gn rfl <| A3 1 rfl (Ac rfl) gn rfl <| A3 2 rfl (It Gi rfl) gn rfl <| A3 3 rfl (Aw rfl rfl rfl) gn rfl <| Ai 4 rfl ?_
  by_cases hp200 : x105 < (x1.size : Int)
  ·have h := Al hp200 h
   refine B3 rfl _ rfl ((decide_eq_true hp200)) <| B8 rfl <| Ah rfl <| Bs rfl <| Ah rfl <| Ab rfl rfl <| A3 0 rfl (Ac rfl) gn rfl <| A3 1 rfl (Ac rfl) gn rfl ?_
   obtain ⟨hb201, h⟩ := h
   refine A3 2 rfl (Dw Gi rfl rfl hb201) gn rfl <| A3 3 rfl (Ad rfl) gn rfl <| Ai 4 rfl <| Bs rfl <| Ah rfl ?_
   have j2 : ∀ (x204 : Bool) (h : Ij x100 x1 x105 x204 o1) , G (J6 w F r) [.code Xd2, .inBlock 2, .inBlock 1, .code Xcz, .inLoop Me, .inBlock 0, .code Un] [(0, .string x1), (3, .slice A101 n102 c103), (4, .int .i64 x105), (5, .int .u8 (bt x1 x105)), (20, .bool x204)] [.own (.slice A101 n102 c103) 5 1 n102 (x100.flatMap (eI .u8))] [Sm w.heap.size F w [], St w []] := by
    intro x204 h
    unfold Ij at h
    by_cases hp205 : x204 = true
    ·have h := Al hp205 h
     refine B3 rfl _ rfl (hp205) <| Ab rfl rfl <| A3 0 rfl (Ac rfl) gn rfl <| A3 1 rfl (Ac rfl) gn rfl ?_
     refine Bb 2 rfl (Ec (xs := ([92, bt x1 x105] : List Int)) [.int .u8 92, .int .u8 (bt x1 x105)] U5 rfl (by kernel_rfl) rfl rfl rfl rfl fun gb207 h208 => ?_) gn
     obtain ⟨x212, hv213, h⟩ := h
     obtain ⟨hb214, h⟩ := h
     refine Bb 3 rfl (He (zs := x212) (cells' := x212.flatMap (eI .u8)) 1 Q3 rfl rfl rfl h104 (Nat.le_refl _) (Src.ownF (hl := (hlI .u8)) (h1 := (Db .u8)) 0 rfl h208) (by rw [hv213, List.flatMap_append] <;> rfl) (Dj hv213 h208.hq) hb214 rfl rfl fun A209 c210 h211 => ?_) gn
     refine A3 4 rfl (Ad rfl) gn rfl <| Ai 5 rfl <| Bg <| Bg <| Ab rfl rfl <| A3 0 rfl (Ac rfl) gn rfl <| A3 1 rfl (Aw rfl rfl rfl) gn rfl <| A3 2 rfl (Ad rfl) gn rfl <| Ai 3 rfl <| Cb ?_
     have ih := Out.inl hO1 h
     exact Bf [0, 1] (ih A209 (n102 + 2) c210 h211) ⟨rfl, rfl, rfl, trivial⟩ (.cons _ (.cons_cons _ (.slnil))) rfl
    ·have h := Am hp205 h
     refine Az rfl _ rfl ((bf hp205)) <| Ah rfl <| Ab rfl rfl <| A3 0 rfl (Ac rfl) gn rfl <| A3 1 rfl (Aw rfl rfl rfl) gn rfl <| A3 2 rfl (Ad rfl) gn rfl <| Ai 3 rfl ?_
     by_cases hp215 : bt x1 x105 = 10
     ·have h := Al hp215 h
      refine B3 rfl _ rfl ((eqi hp215)) <| Ab rfl rfl <| A3 0 rfl (Ac rfl) gn rfl ?_
      refine Bb 1 rfl (Ec (xs := ([92, 110] : List Int)) [.int .u8 92, .int .u8 110] U5 rfl (by kernel_rfl) rfl rfl rfl rfl fun gb217 h218 => ?_) gn
      obtain ⟨x222, hv223, h⟩ := h
      obtain ⟨hb224, h⟩ := h
      refine Bb 2 rfl (He (zs := x222) (cells' := x222.flatMap (eI .u8)) 1 Q3 rfl rfl rfl h104 (Nat.le_refl _) (Src.ownF (hl := (hlI .u8)) (h1 := (Db .u8)) 0 rfl h218) (by rw [hv223, List.flatMap_append] <;> rfl) (Dj hv223 h218.hq) hb224 rfl rfl fun A219 c220 h221 => ?_) gn
      refine A3 3 rfl (Ad rfl) gn rfl <| Ai 4 rfl <| Bg <| Bg <| Ab rfl rfl <| A3 0 rfl (Ac rfl) gn rfl <| A3 1 rfl (Aw rfl rfl rfl) gn rfl <| A3 2 rfl (Ad rfl) gn rfl <| Ai 3 rfl <| Cb ?_
      have ih := Out.inl hO1 h
      exact Bf [0, 1] (ih A219 (n102 + 2) c220 h221) ⟨rfl, rfl, rfl, trivial⟩ (.cons _ (.cons_cons _ (.slnil))) rfl
     ·have h := Am hp215 h
      refine Az rfl _ rfl ((nei hp215)) <| Ah rfl <| Ab rfl rfl <| A3 0 rfl (Ac rfl) gn rfl <| A3 1 rfl (Aw rfl rfl rfl) gn rfl <| A3 2 rfl (Ad rfl) gn rfl <| Ai 3 rfl ?_
      by_cases hp225 : bt x1 x105 = 9
      ·have h := Al hp225 h
       refine B3 rfl _ rfl ((eqi hp225)) <| Ab rfl rfl <| A3 0 rfl (Ac rfl) gn rfl ?_
       refine Bb 1 rfl (Ec (xs := ([92, 116] : List Int)) [.int .u8 92, .int .u8 116] U5 rfl (by kernel_rfl) rfl rfl rfl rfl fun gb227 h228 => ?_) gn
       obtain ⟨x232, hv233, h⟩ := h
       obtain ⟨hb234, h⟩ := h
       refine Bb 2 rfl (He (zs := x232) (cells' := x232.flatMap (eI .u8)) 1 Q3 rfl rfl rfl h104 (Nat.le_refl _) (Src.ownF (hl := (hlI .u8)) (h1 := (Db .u8)) 0 rfl h228) (by rw [hv233, List.flatMap_append] <;> rfl) (Dj hv233 h228.hq) hb234 rfl rfl fun A229 c230 h231 => ?_) gn
       refine A3 3 rfl (Ad rfl) gn rfl <| Ai 4 rfl <| Bg <| Bg <| Ab rfl rfl <| A3 0 rfl (Ac rfl) gn rfl <| A3 1 rfl (Aw rfl rfl rfl) gn rfl <| A3 2 rfl (Ad rfl) gn rfl <| Ai 3 rfl <| Cb ?_
       have ih := Out.inl hO1 h
       exact Bf [0, 1] (ih A229 (n102 + 2) c230 h231) ⟨rfl, rfl, rfl, trivial⟩ (.cons _ (.cons_cons _ (.slnil))) rfl
      ·have h := Am hp225 h
       refine Az rfl _ rfl ((nei hp225)) <| Ah rfl <| Ab rfl rfl <| A3 0 rfl (Ac rfl) gn rfl <| A3 1 rfl (Aw rfl rfl rfl) gn rfl <| A3 2 rfl (Ad rfl) gn rfl <| Ai 3 rfl ?_
       by_cases hp235 : bt x1 x105 = 13
       ·have h := Al hp235 h
        refine B3 rfl _ rfl ((eqi hp235)) <| Ab rfl rfl <| A3 0 rfl (Ac rfl) gn rfl ?_
        refine Bb 1 rfl (Ec (xs := ([92, 114] : List Int)) [.int .u8 92, .int .u8 114] U5 rfl (by kernel_rfl) rfl rfl rfl rfl fun gb237 h238 => ?_) gn
        obtain ⟨x242, hv243, h⟩ := h
        obtain ⟨hb244, h⟩ := h
        refine Bb 2 rfl (He (zs := x242) (cells' := x242.flatMap (eI .u8)) 1 Q3 rfl rfl rfl h104 (Nat.le_refl _) (Src.ownF (hl := (hlI .u8)) (h1 := (Db .u8)) 0 rfl h238) (by rw [hv243, List.flatMap_append] <;> rfl) (Dj hv243 h238.hq) hb244 rfl rfl fun A239 c240 h241 => ?_) gn
        refine A3 3 rfl (Ad rfl) gn rfl <| Ai 4 rfl <| Bg <| Bg <| Ab rfl rfl <| A3 0 rfl (Ac rfl) gn rfl <| A3 1 rfl (Aw rfl rfl rfl) gn rfl <| A3 2 rfl (Ad rfl) gn rfl <| Ai 3 rfl <| Cb ?_
        have ih := Out.inl hO1 h
        exact Bf [0, 1] (ih A239 (n102 + 2) c240 h241) ⟨rfl, rfl, rfl, trivial⟩ (.cons _ (.cons_cons _ (.slnil))) rfl
       ·have h := Am hp235 h
        refine Az rfl _ rfl ((nei hp235)) <| Ah rfl ?_
        have j3 : ∀ (x247 : Bool) (h : H9 x1 x105 x100 x247 o1) , G (J6 w F r) [.code Xcy, .inBlock 2, .inBlock 1, .code Xcz, .inLoop Me, .inBlock 0, .code Un] [(0, .string x1), (3, .slice A101 n102 c103), (4, .int .i64 x105), (5, .int .u8 (bt x1 x105)), (49, .bool x247)] [.own (.slice A101 n102 c103) 5 1 n102 (x100.flatMap (eI .u8))] [Sm w.heap.size F w [], St w []] := by
         intro x247 h
         unfold H9 at h
         by_cases hp248 : x247 = true
         ·have h := Al hp248 h
          refine B3 rfl _ rfl (hp248) ?_
          obtain ⟨hb249, h⟩ := h
          obtain ⟨hb250, h⟩ := h
          obtain ⟨x257, hv258, h⟩ := h
          obtain ⟨hb259, h⟩ := h
          have hns : Region.noSelect (Code.ops q101c41) = true := by kernel_rfl
          refine D9 [8, 9] 10 rfl rfl mix rfl (.c 0 rfl (.c 1 rfl .n)) <| wfv 0 rfl (Ac rfl) gn hns (by kernel_rfl) <| wfv 1 rfl (Ac rfl) gn hns (by kernel_rfl) <| wfv 2 rfl (v_quo rfl rfl (by decide)) gn hns (by kernel_rfl) <| wfv 3 rfl (Dw Gi rfl rfl hb249) gn hns (by kernel_rfl) <| wfv 4 rfl (Ac rfl) gn hns (by kernel_rfl) <| wfv 5 rfl (v_rem rfl rfl (by decide)) gn hns (by kernel_rfl) <| wfv 6 rfl (Dw Gi rfl rfl hb250) gn hns (by kernel_rfl) ?_
          refine Bc [7] (by kernel_rfl) rfl ⟨Ce 7 rfl gn rfl (Ec (xs := ([92, 120, bt (⟨#[48, 49, 50, 51, 52, 53, 54, 55, 56, 57, 97, 98, 99, 100, 101, 102]⟩ : ByteArray) (IntKind.u8.wrap (Int.tdiv (bt x1 x105) 16)), bt (⟨#[48, 49, 50, 51, 52, 53, 54, 55, 56, 57, 97, 98, 99, 100, 101, 102]⟩ : ByteArray) (Int.tmod (bt x1 x105) 16)] : List Int)) [.int .u8 92, .int .u8 120, .int .u8 (bt (⟨#[48, 49, 50, 51, 52, 53, 54, 55, 56, 57, 97, 98, 99, 100, 101, 102]⟩ : ByteArray) (IntKind.u8.wrap (Int.tdiv (bt x1 x105) 16))), .int .u8 (bt (⟨#[48, 49, 50, 51, 52, 53, 54, 55, 56, 57, 97, 98, 99, 100, 101, 102]⟩ : ByteArray) (Int.tmod (bt x1 x105) 16))] bs_108_4 rfl (by kernel_rfl) rfl rfl rfl rfl fun gb269 h270 => ?_), trivial⟩
          refine ⟨Ay [1] rfl, Ay [0, 1] rfl, ?_⟩
          refine Bc [8] (by kernel_rfl) rfl ⟨Jx 8 rfl gn rfl (He (zs := x257) (cells' := x257.flatMap (eI .u8)) 1 Q3 rfl rfl rfl h104 (Nat.le_refl _) (Src.ownF (hl := (hlI .u8)) (h1 := (Db .u8)) 0 rfl h270) (by rw [hv258, List.flatMap_append] <;> rfl) (Dj hv258 h270.hq) hb259 rfl rfl fun A271 c272 h273 => ?_), trivial⟩
          unfold NxL
          refine Bc [9] (by kernel_rfl) rfl ⟨Jx 9 rfl gn rfl (H1 (Ad rfl) rfl ?_), trivial⟩
          unfold NxL
          refine Bw (by kernel_rfl) <| Bg <| Bg <| Ab rfl rfl <| A3 0 rfl (Ac rfl) gn rfl <| A3 1 rfl (Aw rfl rfl rfl) gn rfl <| A3 2 rfl (Ad rfl) gn rfl <| Ai 3 rfl <| Cb ?_
          have ih := Out.inl hO1 h
          exact Bf [0, 1] (ih A271 (n102 + 4) c272 h273) ⟨rfl, rfl, rfl, trivial⟩ (.cons _ (.cons_cons _ (.slnil))) rfl
         ·have h := Am hp248 h
          refine Az rfl _ rfl ((bf hp248)) <| Ab rfl rfl <| A3 0 rfl (Ac rfl) gn rfl <| A3 1 rfl (Ac rfl) gn rfl ?_
          refine Bb 2 rfl (Ec (xs := ([bt x1 x105] : List Int)) [.int .u8 (bt x1 x105)] Qt rfl (by kernel_rfl) rfl rfl rfl rfl fun gb275 h276 => ?_) gn
          obtain ⟨x280, hv281, h⟩ := h
          obtain ⟨hb282, h⟩ := h
          refine Bb 3 rfl (He (zs := x280) (cells' := x280.flatMap (eI .u8)) 1 Q3 rfl rfl rfl h104 (Nat.le_refl _) (Src.ownF (hl := (hlI .u8)) (h1 := (Db .u8)) 0 rfl h276) (by rw [hv281, List.flatMap_append] <;> rfl) (Dj hv281 h276.hq) hb282 rfl rfl fun A277 c278 h279 => ?_) gn
          refine A3 4 rfl (Ad rfl) gn rfl <| Ai 5 rfl <| Bg <| Bg <| Ab rfl rfl <| A3 0 rfl (Ac rfl) gn rfl <| A3 1 rfl (Aw rfl rfl rfl) gn rfl <| A3 2 rfl (Ad rfl) gn rfl <| Ai 3 rfl <| Cb ?_
          have ih := Out.inl hO1 h
          exact Bf [0, 1] (ih A277 (n102 + 1) c278 h279) ⟨rfl, rfl, rfl, trivial⟩ (.cons _ (.cons_cons _ (.slnil))) rfl
        refine Ab rfl rfl <| A3 0 rfl (Ac rfl) gn rfl <| A3 1 rfl (Aw rfl rfl rfl) gn rfl <| A3 2 rfl (Ac rfl) gn rfl ?_
        by_cases hp283 : bt x1 x105 < 32
        ·have h := Al hp283 h
         refine B1 52 rfl ((decide_eq_true hp283)) <| Aa 3 rfl (ps 52 rfl rfl rfl) <| Aa 4 rfl (ps 52 rfl rfl rfl) <| A3 5 rfl (Aq (b := true) rfl rfl) gn rfl <| A3 6 rfl (Ad rfl) gn rfl <| Ai 7 rfl ?_
         exact Bf [0, 1] (j3 true h) ⟨rfl, rfl, rfl, rfl, rfl, trivial⟩ (.cons_cons _ (.slnil)) rfl
        ·have h := Am hp283 h
         refine B1 52 rfl ((decide_eq_false hp283)) <| A3 3 rfl (Ac rfl) (gy 52 rfl rfl) rfl <| A3 4 rfl (Aw rfl rfl rfl) (gy 52 rfl rfl) rfl <| A3 5 rfl (Aq (b := false) rfl rfl) gn rfl <| A3 6 rfl (Ad rfl) gn rfl <| Ai 7 rfl ?_
         exact Bf [0, 1] (j3 (decide (bt x1 x105 > 126)) h) ⟨rfl, rfl, rfl, rfl, rfl, trivial⟩ (.cons_cons _ (.slnil)) rfl
   refine Ab rfl rfl <| A3 0 rfl (Ac rfl) gn rfl <| A3 1 rfl (Aw rfl rfl rfl) gn rfl <| A3 2 rfl (Ac rfl) gn rfl ?_
   by_cases hp284 : bt x1 x105 = 34
   ·have h := Al hp284 h
    refine B1 23 rfl ((eqi hp284)) <| Aa 3 rfl (ps 23 rfl rfl rfl) <| Aa 4 rfl (ps 23 rfl rfl rfl) <| A3 5 rfl (Aq (b := true) rfl rfl) gn rfl <| A3 6 rfl (Ad rfl) gn rfl <| Ai 7 rfl ?_
    exact Bf [0, 1] (j2 true h) ⟨rfl, rfl, rfl, rfl, rfl, trivial⟩ (.cons_cons _ (.slnil)) rfl
   ·have h := Am hp284 h
    refine B1 23 rfl ((nei hp284)) <| A3 3 rfl (Ac rfl) (gy 23 rfl rfl) rfl <| A3 4 rfl (Aw rfl rfl rfl) (gy 23 rfl rfl) rfl <| A3 5 rfl (Aq (b := false) rfl rfl) gn rfl <| A3 6 rfl (Ad rfl) gn rfl <| Ai 7 rfl ?_
    exact Bf [0, 1] (j2 ((bt x1 x105) == 92) h) ⟨rfl, rfl, rfl, rfl, rfl, trivial⟩ (.cons_cons _ (.slnil)) rfl
  ·have h := Am hp200 h
   refine Az rfl _ rfl ((decide_eq_false hp200)) <| Fd [.code Un] rfl rfl <| Ah rfl <| Ab rfl rfl <| A3 0 rfl (Ac rfl) gn rfl ?_
   refine Bb 1 rfl (Ec (xs := ([34] : List Int)) [.int .u8 34] Qt rfl (by kernel_rfl) rfl rfl rfl rfl fun gb286 h287 => ?_) gn
   obtain ⟨x291, hv292, h⟩ := h
   obtain ⟨hb293, h⟩ := h
   refine Bb 2 rfl (He (zs := x291) (cells' := x291.flatMap (eI .u8)) 1 Q3 rfl rfl rfl h104 (Nat.le_refl _) (Src.ownF (hl := (hlI .u8)) (h1 := (Db .u8)) 0 rfl h287) (by rw [hv292, List.flatMap_append] <;> rfl) (Dj hv292 h287.hq) hb293 rfl rfl fun A288 c289 h290 => ?_) gn
   refine A3 3 rfl (v_b2s Xbh Gi rfl (Src.ownF (hl := (hlI .u8)) (h1 := (Db .u8)) 1 rfl h290) h290.hq) gn rfl <| A3 4 rfl (Ad rfl) gn rfl <| Ai 5 rfl ?_
   have h := Out.inr hO1 h
   refine B2 [.string (Ih x291)] rfl Tryd.func101 rfl (.tmp rfl (.nil)) fun wr hLr => ?_
   have hMr := hLr.pk0 (.c 1 rfl .n)
   show P8 w F  r (.returned (B7 [.string (Ih x291)])) wr
   rw [h]
   exact ⟨rfl, hMr⟩
 exact Bf [0, 1] (key1 _ h (some ⟨gb3, 0, none⟩) 1 1 h4) ⟨rfl, rfl, rfl, trivial⟩ (.cons_cons _ (.slnil)) rfl
abbrev Wm (w : World) (F : Nat → Prop) (r : ByteArray) : Ending → World → Prop := fun e w' => e = .returned (.string r) ∧ B.Loc w w' [] [St w []]
theorem T8 (w : World) (F : Nat → Prop) (x1 : Int) (hG : Tb Tryd.prog (St w [])) (hF : ∀ b, F b → b < w.heap.size ∧ ∀ o ∈ ([] : List (List Nat)), b ∉ o) (hL0 : B.Loc w w [] [Sm w.heap.size F w [], St w []]) (r : ByteArray) (h : strconv_Itoa x1 r) : Calls Tryd.prog 99 #[.int .i64 x1] w (Wm w F  r) := by
 unfold strconv_Itoa at h
 obtain ⟨h1, rfl⟩ := h
 refine Calls.mono (Tryd.strconv_Itoa x1 h1.1 h1.2 w hG.2) ?_
 rintro e w' ⟨rfl, k, os, rfl⟩
 exact ⟨rfl, Loc.of_below (Lib.below_grow _ _ (Nat.le_refl _) _ _)⟩
abbrev I7 (w : World) (F : Nat → Prop) (r : ByteArray) : Ending → World → Prop := fun e w' => e = .returned (.string r) ∧ B.Loc w w' [] [St w []]
noncomputable abbrev Xv (w : World) (F : Nat → Prop) (r : ByteArray) : Cx := ⟨Tryd.prog, 79, Tryd.f79, 26, I7 w F  r, w⟩
theorem Ox (w : World) (F : Nat → Prop) (x1 : Af) (hG : Tb Tryd.prog (St w [])) (hF : ∀ b, F b → b < w.heap.size ∧ ∀ o ∈ ([] : List (List Nat)), b ∉ o) (hL0 : B.Loc w w [] [Sm w.heap.size F w [], St w []]) (r : ByteArray) (h : Kx x1 r) : Calls Tryd.prog 79 #[.agg #[.int .i64 x1.kind, .string x1.text, .int .i64 x1.n, .int .i64 x1.at_]] w (I7 w F  r) := by
 unfold Kx at h
 refine B6 (vs := [.agg #[.int .i64 x1.kind, .string x1.text, .int .i64 x1.n, .int .i64 x1.at_]]) 26 Tryd.func79 rfl Tryd.ntmps79 rfl hL0 ?_
 show G (Xv w F r) _ _ _ _
 refine Ah rfl <| Ab rfl rfl ?_
 refine Bb 0 rfl (K0 [.int .i64 x1.kind, .string x1.text, .int .i64 x1.n, .int .i64 x1.at_] rfl rfl rfl fun gb2 => ?_) gn
 refine A3 1 rfl (Ad rfl) gn rfl <| Ai 2 rfl <| Ah rfl <| Ah rfl <| Ab rfl rfl <| A3 0 rfl (H5 [.int .i64 x1.kind, .string x1.text, .int .i64 x1.n, .int .i64 x1.at_] 0 ld_84 rfl rfl rfl rfl) gn rfl ?_
 obtain ⟨r7, hv8, h⟩ := h
 refine Bb 1 rfl (Be [.agg #[.int .i64 x1.kind, .string x1.text, .int .i64 x1.n, .int .i64 x1.at_]] rfl Tryd.func78 rfl rfl rfl fun w4 hL5 => ?_) gn
 have hp6 := pmI hL5 .n (.c 0 rfl .n) (by kernel_rfl)
 refine Calls.mono (P6 w4 (Fl ([] : List B5)) x1 (hL5.hFl hp6 (Ay [] rfl)) (hL5.into hp6 _) r7 hv8) ?_
 rintro _ w9 ⟨rfl, hM10⟩
 have hL11 := hL5.call hp6 hM10
 refine ⟨_, _, _, rfl, hL11, ?_⟩
 refine A3 2 rfl (Jc rfl) gn rfl <| Ai 3 rfl ?_
 by_cases hp12 : r7 = true
 ·have h := Al hp12 h
  refine Az rfl _ rfl ((nf hp12)) <| B8 rfl <| Ah rfl <| Ah rfl <| Ab rfl rfl <| A3 0 rfl (Ao Lc rfl) gn rfl <| A3 1 rfl (Ak 0 R1 rfl rfl rfl) gn rfl <| Ai 2 rfl <| Bs rfl <| Ah rfl <| Ab rfl rfl <| A3 0 rfl (Aw rfl rfl rfl) gn rfl ?_
  refine A3 1 rfl (Ad rfl) gn rfl <| Ai 2 rfl ?_
  by_cases hp13 : x1.kind = 2
  ·have h := Al hp13 h
   refine B3 rfl _ rfl ((eqi hp13)) <| Ah rfl <| Ab rfl rfl <| A3 0 rfl (Ao F4 rfl) gn rfl <| A3 1 rfl (Ak 0 Dz rfl rfl rfl) gn rfl ?_
   obtain ⟨r17, hv18, h⟩ := h
   refine Bb 2 rfl (Be [.string x1.text] rfl Tryd.func101 rfl rfl rfl fun w14 hL15 => ?_) gn
   have hp16 := pmI hL15 .n (.c 0 rfl .n) (by kernel_rfl)
   refine Calls.mono (Tn w14 (Fl ([] : List B5)) x1.text (hL15.hFl hp16 (Ay [] rfl)) (hL15.into hp16 _) r17 hv18) ?_
   rintro _ w19 ⟨rfl, hM20⟩
   have hL21 := hL15.call hp16 hM20
   refine ⟨_, _, _, rfl, hL21, ?_⟩
   refine A3 3 rfl (Ad rfl) gn rfl <| Ai 4 rfl ?_
   refine B2 [.string r17] rfl Tryd.func79 rfl (.tmp rfl (.nil)) fun wr hLr => ?_
   have hMr := hLr.pk0 (.c 1 rfl .n)
   show I7 w F  r (.returned (B7 [.string r17])) wr
   rw [h]
   exact ⟨rfl, hMr⟩
  ·have h := Am hp13 h
   refine Az rfl _ rfl ((nei hp13)) <| Ah rfl <| Ab rfl rfl <| A3 0 rfl (Aw rfl rfl rfl) gn rfl <| A3 1 rfl (Ad rfl) gn rfl <| Ai 2 rfl ?_
   by_cases hp22 : x1.kind = 3
   ·have h := Al hp22 h
    refine B3 rfl _ rfl ((eqi hp22)) <| Ah rfl <| Ab rfl rfl <| A3 0 rfl (Ao F4 rfl) gn rfl <| A3 1 rfl (Ak 0 Dz rfl rfl rfl) gn rfl ?_
    obtain ⟨hb23, h⟩ := h
    refine A3 2 rfl (v_catS rfl rfl hb23) gn rfl ?_
    obtain ⟨hb24, h⟩ := h
    refine A3 3 rfl (v_catS rfl rfl hb24) gn rfl <| A3 4 rfl (Ad rfl) gn rfl <| Ai 5 rfl ?_
    refine B2 [.string (((⟨#[47]⟩ : ByteArray) ++ x1.text) ++ (⟨#[47]⟩ : ByteArray))] rfl Tryd.func79 rfl (.tmp rfl (.nil)) fun wr hLr => ?_
    have hMr := hLr.pk0 (.c 1 rfl .n)
    show I7 w F  r (.returned (B7 [.string (((⟨#[47]⟩ : ByteArray) ++ x1.text) ++ (⟨#[47]⟩ : ByteArray))])) wr
    rw [h]
    exact ⟨rfl, hMr⟩
   ·have h := Am hp22 h
    refine Az rfl _ rfl ((nei hp22)) <| Ah rfl <| Ab rfl rfl <| A3 0 rfl (Aw rfl rfl rfl) gn rfl <| A3 1 rfl (Ad rfl) gn rfl <| Ai 2 rfl ?_
    by_cases hp25 : x1.kind = 4
    ·have h := Al hp25 h
     refine B3 rfl _ rfl ((eqi hp25)) <| Ah rfl <| Ab rfl rfl <| A3 0 rfl (Ao Zy rfl) gn rfl <| A3 1 rfl (Ak 0 Dx rfl rfl rfl) gn rfl ?_
     obtain ⟨r29, hv30, h⟩ := h
     refine Bb 2 rfl (Be [.int .i64 x1.n] rfl Tryd.func99 rfl rfl rfl fun w26 hL27 => ?_) gn
     have hp28 := pmI hL27 .n (.c 0 rfl .n) (by kernel_rfl)
     refine Calls.mono (T8 w26 (Fl ([] : List B5)) x1.n (hL27.tb hp28 hG (me 1 rfl)) (hL27.hFl hp28 (Ay [] rfl)) (hL27.into hp28 _) r29 hv30) ?_
     rintro _ w31 ⟨rfl, hM32⟩
     have hL33 := hL27.call hp28 hM32
     refine ⟨_, _, _, rfl, hL33, ?_⟩
     refine A3 3 rfl (Ad rfl) gn rfl <| Ai 4 rfl ?_
     refine B2 [.string r29] rfl Tryd.func79 rfl (.tmp rfl (.nil)) fun wr hLr => ?_
     have hMr := hLr.pk0 (.c 1 rfl .n)
     show I7 w F  r (.returned (B7 [.string r29])) wr
     rw [h]
     exact ⟨rfl, hMr⟩
    ·have h := Am hp25 h
     refine Az rfl _ rfl ((nei hp25)) <| B8 rfl <| Bg <| Ah rfl <| Ab rfl rfl <| A3 0 rfl (Ao F4 rfl) gn rfl <| A3 1 rfl (Ak 0 Dz rfl rfl rfl) gn rfl <| A3 2 rfl (Ad rfl) gn rfl <| Ai 3 rfl ?_
     refine B2 [.string x1.text] rfl Tryd.func79 rfl (.tmp rfl (.nil)) fun wr hLr => ?_
     have hMr := hLr.pk0 (.c 1 rfl .n)
     show I7 w F  r (.returned (B7 [.string x1.text])) wr
     rw [h]
     exact ⟨rfl, hMr⟩
 ·have h := Am hp12 h
  refine B3 rfl _ rfl ((nt (bf hp12))) <| Ah rfl <| Ab rfl rfl <| A3 0 rfl (Ad rfl) gn rfl <| Ai 1 rfl ?_
  refine B2 [.string (⟨#[]⟩ : ByteArray)] rfl Tryd.func79 rfl (.tmp rfl (.nil)) fun wr hLr => ?_
  have hMr := hLr.pk0 (.c 1 rfl .n)
  show I7 w F  r (.returned (B7 [.string (⟨#[]⟩ : ByteArray)])) wr
  rw [h]
  exact ⟨rfl, hMr⟩
abbrev N6 (w : World) (F : Nat → Prop) (r : Bool) : Ending → World → Prop := fun e w' => e = .returned (.bool r) ∧ B.Loc w w' [] [St w []]
noncomputable abbrev Zm (w : World) (F : Nat → Prop) (r : Bool) : Cx := ⟨Tryd.prog, 77, Tryd.f77, 11, N6 w F  r, w⟩
theorem Jz (w : World) (F : Nat → Prop) (x1 : ByteArray) (hG : Tb Tryd.prog (St w [])) (hF : ∀ b, F b → b < w.heap.size ∧ ∀ o ∈ ([] : List (List Nat)), b ∉ o) (hL0 : B.Loc w w [] [Sm w.heap.size F w [], St w []]) (r : Bool) (h : Iw x1 r) : Calls Tryd.prog 77 #[.string x1] w (N6 w F  r) := by
 unfold Iw at h
 refine B6 (vs := [.string x1]) 11 Tryd.func77 rfl Tryd.ntmps77 rfl hL0 ?_
 show G (Zm w F r) _ _ _ _
 refine Ah rfl <| Ab rfl rfl <| A3 0 rfl (Ad rfl) gn rfl <| Ai 1 rfl <| Ah rfl <| Ab rfl rfl <| A3 0 rfl (Ac rfl) gn rfl <| A3 1 rfl (Kc rfl rfl) gn rfl <| A3 2 rfl (Ac rfl) gn rfl ?_
 by_cases hp2 : x1 = (⟨#[95]⟩ : ByteArray)
 ·have h := Al hp2 h
  refine B1 5 rfl ((nf (Ip hp2))) <| Aa 3 rfl (ps 5 rfl rfl rfl) <| Aa 4 rfl (ps 5 rfl rfl rfl) <| Aa 5 rfl (ps 5 rfl rfl rfl) <| Aa 6 rfl (ps 5 rfl rfl rfl) <| A3 7 rfl (Aq (b := false) rfl rfl) gn rfl <| A3 8 rfl (Ad rfl) gn rfl <| Ai 9 rfl ?_
  refine B2 [.bool false] rfl Tryd.func77 rfl (.tmp rfl (.nil)) fun wr hLr => ?_
  have hMr := hLr.pk0 (.c 1 rfl .n)
  show N6 w F  r (.returned (B7 [.bool false])) wr
  rw [h]
  exact ⟨rfl, hMr⟩
 ·have h := Am hp2 h
  refine B1 5 rfl ((nt (Jb hp2))) <| A3 3 rfl (Ac rfl) (gy 5 rfl rfl) rfl <| A3 4 rfl (F0 #[.int .i64 1, .string x1, .int .i64 0, .int .i64 0] Wg rfl (by kernel_rfl)) (gy 5 rfl rfl) rfl ?_
  obtain ⟨r6, hv7, h⟩ := h
  refine Bb 5 rfl (Be [.agg #[.int .i64 1, .string x1, .int .i64 0, .int .i64 0]] rfl Tryd.func79 rfl rfl rfl fun w3 hL4 => ?_) (gy 5 rfl rfl)
  have hp5 := pmI hL4 .n .n (by kernel_rfl)
  refine Calls.mono (Ox w3 (Fl ([] : List B5)) (⟨1, x1, 0, 0⟩ : Af) (hL4.tb hp5 hG (me 1 rfl)) (hL4.hFl hp5 (Ay [] rfl)) (hL4.into hp5 _) r6 hv7) ?_
  rintro _ w8 ⟨rfl, hM9⟩
  have hL10 := hL4.call hp5 hM9
  refine ⟨_, _, _, rfl, hL10, ?_⟩
  refine A3 6 rfl (Kc rfl rfl) (gy 5 rfl rfl) rfl <| A3 7 rfl (Aq (b := true) rfl rfl) gn rfl <| A3 8 rfl (Ad rfl) gn rfl <| Ai 9 rfl ?_
  refine B2 [.bool (!(seq r6 (⟨#[]⟩ : ByteArray)))] rfl Tryd.func77 rfl (.tmp rfl (.nil)) fun wr hLr => ?_
  have hMr := hLr.pk0 (.c 1 rfl .n)
  show N6 w F  r (.returned (B7 [.bool (!(seq r6 (⟨#[]⟩ : ByteArray)))])) wr
  rw [h]
  exact ⟨rfl, hMr⟩
noncomputable abbrev q55c4 := Code.snd (Code.snd (Bt Tryd.f55))
noncomputable abbrev q55c6 := Code.snd (Code.fst (Code.snd (Bt Tryd.f55)))
abbrev Gv (w : World) (F : Nat → Prop) (r : Bool) : Ending → World → Prop := fun e w' => e = .returned (.bool r) ∧ B.Loc w w' [] [St w []]
noncomputable abbrev Sa (w : World) (F : Nat → Prop) (r : Bool) : Cx := ⟨Tryd.prog, 55, Tryd.f55, 49, Gv w F  r, w⟩
theorem Ty (w : World) (F : Nat → Prop) (x1 : Ae) (hG : Tb Tryd.prog (St w [])) (hF : ∀ b, F b → b < w.heap.size ∧ ∀ o ∈ ([] : List (List Nat)), b ∉ o) (hL0 : B.Loc w w [] [Sm w.heap.size F w [], St w []]) (r : Bool) (h : Mr x1 r) : Calls Tryd.prog 55 #[.agg #[.string x1.name, .bool x1.lit, .string x1.field, .string x1.capture, .int .i64 x1.kids]] w (Gv w F  r) := by
 unfold Mr at h
 refine B6 (vs := [.agg #[.string x1.name, .bool x1.lit, .string x1.field, .string x1.capture, .int .i64 x1.kids]]) 49 Tryd.func55 rfl Tryd.ntmps55 rfl hL0 ?_
 show G (Sa w F r) _ _ _ _
 refine Ah rfl <| Ab rfl rfl ?_
 refine Bb 0 rfl (K0 [.string x1.name, .bool x1.lit, .string x1.field, .string x1.capture, .int .i64 x1.kids] rfl rfl rfl fun gb2 => ?_) gn
 refine A3 1 rfl (Ad rfl) gn rfl <| Ai 2 rfl <| Ah rfl <| Ah rfl ?_
 have j1 : ∀ (x17 : Bool) (h : Fb x1 x17 r) , G (Sa w F r) [.code q55c6, .code q55c4] [(1, .pointer (some ⟨gb2, 0, none⟩)), (30, .bool x17)] [.box gb2 45 [.string x1.name, .bool x1.lit, .string x1.field, .string x1.capture, .int .i64 x1.kids]] [Sm w.heap.size F w [], St w []] := by
  intro x17 h
  unfold Fb at h
  by_cases hp18 : x17 = true
  ·have h := Al hp18 h
   refine B3 rfl _ rfl (hp18) <| Ah rfl <| Ab rfl rfl <| A3 0 rfl (Ad rfl) gn rfl <| Ai 1 rfl ?_
   refine B2 [.bool false] rfl Tryd.func55 rfl (.tmp rfl (.nil)) fun wr hLr => ?_
   have hMr := hLr.pk0 (.c 1 rfl .n)
   show Gv w F  r (.returned (B7 [.bool false])) wr
   rw [h]
   exact ⟨rfl, hMr⟩
  ·have h := Am hp18 h
   refine Az rfl _ rfl ((bf hp18)) <| B8 rfl <| Ah rfl <| Ab rfl rfl <| A3 0 rfl (Ao Lg rfl) gn rfl <| A3 1 rfl (Ak 0 Dz rfl rfl rfl) gn rfl <| A3 2 rfl (O4 rfl rfl) gn rfl <| A3 3 rfl (Ac rfl) gn rfl ?_
   by_cases hp19 : x1.field = (⟨#[]⟩ : ByteArray)
   ·have h := Al hp19 h
    refine B1 34 rfl ((Ip hp19)) <| Aa 4 rfl (ps 34 rfl rfl rfl) <| Aa 5 rfl (ps 34 rfl rfl rfl) <| Aa 6 rfl (ps 34 rfl rfl rfl) <| A3 7 rfl (Aq (b := true) rfl rfl) gn rfl <| A3 8 rfl (Ac rfl) gn rfl <| A3 9 rfl (Ao Lo rfl) (gy 39 rfl rfl) rfl <| A3 10 rfl (Ak 0 Dz rfl rfl rfl) (gy 39 rfl rfl) rfl <| A3 11 rfl (O4 rfl rfl) (gy 39 rfl rfl) rfl <| A3 12 rfl (Ac rfl) (gy 39 rfl rfl) rfl ?_
    by_cases hp20 : x1.capture = (⟨#[]⟩ : ByteArray)
    ·have h := Al hp20 h
     refine B1 43 rfl ((Ip hp20)) <| Aa 13 rfl (ps 43 rfl rfl rfl) <| Aa 14 rfl (ps 43 rfl rfl rfl) <| Aa 15 rfl (ps 43 rfl rfl rfl) <| A3 16 rfl (Aq (b := true) rfl rfl) (gy 39 rfl rfl) rfl <| A3 17 rfl (Aq (b := true) rfl rfl) gn rfl <| A3 18 rfl (Ad rfl) gn rfl <| Ai 19 rfl ?_
     refine B2 [.bool true] rfl Tryd.func55 rfl (.tmp rfl (.nil)) fun wr hLr => ?_
     have hMr := hLr.pk0 (.c 1 rfl .n)
     show Gv w F  r (.returned (B7 [.bool true])) wr
     rw [h]
     exact ⟨rfl, hMr⟩
    ·have h := Am hp20 h
     refine B1 43 rfl ((Jb hp20)) <| A3 13 rfl (Ao Lo rfl) (gy 43 rfl rfl) rfl <| A3 14 rfl (Ak 0 Dz rfl rfl rfl) (gy 43 rfl rfl) rfl ?_
     obtain ⟨r24, hv25, h⟩ := h
     refine Bb 15 rfl (Be [.string x1.capture] rfl Tryd.func77 rfl rfl rfl fun w21 hL22 => ?_) (gy 43 rfl rfl)
     have hp23 := pmI hL22 .n (.c 0 rfl .n) (by kernel_rfl)
     refine Calls.mono (Jz w21 (Fl ([] : List B5)) x1.capture (hL22.tb hp23 hG (me 1 rfl)) (hL22.hFl hp23 (Ay [] rfl)) (hL22.into hp23 _) r24 hv25) ?_
     rintro _ w26 ⟨rfl, hM27⟩
     have hL28 := hL22.call hp23 hM27
     refine ⟨_, _, _, rfl, hL28, ?_⟩
     refine A3 16 rfl (Aq (b := false) rfl rfl) (gy 39 rfl rfl) rfl <| A3 17 rfl (Aq (b := true) rfl rfl) gn rfl <| A3 18 rfl (Ad rfl) gn rfl <| Ai 19 rfl ?_
     refine B2 [.bool r24] rfl Tryd.func55 rfl (.tmp rfl (.nil)) fun wr hLr => ?_
     have hMr := hLr.pk0 (.c 1 rfl .n)
     show Gv w F  r (.returned (B7 [.bool r24])) wr
     rw [h]
     exact ⟨rfl, hMr⟩
   ·have h := Am hp19 h
    refine B1 34 rfl ((Jb hp19)) <| A3 4 rfl (Ao Lg rfl) (gy 34 rfl rfl) rfl <| A3 5 rfl (Ak 0 Dz rfl rfl rfl) (gy 34 rfl rfl) rfl ?_
    obtain ⟨r32, hv33, h⟩ := h
    refine Bb 6 rfl (Be [.string x1.field] rfl Tryd.func77 rfl rfl rfl fun w29 hL30 => ?_) (gy 34 rfl rfl)
    have hp31 := pmI hL30 .n (.c 0 rfl .n) (by kernel_rfl)
    refine Calls.mono (Jz w29 (Fl ([] : List B5)) x1.field (hL30.tb hp31 hG (me 1 rfl)) (hL30.hFl hp31 (Ay [] rfl)) (hL30.into hp31 _) r32 hv33) ?_
    rintro _ w34 ⟨rfl, hM35⟩
    have hL36 := hL30.call hp31 hM35
    refine ⟨_, _, _, rfl, hL36, ?_⟩
    refine A3 7 rfl (Aq (b := false) rfl rfl) gn rfl <| A3 8 rfl (Ac rfl) gn rfl ?_
    by_cases hp37 : r32 = true
    ·have h := Al hp37 h
     refine B1 39 rfl (hp37) <| A3 9 rfl (Ao Lo rfl) (gy 39 rfl rfl) rfl <| A3 10 rfl (Ak 0 Dz rfl rfl rfl) (gy 39 rfl rfl) rfl <| A3 11 rfl (O4 rfl rfl) (gy 39 rfl rfl) rfl <| A3 12 rfl (Ac rfl) (gy 39 rfl rfl) rfl ?_
     by_cases hp38 : x1.capture = (⟨#[]⟩ : ByteArray)
     ·have h := Al hp38 h
      refine B1 43 rfl ((Ip hp38)) <| Aa 13 rfl (ps 43 rfl rfl rfl) <| Aa 14 rfl (ps 43 rfl rfl rfl) <| Aa 15 rfl (ps 43 rfl rfl rfl) <| A3 16 rfl (Aq (b := true) rfl rfl) (gy 39 rfl rfl) rfl <| A3 17 rfl (Aq (b := true) rfl rfl) gn rfl <| A3 18 rfl (Ad rfl) gn rfl <| Ai 19 rfl ?_
      refine B2 [.bool true] rfl Tryd.func55 rfl (.tmp rfl (.nil)) fun wr hLr => ?_
      have hMr := hLr.pk0 (.c 1 rfl .n)
      show Gv w F  r (.returned (B7 [.bool true])) wr
      rw [h]
      exact ⟨rfl, hMr⟩
     ·have h := Am hp38 h
      refine B1 43 rfl ((Jb hp38)) <| A3 13 rfl (Ao Lo rfl) (gy 43 rfl rfl) rfl <| A3 14 rfl (Ak 0 Dz rfl rfl rfl) (gy 43 rfl rfl) rfl ?_
      obtain ⟨r42, hv43, h⟩ := h
      refine Bb 15 rfl (Be [.string x1.capture] rfl Tryd.func77 rfl rfl rfl fun w39 hL40 => ?_) (gy 43 rfl rfl)
      have hp41 := pmI hL40 .n (.c 0 rfl .n) (by kernel_rfl)
      refine Calls.mono (Jz w39 (Fl ([] : List B5)) x1.capture (hL40.tb hp41 hG (me 1 rfl)) (hL40.hFl hp41 (Ay [] rfl)) (hL40.into hp41 _) r42 hv43) ?_
      rintro _ w44 ⟨rfl, hM45⟩
      have hL46 := hL40.call hp41 hM45
      refine ⟨_, _, _, rfl, hL46, ?_⟩
      refine A3 16 rfl (Aq (b := false) rfl rfl) (gy 39 rfl rfl) rfl <| A3 17 rfl (Aq (b := true) rfl rfl) gn rfl <| A3 18 rfl (Ad rfl) gn rfl <| Ai 19 rfl ?_
      refine B2 [.bool r42] rfl Tryd.func55 rfl (.tmp rfl (.nil)) fun wr hLr => ?_
      have hMr := hLr.pk0 (.c 1 rfl .n)
      show Gv w F  r (.returned (B7 [.bool r42])) wr
      rw [h]
      exact ⟨rfl, hMr⟩
    ·have h := Am hp37 h
     refine B1 39 rfl ((bf hp37)) <| Aa 9 rfl (ps 39 rfl rfl rfl) <| Aa 10 rfl (ps 39 rfl rfl rfl) <| Aa 11 rfl (ps 39 rfl rfl rfl) <| Aa 12 rfl (ps 39 rfl rfl rfl) <| Aa 13 rfl (pu 43 rfl rfl) <| Aa 14 rfl (pu 43 rfl rfl) <| Aa 15 rfl (pu 43 rfl rfl) <| Aa 16 rfl (ps 39 rfl rfl rfl) <| A3 17 rfl (Aq (b := false) rfl rfl) gn rfl <| A3 18 rfl (Ad rfl) gn rfl <| Ai 19 rfl ?_
     refine B2 [.bool false] rfl Tryd.func55 rfl (.tmp rfl (.nil)) fun wr hLr => ?_
     have hMr := hLr.pk0 (.c 1 rfl .n)
     show Gv w F  r (.returned (B7 [.bool false])) wr
     rw [h]
     exact ⟨rfl, hMr⟩
 refine Ab rfl rfl <| A3 0 rfl (Ao Oh rfl) gn rfl <| A3 1 rfl (Ak 0 Tf rfl rfl rfl) gn rfl <| A3 2 rfl (Ac rfl) gn rfl ?_
 by_cases hp47 : x1.lit = true
 ·have h := Al hp47 h
  refine B1 5 rfl (hp47) <| A3 3 rfl (Ao Le rfl) (gy 5 rfl rfl) rfl <| A3 4 rfl (Ak 0 Dz rfl rfl rfl) (gy 5 rfl rfl) rfl <| A3 5 rfl (O4 rfl rfl) (gy 5 rfl rfl) rfl <| A3 6 rfl (Ac rfl) (gy 5 rfl rfl) rfl ?_
  by_cases hp48 : x1.name = (⟨#[]⟩ : ByteArray)
  ·have h := Al hp48 h
   refine B1 9 rfl ((Ip hp48)) <| Aa 7 rfl (ps 9 rfl rfl rfl) <| Aa 8 rfl (ps 9 rfl rfl rfl) <| Aa 9 rfl (ps 9 rfl rfl rfl) <| A3 10 rfl (Aq (b := true) rfl rfl) (gy 5 rfl rfl) rfl <| A3 11 rfl (Aq (b := true) rfl rfl) gn rfl <| A3 12 rfl (Ac rfl) gn rfl <| Aa 13 rfl (ps 15 rfl rfl rfl) <| Aa 14 rfl (ps 15 rfl rfl rfl) <| Aa 15 rfl (ps 15 rfl rfl rfl) <| Aa 16 rfl (ps 15 rfl rfl rfl) <| Aa 17 rfl (pu 19 rfl rfl) ?_
   refine Aa 18 rfl (pu 19 rfl rfl) <| Aa 19 rfl (pu 19 rfl rfl) <| Aa 20 rfl (ps 15 rfl rfl rfl) <| Aa 21 rfl (ps 15 rfl rfl rfl) <| Aa 22 rfl (pu 24 rfl rfl) <| Aa 23 rfl (pu 24 rfl rfl) <| Aa 24 rfl (pu 24 rfl rfl) <| Aa 25 rfl (pu 24 rfl rfl) <| Aa 26 rfl (ps 15 rfl rfl rfl) <| A3 27 rfl (Aq (b := true) rfl rfl) gn rfl <| Ai 28 rfl ?_
   exact Bf [0, 1] (j1 true h) ⟨rfl, rfl, trivial⟩ (.cons_cons _ (.slnil)) rfl
  ·have h := Am hp48 h
   refine B1 9 rfl ((Jb hp48)) <| A3 7 rfl (Ao Na rfl) (gy 9 rfl rfl) rfl <| A3 8 rfl (Ak 0 Dx rfl rfl rfl) (gy 9 rfl rfl) rfl <| A3 9 rfl (Aw rfl rfl rfl) (gy 9 rfl rfl) rfl <| A3 10 rfl (Aq (b := false) rfl rfl) (gy 5 rfl rfl) rfl <| A3 11 rfl (Aq (b := true) rfl rfl) gn rfl <| A3 12 rfl (Ac rfl) gn rfl ?_
   by_cases hp49 : x1.kids = 0
   ·have h := Al hp49 h
    refine B1 15 rfl ((T7 hp49)) <| A3 13 rfl (Ao Oh rfl) (gy 15 rfl rfl) rfl <| A3 14 rfl (Ak 0 Tf rfl rfl rfl) (gy 15 rfl rfl) rfl <| A3 15 rfl (Jc rfl) (gy 15 rfl rfl) rfl <| A3 16 rfl (Ac rfl) (gy 15 rfl rfl) rfl <| B1 19 rfl ((nf hp47)) <| Aa 17 rfl (ps 19 rfl rfl rfl) <| Aa 18 rfl (ps 19 rfl rfl rfl) <| Aa 19 rfl (ps 19 rfl rfl rfl) <| A3 20 rfl (Aq (b := false) rfl rfl) (gy 15 rfl rfl) rfl <| A3 21 rfl (Ac rfl) (gy 15 rfl rfl) rfl <| Aa 22 rfl (ps 24 rfl rfl rfl) ?_
    refine Aa 23 rfl (ps 24 rfl rfl rfl) <| Aa 24 rfl (ps 24 rfl rfl rfl) <| Aa 25 rfl (ps 24 rfl rfl rfl) <| A3 26 rfl (Aq (b := false) rfl rfl) (gy 15 rfl rfl) rfl <| A3 27 rfl (Aq (b := false) rfl rfl) gn rfl <| Ai 28 rfl ?_
    exact Bf [0, 1] (j1 false h) ⟨rfl, rfl, trivial⟩ (.cons_cons _ (.slnil)) rfl
   ·have h := Am hp49 h
    refine B1 15 rfl ((Td hp49)) <| Aa 13 rfl (ps 15 rfl rfl rfl) <| Aa 14 rfl (ps 15 rfl rfl rfl) <| Aa 15 rfl (ps 15 rfl rfl rfl) <| Aa 16 rfl (ps 15 rfl rfl rfl) <| Aa 17 rfl (pu 19 rfl rfl) <| Aa 18 rfl (pu 19 rfl rfl) <| Aa 19 rfl (pu 19 rfl rfl) <| Aa 20 rfl (ps 15 rfl rfl rfl) <| Aa 21 rfl (ps 15 rfl rfl rfl) <| Aa 22 rfl (pu 24 rfl rfl) <| Aa 23 rfl (pu 24 rfl rfl) ?_
    refine Aa 24 rfl (pu 24 rfl rfl) <| Aa 25 rfl (pu 24 rfl rfl) <| Aa 26 rfl (ps 15 rfl rfl rfl) <| A3 27 rfl (Aq (b := true) rfl rfl) gn rfl <| Ai 28 rfl ?_
    exact Bf [0, 1] (j1 true h) ⟨rfl, rfl, trivial⟩ (.cons_cons _ (.slnil)) rfl
 ·have h := Am hp47 h
  refine B1 5 rfl ((bf hp47)) <| Aa 3 rfl (ps 5 rfl rfl rfl) <| Aa 4 rfl (ps 5 rfl rfl rfl) <| Aa 5 rfl (ps 5 rfl rfl rfl) <| Aa 6 rfl (ps 5 rfl rfl rfl) <| Aa 7 rfl (pu 9 rfl rfl) <| Aa 8 rfl (pu 9 rfl rfl) <| Aa 9 rfl (pu 9 rfl rfl) <| Aa 10 rfl (ps 5 rfl rfl rfl) <| A3 11 rfl (Aq (b := false) rfl rfl) gn rfl <| A3 12 rfl (Ac rfl) gn rfl <| A3 13 rfl (Ao Oh rfl) (gy 15 rfl rfl) rfl ?_
  refine A3 14 rfl (Ak 0 Tf rfl rfl rfl) (gy 15 rfl rfl) rfl <| A3 15 rfl (Jc rfl) (gy 15 rfl rfl) rfl <| A3 16 rfl (Ac rfl) (gy 15 rfl rfl) rfl <| B1 19 rfl ((nt (bf hp47))) <| A3 17 rfl (Ao Le rfl) (gy 19 rfl rfl) rfl <| A3 18 rfl (Ak 0 Dz rfl rfl rfl) (gy 19 rfl rfl) rfl <| A3 19 rfl (Kc rfl rfl) (gy 19 rfl rfl) rfl <| A3 20 rfl (Aq (b := true) rfl rfl) (gy 15 rfl rfl) rfl <| A3 21 rfl (Ac rfl) (gy 15 rfl rfl) rfl ?_
  by_cases hp50 : x1.name = (⟨#[]⟩ : ByteArray)
  ·have h := Al hp50 h
   refine B1 24 rfl ((nf (Ip hp50))) <| Aa 22 rfl (ps 24 rfl rfl rfl) <| Aa 23 rfl (ps 24 rfl rfl rfl) <| Aa 24 rfl (ps 24 rfl rfl rfl) <| Aa 25 rfl (ps 24 rfl rfl rfl) <| A3 26 rfl (Aq (b := false) rfl rfl) (gy 15 rfl rfl) rfl <| A3 27 rfl (Aq (b := false) rfl rfl) gn rfl <| Ai 28 rfl ?_
   exact Bf [0, 1] (j1 false h) ⟨rfl, rfl, trivial⟩ (.cons_cons _ (.slnil)) rfl
  ·have h := Am hp50 h
   refine B1 24 rfl ((nt (Jb hp50))) <| A3 22 rfl (Ao Le rfl) (gy 24 rfl rfl) rfl <| A3 23 rfl (Ak 0 Dz rfl rfl rfl) (gy 24 rfl rfl) rfl ?_
   obtain ⟨r54, hv55, h⟩ := h
   refine Bb 24 rfl (Be [.string x1.name] rfl Tryd.func77 rfl rfl rfl fun w51 hL52 => ?_) (gy 24 rfl rfl)
   have hp53 := pmI hL52 .n (.c 0 rfl .n) (by kernel_rfl)
   refine Calls.mono (Jz w51 (Fl ([] : List B5)) x1.name (hL52.tb hp53 hG (me 1 rfl)) (hL52.hFl hp53 (Ay [] rfl)) (hL52.into hp53 _) r54 hv55) ?_
   rintro _ w56 ⟨rfl, hM57⟩
   have hL58 := hL52.call hp53 hM57
   refine ⟨_, _, _, rfl, hL58, ?_⟩
   refine A3 25 rfl (Jc rfl) (gy 24 rfl rfl) rfl <| A3 26 rfl (Aq (b := true) rfl rfl) (gy 15 rfl rfl) rfl <| A3 27 rfl (Aq (b := false) rfl rfl) gn rfl <| Ai 28 rfl ?_
   exact Bf [0, 1] (j1 (!r54) h) ⟨rfl, rfl, trivial⟩ (.cons_cons _ (.slnil)) rfl
abbrev Kn (w : World) (F : Nat → Prop) (g3 : Nat) (Tb4 : Nat) (r : Bool × ByteArray) : Ending → World → Prop := fun e w' => e = .returned (.bool r.1) ∧ B.Loc w w' [.box g3 Tb4 [.string r.2]] [St w [[g3]]]
noncomputable abbrev Tg (w : World) (F : Nat → Prop) (g3 : Nat) (Tb4 : Nat) (r : Bool × ByteArray) : Cx := ⟨Tryd.prog, 73, Tryd.f73, 8, Kn w F g3 Tb4 r, w⟩
theorem Q8 (w : World) (F : Nat → Prop) (x1 : Ae) (x2 : ByteArray) (g3 : Nat) (Tb4 : Nat) (hF : ∀ b, F b → b < w.heap.size ∧ ∀ o ∈ ([[g3]] : List (List Nat)), b ∉ o) (hL0 : B.Loc w w [.box g3 Tb4 [.string x2]] [Sm w.heap.size F w [[g3]], St w [[g3]]]) (r : Bool × ByteArray) (h : M8 x1 x2 r) : Calls Tryd.prog 73 #[.agg #[.string x1.name, .bool x1.lit, .string x1.field, .string x1.capture, .int .i64 x1.kids], .pointer (some ⟨g3, 0, none⟩)] w (Kn w F g3 Tb4 r) := by
 unfold M8 at h
 refine B6 (vs := [.agg #[.string x1.name, .bool x1.lit, .string x1.field, .string x1.capture, .int .i64 x1.kids], .pointer (some ⟨g3, 0, none⟩)]) 8 Tryd.func73 rfl Tryd.ntmps73 rfl hL0 ?_
 show G (Tg w F g3 Tb4 r) _ _ _ _
 refine Ah rfl <| Ab rfl rfl ?_
 refine Bb 0 rfl (K0 [.string x1.name, .bool x1.lit, .string x1.field, .string x1.capture, .int .i64 x1.kids] rfl rfl rfl fun gb5 => ?_) gn
 refine A3 1 rfl (Ad rfl) gn rfl <| Ai 2 rfl <| Ah rfl <| Ab rfl rfl <| A3 0 rfl (Ao Lo rfl) gn rfl <| A3 1 rfl (Ak 0 Dz rfl rfl rfl) gn rfl <| A3 2 rfl (Ak 1 Dz rfl rfl rfl) gn rfl <| A3 3 rfl (O4 rfl rfl) gn rfl <| A3 4 rfl (Ad rfl) gn rfl <| Ai 5 rfl ?_
 refine B2 [.bool (seq x1.capture x2)] rfl Tryd.func73 rfl (.tmp rfl (.nil)) fun wr hLr => ?_
 have hMr := hLr.pkI (.c 1 rfl .n) (.c 0 rfl .n) (by kernel_rfl) (.c 1 rfl .n)
 show Kn w F g3 Tb4 r (.returned (B7 [.bool (seq x1.capture x2)])) wr
 rw [h]
 exact ⟨rfl, hMr⟩
noncomputable abbrev q72c4 := Code.snd (Code.snd (Bt Tryd.f72))
noncomputable abbrev Y3 := Code.fst (Code.fst (Code.snd (Code.fst (Code.snd (Bt Tryd.f72)))))
abbrev Cl (w : World) (F : Nat → Prop) (g7 : Nat) (Tb8 : Nat) (r : Int × ByteArray) : Ending → World → Prop := fun e w' => e = .returned (.int .i64 r.1) ∧ B.Loc w w' [.box g7 Tb8 [.string r.2]] [St w [[g7]]]
noncomputable abbrev Ck (w : World) (F : Nat → Prop) (g7 : Nat) (Tb8 : Nat) (r : Int × ByteArray) : Cx := ⟨Tryd.prog, 72, Tryd.f72, 19, Cl w F g7 Tb8 r, w⟩
theorem I5 (w : World) (F : Nat → Prop) (x1 : List Ae) (x6 : ByteArray) (A2 : Option Addr) (n3 : Nat) (c4 : Nat) (g7 : Nat) (Tb8 : Nat) (h5 : Rw Bl w (St w [[g7]]).av A2 n3 c4 x1) (hF : ∀ b, F b → b < w.heap.size ∧ ∀ o ∈ ([[g7]] : List (List Nat)), b ∉ o) (hL0 : B.Loc w w [.box g7 Tb8 [.string x6]] [Sm w.heap.size F w [[g7]], St w [[g7]]]) (r : Int × ByteArray) (h : Cp x1 x6 r) : Calls Tryd.prog 72 #[.slice A2 n3 c4, .func (.func 73) #[] #[.pointer (some ⟨g7, 0, none⟩)]] w (Cl w F g7 Tb8 r) := by
 unfold Cp at h
 refine B6 (vs := [.slice A2 n3 c4, .func (.func 73) #[] #[.pointer (some ⟨g7, 0, none⟩)]]) 19 Tryd.func72 rfl Tryd.ntmps72 rfl hL0 ?_
 show G (Ck w F g7 Tb8 r) _ _ _ _
 refine Ah rfl <| Ab rfl rfl <| A3 0 rfl (Ad rfl) gn rfl <| Ai 1 rfl <| Ah rfl <| Ah rfl <| Ab rfl rfl <| A3 0 rfl (Ac rfl) gn rfl <| A3 1 rfl (Br Oi rfl h5.hq) gn rfl <| A3 2 rfl (Ac rfl) gn rfl <| Ai 3 rfl <| Bs rfl ?_
 refine H3 rfl ?_
 have key1 : ∀ s, B0 (fun (s : Int × ByteArray) o => Bj x1 s.1 s.2 o) s r → (fun (s : Int × ByteArray) => ∀ (_ : Unit), G (Ck w F g7 Tb8 r) [.code Y3, .inLoop Y3, .inBlock 0, .code q72c4] [(0, .slice A2 n3 c4), (1, .func (.func 73) #[] #[.pointer (some ⟨g7, 0, none⟩)]), (7, .int .i64 (x1.length : Int)), (8, .int .i64 s.1)] [.box g7 Tb8 [.string s.2]] [Sm w.heap.size F w [[g7]], St w [[g7]]]) s := by
  intro s hs
  refine B0.ind (mot := (fun (s : Int × ByteArray) => ∀ (_ : Unit), G (Ck w F g7 Tb8 r) [.code Y3, .inLoop Y3, .inBlock 0, .code q72c4] [(0, .slice A2 n3 c4), (1, .func (.func 73) #[] #[.pointer (some ⟨g7, 0, none⟩)]), (7, .int .i64 (x1.length : Int)), (8, .int .i64 s.1)] [.box g7 Tb8 [.string s.2]] [Sm w.heap.size F w [[g7]], St w [[g7]]])) ?_ hs
  clear hs s
  intro s o1 h hO1
  obtain ⟨x22, x23⟩ := s
  show ∀ (_ : Unit), G (Ck w F g7 Tb8 r) [.code Y3, .inLoop Y3, .inBlock 0, .code q72c4] [(0, .slice A2 n3 c4), (1, .func (.func 73) #[] #[.pointer (some ⟨g7, 0, none⟩)]), (7, .int .i64 (x1.length : Int)), (8, .int .i64 x22)] [.box g7 Tb8 [.string x23]] [Sm w.heap.size F w [[g7]], St w [[g7]]]
  intro _
  have h : Bj x1 x22 x23 o1 := h
  unfold Bj at h
  refine Ah rfl <| Ab rfl rfl <| A3 0 rfl (Aw rfl rfl rfl) gn rfl <| Ai 1 rfl <| Ah rfl ?_
  by_cases hp36 : x22 < (x1.length : Int)
  ·have h := Al hp36 h
   refine B3 rfl _ rfl ((decide_eq_true hp36)) <| B8 rfl <| Ah rfl <| Bs rfl <| Ah rfl <| Ab rfl rfl <| A3 0 rfl (Ac rfl) gn rfl <| A3 1 rfl (Ad rfl) gn rfl <| Ai 2 rfl <| Ah rfl <| Ab rfl rfl <| A3 0 rfl (Ac rfl) gn rfl ?_
   refine A3 1 rfl (Ac rfl) gn rfl <| A3 2 rfl (Ac rfl) gn rfl ?_
   obtain ⟨hb37, h⟩ := h
   have hr38 := Rw.readF (s := St w [[g7]]) (hl := Co) (h1 := Dl) h5 hb37
   refine A3 3 rfl (Dc (s := St w [[g7]]) M4 rfl rfl h5 hb37) gn rfl <| A3 4 rfl (O5 (St w [[g7]]) S9 rfl hr38 rfl (me 1 rfl)) gn rfl ?_
   obtain ⟨r42, hv43, h⟩ := h
   refine Bb 5 rfl (Ee [.agg #[.string ((ix x1 x22).name), .bool ((ix x1 x22).lit), .string ((ix x1 x22).field), .string ((ix x1 x22).capture), .int .i64 ((ix x1 x22).kids)]] [.pointer (some ⟨g7, 0, none⟩)] rfl rfl Tryd.func73 rfl rfl rfl fun w39 hL40 => ?_) gn
   have hp41 := pmI hL40 (.c 0 rfl .n) .n (by kernel_rfl)
   refine Calls.mono (Q8 w39 (Fl ([] : List B5)) (ix x1 x22) x23 g7 Tb8 (hL40.hFl hp41 (Ay [] rfl)) (hL40.into hp41 _) r42 hv43) ?_
   rintro _ w44 ⟨rfl, hM45⟩
   have hL46 := hL40.call hp41 hM45
   refine ⟨_, _, _, rfl, hL46, ?_⟩
   refine Ai 6 rfl ?_
   by_cases hp47 : r42.1 = true
   ·have h := Al hp47 h
    refine B3 rfl _ rfl (hp47) <| Ah rfl <| Ab rfl rfl <| A3 0 rfl (Ac rfl) gn rfl <| A3 1 rfl (Ad rfl) gn rfl <| Ai 2 rfl ?_
    have h := Out.inr hO1 h
    refine B2 [.int .i64 x22] rfl Tryd.func72 rfl (.tmp rfl (.nil)) fun wr hLr => ?_
    have hMr := hLr.pkI (.c 0 rfl .n) .n (by kernel_rfl) (.c 1 rfl .n)
    show Cl w F g7 Tb8 r (.returned (B7 [.int .i64 x22])) wr
    rw [h]
    exact ⟨rfl, hMr⟩
   ·have h := Am hp47 h
    refine Az rfl _ rfl ((bf hp47)) <| B8 rfl <| Bg <| Ab rfl rfl <| A3 0 rfl (Aw rfl rfl rfl) gn rfl <| A3 1 rfl (Ac rfl) gn rfl <| Ai 2 rfl <| Cb ?_
    have ih := Out.inl hO1 h
    exact Bf [0, 1] (ih ()) ⟨rfl, rfl, rfl, rfl, trivial⟩ (.cons_cons _ (.slnil)) rfl
  ·have h := Am hp36 h
   refine Az rfl _ rfl ((decide_eq_false hp36)) <| Fd [.code q72c4] rfl rfl <| Ah rfl <| Ab rfl rfl <| A3 0 rfl (Ad rfl) gn rfl <| Ai 1 rfl ?_
   have h := Out.inr hO1 h
   refine B2 [.int .i64 (-1)] rfl Tryd.func72 rfl (.tmp rfl (.nil)) fun wr hLr => ?_
   have hMr := hLr.pkI (.c 0 rfl .n) .n (by kernel_rfl) (.c 1 rfl .n)
   show Cl w F g7 Tb8 r (.returned (B7 [.int .i64 (-1)])) wr
   rw [h]
   exact ⟨rfl, hMr⟩
 exact Bf [0, 1] (key1 _ h ()) ⟨rfl, rfl, rfl, rfl, trivial⟩ (.cons_cons _ (.slnil)) rfl
abbrev Jr (w : World) (F : Nat → Prop) (r : Int) : Ending → World → Prop := fun e w' => e = .returned (.int .i64 r) ∧ B.Loc w w' [] [St w []]
noncomputable abbrev Ur (w : World) (F : Nat → Prop) (r : Int) : Cx := ⟨Tryd.prog, 43, Tryd.f43, 11, Jr w F  r, w⟩
theorem Eo (w : World) (F : Nat → Prop) (x1 : Aj) (x10 : ByteArray) (A2 : Option Addr) (n3 : Nat) (c4 : Nat) (A6 : Option Addr) (n7 : Nat) (c8 : Nat) (h5 : Rw Bl w (St w []).av A2 n3 c4 x1.nodes) (h9 : Rw Cj w (St w []).av A6 n7 c8 x1.conds) (hF : ∀ b, F b → b < w.heap.size ∧ ∀ o ∈ ([] : List (List Nat)), b ∉ o) (hL0 : B.Loc w w [] [Sm w.heap.size F w [], St w []]) (r : Int) (h : Dg x1 x10 r) : Calls Tryd.prog 43 #[.agg #[.slice A2 n3 c4, .slice A6 n7 c8], .string x10] w (Jr w F  r) := by
 unfold Dg at h
 refine B6 (vs := [.agg #[.slice A2 n3 c4, .slice A6 n7 c8], .string x10]) 11 Tryd.func43 rfl Tryd.ntmps43 rfl hL0 ?_
 show G (Ur w F r) _ _ _ _
 refine Ah rfl <| Ab rfl rfl ?_
 refine Bb 0 rfl (K0 [.slice A2 n3 c4, .slice A6 n7 c8] rfl rfl rfl fun gb11 => ?_) gn
 refine Bb 1 rfl (K0 [.string x10] rfl rfl rfl fun gb13 => ?_) gn
 refine A3 2 rfl (Ad rfl) gn rfl <| Ai 3 rfl <| Ah rfl <| Ah rfl <| Ab rfl rfl <| A3 0 rfl (Ak 0 Dz rfl rfl rfl) gn rfl <| A3 1 rfl (O4 rfl rfl) gn rfl <| Ai 2 rfl ?_
 by_cases hp15 : x10 = (⟨#[]⟩ : ByteArray)
 ·have h := Al hp15 h
  refine B3 rfl _ rfl ((Ip hp15)) <| Ah rfl <| Ab rfl rfl <| A3 0 rfl (Ad rfl) gn rfl <| Ai 1 rfl ?_
  refine B2 [.int .i64 (-1)] rfl Tryd.func43 rfl (.tmp rfl (.nil)) fun wr hLr => ?_
  have hMr := hLr.pk0 (.c 1 rfl .n)
  show Jr w F  r (.returned (B7 [.int .i64 (-1)])) wr
  rw [h]
  exact ⟨rfl, hMr⟩
 ·have h := Am hp15 h
  refine Az rfl _ rfl ((Jb hp15)) <| B8 rfl <| Ah rfl <| Ab rfl rfl <| A3 0 rfl (Ao Ez rfl) gn rfl <| A3 1 rfl (Ak 1 Jp rfl rfl rfl) gn rfl <| A3 2 rfl (Mb [.pointer (some ⟨gb13, 0, none⟩)] rfl) gn rfl ?_
  obtain ⟨r19, hv20, h⟩ := h
  refine Bb 3 rfl (Be [.slice A2 n3 c4, .func (.func 73) #[] #[.pointer (some ⟨gb13, 0, none⟩)]] rfl Tryd.func72 rfl rfl rfl fun w16 hL17 => ?_) gn
  have hp18 := pmI hL17 (.c 0 rfl .n) (.c 1 rfl .n) (by kernel_rfl)
  refine Calls.mono (I5 w16 (Fl ([] : List B5)) x1.nodes x10 A2 n3 c4 gb13 9 (Rw.mono h5 (hL17.toSt hp18 (me 1 rfl))) (hL17.hFl hp18 (Ay [] rfl)) (hL17.into hp18 _) r19 hv20) ?_
  rintro _ w21 ⟨rfl, hM22⟩
  have hL23 := hL17.call hp18 hM22
  refine ⟨_, _, _, rfl, hL23, ?_⟩
  refine A3 4 rfl (Ad rfl) gn rfl <| Ai 5 rfl ?_
  refine B2 [.int .i64 r19.1] rfl Tryd.func43 rfl (.tmp rfl (.nil)) fun wr hLr => ?_
  have hMr := hLr.pk0 (.c 1 rfl .n)
  show Jr w F  r (.returned (B7 [.int .i64 r19.1])) wr
  rw [h]
  exact ⟨rfl, hMr⟩
end Go.Proofs.YtjookebbmfiidaaDoor.K
