/- What the machine's calls do, function by function, printed by my own tool. Condition of each: its relation holds of the answer, and what is handed in lies in memory as told. -/
import Derived.Test.YtjookebbmfiidaaDoorK0
set_option linter.unusedVariables false
set_option maxRecDepth 100000
set_option maxHeartbeats 4000000
namespace Go.Proofs.YtjookebbmfiidaaDoor.K
open Go.Proofs.YtjookebbmfiidaaDoor.B Go.Proofs.YtjookebbmfiidaaDoor.R Go.RowKit
noncomputable abbrev Xdx:=Code.snd (Code.snd (Code.snd (Df Tryd.f10)))
noncomputable abbrev Wv:=Code.fst (Code.fst (Code.snd (Code.fst (Code.snd (Code.snd (Df Tryd.f10))))))
noncomputable abbrev Xgn:=Code.snd (Code.snd Wv)
noncomputable abbrev Xg9:=Code.snd (Code.fst (Code.fst (Code.snd Wv)))
noncomputable abbrev Xev:=Code.fst (Code.fst (Code.fst (Code.fst (Code.fst (Code.snd Wv)))))
abbrev L8 (w:World) (F:Nat→Prop) (r:Bool):Ending→World→Prop:=fun e w'=>e=.returned (.bool r)∧B.Loc w w' [] [St w []]
noncomputable abbrev I4 (w:World) (F:Nat→Prop) (r:Bool):Cx:=⟨Tryd.prog,10,Tryd.f10,54,L8 w F  r,w⟩
theorem Yw (w:World) (F:Nat→Prop) (x1:List Aj) (A2:Option Addr) (n3:Nat) (c4:Nat) (h5:Rw Cb w (St w []).av A2 n3 c4 x1) (hF:∀ b,F b→b < w.heap.size∧∀ o ∈ ([]:List (List Nat)),b ∉ o) (hL0:B.Loc w w [] [Sm w.heap.size F w [],St w []]) (r:Bool) (h:O6 x1 r):Calls Tryd.prog 10 #[.slice A2 n3 c4] w (L8 w F  r):=by
 unfold O6 at h
 refine Bl (vs:=[.slice A2 n3 c4]) 54 Tryd.func10 rfl Tryd.ntmps10 rfl hL0 ?_
 show G (I4 w F r) _ _ _ _
 refine Ag rfl<|Ac rfl rfl<|Aa 0 rfl (Af rfl) gn rfl<|Ah 1 rfl<|Ag rfl<|Ac rfl rfl<|Aa 0 rfl (Af rfl) gn rfl<|Ah 1 rfl<|Ag rfl<|Ag rfl<|Ac rfl rfl<|Aa 0 rfl (Af rfl) gn rfl ?_
 refine Ah 1 rfl<|Bv rfl<|Ei rfl ?_
 have key1:∀ s,Ar (fun (s:(List Int) × Int) o=>Gn x1 s.1 s.2 o) s r→(fun (s:(List Int) × Int)=>∀ (A36:Option Addr) (n37:Nat) (c38:Nat) (h39:Ow w.heap.size A36 n37 c38 s.1),G (I4 w F r) [.code Wv,.inLoop Wv,.inBlock 0,.code Xdx] [(0,.slice A2 n3 c4),(3,.slice A36 n37 c38),(4,.int .i64 s.2)] [.own (.slice A36 n37 c38) 3 1 n37 (s.1.flatMap (eI .i64))] [Sm w.heap.size F w [],St w []]) s:=by
  intro s hs
  refine Ar.ind (mot:=(fun (s:(List Int) × Int)=>∀ (A36:Option Addr) (n37:Nat) (c38:Nat) (h39:Ow w.heap.size A36 n37 c38 s.1),G (I4 w F r) [.code Wv,.inLoop Wv,.inBlock 0,.code Xdx] [(0,.slice A2 n3 c4),(3,.slice A36 n37 c38),(4,.int .i64 s.2)] [.own (.slice A36 n37 c38) 3 1 n37 (s.1.flatMap (eI .i64))] [Sm w.heap.size F w [],St w []])) ?_ hs
  clear hs s
  intro s o1 h hO1
  obtain ⟨x35,x40⟩:=s
  show ∀ (A36:Option Addr) (n37:Nat) (c38:Nat) (h39:Ow w.heap.size A36 n37 c38 x35),G (I4 w F r) [.code Wv,.inLoop Wv,.inBlock 0,.code Xdx] [(0,.slice A2 n3 c4),(3,.slice A36 n37 c38),(4,.int .i64 x40)] [.own (.slice A36 n37 c38) 3 1 n37 (x35.flatMap (eI .i64))] [Sm w.heap.size F w [],St w []]
  intro A36 n37 c38 h39
  have h:Gn x1 x35 x40 o1:=h
  unfold Gn at h
  refine Ag rfl<|Ag rfl<|Ac rfl rfl<|Aa 0 rfl (Ae rfl) gn rfl<|Aa 1 rfl (Ae rfl) gn rfl<|Aa 2 rfl (D5 Tm rfl h5.hq) gn rfl<|Aa 3 rfl (Ba rfl rfl rfl) gn rfl<|Ah 4 rfl ?_
  by_cases hp166:x40 < (x1.length:Int)
  ·have h:=Ap hp166 h
   refine Bi rfl _ rfl ((decide_eq_true hp166))<|Bo rfl<|Ag rfl<|Bv rfl<|Ag rfl<|Bv rfl<|Ei rfl ?_
   have key2:∀ s,Ar (fun (s:(List Int)) o=>Gl x40 x1 s o) s o1→(fun (s:(List Int))=>∀ (A208:Option Addr) (n209:Nat) (c210:Nat) (h211:Ow w.heap.size A208 n209 c210 s),G (I4 w F r) [.code Xev,.inLoop Xev,.inBlock 2,.code Xg9,.inBlock 1,.code Xgn,.inLoop Wv,.inBlock 0,.code Xdx] [(0,.slice A2 n3 c4),(3,.slice A208 n209 c210),(4,.int .i64 x40)] [.own (.slice A208 n209 c210) 3 1 n209 (s.flatMap (eI .i64))] [Sm w.heap.size F w [],St w []]) s:=by
    intro s hs
    refine Ar.ind (mot:=(fun (s:(List Int))=>∀ (A208:Option Addr) (n209:Nat) (c210:Nat) (h211:Ow w.heap.size A208 n209 c210 s),G (I4 w F r) [.code Xev,.inLoop Xev,.inBlock 2,.code Xg9,.inBlock 1,.code Xgn,.inLoop Wv,.inBlock 0,.code Xdx] [(0,.slice A2 n3 c4),(3,.slice A208 n209 c210),(4,.int .i64 x40)] [.own (.slice A208 n209 c210) 3 1 n209 (s.flatMap (eI .i64))] [Sm w.heap.size F w [],St w []])) ?_ hs
    clear hs s
    intro x207 o2 h hO2
    show ∀ (A208:Option Addr) (n209:Nat) (c210:Nat) (h211:Ow w.heap.size A208 n209 c210 x207),G (I4 w F r) [.code Xev,.inLoop Xev,.inBlock 2,.code Xg9,.inBlock 1,.code Xgn,.inLoop Wv,.inBlock 0,.code Xdx] [(0,.slice A2 n3 c4),(3,.slice A208 n209 c210),(4,.int .i64 x40)] [.own (.slice A208 n209 c210) 3 1 n209 (x207.flatMap (eI .i64))] [Sm w.heap.size F w [],St w []]
    intro A208 n209 c210 h211
    have h:Gl x40 x1 x207 o2:=h
    unfold Gl at h
    refine Ag rfl<|Ag rfl<|Ac rfl rfl<|Aa 0 rfl (Ae rfl) gn rfl<|Aa 1 rfl (D5 Iy rfl h211.hq) gn rfl<|Aa 2 rfl (Ba rfl rfl rfl) gn rfl<|Aa 3 rfl (Ae rfl) gn rfl ?_
    by_cases hp251:(x207.length:Int) > 0
    ·have h:=Ap hp251 h
     refine Bh 14 rfl ((decide_eq_true hp251))<|Aa 4 rfl (Ae rfl) (gy 14 rfl rfl) rfl<|Aa 5 rfl (Ae rfl) (gy 14 rfl rfl) rfl<|Aa 6 rfl (D5 Iy rfl h211.hq) (gy 14 rfl rfl) rfl<|Aa 7 rfl (Ba rfl rfl rfl) (gy 14 rfl rfl) rfl ?_
     obtain ⟨hb252,h⟩:=h
     refine Aa 8 rfl (Ec Jb rfl rfl h211 hb252) (gy 14 rfl rfl) rfl<|Aa 9 rfl (Py (.int .i64 (ix x207 (w64 ((x207.length:Int) - 1)))) 0 O9 rfl rfl (U6 (hlI .i64) hb252 rfl)) (gy 14 rfl rfl) rfl<|Aa 10 rfl (Ba rfl rfl rfl) (gy 14 rfl rfl) rfl<|Aa 11 rfl (Aw (b:=true) rfl rfl) gn rfl<|Ah 12 rfl ?_
     by_cases hp253:ix x207 (w64 ((x207.length:Int) - 1))≤0
     ·have h:=Ap hp253 h
      refine Bi rfl _ rfl ((decide_eq_true hp253))<|Bo rfl<|Bv rfl<|Ac rfl rfl<|Aa 0 rfl (Ae rfl) gn rfl<|Aa 1 rfl (Ae rfl) gn rfl<|Aa 2 rfl (D5 Iy rfl h211.hq) gn rfl<|Aa 3 rfl (Ba rfl rfl rfl) gn rfl ?_
      obtain ⟨hb254,h⟩:=h
      obtain ⟨x256,hv257,h⟩:=h
      have hle255:(w64 ((x207.length:Int) - 1):Int).toNat≤n209:=by have q:=hb254; have q1:=h211.hq; omega
      have h258:Ow w.heap.size A208 (w64 ((x207.length:Int) - 1):Int).toNat c210 x256:=Ow.w (Ow.cut h211 hle255) (by rw [hv257])
      refine Aa 4 rfl (Xc (i:=w64 ((x207.length:Int) - 1)) Jb rfl rfl (by have q:=hb254; have q1:=h211.hq; have q2:=h211.hn; omega) h211.hn rfl) gn rfl<|Aa 5 rfl (Af rfl) gn rfl<|Ah 6 rfl<|Bj<|Cm ?_
      have h259:Ow w.heap.size A208 ((w64 ((x207.length:Int) - 1):Int).toNat) c210 x256:=(Ow.w (Ow.cut h211 hle255) (by rw [hv257]))
      refine Xfh (j:=0) (m:=((w64 ((x207.length:Int) - 1):Int).toNat)) (cells':=x256.flatMap (eI .i64)) rfl hle255 (by rw [Xbs (hlI .i64),hv257]) ?_
      have ih:=Out.inl hO2 h
      exact D6 [0,1] (ih A208 ((w64 ((x207.length:Int) - 1):Int).toNat) c210 h259) ⟨rfl,rfl,rfl,trivial⟩ (.cons_cons _ (.slnil)) rfl
     ·have h:=Am hp253 h
      refine Bc rfl _ rfl ((decide_eq_false hp253))<|E8 [.code Xg9,.inBlock 1,.code Xgn,.inLoop Wv,.inBlock 0,.code Xdx] rfl rfl<|Ag rfl<|Ag rfl<|Ac rfl rfl<|Aa 0 rfl (Ae rfl) gn rfl<|Aa 1 rfl (D5 Iy rfl h211.hq) gn rfl<|Aa 2 rfl (Ba rfl rfl rfl) gn rfl<|Ah 3 rfl<|Bi rfl _ rfl ((decide_eq_true hp251))<|Ac rfl rfl<|Aa 0 rfl (Ae rfl) gn rfl ?_
      refine Aa 1 rfl (Ae rfl) gn rfl<|Aa 2 rfl (D5 Iy rfl h211.hq) gn rfl<|Aa 3 rfl (Ba rfl rfl rfl) gn rfl<|Aa 4 rfl (Ae rfl) gn rfl<|Aa 5 rfl (Ae rfl) gn rfl<|Aa 6 rfl (D5 Iy rfl h211.hq) gn rfl<|Aa 7 rfl (Ba rfl rfl rfl) gn rfl<|Aa 8 rfl (Ec Jb rfl rfl h211 hb252) gn rfl<|Aa 9 rfl (Py (.int .i64 (ix x207 (w64 ((x207.length:Int) - 1)))) 0 O9 rfl rfl (U6 (hlI .i64) hb252 rfl)) gn rfl<|Aa 10 rfl (Ba rfl rfl rfl) gn rfl<|Aa 11 rfl (Ec Jb rfl rfl h211 hb252) gn rfl ?_
      obtain ⟨x260,hv261,h⟩:=h
      refine Ci 12 rfl (Uy (enc:=(eI .i64)) (o:=0) (z:=(w64 ((ix x207 (w64 ((x207.length:Int) - 1))) - 1))) (vs:=[.int .i64 (w64 ((ix x207 (w64 ((x207.length:Int) - 1))) - 1))]) (i:=(w64 ((x207.length:Int) - 1))) 0 (hlI .i64) sz_3 rfl rfl rfl rfl rfl h211 hb252 rfl rfl rfl hv261 fun h262=>?_) gn
      refine Ah 13 rfl<|Ag rfl<|Ac rfl rfl<|Aa 0 rfl (Ae rfl) gn rfl<|Aa 1 rfl (Ae rfl) gn rfl<|Aa 2 rfl (Ae rfl) gn rfl ?_
      obtain ⟨hb263,h⟩:=h
      have hr264:=Rw.readF (s:=St w []) (hl:=Dp) (h1:=Du) h5 hb263
      refine Aa 3 rfl (Ef (s:=St w []) Oq rfl rfl h5 hb263) gn rfl<|Aa 4 rfl (Jq Vz rfl) gn rfl<|Aa 5 rfl (Le (kk:=(x40:Int).toNat * 5) (j:=4) (St w []) O9 rfl hr264 rfl (me 1 rfl)) gn rfl ?_
      refine Ci 6 rfl (Io (xs:=([(ix x1 x40).kids]:List Int)) [.int .i64 ((ix x1 x40).kids)] Qx rfl (by kernel_rfl) rfl rfl rfl rfl fun gb266 h267=>?_) gn
      obtain ⟨x275,hv276,h⟩:=h
      obtain ⟨hb277,h⟩:=h
      refine Xlb ?_
      refine Ci 7 rfl (s_appE (zs:=x275) (cells':=x275.flatMap (eI .i64)) 2 0 rfl Y5 rfl rfl rfl rfl Eld.self h262 (Nat.le_refl _) (Src.ownF (hl:=(hlI .i64)) (h1:=(F9 .i64)) 1 rfl h267) (by rw [hv276,List.flatMap_append] <;> rfl) (H9 hv276 h267.hq) hb277 rfl rfl fun A268 c269 bs272 p273 h270 hE274=>?_) gn
      refine Aa 8 rfl (Af rfl) gn rfl<|Ah 9 rfl<|Ag rfl<|Ac rfl rfl<|Aa 0 rfl (Ae rfl) gn rfl<|Aa 1 rfl (D5 Iy rfl h270.hq) gn rfl<|Aa 2 rfl (Ba rfl rfl rfl) gn rfl<|Ah 3 rfl ?_
      by_cases hp278:(x275.length:Int) > 65536
      ·have h:=Ap hp278 h
       refine Bi rfl _ rfl ((decide_eq_true hp278))<|Ag rfl<|Ac rfl rfl<|Aa 0 rfl (Af rfl) gn rfl<|Ah 1 rfl ?_
       have h:=Out.inr hO2 h
       have h:=Out.inr hO1 h
       refine Bg [.bool true] rfl Tryd.func10 rfl (.tmp rfl (.nil)) fun wr hLr=>?_
       have hMr:=hLr.pk0 (.c 1 rfl .n)
       show L8 w F  r (.returned (Bz [.bool true])) wr
       rw [h]
       exact ⟨rfl,hMr⟩
      ·have h:=Am hp278 h
       refine Bc rfl _ rfl ((decide_eq_false hp278))<|Bo rfl<|Bj<|Ac rfl rfl<|Aa 0 rfl (Ae rfl) gn rfl<|Aa 1 rfl (Ba rfl rfl rfl) gn rfl<|Aa 2 rfl (Af rfl) gn rfl<|Ah 3 rfl<|Cm ?_
       have h:=Out.inr hO2 h
       have ih:=Out.inl hO1 h
       exact D6 [0,1] (ih A268 (n209 + 1) c269 h270) ⟨rfl,rfl,rfl,trivial⟩ (.cons _ (.cons _ (.cons_cons _ (.slnil)))) rfl
    ·have h:=Am hp251 h
     refine Bh 14 rfl ((decide_eq_false hp251))<|Ad 4 rfl (ps 14 rfl rfl rfl)<|Ad 5 rfl (ps 14 rfl rfl rfl)<|Ad 6 rfl (ps 14 rfl rfl rfl)<|Ad 7 rfl (ps 14 rfl rfl rfl)<|Ad 8 rfl (ps 14 rfl rfl rfl)<|Ad 9 rfl (ps 14 rfl rfl rfl)<|Ad 10 rfl (ps 14 rfl rfl rfl)<|Aa 11 rfl (Aw (b:=false) rfl rfl) gn rfl<|Ah 12 rfl<|Bc rfl _ rfl (rfl)<|E8 [.code Xg9,.inBlock 1,.code Xgn,.inLoop Wv,.inBlock 0,.code Xdx] rfl rfl ?_
     refine Ag rfl<|Ag rfl<|Ac rfl rfl<|Aa 0 rfl (Ae rfl) gn rfl<|Aa 1 rfl (D5 Iy rfl h211.hq) gn rfl<|Aa 2 rfl (Ba rfl rfl rfl) gn rfl<|Ah 3 rfl<|Bc rfl _ rfl ((decide_eq_false hp251))<|Bo rfl<|Ag rfl<|Ac rfl rfl<|Aa 0 rfl (Ae rfl) gn rfl ?_
     refine Aa 1 rfl (Ae rfl) gn rfl<|Aa 2 rfl (Ae rfl) gn rfl ?_
     obtain ⟨hb279,h⟩:=h
     have hr280:=Rw.readF (s:=St w []) (hl:=Dp) (h1:=Du) h5 hb279
     refine Aa 3 rfl (Ef (s:=St w []) Oq rfl rfl h5 hb279) gn rfl<|Aa 4 rfl (Jq Vz rfl) gn rfl<|Aa 5 rfl (Le (kk:=(x40:Int).toNat * 5) (j:=4) (St w []) O9 rfl hr280 rfl (me 1 rfl)) gn rfl ?_
     refine Ci 6 rfl (Io (xs:=([(ix x1 x40).kids]:List Int)) [.int .i64 ((ix x1 x40).kids)] Qx rfl (by kernel_rfl) rfl rfl rfl rfl fun gb282 h283=>?_) gn
     obtain ⟨x287,hv288,h⟩:=h
     obtain ⟨hb289,h⟩:=h
     refine Ci 7 rfl (Pn (zs:=x287) (cells':=x287.flatMap (eI .i64)) 1 Y5 rfl rfl rfl h211 (Nat.le_refl _) (Src.ownF (hl:=(hlI .i64)) (h1:=(F9 .i64)) 0 rfl h283) (by rw [hv288,List.flatMap_append] <;> rfl) (H9 hv288 h283.hq) hb289 rfl rfl fun A284 c285 h286=>?_) gn
     refine Aa 8 rfl (Af rfl) gn rfl<|Ah 9 rfl<|Ag rfl<|Ac rfl rfl<|Aa 0 rfl (Ae rfl) gn rfl<|Aa 1 rfl (D5 Iy rfl h286.hq) gn rfl<|Aa 2 rfl (Ba rfl rfl rfl) gn rfl<|Ah 3 rfl ?_
     by_cases hp290:(x287.length:Int) > 65536
     ·have h:=Ap hp290 h
      refine Bi rfl _ rfl ((decide_eq_true hp290))<|Ag rfl<|Ac rfl rfl<|Aa 0 rfl (Af rfl) gn rfl<|Ah 1 rfl ?_
      have h:=Out.inr hO2 h
      have h:=Out.inr hO1 h
      refine Bg [.bool true] rfl Tryd.func10 rfl (.tmp rfl (.nil)) fun wr hLr=>?_
      have hMr:=hLr.pk0 (.c 1 rfl .n)
      show L8 w F  r (.returned (Bz [.bool true])) wr
      rw [h]
      exact ⟨rfl,hMr⟩
     ·have h:=Am hp290 h
      refine Bc rfl _ rfl ((decide_eq_false hp290))<|Bo rfl<|Bj<|Ac rfl rfl<|Aa 0 rfl (Ae rfl) gn rfl<|Aa 1 rfl (Ba rfl rfl rfl) gn rfl<|Aa 2 rfl (Af rfl) gn rfl<|Ah 3 rfl<|Cm ?_
      have h:=Out.inr hO2 h
      have ih:=Out.inl hO1 h
      exact D6 [0,1] (ih A284 (n209 + 1) c285 h286) ⟨rfl,rfl,rfl,trivial⟩ (.cons _ (.cons_cons _ (.slnil))) rfl
   exact D6 [0,1] (key2 _ h A36 n37 c38 h39) ⟨rfl,rfl,rfl,trivial⟩ (.cons_cons _ (.slnil)) rfl
  ·have h:=Am hp166 h
   refine Bc rfl _ rfl ((decide_eq_false hp166))<|E8 [.code Xdx] rfl rfl<|Ag rfl<|Ac rfl rfl<|Aa 0 rfl (Af rfl) gn rfl<|Ah 1 rfl ?_
   have h:=Out.inr hO1 h
   refine Bg [.bool false] rfl Tryd.func10 rfl (.tmp rfl (.nil)) fun wr hLr=>?_
   have hMr:=hLr.pk0 (.c 1 rfl .n)
   show L8 w F  r (.returned (Bz [.bool false])) wr
   rw [h]
   exact ⟨rfl,hMr⟩
 refine Td 3 1 ?_
 exact D6 [0,1] (key1 _ h none 0 0 (Ow.nil (z:=w.heap.size))) ⟨rfl,rfl,rfl,trivial⟩ (.cons_cons _ (.slnil)) rfl
noncomputable abbrev Xd8:=Code.snd (Code.snd (Code.snd (Df Tryd.f11)))
noncomputable abbrev Wn:=Code.fst (Code.fst (Code.snd (Code.fst (Code.snd (Code.snd (Df Tryd.f11))))))
noncomputable abbrev Xg1:=Code.snd (Code.snd Wn)
noncomputable abbrev Xg5:=Code.snd (Code.fst (Code.fst (Code.snd Wn)))
noncomputable abbrev Xeh:=Code.fst (Code.fst (Code.fst (Code.fst (Code.fst (Code.snd Wn)))))
abbrev Ld (w:World) (F:Nat→Prop) (r:Bool):Ending→World→Prop:=fun e w'=>e=.returned (.bool r)∧B.Loc w w' [] [St w []]
noncomputable abbrev I7 (w:World) (F:Nat→Prop) (r:Bool):Cx:=⟨Tryd.prog,11,Tryd.f11,54,Ld w F  r,w⟩
theorem Yy (w:World) (F:Nat→Prop) (x1:List Ai) (A2:Option Addr) (n3:Nat) (c4:Nat) (h5:Rw D9 w (St w []).av A2 n3 c4 x1) (hF:∀ b,F b→b < w.heap.size∧∀ o ∈ ([]:List (List Nat)),b ∉ o) (hL0:B.Loc w w [] [Sm w.heap.size F w [],St w []]) (r:Bool) (h:O7 x1 r):Calls Tryd.prog 11 #[.slice A2 n3 c4] w (Ld w F  r):=by
 unfold O7 at h
 refine Bl (vs:=[.slice A2 n3 c4]) 54 Tryd.func11 rfl Tryd.ntmps11 rfl hL0 ?_
 show G (I7 w F r) _ _ _ _
 refine Ag rfl<|Ac rfl rfl<|Aa 0 rfl (Af rfl) gn rfl<|Ah 1 rfl<|Ag rfl<|Ac rfl rfl<|Aa 0 rfl (Af rfl) gn rfl<|Ah 1 rfl<|Ag rfl<|Ag rfl<|Ac rfl rfl<|Aa 0 rfl (Af rfl) gn rfl ?_
 refine Ah 1 rfl<|Bv rfl<|Ei rfl ?_
 have key1:∀ s,Ar (fun (s:(List Int) × Int) o=>Gj x1 s.1 s.2 o) s r→(fun (s:(List Int) × Int)=>∀ (A36:Option Addr) (n37:Nat) (c38:Nat) (h39:Ow w.heap.size A36 n37 c38 s.1),G (I7 w F r) [.code Wn,.inLoop Wn,.inBlock 0,.code Xd8] [(0,.slice A2 n3 c4),(3,.slice A36 n37 c38),(4,.int .i64 s.2)] [.own (.slice A36 n37 c38) 3 1 n37 (s.1.flatMap (eI .i64))] [Sm w.heap.size F w [],St w []]) s:=by
  intro s hs
  refine Ar.ind (mot:=(fun (s:(List Int) × Int)=>∀ (A36:Option Addr) (n37:Nat) (c38:Nat) (h39:Ow w.heap.size A36 n37 c38 s.1),G (I7 w F r) [.code Wn,.inLoop Wn,.inBlock 0,.code Xd8] [(0,.slice A2 n3 c4),(3,.slice A36 n37 c38),(4,.int .i64 s.2)] [.own (.slice A36 n37 c38) 3 1 n37 (s.1.flatMap (eI .i64))] [Sm w.heap.size F w [],St w []])) ?_ hs
  clear hs s
  intro s o1 h hO1
  obtain ⟨x35,x40⟩:=s
  show ∀ (A36:Option Addr) (n37:Nat) (c38:Nat) (h39:Ow w.heap.size A36 n37 c38 x35),G (I7 w F r) [.code Wn,.inLoop Wn,.inBlock 0,.code Xd8] [(0,.slice A2 n3 c4),(3,.slice A36 n37 c38),(4,.int .i64 x40)] [.own (.slice A36 n37 c38) 3 1 n37 (x35.flatMap (eI .i64))] [Sm w.heap.size F w [],St w []]
  intro A36 n37 c38 h39
  have h:Gj x1 x35 x40 o1:=h
  unfold Gj at h
  refine Ag rfl<|Ag rfl<|Ac rfl rfl<|Aa 0 rfl (Ae rfl) gn rfl<|Aa 1 rfl (Ae rfl) gn rfl<|Aa 2 rfl (D5 V3 rfl h5.hq) gn rfl<|Aa 3 rfl (Ba rfl rfl rfl) gn rfl<|Ah 4 rfl ?_
  by_cases hp166:x40 < (x1.length:Int)
  ·have h:=Ap hp166 h
   refine Bi rfl _ rfl ((decide_eq_true hp166))<|Bo rfl<|Ag rfl<|Bv rfl<|Ag rfl<|Bv rfl<|Ei rfl ?_
   have key2:∀ s,Ar (fun (s:(List Int)) o=>Gh x40 x1 s o) s o1→(fun (s:(List Int))=>∀ (A208:Option Addr) (n209:Nat) (c210:Nat) (h211:Ow w.heap.size A208 n209 c210 s),G (I7 w F r) [.code Xeh,.inLoop Xeh,.inBlock 2,.code Xg5,.inBlock 1,.code Xg1,.inLoop Wn,.inBlock 0,.code Xd8] [(0,.slice A2 n3 c4),(3,.slice A208 n209 c210),(4,.int .i64 x40)] [.own (.slice A208 n209 c210) 3 1 n209 (s.flatMap (eI .i64))] [Sm w.heap.size F w [],St w []]) s:=by
    intro s hs
    refine Ar.ind (mot:=(fun (s:(List Int))=>∀ (A208:Option Addr) (n209:Nat) (c210:Nat) (h211:Ow w.heap.size A208 n209 c210 s),G (I7 w F r) [.code Xeh,.inLoop Xeh,.inBlock 2,.code Xg5,.inBlock 1,.code Xg1,.inLoop Wn,.inBlock 0,.code Xd8] [(0,.slice A2 n3 c4),(3,.slice A208 n209 c210),(4,.int .i64 x40)] [.own (.slice A208 n209 c210) 3 1 n209 (s.flatMap (eI .i64))] [Sm w.heap.size F w [],St w []])) ?_ hs
    clear hs s
    intro x207 o2 h hO2
    show ∀ (A208:Option Addr) (n209:Nat) (c210:Nat) (h211:Ow w.heap.size A208 n209 c210 x207),G (I7 w F r) [.code Xeh,.inLoop Xeh,.inBlock 2,.code Xg5,.inBlock 1,.code Xg1,.inLoop Wn,.inBlock 0,.code Xd8] [(0,.slice A2 n3 c4),(3,.slice A208 n209 c210),(4,.int .i64 x40)] [.own (.slice A208 n209 c210) 3 1 n209 (x207.flatMap (eI .i64))] [Sm w.heap.size F w [],St w []]
    intro A208 n209 c210 h211
    have h:Gh x40 x1 x207 o2:=h
    unfold Gh at h
    refine Ag rfl<|Ag rfl<|Ac rfl rfl<|Aa 0 rfl (Ae rfl) gn rfl<|Aa 1 rfl (D5 Iy rfl h211.hq) gn rfl<|Aa 2 rfl (Ba rfl rfl rfl) gn rfl<|Aa 3 rfl (Ae rfl) gn rfl ?_
    by_cases hp251:(x207.length:Int) > 0
    ·have h:=Ap hp251 h
     refine Bh 14 rfl ((decide_eq_true hp251))<|Aa 4 rfl (Ae rfl) (gy 14 rfl rfl) rfl<|Aa 5 rfl (Ae rfl) (gy 14 rfl rfl) rfl<|Aa 6 rfl (D5 Iy rfl h211.hq) (gy 14 rfl rfl) rfl<|Aa 7 rfl (Ba rfl rfl rfl) (gy 14 rfl rfl) rfl ?_
     obtain ⟨hb252,h⟩:=h
     refine Aa 8 rfl (Ec Jb rfl rfl h211 hb252) (gy 14 rfl rfl) rfl<|Aa 9 rfl (Py (.int .i64 (ix x207 (w64 ((x207.length:Int) - 1)))) 0 O9 rfl rfl (U6 (hlI .i64) hb252 rfl)) (gy 14 rfl rfl) rfl<|Aa 10 rfl (Ba rfl rfl rfl) (gy 14 rfl rfl) rfl<|Aa 11 rfl (Aw (b:=true) rfl rfl) gn rfl<|Ah 12 rfl ?_
     by_cases hp253:ix x207 (w64 ((x207.length:Int) - 1))≤0
     ·have h:=Ap hp253 h
      refine Bi rfl _ rfl ((decide_eq_true hp253))<|Bo rfl<|Bv rfl<|Ac rfl rfl<|Aa 0 rfl (Ae rfl) gn rfl<|Aa 1 rfl (Ae rfl) gn rfl<|Aa 2 rfl (D5 Iy rfl h211.hq) gn rfl<|Aa 3 rfl (Ba rfl rfl rfl) gn rfl ?_
      obtain ⟨hb254,h⟩:=h
      obtain ⟨x256,hv257,h⟩:=h
      have hle255:(w64 ((x207.length:Int) - 1):Int).toNat≤n209:=by have q:=hb254; have q1:=h211.hq; omega
      have h258:Ow w.heap.size A208 (w64 ((x207.length:Int) - 1):Int).toNat c210 x256:=Ow.w (Ow.cut h211 hle255) (by rw [hv257])
      refine Aa 4 rfl (Xc (i:=w64 ((x207.length:Int) - 1)) Jb rfl rfl (by have q:=hb254; have q1:=h211.hq; have q2:=h211.hn; omega) h211.hn rfl) gn rfl<|Aa 5 rfl (Af rfl) gn rfl<|Ah 6 rfl<|Bj<|Cm ?_
      have h259:Ow w.heap.size A208 ((w64 ((x207.length:Int) - 1):Int).toNat) c210 x256:=(Ow.w (Ow.cut h211 hle255) (by rw [hv257]))
      refine Xfh (j:=0) (m:=((w64 ((x207.length:Int) - 1):Int).toNat)) (cells':=x256.flatMap (eI .i64)) rfl hle255 (by rw [Xbs (hlI .i64),hv257]) ?_
      have ih:=Out.inl hO2 h
      exact D6 [0,1] (ih A208 ((w64 ((x207.length:Int) - 1):Int).toNat) c210 h259) ⟨rfl,rfl,rfl,trivial⟩ (.cons_cons _ (.slnil)) rfl
     ·have h:=Am hp253 h
      refine Bc rfl _ rfl ((decide_eq_false hp253))<|E8 [.code Xg5,.inBlock 1,.code Xg1,.inLoop Wn,.inBlock 0,.code Xd8] rfl rfl<|Ag rfl<|Ag rfl<|Ac rfl rfl<|Aa 0 rfl (Ae rfl) gn rfl<|Aa 1 rfl (D5 Iy rfl h211.hq) gn rfl<|Aa 2 rfl (Ba rfl rfl rfl) gn rfl<|Ah 3 rfl<|Bi rfl _ rfl ((decide_eq_true hp251))<|Ac rfl rfl<|Aa 0 rfl (Ae rfl) gn rfl ?_
      refine Aa 1 rfl (Ae rfl) gn rfl<|Aa 2 rfl (D5 Iy rfl h211.hq) gn rfl<|Aa 3 rfl (Ba rfl rfl rfl) gn rfl<|Aa 4 rfl (Ae rfl) gn rfl<|Aa 5 rfl (Ae rfl) gn rfl<|Aa 6 rfl (D5 Iy rfl h211.hq) gn rfl<|Aa 7 rfl (Ba rfl rfl rfl) gn rfl<|Aa 8 rfl (Ec Jb rfl rfl h211 hb252) gn rfl<|Aa 9 rfl (Py (.int .i64 (ix x207 (w64 ((x207.length:Int) - 1)))) 0 O9 rfl rfl (U6 (hlI .i64) hb252 rfl)) gn rfl<|Aa 10 rfl (Ba rfl rfl rfl) gn rfl<|Aa 11 rfl (Ec Jb rfl rfl h211 hb252) gn rfl ?_
      obtain ⟨x260,hv261,h⟩:=h
      refine Ci 12 rfl (Uy (enc:=(eI .i64)) (o:=0) (z:=(w64 ((ix x207 (w64 ((x207.length:Int) - 1))) - 1))) (vs:=[.int .i64 (w64 ((ix x207 (w64 ((x207.length:Int) - 1))) - 1))]) (i:=(w64 ((x207.length:Int) - 1))) 0 (hlI .i64) sz_3 rfl rfl rfl rfl rfl h211 hb252 rfl rfl rfl hv261 fun h262=>?_) gn
      refine Ah 13 rfl<|Ag rfl<|Ac rfl rfl<|Aa 0 rfl (Ae rfl) gn rfl<|Aa 1 rfl (Ae rfl) gn rfl<|Aa 2 rfl (Ae rfl) gn rfl ?_
      obtain ⟨hb263,h⟩:=h
      have hr264:=Rw.readF (s:=St w []) (hl:=Fh) (h1:=Gg) h5 hb263
      refine Aa 3 rfl (Ef (s:=St w []) Ro rfl rfl h5 hb263) gn rfl<|Aa 4 rfl (Jq Xas rfl) gn rfl<|Aa 5 rfl (Le (kk:=(x40:Int).toNat * 7) (j:=5) (St w []) O9 rfl hr264 rfl (me 1 rfl)) gn rfl ?_
      refine Ci 6 rfl (Io (xs:=([(ix x1 x40).kids]:List Int)) [.int .i64 ((ix x1 x40).kids)] Qx rfl (by kernel_rfl) rfl rfl rfl rfl fun gb266 h267=>?_) gn
      obtain ⟨x275,hv276,h⟩:=h
      obtain ⟨hb277,h⟩:=h
      refine Xlb ?_
      refine Ci 7 rfl (s_appE (zs:=x275) (cells':=x275.flatMap (eI .i64)) 2 0 rfl Y5 rfl rfl rfl rfl Eld.self h262 (Nat.le_refl _) (Src.ownF (hl:=(hlI .i64)) (h1:=(F9 .i64)) 1 rfl h267) (by rw [hv276,List.flatMap_append] <;> rfl) (H9 hv276 h267.hq) hb277 rfl rfl fun A268 c269 bs272 p273 h270 hE274=>?_) gn
      refine Aa 8 rfl (Af rfl) gn rfl<|Ah 9 rfl<|Ag rfl<|Ac rfl rfl<|Aa 0 rfl (Ae rfl) gn rfl<|Aa 1 rfl (D5 Iy rfl h270.hq) gn rfl<|Aa 2 rfl (Ba rfl rfl rfl) gn rfl<|Ah 3 rfl ?_
      by_cases hp278:(x275.length:Int) > 65536
      ·have h:=Ap hp278 h
       refine Bi rfl _ rfl ((decide_eq_true hp278))<|Ag rfl<|Ac rfl rfl<|Aa 0 rfl (Af rfl) gn rfl<|Ah 1 rfl ?_
       have h:=Out.inr hO2 h
       have h:=Out.inr hO1 h
       refine Bg [.bool true] rfl Tryd.func11 rfl (.tmp rfl (.nil)) fun wr hLr=>?_
       have hMr:=hLr.pk0 (.c 1 rfl .n)
       show Ld w F  r (.returned (Bz [.bool true])) wr
       rw [h]
       exact ⟨rfl,hMr⟩
      ·have h:=Am hp278 h
       refine Bc rfl _ rfl ((decide_eq_false hp278))<|Bo rfl<|Bj<|Ac rfl rfl<|Aa 0 rfl (Ae rfl) gn rfl<|Aa 1 rfl (Ba rfl rfl rfl) gn rfl<|Aa 2 rfl (Af rfl) gn rfl<|Ah 3 rfl<|Cm ?_
       have h:=Out.inr hO2 h
       have ih:=Out.inl hO1 h
       exact D6 [0,1] (ih A268 (n209 + 1) c269 h270) ⟨rfl,rfl,rfl,trivial⟩ (.cons _ (.cons _ (.cons_cons _ (.slnil)))) rfl
    ·have h:=Am hp251 h
     refine Bh 14 rfl ((decide_eq_false hp251))<|Ad 4 rfl (ps 14 rfl rfl rfl)<|Ad 5 rfl (ps 14 rfl rfl rfl)<|Ad 6 rfl (ps 14 rfl rfl rfl)<|Ad 7 rfl (ps 14 rfl rfl rfl)<|Ad 8 rfl (ps 14 rfl rfl rfl)<|Ad 9 rfl (ps 14 rfl rfl rfl)<|Ad 10 rfl (ps 14 rfl rfl rfl)<|Aa 11 rfl (Aw (b:=false) rfl rfl) gn rfl<|Ah 12 rfl<|Bc rfl _ rfl (rfl)<|E8 [.code Xg5,.inBlock 1,.code Xg1,.inLoop Wn,.inBlock 0,.code Xd8] rfl rfl ?_
     refine Ag rfl<|Ag rfl<|Ac rfl rfl<|Aa 0 rfl (Ae rfl) gn rfl<|Aa 1 rfl (D5 Iy rfl h211.hq) gn rfl<|Aa 2 rfl (Ba rfl rfl rfl) gn rfl<|Ah 3 rfl<|Bc rfl _ rfl ((decide_eq_false hp251))<|Bo rfl<|Ag rfl<|Ac rfl rfl<|Aa 0 rfl (Ae rfl) gn rfl ?_
     refine Aa 1 rfl (Ae rfl) gn rfl<|Aa 2 rfl (Ae rfl) gn rfl ?_
     obtain ⟨hb279,h⟩:=h
     have hr280:=Rw.readF (s:=St w []) (hl:=Fh) (h1:=Gg) h5 hb279
     refine Aa 3 rfl (Ef (s:=St w []) Ro rfl rfl h5 hb279) gn rfl<|Aa 4 rfl (Jq Xas rfl) gn rfl<|Aa 5 rfl (Le (kk:=(x40:Int).toNat * 7) (j:=5) (St w []) O9 rfl hr280 rfl (me 1 rfl)) gn rfl ?_
     refine Ci 6 rfl (Io (xs:=([(ix x1 x40).kids]:List Int)) [.int .i64 ((ix x1 x40).kids)] Qx rfl (by kernel_rfl) rfl rfl rfl rfl fun gb282 h283=>?_) gn
     obtain ⟨x287,hv288,h⟩:=h
     obtain ⟨hb289,h⟩:=h
     refine Ci 7 rfl (Pn (zs:=x287) (cells':=x287.flatMap (eI .i64)) 1 Y5 rfl rfl rfl h211 (Nat.le_refl _) (Src.ownF (hl:=(hlI .i64)) (h1:=(F9 .i64)) 0 rfl h283) (by rw [hv288,List.flatMap_append] <;> rfl) (H9 hv288 h283.hq) hb289 rfl rfl fun A284 c285 h286=>?_) gn
     refine Aa 8 rfl (Af rfl) gn rfl<|Ah 9 rfl<|Ag rfl<|Ac rfl rfl<|Aa 0 rfl (Ae rfl) gn rfl<|Aa 1 rfl (D5 Iy rfl h286.hq) gn rfl<|Aa 2 rfl (Ba rfl rfl rfl) gn rfl<|Ah 3 rfl ?_
     by_cases hp290:(x287.length:Int) > 65536
     ·have h:=Ap hp290 h
      refine Bi rfl _ rfl ((decide_eq_true hp290))<|Ag rfl<|Ac rfl rfl<|Aa 0 rfl (Af rfl) gn rfl<|Ah 1 rfl ?_
      have h:=Out.inr hO2 h
      have h:=Out.inr hO1 h
      refine Bg [.bool true] rfl Tryd.func11 rfl (.tmp rfl (.nil)) fun wr hLr=>?_
      have hMr:=hLr.pk0 (.c 1 rfl .n)
      show Ld w F  r (.returned (Bz [.bool true])) wr
      rw [h]
      exact ⟨rfl,hMr⟩
     ·have h:=Am hp290 h
      refine Bc rfl _ rfl ((decide_eq_false hp290))<|Bo rfl<|Bj<|Ac rfl rfl<|Aa 0 rfl (Ae rfl) gn rfl<|Aa 1 rfl (Ba rfl rfl rfl) gn rfl<|Aa 2 rfl (Af rfl) gn rfl<|Ah 3 rfl<|Cm ?_
      have h:=Out.inr hO2 h
      have ih:=Out.inl hO1 h
      exact D6 [0,1] (ih A284 (n209 + 1) c285 h286) ⟨rfl,rfl,rfl,trivial⟩ (.cons _ (.cons_cons _ (.slnil))) rfl
   exact D6 [0,1] (key2 _ h A36 n37 c38 h39) ⟨rfl,rfl,rfl,trivial⟩ (.cons_cons _ (.slnil)) rfl
  ·have h:=Am hp166 h
   refine Bc rfl _ rfl ((decide_eq_false hp166))<|E8 [.code Xd8] rfl rfl<|Ag rfl<|Ac rfl rfl<|Aa 0 rfl (Af rfl) gn rfl<|Ah 1 rfl ?_
   have h:=Out.inr hO1 h
   refine Bg [.bool false] rfl Tryd.func11 rfl (.tmp rfl (.nil)) fun wr hLr=>?_
   have hMr:=hLr.pk0 (.c 1 rfl .n)
   show Ld w F  r (.returned (Bz [.bool false])) wr
   rw [h]
   exact ⟨rfl,hMr⟩
 refine Td 3 1 ?_
 exact D6 [0,1] (key1 _ h none 0 0 (Ow.nil (z:=w.heap.size))) ⟨rfl,rfl,rfl,trivial⟩ (.cons_cons _ (.slnil)) rfl
noncomputable abbrev Xha:=Code.snd (Code.snd (Code.snd (Df Tryd.f12)))
noncomputable abbrev Xcz:=Code.fst (Code.fst (Code.snd (Code.fst (Code.snd (Code.snd (Df Tryd.f12))))))
noncomputable abbrev q12c19:=Code.fst (Code.fst (Code.snd Xcz))
noncomputable abbrev Xi8:=Code.snd Xha
noncomputable abbrev Xd0:=Code.fst (Code.fst (Code.snd (Code.fst Xha)))
noncomputable abbrev q12c34:=Code.fst (Code.fst (Code.snd Xd0))
abbrev V9 (w:World) (F:Nat→Prop) (r:Aq):Ending→World→Prop:=fun e w'=>∃ A0:Option Addr,∃ n0:Nat,∃ c0:Nat,∃ A1:Option Addr,∃ n1:Nat,∃ c1:Nat,e=.returned (.agg #[.slice A0 n0 c0,.slice A1 n1 c1])∧B.Loc w w' [.own (.slice A0 n0 c0) 45 5 n0 (r.nodes.flatMap Bq),.own (.slice A1 n1 c1) 47 4 n1 (r.conds.flatMap Di)] [St w []]∧Ow w.heap.size A0 n0 c0 r.nodes∧Ow w.heap.size A1 n1 c1 r.conds
noncomputable abbrev J3 (w:World) (F:Nat→Prop) (r:Aq):Cx:=⟨Tryd.prog,12,Tryd.f12,41,V9 w F  r,w⟩
theorem Jn (w:World) (F:Nat→Prop) (x1:Aq) (A2:Option Addr) (n3:Nat) (c4:Nat) (A6:Option Addr) (n7:Nat) (c8:Nat) (h5:Rw Cb w (St w []).av A2 n3 c4 x1.nodes) (h9:Rw Dq w (St w []).av A6 n7 c8 x1.conds) (hF:∀ b,F b→b < w.heap.size∧∀ o ∈ ([]:List (List Nat)),b ∉ o) (hL0:B.Loc w w [] [Sm w.heap.size F w [],St w []]) (r:Aq) (h:J6 x1 r):Calls Tryd.prog 12 #[.agg #[.slice A2 n3 c4,.slice A6 n7 c8]] w (V9 w F  r):=by
 unfold J6 at h
 refine Bl (vs:=[.agg #[.slice A2 n3 c4,.slice A6 n7 c8]]) 41 Tryd.func12 rfl Tryd.ntmps12 rfl hL0 ?_
 show G (J3 w F r) _ _ _ _
 refine Ag rfl<|Ac rfl rfl ?_
 refine Ci 0 rfl (O3 [.slice A2 n3 c4,.slice A6 n7 c8] rfl rfl rfl fun gb10=>?_) gn
 refine Ci 1 rfl (G9 [.slice none 0 0,.slice none 0 0] Xfy rfl fun gb12=>?_) gn
 refine Ah 2 rfl<|Ag rfl<|Ac rfl rfl ?_
 refine Ci 0 rfl (G9 [.slice none 0 0,.slice none 0 0] Xfy rfl fun gb14=>?_) gn
 refine Ah 1 rfl<|Ag rfl<|Ag rfl<|Ac rfl rfl<|Aa 0 rfl (Af rfl) gn rfl<|Ah 1 rfl<|Bv rfl<|Ei rfl ?_
 have key1:∀ s,Ar (fun (s:Int × (List Aj)) o=>Ij x1 s.1 s.2 o) s r→(fun (s:Int × (List Aj))=>∀ (A150:Option Addr) (n151:Nat) (c152:Nat) (h153:Ow w.heap.size A150 n151 c152 s.2),G (J3 w F r) [.code Xcz,.inLoop Xcz,.inBlock 0,.code Xha] [(1,.pointer (some ⟨gb10,0,none⟩)),(2,.pointer (some ⟨gb12,0,none⟩)),(3,.pointer (some ⟨gb14,0,none⟩)),(4,.int .i64 s.1)] [.own (.slice A150 n151 c152) 45 5 n151 (s.2.flatMap Bq),.box gb14 25 [.slice A150 n151 c152,.slice none 0 0],.box gb12 25 [.slice none 0 0,.slice none 0 0],.box gb10 25 [.slice A2 n3 c4,.slice A6 n7 c8]] [Sm w.heap.size F w [],St w []]) s:=by
  intro s hs
  refine Ar.ind (mot:=(fun (s:Int × (List Aj))=>∀ (A150:Option Addr) (n151:Nat) (c152:Nat) (h153:Ow w.heap.size A150 n151 c152 s.2),G (J3 w F r) [.code Xcz,.inLoop Xcz,.inBlock 0,.code Xha] [(1,.pointer (some ⟨gb10,0,none⟩)),(2,.pointer (some ⟨gb12,0,none⟩)),(3,.pointer (some ⟨gb14,0,none⟩)),(4,.int .i64 s.1)] [.own (.slice A150 n151 c152) 45 5 n151 (s.2.flatMap Bq),.box gb14 25 [.slice A150 n151 c152,.slice none 0 0],.box gb12 25 [.slice none 0 0,.slice none 0 0],.box gb10 25 [.slice A2 n3 c4,.slice A6 n7 c8]] [Sm w.heap.size F w [],St w []])) ?_ hs
  clear hs s
  intro s o1 h hO1
  obtain ⟨x148,x149⟩:=s
  show ∀ (A150:Option Addr) (n151:Nat) (c152:Nat) (h153:Ow w.heap.size A150 n151 c152 x149),G (J3 w F r) [.code Xcz,.inLoop Xcz,.inBlock 0,.code Xha] [(1,.pointer (some ⟨gb10,0,none⟩)),(2,.pointer (some ⟨gb12,0,none⟩)),(3,.pointer (some ⟨gb14,0,none⟩)),(4,.int .i64 x148)] [.own (.slice A150 n151 c152) 45 5 n151 (x149.flatMap Bq),.box gb14 25 [.slice A150 n151 c152,.slice none 0 0],.box gb12 25 [.slice none 0 0,.slice none 0 0],.box gb10 25 [.slice A2 n3 c4,.slice A6 n7 c8]] [Sm w.heap.size F w [],St w []]
  intro A150 n151 c152 h153
  have h:Ij x1 x148 x149 o1:=h
  unfold Ij at h
  refine Ag rfl<|Ag rfl<|Ac rfl rfl<|Aa 0 rfl (Ae rfl) gn rfl<|Aa 1 rfl (Bd Ew rfl) gn rfl<|Aa 2 rfl (Au 3 Kr rfl rfl rfl) gn rfl<|Aa 3 rfl (D5 Tm rfl h5.hq) gn rfl<|Aa 4 rfl (Ba rfl rfl rfl) gn rfl<|Ah 5 rfl ?_
  by_cases hp279:x148 < (x1.nodes.length:Int)
  ·have h:=Ap hp279 h
   refine Bi rfl _ rfl ((decide_eq_true hp279))<|Bo rfl<|Ag rfl<|Bv rfl ?_
   obtain ⟨hb280,h⟩:=h
   obtain ⟨x288,hv289,h⟩:=h
   obtain ⟨hb290,h⟩:=h
   have hns:Region.noSelect (Code.ops q12c19)=true:=by kernel_rfl
   refine J7 [8,9,10] 11 rfl rfl mix rfl (.c 0 rfl (.c 1 rfl .n))<|wfv 0 rfl (Bd Ew rfl) gn hns (by kernel_rfl)<|wfv 1 rfl (Au 1 Kr rfl rfl rfl) gn hns (by kernel_rfl)<|wfv 2 rfl (Bd Ew rfl) gn hns (by kernel_rfl)<|wfv 3 rfl (Au 3 Kr rfl rfl rfl) gn hns (by kernel_rfl)<|wfv 4 rfl (Ae rfl) gn hns (by kernel_rfl) ?_
   have hr299:=Rw.readF (s:=St w []) (hl:=Dp) (h1:=Du) h5 hb280
   refine wfv 5 rfl (Ef (s:=St w []) Oq rfl rfl h5 hb280) gn hns (by kernel_rfl)<|wfv 6 rfl (Q8 (St w []) Xc5 rfl hr299 rfl (me 1 rfl)) gn hns (by kernel_rfl) ?_
   refine Cf [7] (by kernel_rfl) rfl ⟨Ej 7 rfl gn rfl (Io (xs:=([ix x1.nodes x148]:List Aj)) [.string ((ix x1.nodes x148).name),.bool ((ix x1.nodes x148).lit),.string ((ix x1.nodes x148).field),.string ((ix x1.nodes x148).capture),.int .i64 ((ix x1.nodes x148).kids)] Xlg rfl (by kernel_rfl) rfl rfl rfl rfl fun gb302 h303=>?_),trivial⟩
   refine ⟨Bf [1,2,3,4] rfl,Bf [0,1] rfl,?_⟩
   refine Cf [8] (by kernel_rfl) rfl ⟨Ut 8 rfl gn rfl (Pn (zs:=x288) (cells':=x288.flatMap Bq) 1 ap_22 rfl rfl rfl h153 (Nat.le_refl _) (Src.ownF (hl:=Dp) (h1:=Du) 0 rfl h303) (by rw [hv289,List.flatMap_append] <;> rfl) (H9 hv289 h303.hq) hb290 rfl rfl fun A304 c305 h306=>?_),trivial⟩
   unfold NxL
   refine Cf [9] (by kernel_rfl) rfl ⟨Ut 9 rfl gn rfl (Ob (Bd Ew rfl) rfl ?_),trivial⟩
   unfold NxL
   refine Cf [10] (by kernel_rfl) rfl ⟨Ut 10 rfl gn rfl (I9 (vs:=[.slice A304 (n151 + 1) c305]) (cs':=[.slice A304 (n151 + 1) c305,.slice none 0 0]) (M':=[.own (.slice (some ⟨gb302,0,none⟩) 1 1) 45 5 1 (([ix x1.nodes x148]:List Aj).flatMap Bq),.own (.slice A304 (n151 + 1) c305) 45 5 (n151 + 1) (x288.flatMap Bq),.box gb14 25 [.slice A304 (n151 + 1) c305,.slice none 0 0],.box gb12 25 [.slice none 0 0,.slice none 0 0],.box gb10 25 [.slice A2 n3 c4,.slice A6 n7 c8]]) 2 sz_22 rfl rfl rfl rfl rfl rfl rfl rfl rfl ?_),trivial⟩
   unfold NxL
   refine Et (by kernel_rfl)<|Bj<|Ac rfl rfl<|Aa 0 rfl (Ae rfl) gn rfl<|Aa 1 rfl (Ba rfl rfl rfl) gn rfl<|Aa 2 rfl (Af rfl) gn rfl<|Ah 3 rfl<|Cm ?_
   have ih:=Out.inl hO1 h
   exact D6 [0,1] (ih A304 (n151 + 1) c305 h306) ⟨rfl,rfl,rfl,rfl,trivial⟩ (.cons _ (.cons_cons _ (.cons_cons _ (.cons_cons _ (.cons_cons _ (.slnil)))))) rfl
  ·have h:=Am hp279 h
   refine Bc rfl _ rfl ((decide_eq_false hp279))<|E8 [.code Xha] rfl rfl<|Ag rfl<|Ag rfl<|Ac rfl rfl<|Aa 0 rfl (Af rfl) gn rfl<|Ah 1 rfl<|Bv rfl<|Ei rfl ?_
   have key2:∀ s,Ar (fun (s:Int × (List D8)) o=>Ie x1 x149 s.1 s.2 o) s o1→(fun (s:Int × (List D8))=>∀ (A344:Option Addr) (n345:Nat) (c346:Nat) (h347:Ow w.heap.size A344 n345 c346 s.2),G (J3 w F r) [.code Xd0,.inLoop Xd0,.inBlock 2,.code Xi8] [(1,.pointer (some ⟨gb10,0,none⟩)),(2,.pointer (some ⟨gb12,0,none⟩)),(3,.pointer (some ⟨gb14,0,none⟩)),(5,.int .i64 s.1)] [.own (.slice A344 n345 c346) 47 4 n345 (s.2.flatMap Di),.own (.slice A150 n151 c152) 45 5 n151 (x149.flatMap Bq),.box gb14 25 [.slice A150 n151 c152,.slice A344 n345 c346],.box gb12 25 [.slice none 0 0,.slice none 0 0],.box gb10 25 [.slice A2 n3 c4,.slice A6 n7 c8]] [Sm w.heap.size F w [],St w []]) s:=by
    intro s hs
    refine Ar.ind (mot:=(fun (s:Int × (List D8))=>∀ (A344:Option Addr) (n345:Nat) (c346:Nat) (h347:Ow w.heap.size A344 n345 c346 s.2),G (J3 w F r) [.code Xd0,.inLoop Xd0,.inBlock 2,.code Xi8] [(1,.pointer (some ⟨gb10,0,none⟩)),(2,.pointer (some ⟨gb12,0,none⟩)),(3,.pointer (some ⟨gb14,0,none⟩)),(5,.int .i64 s.1)] [.own (.slice A344 n345 c346) 47 4 n345 (s.2.flatMap Di),.own (.slice A150 n151 c152) 45 5 n151 (x149.flatMap Bq),.box gb14 25 [.slice A150 n151 c152,.slice A344 n345 c346],.box gb12 25 [.slice none 0 0,.slice none 0 0],.box gb10 25 [.slice A2 n3 c4,.slice A6 n7 c8]] [Sm w.heap.size F w [],St w []])) ?_ hs
    clear hs s
    intro s o2 h hO2
    obtain ⟨x342,x343⟩:=s
    show ∀ (A344:Option Addr) (n345:Nat) (c346:Nat) (h347:Ow w.heap.size A344 n345 c346 x343),G (J3 w F r) [.code Xd0,.inLoop Xd0,.inBlock 2,.code Xi8] [(1,.pointer (some ⟨gb10,0,none⟩)),(2,.pointer (some ⟨gb12,0,none⟩)),(3,.pointer (some ⟨gb14,0,none⟩)),(5,.int .i64 x342)] [.own (.slice A344 n345 c346) 47 4 n345 (x343.flatMap Di),.own (.slice A150 n151 c152) 45 5 n151 (x149.flatMap Bq),.box gb14 25 [.slice A150 n151 c152,.slice A344 n345 c346],.box gb12 25 [.slice none 0 0,.slice none 0 0],.box gb10 25 [.slice A2 n3 c4,.slice A6 n7 c8]] [Sm w.heap.size F w [],St w []]
    intro A344 n345 c346 h347
    have h:Ie x1 x149 x342 x343 o2:=h
    unfold Ie at h
    refine Ag rfl<|Ag rfl<|Ac rfl rfl<|Aa 0 rfl (Ae rfl) gn rfl<|Aa 1 rfl (Bd Ik rfl) gn rfl<|Aa 2 rfl (Au 4 U8 rfl rfl rfl) gn rfl<|Aa 3 rfl (D5 Yu rfl h9.hq) gn rfl<|Aa 4 rfl (Ba rfl rfl rfl) gn rfl<|Ah 5 rfl ?_
    by_cases hp376:x342 < (x1.conds.length:Int)
    ·have h:=Ap hp376 h
     refine Bi rfl _ rfl ((decide_eq_true hp376))<|Bo rfl<|Ag rfl<|Bv rfl ?_
     obtain ⟨hb377,h⟩:=h
     obtain ⟨x385,hv386,h⟩:=h
     obtain ⟨hb387,h⟩:=h
     have hns:Region.noSelect (Code.ops q12c34)=true:=by kernel_rfl
     refine J7 [8,9,10] 11 rfl rfl mix rfl (.c 0 rfl (.c 1 rfl .n))<|wfv 0 rfl (Bd Ik rfl) gn hns (by kernel_rfl)<|wfv 1 rfl (Au 2 U8 rfl rfl rfl) gn hns (by kernel_rfl)<|wfv 2 rfl (Bd Ik rfl) gn hns (by kernel_rfl)<|wfv 3 rfl (Au 4 U8 rfl rfl rfl) gn hns (by kernel_rfl)<|wfv 4 rfl (Ae rfl) gn hns (by kernel_rfl) ?_
     have hr396:=Rw.readF (s:=St w []) (hl:=Nh) (h1:=Nc) h9 hb377
     refine wfv 5 rfl (Ef (s:=St w []) Zl rfl rfl h9 hb377) gn hns (by kernel_rfl)<|wfv 6 rfl (Q8 (St w []) Xf3 rfl hr396 rfl (me 1 rfl)) gn hns (by kernel_rfl) ?_
     refine Cf [7] (by kernel_rfl) rfl ⟨Ej 7 rfl gn rfl (Io (xs:=([ix x1.conds x342]:List D8)) [.bool ((ix x1.conds x342).not),.string ((ix x1.conds x342).a),.string ((ix x1.conds x342).b),.string ((ix x1.conds x342).text)] Xlc rfl (by kernel_rfl) rfl rfl rfl rfl fun gb399 h400=>?_),trivial⟩
     refine ⟨Bf [1,2,3,4,5] rfl,Bf [0,1] rfl,?_⟩
     refine Cf [8] (by kernel_rfl) rfl ⟨Ut 8 rfl gn rfl (Pn (zs:=x385) (cells':=x385.flatMap Di) 1 ap_23 rfl rfl rfl h347 (Nat.le_refl _) (Src.ownF (hl:=Nh) (h1:=Nc) 0 rfl h400) (by rw [hv386,List.flatMap_append] <;> rfl) (H9 hv386 h400.hq) hb387 rfl rfl fun A401 c402 h403=>?_),trivial⟩
     unfold NxL
     refine Cf [9] (by kernel_rfl) rfl ⟨Ut 9 rfl gn rfl (Ob (Bd Ik rfl) rfl ?_),trivial⟩
     unfold NxL
     refine Cf [10] (by kernel_rfl) rfl ⟨Ut 10 rfl gn rfl (I9 (vs:=[.slice A401 (n345 + 1) c402]) (cs':=[.slice A150 n151 c152,.slice A401 (n345 + 1) c402]) (M':=[.own (.slice (some ⟨gb399,0,none⟩) 1 1) 47 4 1 (([ix x1.conds x342]:List D8).flatMap Di),.own (.slice A401 (n345 + 1) c402) 47 4 (n345 + 1) (x385.flatMap Di),.own (.slice A150 n151 c152) 45 5 n151 (x149.flatMap Bq),.box gb14 25 [.slice A150 n151 c152,.slice A401 (n345 + 1) c402],.box gb12 25 [.slice none 0 0,.slice none 0 0],.box gb10 25 [.slice A2 n3 c4,.slice A6 n7 c8]]) 3 sz_23 rfl rfl rfl rfl rfl rfl rfl rfl rfl ?_),trivial⟩
     unfold NxL
     refine Et (by kernel_rfl)<|Bj<|Ac rfl rfl<|Aa 0 rfl (Ae rfl) gn rfl<|Aa 1 rfl (Ba rfl rfl rfl) gn rfl<|Aa 2 rfl (Af rfl) gn rfl<|Ah 3 rfl<|Cm ?_
     have ih:=Out.inl hO2 h
     exact D6 [0,1] (ih A401 (n345 + 1) c402 h403) ⟨rfl,rfl,rfl,rfl,trivial⟩ (.cons _ (.cons_cons _ (.cons_cons _ (.cons_cons _ (.cons_cons _ (.cons_cons _ (.slnil))))))) rfl
    ·have h:=Am hp376 h
     refine Bc rfl _ rfl ((decide_eq_false hp376))<|E8 [.code Xi8] rfl rfl<|Ag rfl<|Ac rfl rfl<|Aa 0 rfl (Ji [.slice A150 n151 c152,.slice A344 n345 c346] 2 O5 rfl rfl rfl rfl) gn rfl ?_
     refine Ci 1 rfl (I9 (vs:=[.slice A150 n151 c152,.slice A344 n345 c346]) (cs':=[.slice A150 n151 c152,.slice A344 n345 c346]) (M':=[.own (.slice A344 n345 c346) 47 4 n345 (x343.flatMap Di),.own (.slice A150 n151 c152) 45 5 n151 (x149.flatMap Bq),.box gb14 25 [.slice A150 n151 c152,.slice A344 n345 c346],.box gb12 25 [.slice A150 n151 c152,.slice A344 n345 c346],.box gb10 25 [.slice A2 n3 c4,.slice A6 n7 c8]]) 3 Xh8 rfl rfl rfl rfl rfl rfl rfl rfl rfl ?_) gn
     refine Ah 2 rfl ?_
     have h:=Out.inr hO2 h
     have h:=Out.inr hO1 h
     refine Bg [.agg #[.slice A150 n151 c152,.slice A344 n345 c346]] rfl Tryd.func12 rfl (.cell (cs:=[.slice A150 n151 c152,.slice A344 n345 c346]) (us:=[.slice A150 n151 c152,.slice A344 n345 c346]) 3 rfl O5 rfl rfl rfl (.nil)) fun wr hLr=>?_
     have hMr:=hLr.pkI (.c 1 rfl (.c 0 rfl .n)) (.c 2 rfl (.c 3 rfl (.c 4 rfl .n))) (by kernel_rfl) (.c 1 rfl .n)
     show V9 w F  r (.returned (Bz [.agg #[.slice A150 n151 c152,.slice A344 n345 c346]])) wr
     rw [h]
     exact ⟨A150,n151,c152,A344,n345,c346,rfl,hMr,h153,h347⟩
   refine Td 47 4 ?_
   exact D6 [0,1] (key2 _ h none 0 0 (Ow.nil (z:=w.heap.size))) ⟨rfl,rfl,rfl,rfl,trivial⟩ (.cons_cons _ (.cons_cons _ (.cons_cons _ (.cons_cons _ (.cons_cons _ (.slnil)))))) rfl
 refine Td 45 5 ?_
 exact D6 [0,1] (key1 _ h none 0 0 (Ow.nil (z:=w.heap.size))) ⟨rfl,rfl,rfl,rfl,trivial⟩ (.cons_cons _ (.cons_cons _ (.cons_cons _ (.cons_cons _ (.slnil))))) rfl
noncomputable abbrev q13c6:=Code.snd (Code.snd (Code.snd (Df Tryd.f13)))
noncomputable abbrev Xe9:=Code.fst (Code.fst (Code.snd (Code.fst (Code.snd (Code.snd (Df Tryd.f13))))))
abbrev Rk (w:World) (F:Nat→Prop) (r:List Ai):Ending→World→Prop:=fun e w'=>∃ A0:Option Addr,∃ n0:Nat,∃ c0:Nat,e=.returned (.slice A0 n0 c0)∧B.Loc w w' [.own (.slice A0 n0 c0) 56 7 n0 (r.flatMap Dz)] [St w []]∧Ow w.heap.size A0 n0 c0 r
noncomputable abbrev Ns (w:World) (F:Nat→Prop) (r:List Ai):Cx:=⟨Tryd.prog,13,Tryd.f13,19,Rk w F  r,w⟩
theorem I8 (w:World) (F:Nat→Prop) (x1:List Ai) (A2:Option Addr) (n3:Nat) (c4:Nat) (h5:Rw D9 w (St w []).av A2 n3 c4 x1) (hF:∀ b,F b→b < w.heap.size∧∀ o ∈ ([]:List (List Nat)),b ∉ o) (hL0:B.Loc w w [] [Sm w.heap.size F w [],St w []]) (r:List Ai) (h:Gx x1 r):Calls Tryd.prog 13 #[.slice A2 n3 c4] w (Rk w F  r):=by
 unfold Gx at h
 refine Bl (vs:=[.slice A2 n3 c4]) 19 Tryd.func13 rfl Tryd.ntmps13 rfl hL0 ?_
 show G (Ns w F r) _ _ _ _
 refine Ag rfl<|Ac rfl rfl<|Aa 0 rfl (Af rfl) gn rfl<|Ah 1 rfl<|Ag rfl<|Ac rfl rfl<|Aa 0 rfl (Af rfl) gn rfl<|Ah 1 rfl<|Ag rfl<|Ag rfl<|Ac rfl rfl<|Aa 0 rfl (Af rfl) gn rfl ?_
 refine Ah 1 rfl<|Bv rfl<|Ei rfl ?_
 have key1:∀ s,Ar (fun (s:(List Ai) × Int) o=>Gt x1 s.1 s.2 o) s r→(fun (s:(List Ai) × Int)=>∀ (A21:Option Addr) (n22:Nat) (c23:Nat) (h24:Ow w.heap.size A21 n22 c23 s.1),G (Ns w F r) [.code Xe9,.inLoop Xe9,.inBlock 0,.code q13c6] [(0,.slice A2 n3 c4),(3,.slice A21 n22 c23),(4,.int .i64 s.2)] [.own (.slice A21 n22 c23) 56 7 n22 (s.1.flatMap Dz)] [Sm w.heap.size F w [],St w []]) s:=by
  intro s hs
  refine Ar.ind (mot:=(fun (s:(List Ai) × Int)=>∀ (A21:Option Addr) (n22:Nat) (c23:Nat) (h24:Ow w.heap.size A21 n22 c23 s.1),G (Ns w F r) [.code Xe9,.inLoop Xe9,.inBlock 0,.code q13c6] [(0,.slice A2 n3 c4),(3,.slice A21 n22 c23),(4,.int .i64 s.2)] [.own (.slice A21 n22 c23) 56 7 n22 (s.1.flatMap Dz)] [Sm w.heap.size F w [],St w []])) ?_ hs
  clear hs s
  intro s o1 h hO1
  obtain ⟨x20,x25⟩:=s
  show ∀ (A21:Option Addr) (n22:Nat) (c23:Nat) (h24:Ow w.heap.size A21 n22 c23 x20),G (Ns w F r) [.code Xe9,.inLoop Xe9,.inBlock 0,.code q13c6] [(0,.slice A2 n3 c4),(3,.slice A21 n22 c23),(4,.int .i64 x25)] [.own (.slice A21 n22 c23) 56 7 n22 (x20.flatMap Dz)] [Sm w.heap.size F w [],St w []]
  intro A21 n22 c23 h24
  have h:Gt x1 x20 x25 o1:=h
  unfold Gt at h
  refine Ag rfl<|Ag rfl<|Ac rfl rfl<|Aa 0 rfl (Ae rfl) gn rfl<|Aa 1 rfl (Ae rfl) gn rfl<|Aa 2 rfl (D5 V3 rfl h5.hq) gn rfl<|Aa 3 rfl (Ba rfl rfl rfl) gn rfl<|Ah 4 rfl ?_
  by_cases hp38:x25 < (x1.length:Int)
  ·have h:=Ap hp38 h
   refine Bi rfl _ rfl ((decide_eq_true hp38))<|Bo rfl<|Ag rfl<|Bv rfl<|Ac rfl rfl<|Aa 0 rfl (Ae rfl) gn rfl<|Aa 1 rfl (Ae rfl) gn rfl<|Aa 2 rfl (Ae rfl) gn rfl ?_
   obtain ⟨hb39,h⟩:=h
   have hr40:=Rw.readF (s:=St w []) (hl:=Fh) (h1:=Gg) h5 hb39
   refine Aa 3 rfl (Ef (s:=St w []) Ro rfl rfl h5 hb39) gn rfl<|Aa 4 rfl (Q8 (St w []) Xb5 rfl hr40 rfl (me 1 rfl)) gn rfl ?_
   refine Ci 5 rfl (Io (xs:=([ix x1 x25]:List Ai)) [.string ((ix x1 x25).name),.bool ((ix x1 x25).named),.string ((ix x1 x25).field),.int .i64 ((ix x1 x25).from_),.int .i64 ((ix x1 x25).to),.int .i64 ((ix x1 x25).kids),.int .i64 ((ix x1 x25).leaf)] Xl1 rfl (by kernel_rfl) rfl rfl rfl rfl fun gb42 h43=>?_) gn
   obtain ⟨x47,hv48,h⟩:=h
   obtain ⟨hb49,h⟩:=h
   refine Ci 6 rfl (Pn (zs:=x47) (cells':=x47.flatMap Dz) 1 ap_26 rfl rfl rfl h24 (Nat.le_refl _) (Src.ownF (hl:=Fh) (h1:=Gg) 0 rfl h43) (by rw [hv48,List.flatMap_append] <;> rfl) (H9 hv48 h43.hq) hb49 rfl rfl fun A44 c45 h46=>?_) gn
   refine Aa 7 rfl (Af rfl) gn rfl<|Ah 8 rfl<|Bj<|Ac rfl rfl<|Aa 0 rfl (Ae rfl) gn rfl<|Aa 1 rfl (Ba rfl rfl rfl) gn rfl<|Aa 2 rfl (Af rfl) gn rfl<|Ah 3 rfl<|Cm ?_
   have ih:=Out.inl hO1 h
   exact D6 [0,1] (ih A44 (n22 + 1) c45 h46) ⟨rfl,rfl,rfl,trivial⟩ (.cons _ (.cons_cons _ (.slnil))) rfl
  ·have h:=Am hp38 h
   refine Bc rfl _ rfl ((decide_eq_false hp38))<|E8 [.code q13c6] rfl rfl<|Ag rfl<|Ac rfl rfl<|Aa 0 rfl (Ae rfl) gn rfl<|Aa 1 rfl (Af rfl) gn rfl<|Ah 2 rfl ?_
   have h:=Out.inr hO1 h
   refine Bg [.slice A21 n22 c23] rfl Tryd.func13 rfl (.tmp rfl (.nil)) fun wr hLr=>?_
   have hMr:=hLr.pkI (.c 0 rfl .n) .n (by kernel_rfl) (.c 1 rfl .n)
   show Rk w F  r (.returned (Bz [.slice A21 n22 c23])) wr
   rw [h]
   exact ⟨A21,n22,c23,rfl,hMr,h24⟩
 refine Td 56 7 ?_
 exact D6 [0,1] (key1 _ h none 0 0 (Ow.nil (z:=w.heap.size))) ⟨rfl,rfl,rfl,trivial⟩ (.cons_cons _ (.slnil)) rfl
noncomputable abbrev Xj6:=Code.snd (Code.snd (Code.snd (Df Tryd.f51)))
noncomputable abbrev Xdb:=Code.fst (Code.fst (Code.fst (Code.snd (Code.snd (Df Tryd.f51)))))
noncomputable abbrev q51c17:=Code.snd (Code.fst (Code.snd Xdb))
noncomputable abbrev q51c19:=Code.snd (Code.fst (Code.fst (Code.snd Xdb)))
abbrev Pi (w:World) (F:Nat→Prop) (r:Int):Ending→World→Prop:=fun e w'=>e=.returned (.int .i64 r)∧B.Loc w w' [] [St w []]
noncomputable abbrev Lc (w:World) (F:Nat→Prop) (r:Int):Cx:=⟨Tryd.prog,51,Tryd.f51,41,Pi w F  r,w⟩
theorem Px (w:World) (F:Nat→Prop) (x1:List Aj) (x6:Int) (A2:Option Addr) (n3:Nat) (c4:Nat) (h5:Rw Cb w (St w []).av A2 n3 c4 x1) (hF:∀ b,F b→b < w.heap.size∧∀ o ∈ ([]:List (List Nat)),b ∉ o) (hL0:B.Loc w w [] [Sm w.heap.size F w [],St w []]) (r:Int) (h:Ku x1 x6 r):Calls Tryd.prog 51 #[.slice A2 n3 c4,.int .i64 x6] w (Pi w F  r):=by
 unfold Ku at h
 refine Bl (vs:=[.slice A2 n3 c4,.int .i64 x6]) 41 Tryd.func51 rfl Tryd.ntmps51 rfl hL0 ?_
 show G (Lc w F r) _ _ _ _
 refine Ag rfl<|Ac rfl rfl<|Aa 0 rfl (Af rfl) gn rfl<|Ah 1 rfl<|Ag rfl<|Ac rfl rfl<|Aa 0 rfl (Af rfl) gn rfl<|Ah 1 rfl<|Ag rfl<|Bv rfl<|Ei rfl ?_
 have key1:∀ s,Ar (fun (s:Int × Int) o=>Ea x1 s.1 s.2 o) s r→(fun (s:Int × Int)=>∀ (_:Unit),G (Lc w F r) [.code Xdb,.inLoop Xdb,.inBlock 0,.code Xj6] [(0,.slice A2 n3 c4),(1,.int .i64 s.1),(5,.int .i64 s.2)] [] [Sm w.heap.size F w [],St w []]) s:=by
  intro s hs
  refine Ar.ind (mot:=(fun (s:Int × Int)=>∀ (_:Unit),G (Lc w F r) [.code Xdb,.inLoop Xdb,.inBlock 0,.code Xj6] [(0,.slice A2 n3 c4),(1,.int .i64 s.1),(5,.int .i64 s.2)] [] [Sm w.heap.size F w [],St w []])) ?_ hs
  clear hs s
  intro s o1 h hO1
  obtain ⟨x23,x24⟩:=s
  show ∀ (_:Unit),G (Lc w F r) [.code Xdb,.inLoop Xdb,.inBlock 0,.code Xj6] [(0,.slice A2 n3 c4),(1,.int .i64 x23),(5,.int .i64 x24)] [] [Sm w.heap.size F w [],St w []]
  intro _
  have h:Ea x1 x23 x24 o1:=h
  unfold Ea at h
  refine Ag rfl<|Ag rfl<|Ac rfl rfl<|Aa 0 rfl (Ae rfl) gn rfl<|Aa 1 rfl (Ba rfl rfl rfl) gn rfl<|Ah 2 rfl ?_
  by_cases hp41:x24 > 0
  ·have h:=Ap hp41 h
   refine Bi rfl _ rfl ((decide_eq_true hp41))<|Bo rfl<|Bv rfl<|Ag rfl<|Ag rfl ?_
   have j2:∀ (x48:Bool) (h:Eg x23 x1 x24 x48 o1) ,G (Lc w F r) [.code q51c19,.code q51c17,.inBlock 1,.inLoop Xdb,.inBlock 0,.code Xj6] [(0,.slice A2 n3 c4),(1,.int .i64 x23),(5,.int .i64 x24),(29,.bool x48)] [] [Sm w.heap.size F w [],St w []]:=by
    intro x48 h
    unfold Eg at h
    by_cases hp49:x48=true
    ·have h:=Ap hp49 h
     refine Bi rfl _ rfl (hp49)<|Ag rfl<|Ac rfl rfl<|Aa 0 rfl (Af rfl) gn rfl<|Ah 1 rfl ?_
     have h:=Out.inr hO1 h
     refine Bg [.int .i64 (-1)] rfl Tryd.func51 rfl (.tmp rfl (.nil)) fun wr hLr=>?_
     have hMr:=hLr.pk0 (.c 1 rfl .n)
     show Pi w F  r (.returned (Bz [.int .i64 (-1)])) wr
     rw [h]
     exact ⟨rfl,hMr⟩
    ·have h:=Am hp49 h
     refine Bc rfl _ rfl ((bf hp49))<|Bo rfl<|Ag rfl<|Ac rfl rfl<|Aa 0 rfl (Ae rfl) gn rfl<|Aa 1 rfl (Ba rfl rfl rfl) gn rfl<|Aa 2 rfl (Ae rfl) gn rfl<|Aa 3 rfl (Ae rfl) gn rfl ?_
     obtain ⟨hb50,h⟩:=h
     have hr51:=Rw.readF (s:=St w []) (hl:=Dp) (h1:=Du) h5 hb50
     refine Aa 4 rfl (Ef (s:=St w []) Oq rfl rfl h5 hb50) gn rfl<|Aa 5 rfl (Jq Vz rfl) gn rfl<|Aa 6 rfl (Le (kk:=(x23:Int).toNat * 5) (j:=4) (St w []) O9 rfl hr51 rfl (me 1 rfl)) gn rfl<|Aa 7 rfl (Ba rfl rfl rfl) gn rfl<|Aa 8 rfl (Af rfl) gn rfl<|Ah 9 rfl<|Ac rfl rfl<|Aa 0 rfl (Ae rfl) gn rfl<|Aa 1 rfl (Ba rfl rfl rfl) gn rfl<|Aa 2 rfl (Af rfl) gn rfl<|Ah 3 rfl<|Bj ?_
     refine Cm ?_
     have ih:=Out.inl hO1 h
     exact D6 [0,1] (ih ()) ⟨rfl,rfl,rfl,trivial⟩ (.slnil) rfl
   refine Ac rfl rfl<|Aa 0 rfl (Ae rfl) gn rfl<|Aa 1 rfl (Ae rfl) gn rfl<|Aa 2 rfl (D5 Tm rfl h5.hq) gn rfl<|Aa 3 rfl (Ba rfl rfl rfl) gn rfl<|Aa 4 rfl (Ae rfl) gn rfl ?_
   by_cases hp52:x23≥(x1.length:Int)
   ·have h:=Ap hp52 h
    refine Bh 12 rfl ((decide_eq_true hp52))<|Ad 5 rfl (ps 12 rfl rfl rfl)<|Ad 6 rfl (ps 12 rfl rfl rfl)<|Ad 7 rfl (ps 12 rfl rfl rfl)<|Ad 8 rfl (ps 12 rfl rfl rfl)<|Ad 9 rfl (ps 12 rfl rfl rfl)<|Ad 10 rfl (ps 12 rfl rfl rfl)<|Aa 11 rfl (Aw (b:=true) rfl rfl) gn rfl<|Aa 12 rfl (Ae rfl) gn rfl<|Ad 13 rfl (ps 20 rfl rfl rfl)<|Ad 14 rfl (ps 20 rfl rfl rfl)<|Ad 15 rfl (ps 20 rfl rfl rfl) ?_
    refine Ad 16 rfl (ps 20 rfl rfl rfl)<|Ad 17 rfl (ps 20 rfl rfl rfl)<|Ad 18 rfl (ps 20 rfl rfl rfl)<|Ad 19 rfl (ps 20 rfl rfl rfl)<|Ad 20 rfl (ps 20 rfl rfl rfl)<|Aa 21 rfl (Aw (b:=true) rfl rfl) gn rfl<|Ah 22 rfl ?_
    exact D6 [0,1] (j2 true h) ⟨rfl,rfl,rfl,rfl,trivial⟩ (.slnil) rfl
   ·have h:=Am hp52 h
    refine Bh 12 rfl ((decide_eq_false hp52))<|Aa 5 rfl (Ae rfl) (gy 12 rfl rfl) rfl<|Aa 6 rfl (Ae rfl) (gy 12 rfl rfl) rfl ?_
    obtain ⟨hb53,h⟩:=h
    have hr54:=Rw.readF (s:=St w []) (hl:=Dp) (h1:=Du) h5 hb53
    refine Aa 7 rfl (Ef (s:=St w []) Oq rfl rfl h5 hb53) (gy 12 rfl rfl) rfl<|Aa 8 rfl (Jq Vz rfl) (gy 12 rfl rfl) rfl<|Aa 9 rfl (Le (kk:=(x23:Int).toNat * 5) (j:=4) (St w []) O9 rfl hr54 rfl (me 1 rfl)) (gy 12 rfl rfl) rfl<|Aa 10 rfl (Ba rfl rfl rfl) (gy 12 rfl rfl) rfl<|Aa 11 rfl (Aw (b:=false) rfl rfl) gn rfl<|Aa 12 rfl (Ae rfl) gn rfl ?_
    by_cases hp55:(ix x1 x23).kids < 0
    ·have h:=Ap hp55 h
     refine Bh 20 rfl ((decide_eq_true hp55))<|Ad 13 rfl (ps 20 rfl rfl rfl)<|Ad 14 rfl (ps 20 rfl rfl rfl)<|Ad 15 rfl (ps 20 rfl rfl rfl)<|Ad 16 rfl (ps 20 rfl rfl rfl)<|Ad 17 rfl (ps 20 rfl rfl rfl)<|Ad 18 rfl (ps 20 rfl rfl rfl)<|Ad 19 rfl (ps 20 rfl rfl rfl)<|Ad 20 rfl (ps 20 rfl rfl rfl)<|Aa 21 rfl (Aw (b:=true) rfl rfl) gn rfl<|Ah 22 rfl ?_
     exact D6 [0,1] (j2 true h) ⟨rfl,rfl,rfl,rfl,trivial⟩ (.slnil) rfl
    ·have h:=Am hp55 h
     refine Bh 20 rfl ((decide_eq_false hp55))<|Aa 13 rfl (Ae rfl) (gy 20 rfl rfl) rfl<|Aa 14 rfl (Ae rfl) (gy 20 rfl rfl) rfl ?_
     have hr56:=Rw.readF (s:=St w []) (hl:=Dp) (h1:=Du) h5 hb53
     refine Aa 15 rfl (Ef (s:=St w []) Oq rfl rfl h5 hb53) (gy 20 rfl rfl) rfl<|Aa 16 rfl (Jq Vz rfl) (gy 20 rfl rfl) rfl<|Aa 17 rfl (Le (kk:=(x23:Int).toNat * 5) (j:=4) (St w []) O9 rfl hr56 rfl (me 1 rfl)) (gy 20 rfl rfl) rfl<|Aa 18 rfl (Ae rfl) (gy 20 rfl rfl) rfl<|Aa 19 rfl (D5 Tm rfl h5.hq) (gy 20 rfl rfl) rfl<|Aa 20 rfl (Ba rfl rfl rfl) (gy 20 rfl rfl) rfl<|Aa 21 rfl (Aw (b:=false) rfl rfl) gn rfl<|Ah 22 rfl ?_
     exact D6 [0,1] (j2 (decide ((ix x1 x23).kids > (x1.length:Int))) h) ⟨rfl,rfl,rfl,rfl,trivial⟩ (.slnil) rfl
  ·have h:=Am hp41 h
   refine Bc rfl _ rfl ((decide_eq_false hp41))<|E8 [.code Xj6] rfl rfl<|Ag rfl<|Ac rfl rfl<|Aa 0 rfl (Ae rfl) gn rfl<|Aa 1 rfl (Af rfl) gn rfl<|Ah 2 rfl ?_
   have h:=Out.inr hO1 h
   refine Bg [.int .i64 x23] rfl Tryd.func51 rfl (.tmp rfl (.nil)) fun wr hLr=>?_
   have hMr:=hLr.pk0 (.c 1 rfl .n)
   show Pi w F  r (.returned (Bz [.int .i64 x23])) wr
   rw [h]
   exact ⟨rfl,hMr⟩
 exact D6 [0,1] (key1 _ h ()) ⟨rfl,rfl,rfl,trivial⟩ (.slnil) rfl
noncomputable abbrev q95c4:=Code.snd (Code.snd (Df Tryd.f95))
noncomputable abbrev Xhh:=Code.fst (Code.fst (Code.snd (Code.fst (Code.snd (Df Tryd.f95)))))
abbrev Ux (w:World) (F:Nat→Prop) (r:Bool):Ending→World→Prop:=fun e w'=>e=.returned (.bool r)∧B.Loc w w' [] [St w []]
noncomputable abbrev Uu (w:World) (F:Nat→Prop) (r:Bool):Cx:=⟨Tryd.prog,95,Tryd.f95,17,Ux w F  r,w⟩
theorem Ug (w:World) (F:Nat→Prop) (x1:ByteArray) (x2:Int) (hF:∀ b,F b→b < w.heap.size∧∀ o ∈ ([]:List (List Nat)),b ∉ o) (hL0:B.Loc w w [] [Sm w.heap.size F w [],St w []]) (r:Bool) (h:P5 x1 x2 r):Calls Tryd.prog 95 #[.string x1,.int .u8 x2] w (Ux w F  r):=by
 unfold P5 at h
 refine Bl (vs:=[.string x1,.int .u8 x2]) 17 Tryd.func95 rfl Tryd.ntmps95 rfl hL0 ?_
 show G (Uu w F r) _ _ _ _
 refine Ag rfl<|Ac rfl rfl<|Aa 0 rfl (Af rfl) gn rfl<|Ah 1 rfl<|Ag rfl<|Ag rfl<|Ac rfl rfl<|Aa 0 rfl (Af rfl) gn rfl<|Ah 1 rfl<|Bv rfl<|Ei rfl ?_
 have key1:∀ s,Ar (fun (s:Int) o=>Qi x1 x2 s o) s r→(fun (s:Int)=>∀ (_:Unit),G (Uu w F r) [.code Xhh,.inLoop Xhh,.inBlock 0,.code q95c4] [(0,.string x1),(1,.int .u8 x2),(5,.int .i64 s)] [] [Sm w.heap.size F w [],St w []]) s:=by
  intro s hs
  refine Ar.ind (mot:=(fun (s:Int)=>∀ (_:Unit),G (Uu w F r) [.code Xhh,.inLoop Xhh,.inBlock 0,.code q95c4] [(0,.string x1),(1,.int .u8 x2),(5,.int .i64 s)] [] [Sm w.heap.size F w [],St w []])) ?_ hs
  clear hs s
  intro x7 o1 h hO1
  show ∀ (_:Unit),G (Uu w F r) [.code Xhh,.inLoop Xhh,.inBlock 0,.code q95c4] [(0,.string x1),(1,.int .u8 x2),(5,.int .i64 x7)] [] [Sm w.heap.size F w [],St w []]
  intro _
  have h:Qi x1 x2 x7 o1:=h
  unfold Qi at h
  refine Ag rfl<|Ag rfl<|Ac rfl rfl<|Aa 0 rfl (Ae rfl) gn rfl<|Aa 1 rfl (Ae rfl) gn rfl<|Aa 2 rfl (Vb Un rfl) gn rfl<|Aa 3 rfl (Ba rfl rfl rfl) gn rfl<|Ah 4 rfl ?_
  by_cases hp11:x7 < (x1.size:Int)
  ·have h:=Ap hp11 h
   refine Bi rfl _ rfl ((decide_eq_true hp11))<|Bo rfl<|Ag rfl<|Bv rfl<|Ag rfl<|Ac rfl rfl<|Aa 0 rfl (Ae rfl) gn rfl<|Aa 1 rfl (Ae rfl) gn rfl ?_
   obtain ⟨hb12,h⟩:=h
   refine Aa 2 rfl (Oa Un rfl rfl hb12) gn rfl<|Aa 3 rfl (Ae rfl) gn rfl<|Aa 4 rfl (Ba rfl rfl rfl) gn rfl<|Ah 5 rfl ?_
   by_cases hp13:bt x1 x7=x2
   ·have h:=Ap hp13 h
    refine Bi rfl _ rfl ((eqi hp13))<|Ag rfl<|Ac rfl rfl<|Aa 0 rfl (Af rfl) gn rfl<|Ah 1 rfl ?_
    have h:=Out.inr hO1 h
    refine Bg [.bool true] rfl Tryd.func95 rfl (.tmp rfl (.nil)) fun wr hLr=>?_
    have hMr:=hLr.pk0 (.c 1 rfl .n)
    show Ux w F  r (.returned (Bz [.bool true])) wr
    rw [h]
    exact ⟨rfl,hMr⟩
   ·have h:=Am hp13 h
    refine Bc rfl _ rfl ((nei hp13))<|Bo rfl<|Bj<|Ac rfl rfl<|Aa 0 rfl (Ae rfl) gn rfl<|Aa 1 rfl (Ba rfl rfl rfl) gn rfl<|Aa 2 rfl (Af rfl) gn rfl<|Ah 3 rfl<|Cm ?_
    have ih:=Out.inl hO1 h
    exact D6 [0,1] (ih ()) ⟨rfl,rfl,rfl,trivial⟩ (.slnil) rfl
  ·have h:=Am hp11 h
   refine Bc rfl _ rfl ((decide_eq_false hp11))<|E8 [.code q95c4] rfl rfl<|Ag rfl<|Ac rfl rfl<|Aa 0 rfl (Af rfl) gn rfl<|Ah 1 rfl ?_
   have h:=Out.inr hO1 h
   refine Bg [.bool false] rfl Tryd.func95 rfl (.tmp rfl (.nil)) fun wr hLr=>?_
   have hMr:=hLr.pk0 (.c 1 rfl .n)
   show Ux w F  r (.returned (Bz [.bool false])) wr
   rw [h]
   exact ⟨rfl,hMr⟩
 exact D6 [0,1] (key1 _ h ()) ⟨rfl,rfl,rfl,trivial⟩ (.slnil) rfl
noncomputable abbrev Xjw:=Code.snd (Code.snd (Code.snd (Df Tryd.f96)))
noncomputable abbrev Xh3:=Code.fst (Code.fst (Code.fst (Code.snd (Code.snd (Df Tryd.f96)))))
abbrev Tz (w:World) (F:Nat→Prop) (r:Int):Ending→World→Prop:=fun e w'=>e=.returned (.int .i64 r)∧B.Loc w w' [] [St w []]
noncomputable abbrev U3 (w:World) (F:Nat→Prop) (r:Int):Cx:=⟨Tryd.prog,96,Tryd.f96,26,Tz w F  r,w⟩
theorem Xb0 (w:World) (F:Nat→Prop) (x1:ByteArray) (x2:Int) (x3:ByteArray) (hF:∀ b,F b→b < w.heap.size∧∀ o ∈ ([]:List (List Nat)),b ∉ o) (hL0:B.Loc w w [] [Sm w.heap.size F w [],St w []]) (r:Int) (h:Tc x1 x2 x3 r):Calls Tryd.prog 96 #[.string x1,.int .i64 x2,.string x3] w (Tz w F  r):=by
 unfold Tc at h
 refine Bl (vs:=[.string x1,.int .i64 x2,.string x3]) 26 Tryd.func96 rfl Tryd.ntmps96 rfl hL0 ?_
 show G (U3 w F r) _ _ _ _
 refine Ag rfl<|Ac rfl rfl<|Aa 0 rfl (Af rfl) gn rfl<|Ah 1 rfl<|Ag rfl<|Ac rfl rfl<|Aa 0 rfl (Af rfl) gn rfl<|Ah 1 rfl<|Ag rfl<|Bv rfl<|Ei rfl ?_
 have key1:∀ s,Ar (fun (s:Int) o=>Oz x2 x1 x3 s o) s r→(fun (s:Int)=>∀ (_:Unit),G (U3 w F r) [.code Xh3,.inLoop Xh3,.inBlock 0,.code Xjw] [(0,.string x1),(1,.int .i64 x2),(2,.string x3),(7,.int .i64 s)] [] [Sm w.heap.size F w [],St w []]) s:=by
  intro s hs
  refine Ar.ind (mot:=(fun (s:Int)=>∀ (_:Unit),G (U3 w F r) [.code Xh3,.inLoop Xh3,.inBlock 0,.code Xjw] [(0,.string x1),(1,.int .i64 x2),(2,.string x3),(7,.int .i64 s)] [] [Sm w.heap.size F w [],St w []])) ?_ hs
  clear hs s
  intro x16 o1 h hO1
  show ∀ (_:Unit),G (U3 w F r) [.code Xh3,.inLoop Xh3,.inBlock 0,.code Xjw] [(0,.string x1),(1,.int .i64 x2),(2,.string x3),(7,.int .i64 x16)] [] [Sm w.heap.size F w [],St w []]
  intro _
  have h:Oz x2 x1 x3 x16 o1:=h
  unfold Oz at h
  refine Ag rfl<|Ag rfl<|Ac rfl rfl<|Aa 0 rfl (Ae rfl) gn rfl<|Aa 1 rfl (Ae rfl) gn rfl<|Aa 2 rfl (Ba rfl rfl rfl) gn rfl<|Aa 3 rfl (Ae rfl) gn rfl<|Aa 4 rfl (Vb Un rfl) gn rfl<|Aa 5 rfl (Ba rfl rfl rfl) gn rfl<|Aa 6 rfl (Ae rfl) gn rfl ?_
  by_cases hp28:w64 (x2 + x16) < (x1.size:Int)
  ·have h:=Ap hp28 h
   refine Bh 14 rfl ((decide_eq_true hp28))<|Aa 7 rfl (Ae rfl) (gy 14 rfl rfl) rfl<|Aa 8 rfl (Ae rfl) (gy 14 rfl rfl) rfl<|Aa 9 rfl (Ae rfl) (gy 14 rfl rfl) rfl<|Aa 10 rfl (Ae rfl) (gy 14 rfl rfl) rfl<|Aa 11 rfl (Ba rfl rfl rfl) (gy 14 rfl rfl) rfl ?_
   obtain ⟨hb29,h⟩:=h
   refine Aa 12 rfl (Oa Un rfl rfl hb29) (gy 14 rfl rfl) rfl ?_
   obtain ⟨r33,hv34,h⟩:=h
   refine Ci 13 rfl (D7 [.string x3,.int .u8 (bt x1 (w64 (x2 + x16)))] rfl Tryd.func95 rfl rfl rfl fun w30 hL31=>?_) (gy 14 rfl rfl)
   have hp32:=pmI hL31 .n .n (by kernel_rfl)
   refine Calls.mono (Ug w30 (Fl ([]:List Cc)) x3 (bt x1 (w64 (x2 + x16))) (hL31.hFl hp32 (Bf [] rfl)) (hL31.into hp32 _) r33 hv34) ?_
   rintro _ w35 ⟨rfl,hM36⟩
   have hL37:=hL31.call hp32 hM36
   refine ⟨_,_,_,rfl,hL37,?_⟩
   refine Aa 14 rfl (Aw (b:=true) rfl rfl) gn rfl<|Ah 15 rfl ?_
   by_cases hp38:r33=true
   ·have h:=Ap hp38 h
    refine Bi rfl _ rfl (hp38)<|Bo rfl<|Bv rfl<|Ac rfl rfl<|Aa 0 rfl (Ae rfl) gn rfl<|Aa 1 rfl (Ba rfl rfl rfl) gn rfl<|Aa 2 rfl (Af rfl) gn rfl<|Ah 3 rfl<|Bj<|Cm ?_
    have ih:=Out.inl hO1 h
    exact D6 [0,1] (ih ()) ⟨rfl,rfl,rfl,rfl,trivial⟩ (.slnil) rfl
   ·have h:=Am hp38 h
    refine Bc rfl _ rfl ((bf hp38))<|E8 [.code Xjw] rfl rfl<|Ag rfl<|Ac rfl rfl<|Aa 0 rfl (Ae rfl) gn rfl<|Aa 1 rfl (Af rfl) gn rfl<|Ah 2 rfl ?_
    have h:=Out.inr hO1 h
    refine Bg [.int .i64 x16] rfl Tryd.func96 rfl (.tmp rfl (.nil)) fun wr hLr=>?_
    have hMr:=hLr.pk0 (.c 1 rfl .n)
    show Tz w F  r (.returned (Bz [.int .i64 x16])) wr
    rw [h]
    exact ⟨rfl,hMr⟩
  ·have h:=Am hp28 h
   refine Bh 14 rfl ((decide_eq_false hp28))<|Ad 7 rfl (ps 14 rfl rfl rfl)<|Ad 8 rfl (ps 14 rfl rfl rfl)<|Ad 9 rfl (ps 14 rfl rfl rfl)<|Ad 10 rfl (ps 14 rfl rfl rfl)<|Ad 11 rfl (ps 14 rfl rfl rfl)<|Ad 12 rfl (ps 14 rfl rfl rfl)<|Ad 13 rfl (ps 14 rfl rfl rfl)<|Aa 14 rfl (Aw (b:=false) rfl rfl) gn rfl<|Ah 15 rfl<|Bc rfl _ rfl (rfl)<|E8 [.code Xjw] rfl rfl ?_
   refine Ag rfl<|Ac rfl rfl<|Aa 0 rfl (Ae rfl) gn rfl<|Aa 1 rfl (Af rfl) gn rfl<|Ah 2 rfl ?_
   have h:=Out.inr hO1 h
   refine Bg [.int .i64 x16] rfl Tryd.func96 rfl (.tmp rfl (.nil)) fun wr hLr=>?_
   have hMr:=hLr.pk0 (.c 1 rfl .n)
   show Tz w F  r (.returned (Bz [.int .i64 x16])) wr
   rw [h]
   exact ⟨rfl,hMr⟩
 exact D6 [0,1] (key1 _ h ()) ⟨rfl,rfl,rfl,rfl,trivial⟩ (.slnil) rfl
noncomputable abbrev Xiz:=Code.snd (Code.snd (Code.snd (Df Tryd.f97)))
noncomputable abbrev Xdd:=Code.fst (Code.fst (Code.fst (Code.snd (Code.snd (Df Tryd.f97)))))
noncomputable abbrev q97c10:=Code.snd Xdd
noncomputable abbrev q97c12:=Code.snd (Code.fst Xdd)
abbrev Qw (w:World) (F:Nat→Prop) (r:Int):Ending→World→Prop:=fun e w'=>e=.returned (.int .i64 r)∧B.Loc w w' [] [St w []]
noncomputable abbrev O4 (w:World) (F:Nat→Prop) (r:Int):Cx:=⟨Tryd.prog,97,Tryd.f97,46,Qw w F  r,w⟩
theorem Zy (w:World) (F:Nat→Prop) (x1:ByteArray) (x2:Int) (hF:∀ b,F b→b < w.heap.size∧∀ o ∈ ([]:List (List Nat)),b ∉ o) (hL0:B.Loc w w [] [Sm w.heap.size F w [],St w []]) (r:Int) (h:Qc x1 x2 r):Calls Tryd.prog 97 #[.string x1,.int .i64 x2] w (Qw w F  r):=by
 unfold Qc at h
 refine Bl (vs:=[.string x1,.int .i64 x2]) 46 Tryd.func97 rfl Tryd.ntmps97 rfl hL0 ?_
 show G (O4 w F r) _ _ _ _
 refine Ag rfl<|Ac rfl rfl<|Aa 0 rfl (Af rfl) gn rfl<|Ah 1 rfl<|Ag rfl<|Ac rfl rfl<|Aa 0 rfl (Ae rfl) gn rfl<|Aa 1 rfl (Ba rfl rfl rfl) gn rfl<|Aa 2 rfl (Af rfl) gn rfl<|Ah 3 rfl<|Ag rfl<|Bv rfl ?_
 refine Ei rfl ?_
 have key1:∀ s,Ar (fun (s:Int) o=>He x1 s o) s r→(fun (s:Int)=>∀ (_:Unit),G (O4 w F r) [.code Xdd,.inLoop Xdd,.inBlock 0,.code Xiz] [(0,.string x1),(5,.int .i64 s)] [] [Sm w.heap.size F w [],St w []]) s:=by
  intro s hs
  refine Ar.ind (mot:=(fun (s:Int)=>∀ (_:Unit),G (O4 w F r) [.code Xdd,.inLoop Xdd,.inBlock 0,.code Xiz] [(0,.string x1),(5,.int .i64 s)] [] [Sm w.heap.size F w [],St w []])) ?_ hs
  clear hs s
  intro x17 o1 h hO1
  show ∀ (_:Unit),G (O4 w F r) [.code Xdd,.inLoop Xdd,.inBlock 0,.code Xiz] [(0,.string x1),(5,.int .i64 x17)] [] [Sm w.heap.size F w [],St w []]
  intro _
  have h:He x1 x17 o1:=h
  unfold He at h
  refine Ag rfl<|Ag rfl ?_
  have j2:∀ (x34:Bool) (h:Ii x17 x1 x34 o1) ,G (O4 w F r) [.code q97c12,.code q97c10,.inLoop Xdd,.inBlock 0,.code Xiz] [(0,.string x1),(5,.int .i64 x17),(17,.bool x34)] [] [Sm w.heap.size F w [],St w []]:=by
   intro x34 h
   unfold Ii at h
   by_cases hp35:x34=true
   ·have h:=Ap hp35 h
    refine Bi rfl _ rfl (hp35)<|Bo rfl<|Bv rfl<|Ag rfl<|Ag rfl<|Ac rfl rfl<|Aa 0 rfl (Ae rfl) gn rfl<|Aa 1 rfl (Ae rfl) gn rfl ?_
    obtain ⟨hb36,h⟩:=h
    refine Aa 2 rfl (Oa Un rfl rfl hb36) gn rfl<|Aa 3 rfl (Ba rfl rfl rfl) gn rfl<|Ah 4 rfl ?_
    by_cases hp37:bt x1 x17=47
    ·have h:=Ap hp37 h
     refine Bi rfl _ rfl ((eqi hp37))<|Ag rfl<|Ac rfl rfl<|Aa 0 rfl (Ae rfl) gn rfl<|Aa 1 rfl (Ba rfl rfl rfl) gn rfl<|Aa 2 rfl (Af rfl) gn rfl<|Ah 3 rfl ?_
     have h:=Out.inr hO1 h
     refine Bg [.int .i64 (w64 (x17 + 1))] rfl Tryd.func97 rfl (.tmp rfl (.nil)) fun wr hLr=>?_
     have hMr:=hLr.pk0 (.c 1 rfl .n)
     show Qw w F  r (.returned (Bz [.int .i64 (w64 (x17 + 1))])) wr
     rw [h]
     exact ⟨rfl,hMr⟩
    ·have h:=Am hp37 h
     refine Bc rfl _ rfl ((nei hp37))<|Bo rfl<|Ag rfl<|Ag rfl<|Ac rfl rfl<|Aa 0 rfl (Ae rfl) gn rfl<|Aa 1 rfl (Ae rfl) gn rfl<|Aa 2 rfl (Oa Un rfl rfl hb36) gn rfl<|Aa 3 rfl (Ba rfl rfl rfl) gn rfl<|Aa 4 rfl (Ae rfl) gn rfl ?_
     by_cases hp38:bt x1 x17=92
     ·have h:=Ap hp38 h
      refine Bh 28 rfl ((eqi hp38))<|Aa 5 rfl (Ae rfl) (gy 28 rfl rfl) rfl<|Aa 6 rfl (Ba rfl rfl rfl) (gy 28 rfl rfl) rfl<|Aa 7 rfl (Ae rfl) (gy 28 rfl rfl) rfl<|Aa 8 rfl (Vb Un rfl) (gy 28 rfl rfl) rfl<|Aa 9 rfl (Ba rfl rfl rfl) (gy 28 rfl rfl) rfl<|Aa 10 rfl (Aw (b:=true) rfl rfl) gn rfl<|Aa 11 rfl (Ae rfl) gn rfl ?_
      by_cases hp39:w64 (x17 + 1) < (x1.size:Int)
      ·have h:=Ap hp39 h
       refine Bh 35 rfl ((decide_eq_true hp39))<|Aa 12 rfl (Ae rfl) (gy 35 rfl rfl) rfl<|Aa 13 rfl (Ae rfl) (gy 35 rfl rfl) rfl<|Aa 14 rfl (Ba rfl rfl rfl) (gy 35 rfl rfl) rfl ?_
       obtain ⟨hb40,h⟩:=h
       refine Aa 15 rfl (Oa Un rfl rfl hb40) (gy 35 rfl rfl) rfl<|Aa 16 rfl (Ba rfl rfl rfl) (gy 35 rfl rfl) rfl<|Aa 17 rfl (Aw (b:=true) rfl rfl) gn rfl<|Ah 18 rfl ?_
       by_cases hp41:bt x1 (w64 (x17 + 1))=10
       ·have h:=Ap hp41 h
        refine Bc rfl _ rfl ((eqib hp41))<|Bo rfl<|Ac rfl rfl<|Aa 0 rfl (Ae rfl) gn rfl<|Aa 1 rfl (Ba rfl rfl rfl) gn rfl<|Aa 2 rfl (Af rfl) gn rfl<|Ah 3 rfl<|Bj<|Cm ?_
        have ih:=Out.inl hO1 h
        exact D6 [0,1] (ih ()) ⟨rfl,rfl,trivial⟩ (.slnil) rfl
       ·have h:=Am hp41 h
        refine Bi rfl _ rfl ((neib hp41))<|Ac rfl rfl<|Aa 0 rfl (Ae rfl) gn rfl<|Aa 1 rfl (Ba rfl rfl rfl) gn rfl<|Aa 2 rfl (Af rfl) gn rfl<|Ah 3 rfl<|Ac rfl rfl<|Aa 0 rfl (Ae rfl) gn rfl<|Aa 1 rfl (Ba rfl rfl rfl) gn rfl<|Aa 2 rfl (Af rfl) gn rfl<|Ah 3 rfl<|Bj ?_
        refine Cm ?_
        have ih:=Out.inl hO1 h
        exact D6 [0,1] (ih ()) ⟨rfl,rfl,trivial⟩ (.slnil) rfl
      ·have h:=Am hp39 h
       refine Bh 35 rfl ((decide_eq_false hp39))<|Ad 12 rfl (ps 35 rfl rfl rfl)<|Ad 13 rfl (ps 35 rfl rfl rfl)<|Ad 14 rfl (ps 35 rfl rfl rfl)<|Ad 15 rfl (ps 35 rfl rfl rfl)<|Ad 16 rfl (ps 35 rfl rfl rfl)<|Aa 17 rfl (Aw (b:=false) rfl rfl) gn rfl<|Ah 18 rfl<|Bc rfl _ rfl (rfl)<|Bo rfl<|Ac rfl rfl<|Aa 0 rfl (Ae rfl) gn rfl ?_
       refine Aa 1 rfl (Ba rfl rfl rfl) gn rfl<|Aa 2 rfl (Af rfl) gn rfl<|Ah 3 rfl<|Bj<|Cm ?_
       have ih:=Out.inl hO1 h
       exact D6 [0,1] (ih ()) ⟨rfl,rfl,trivial⟩ (.slnil) rfl
     ·have h:=Am hp38 h
      refine Bh 28 rfl ((nei hp38))<|Ad 5 rfl (ps 28 rfl rfl rfl)<|Ad 6 rfl (ps 28 rfl rfl rfl)<|Ad 7 rfl (ps 28 rfl rfl rfl)<|Ad 8 rfl (ps 28 rfl rfl rfl)<|Ad 9 rfl (ps 28 rfl rfl rfl)<|Aa 10 rfl (Aw (b:=false) rfl rfl) gn rfl<|Aa 11 rfl (Ae rfl) gn rfl<|Ad 12 rfl (ps 35 rfl rfl rfl)<|Ad 13 rfl (ps 35 rfl rfl rfl)<|Ad 14 rfl (ps 35 rfl rfl rfl)<|Ad 15 rfl (ps 35 rfl rfl rfl) ?_
      refine Ad 16 rfl (ps 35 rfl rfl rfl)<|Aa 17 rfl (Aw (b:=false) rfl rfl) gn rfl<|Ah 18 rfl<|Bc rfl _ rfl (rfl)<|Bo rfl<|Ac rfl rfl<|Aa 0 rfl (Ae rfl) gn rfl<|Aa 1 rfl (Ba rfl rfl rfl) gn rfl<|Aa 2 rfl (Af rfl) gn rfl<|Ah 3 rfl<|Bj<|Cm ?_
      have ih:=Out.inl hO1 h
      exact D6 [0,1] (ih ()) ⟨rfl,rfl,trivial⟩ (.slnil) rfl
   ·have h:=Am hp35 h
    refine Bc rfl _ rfl ((bf hp35))<|E8 [.code Xiz] rfl rfl<|Ag rfl<|Ac rfl rfl<|Aa 0 rfl (Af rfl) gn rfl<|Ah 1 rfl ?_
    have h:=Out.inr hO1 h
    refine Bg [.int .i64 0] rfl Tryd.func97 rfl (.tmp rfl (.nil)) fun wr hLr=>?_
    have hMr:=hLr.pk0 (.c 1 rfl .n)
    show Qw w F  r (.returned (Bz [.int .i64 0])) wr
    rw [h]
    exact ⟨rfl,hMr⟩
  refine Ac rfl rfl<|Aa 0 rfl (Ae rfl) gn rfl<|Aa 1 rfl (Ae rfl) gn rfl<|Aa 2 rfl (Vb Un rfl) gn rfl<|Aa 3 rfl (Ba rfl rfl rfl) gn rfl<|Aa 4 rfl (Ae rfl) gn rfl ?_
  by_cases hp42:x17 < (x1.size:Int)
  ·have h:=Ap hp42 h
   refine Bh 12 rfl ((decide_eq_true hp42))<|Aa 5 rfl (Ae rfl) (gy 12 rfl rfl) rfl<|Aa 6 rfl (Ae rfl) (gy 12 rfl rfl) rfl ?_
   obtain ⟨hb43,h⟩:=h
   refine Aa 7 rfl (Oa Un rfl rfl hb43) (gy 12 rfl rfl) rfl<|Aa 8 rfl (Ba rfl rfl rfl) (gy 12 rfl rfl) rfl<|Aa 9 rfl (Aw (b:=true) rfl rfl) gn rfl<|Ah 10 rfl ?_
   exact D6 [0,1] (j2 ((bt x1 x17) != 10) h) ⟨rfl,rfl,rfl,trivial⟩ (.slnil) rfl
  ·have h:=Am hp42 h
   refine Bh 12 rfl ((decide_eq_false hp42))<|Ad 5 rfl (ps 12 rfl rfl rfl)<|Ad 6 rfl (ps 12 rfl rfl rfl)<|Ad 7 rfl (ps 12 rfl rfl rfl)<|Ad 8 rfl (ps 12 rfl rfl rfl)<|Aa 9 rfl (Aw (b:=false) rfl rfl) gn rfl<|Ah 10 rfl ?_
   exact D6 [0,1] (j2 false h) ⟨rfl,rfl,rfl,trivial⟩ (.slnil) rfl
 exact D6 [0,1] (key1 _ h ()) ⟨rfl,rfl,trivial⟩ (.slnil) rfl
abbrev Eb (w:World) (F:Nat→Prop) (r:Bool):Ending→World→Prop:=fun e w'=>e=.returned (.bool r)∧B.Loc w w' [] [St w []]
noncomputable abbrev Xc3 (w:World) (F:Nat→Prop) (r:Bool):Cx:=⟨Tryd.prog,75,Tryd.f75,67,Eb w F  r,w⟩
theorem Zq (w:World) (F:Nat→Prop) (x1:Dw) (hF:∀ b,F b→b < w.heap.size∧∀ o ∈ ([]:List (List Nat)),b ∉ o) (hL0:B.Loc w w [] [Sm w.heap.size F w [],St w []]) (r:Bool) (h:Q5 x1 r):Calls Tryd.prog 75 #[.agg #[.int .i64 x1.kind,.string x1.text,.int .i64 x1.n,.int .i64 x1.at_]] w (Eb w F  r):=by
 unfold Q5 at h
 refine Bl (vs:=[.agg #[.int .i64 x1.kind,.string x1.text,.int .i64 x1.n,.int .i64 x1.at_]]) 67 Tryd.func75 rfl Tryd.ntmps75 rfl hL0 ?_
 show G (Xc3 w F r) _ _ _ _
 refine Ag rfl<|Ac rfl rfl ?_
 refine Ci 0 rfl (O3 [.int .i64 x1.kind,.string x1.text,.int .i64 x1.n,.int .i64 x1.at_] rfl rfl rfl fun gb2=>?_) gn
 refine Aa 1 rfl (Af rfl) gn rfl<|Ah 2 rfl<|Ag rfl<|Ag rfl<|Ac rfl rfl<|Aa 0 rfl (Bd Xic rfl) gn rfl<|Aa 1 rfl (Au 0 ld_79 rfl rfl rfl) gn rfl<|Ah 2 rfl<|Bv rfl<|Ag rfl<|Ac rfl rfl<|Aa 0 rfl (Ba rfl rfl rfl) gn rfl ?_
 refine Aa 1 rfl (Af rfl) gn rfl<|Ah 2 rfl ?_
 by_cases hp4:x1.kind=1
 ·have h:=Ap hp4 h
  refine Bi rfl _ rfl ((eqi hp4))<|Ag rfl<|Ac rfl rfl<|Aa 0 rfl (Bd Lj rfl) gn rfl<|Aa 1 rfl (Au 0 Gw rfl rfl rfl) gn rfl<|Aa 2 rfl (Vb Un rfl) gn rfl<|Aa 3 rfl (Af rfl) gn rfl<|Ah 4 rfl<|Ag rfl<|Ac rfl rfl<|Aa 0 rfl (Ae rfl) gn rfl<|Aa 1 rfl (Ba rfl rfl rfl) gn rfl ?_
  refine Aa 2 rfl (Ae rfl) gn rfl ?_
  by_cases hp5:(x1.text.size:Int) > 0
  ·have h:=Ap hp5 h
   refine Bh 14 rfl ((decide_eq_true hp5))<|Aa 3 rfl (Ae rfl) (gy 14 rfl rfl) rfl<|Aa 4 rfl (Ba rfl rfl rfl) (gy 14 rfl rfl) rfl<|Aa 5 rfl (Aw (b:=true) rfl rfl) gn rfl<|Aa 6 rfl (Ae rfl) gn rfl ?_
   by_cases hp6:(x1.text.size:Int)≤24
   ·have h:=Ap hp6 h
    refine Bh 18 rfl ((decide_eq_true hp6))<|Aa 7 rfl (Bd Lj rfl) (gy 18 rfl rfl) rfl<|Aa 8 rfl (Au 0 Gw rfl rfl rfl) (gy 18 rfl rfl) rfl ?_
    obtain ⟨hb7,h⟩:=h
    refine Aa 9 rfl (Oa Un rfl rfl hb7) (gy 18 rfl rfl) rfl ?_
    obtain ⟨r11,hv12,h⟩:=h
    refine Ci 10 rfl (D7 [.string (⟨#[48,49,50,51,52,53,54,55,56,57]⟩:ByteArray),.int .u8 (bt x1.text 0)] rfl Tryd.func95 rfl rfl rfl fun w8 hL9=>?_) (gy 18 rfl rfl)
    have hp10:=pmI hL9 .n (.c 0 rfl .n) (by kernel_rfl)
    refine Calls.mono (Ug w8 (Fl ([]:List Cc)) (⟨#[48,49,50,51,52,53,54,55,56,57]⟩:ByteArray) (bt x1.text 0) (hL9.hFl hp10 (Bf [] rfl)) (hL9.into hp10 _) r11 hv12) ?_
    rintro _ w13 ⟨rfl,hM14⟩
    have hL15:=hL9.call hp10 hM14
    refine ⟨_,_,_,rfl,hL15,?_⟩
    refine Aa 11 rfl (Oi rfl) (gy 18 rfl rfl) rfl<|Aa 12 rfl (Aw (b:=true) rfl rfl) gn rfl<|Aa 13 rfl (Ae rfl) gn rfl ?_
    by_cases hp16:r11=true
    ·have h:=Ap hp16 h
     refine Bh 25 rfl ((nf hp16))<|Ad 14 rfl (ps 25 rfl rfl rfl)<|Ad 15 rfl (ps 25 rfl rfl rfl)<|Ad 16 rfl (ps 25 rfl rfl rfl)<|Ad 17 rfl (ps 25 rfl rfl rfl)<|Ad 18 rfl (ps 25 rfl rfl rfl)<|Aa 19 rfl (Aw (b:=false) rfl rfl) gn rfl<|Aa 20 rfl (Af rfl) gn rfl<|Ah 21 rfl ?_
     refine Bg [.bool false] rfl Tryd.func75 rfl (.tmp rfl (.nil)) fun wr hLr=>?_
     have hMr:=hLr.pk0 (.c 1 rfl .n)
     show Eb w F  r (.returned (Bz [.bool false])) wr
     rw [h]
     exact ⟨rfl,hMr⟩
    ·have h:=Am hp16 h
     refine Bh 25 rfl ((nt (bf hp16)))<|Aa 14 rfl (Bd Lj rfl) (gy 25 rfl rfl) rfl<|Aa 15 rfl (Au 0 Gw rfl rfl rfl) (gy 25 rfl rfl) rfl ?_
     obtain ⟨r20,hv21,h⟩:=h
     refine Ci 16 rfl (D7 [.string x1.text,.int .i64 0,.string (⟨#[65,66,67,68,69,70,71,72,73,74,75,76,77,78,79,80,81,82,83,84,85,86,87,88,89,90,97,98,99,100,101,102,103,104,105,106,107,108,109,110,111,112,113,114,115,116,117,118,119,120,121,122,95,48,49,50,51,52,53,54,55,56,57]⟩:ByteArray)] rfl Tryd.func96 rfl rfl rfl fun w17 hL18=>?_) (gy 25 rfl rfl)
     have hp19:=pmI hL18 .n (.c 0 rfl .n) (by kernel_rfl)
     refine Calls.mono (Xb0 w17 (Fl ([]:List Cc)) x1.text 0 (⟨#[65,66,67,68,69,70,71,72,73,74,75,76,77,78,79,80,81,82,83,84,85,86,87,88,89,90,97,98,99,100,101,102,103,104,105,106,107,108,109,110,111,112,113,114,115,116,117,118,119,120,121,122,95,48,49,50,51,52,53,54,55,56,57]⟩:ByteArray) (hL18.hFl hp19 (Bf [] rfl)) (hL18.into hp19 _) r20 hv21) ?_
     rintro _ w22 ⟨rfl,hM23⟩
     have hL24:=hL18.call hp19 hM23
     refine ⟨_,_,_,rfl,hL24,?_⟩
     refine Aa 17 rfl (Ae rfl) (gy 25 rfl rfl) rfl<|Aa 18 rfl (Ba rfl rfl rfl) (gy 25 rfl rfl) rfl<|Aa 19 rfl (Aw (b:=true) rfl rfl) gn rfl<|Aa 20 rfl (Af rfl) gn rfl<|Ah 21 rfl ?_
     refine Bg [.bool (r20 == (x1.text.size:Int))] rfl Tryd.func75 rfl (.tmp rfl (.nil)) fun wr hLr=>?_
     have hMr:=hLr.pk0 (.c 1 rfl .n)
     show Eb w F  r (.returned (Bz [.bool (r20 == (x1.text.size:Int))])) wr
     rw [h]
     exact ⟨rfl,hMr⟩
   ·have h:=Am hp6 h
    refine Bh 18 rfl ((decide_eq_false hp6))<|Ad 7 rfl (ps 18 rfl rfl rfl)<|Ad 8 rfl (ps 18 rfl rfl rfl)<|Ad 9 rfl (ps 18 rfl rfl rfl)<|Ad 10 rfl (ps 18 rfl rfl rfl)<|Ad 11 rfl (ps 18 rfl rfl rfl)<|Aa 12 rfl (Aw (b:=false) rfl rfl) gn rfl<|Aa 13 rfl (Ae rfl) gn rfl<|Ad 14 rfl (ps 25 rfl rfl rfl)<|Ad 15 rfl (ps 25 rfl rfl rfl)<|Ad 16 rfl (ps 25 rfl rfl rfl)<|Ad 17 rfl (ps 25 rfl rfl rfl) ?_
    refine Ad 18 rfl (ps 25 rfl rfl rfl)<|Aa 19 rfl (Aw (b:=false) rfl rfl) gn rfl<|Aa 20 rfl (Af rfl) gn rfl<|Ah 21 rfl ?_
    refine Bg [.bool false] rfl Tryd.func75 rfl (.tmp rfl (.nil)) fun wr hLr=>?_
    have hMr:=hLr.pk0 (.c 1 rfl .n)
    show Eb w F  r (.returned (Bz [.bool false])) wr
    rw [h]
    exact ⟨rfl,hMr⟩
  ·have h:=Am hp5 h
   refine Bh 14 rfl ((decide_eq_false hp5))<|Ad 3 rfl (ps 14 rfl rfl rfl)<|Ad 4 rfl (ps 14 rfl rfl rfl)<|Aa 5 rfl (Aw (b:=false) rfl rfl) gn rfl<|Aa 6 rfl (Ae rfl) gn rfl<|Ad 7 rfl (ps 18 rfl rfl rfl)<|Ad 8 rfl (ps 18 rfl rfl rfl)<|Ad 9 rfl (ps 18 rfl rfl rfl)<|Ad 10 rfl (ps 18 rfl rfl rfl)<|Ad 11 rfl (ps 18 rfl rfl rfl)<|Aa 12 rfl (Aw (b:=false) rfl rfl) gn rfl<|Aa 13 rfl (Ae rfl) gn rfl ?_
   refine Ad 14 rfl (ps 25 rfl rfl rfl)<|Ad 15 rfl (ps 25 rfl rfl rfl)<|Ad 16 rfl (ps 25 rfl rfl rfl)<|Ad 17 rfl (ps 25 rfl rfl rfl)<|Ad 18 rfl (ps 25 rfl rfl rfl)<|Aa 19 rfl (Aw (b:=false) rfl rfl) gn rfl<|Aa 20 rfl (Af rfl) gn rfl<|Ah 21 rfl ?_
   refine Bg [.bool false] rfl Tryd.func75 rfl (.tmp rfl (.nil)) fun wr hLr=>?_
   have hMr:=hLr.pk0 (.c 1 rfl .n)
   show Eb w F  r (.returned (Bz [.bool false])) wr
   rw [h]
   exact ⟨rfl,hMr⟩
 ·have h:=Am hp4 h
  refine Bc rfl _ rfl ((nei hp4))<|Ag rfl<|Ac rfl rfl<|Aa 0 rfl (Ba rfl rfl rfl) gn rfl<|Aa 1 rfl (Af rfl) gn rfl<|Ah 2 rfl ?_
  by_cases hp25:x1.kind=2
  ·have h:=Ap hp25 h
   refine Bi rfl _ rfl ((eqi hp25))<|Ag rfl<|Ac rfl rfl<|Aa 0 rfl (Af rfl) gn rfl<|Ah 1 rfl ?_
   refine Bg [.bool true] rfl Tryd.func75 rfl (.tmp rfl (.nil)) fun wr hLr=>?_
   have hMr:=hLr.pk0 (.c 1 rfl .n)
   show Eb w F  r (.returned (Bz [.bool true])) wr
   rw [h]
   exact ⟨rfl,hMr⟩
  ·have h:=Am hp25 h
   refine Bc rfl _ rfl ((nei hp25))<|Ag rfl<|Ac rfl rfl<|Aa 0 rfl (Ba rfl rfl rfl) gn rfl<|Aa 1 rfl (Af rfl) gn rfl<|Ah 2 rfl ?_
   by_cases hp26:x1.kind=3
   ·have h:=Ap hp26 h
    refine Bi rfl _ rfl ((eqi hp26))<|Ag rfl<|Ac rfl rfl<|Aa 0 rfl (Bd Lj rfl) gn rfl<|Aa 1 rfl (Au 0 Gw rfl rfl rfl) gn rfl ?_
    obtain ⟨hb27,h⟩:=h
    refine Aa 2 rfl (Xhu rfl rfl hb27) gn rfl ?_
    obtain ⟨hb28,h⟩:=h
    refine Aa 3 rfl (Xhu rfl rfl hb28) gn rfl<|Aa 4 rfl (Af rfl) gn rfl<|Ah 5 rfl<|Ag rfl<|Ac rfl rfl<|Aa 0 rfl (Ae rfl) gn rfl ?_
    obtain ⟨r32,hv33,h⟩:=h
    refine Ci 1 rfl (D7 [.string (((⟨#[47]⟩:ByteArray)++x1.text)++(⟨#[47]⟩:ByteArray)),.int .i64 0] rfl Tryd.func97 rfl rfl rfl fun w29 hL30=>?_) gn
    have hp31:=pmI hL30 .n (.c 0 rfl .n) (by kernel_rfl)
    refine Calls.mono (Zy w29 (Fl ([]:List Cc)) (((⟨#[47]⟩:ByteArray)++x1.text)++(⟨#[47]⟩:ByteArray)) 0 (hL30.hFl hp31 (Bf [] rfl)) (hL30.into hp31 _) r32 hv33) ?_
    rintro _ w34 ⟨rfl,hM35⟩
    have hL36:=hL30.call hp31 hM35
    refine ⟨_,_,_,rfl,hL36,?_⟩
    refine Aa 2 rfl (Ae rfl) gn rfl<|Aa 3 rfl (Vb Un rfl) gn rfl<|Aa 4 rfl (Ba rfl rfl rfl) gn rfl<|Aa 5 rfl (Af rfl) gn rfl<|Ah 6 rfl ?_
    refine Bg [.bool (r32 == ((((⟨#[47]⟩:ByteArray)++x1.text)++(⟨#[47]⟩:ByteArray)).size:Int))] rfl Tryd.func75 rfl (.tmp rfl (.nil)) fun wr hLr=>?_
    have hMr:=hLr.pk0 (.c 1 rfl .n)
    show Eb w F  r (.returned (Bz [.bool (r32 == ((((⟨#[47]⟩:ByteArray)++x1.text)++(⟨#[47]⟩:ByteArray)).size:Int))])) wr
    rw [h]
    exact ⟨rfl,hMr⟩
   ·have h:=Am hp26 h
    refine Bc rfl _ rfl ((nei hp26))<|Ag rfl<|Ac rfl rfl<|Aa 0 rfl (Ba rfl rfl rfl) gn rfl<|Aa 1 rfl (Af rfl) gn rfl<|Ah 2 rfl ?_
    by_cases hp37:x1.kind=4
    ·have h:=Ap hp37 h
     refine Bi rfl _ rfl ((eqi hp37))<|Ag rfl<|Ac rfl rfl<|Aa 0 rfl (Bd Xdy rfl) gn rfl<|Aa 1 rfl (Au 0 O9 rfl rfl rfl) gn rfl<|Aa 2 rfl (Ba rfl rfl rfl) gn rfl<|Aa 3 rfl (Ae rfl) gn rfl ?_
     by_cases hp38:x1.n≥0
     ·have h:=Ap hp38 h
      refine Bh 50 rfl ((decide_eq_true hp38))<|Aa 4 rfl (Bd Xdy rfl) (gy 50 rfl rfl) rfl<|Aa 5 rfl (Au 0 O9 rfl rfl rfl) (gy 50 rfl rfl) rfl<|Aa 6 rfl (Ba rfl rfl rfl) (gy 50 rfl rfl) rfl<|Aa 7 rfl (Aw (b:=true) rfl rfl) gn rfl<|Aa 8 rfl (Af rfl) gn rfl<|Ah 9 rfl ?_
      refine Bg [.bool (decide (x1.n≤65535))] rfl Tryd.func75 rfl (.tmp rfl (.nil)) fun wr hLr=>?_
      have hMr:=hLr.pk0 (.c 1 rfl .n)
      show Eb w F  r (.returned (Bz [.bool (decide (x1.n≤65535))])) wr
      rw [h]
      exact ⟨rfl,hMr⟩
     ·have h:=Am hp38 h
      refine Bh 50 rfl ((decide_eq_false hp38))<|Ad 4 rfl (ps 50 rfl rfl rfl)<|Ad 5 rfl (ps 50 rfl rfl rfl)<|Ad 6 rfl (ps 50 rfl rfl rfl)<|Aa 7 rfl (Aw (b:=false) rfl rfl) gn rfl<|Aa 8 rfl (Af rfl) gn rfl<|Ah 9 rfl ?_
      refine Bg [.bool false] rfl Tryd.func75 rfl (.tmp rfl (.nil)) fun wr hLr=>?_
      have hMr:=hLr.pk0 (.c 1 rfl .n)
      show Eb w F  r (.returned (Bz [.bool false])) wr
      rw [h]
      exact ⟨rfl,hMr⟩
    ·have h:=Am hp37 h
     refine Bc rfl _ rfl ((nei hp37))<|Ag rfl<|Ac rfl rfl<|Aa 0 rfl (Ba rfl rfl rfl) gn rfl<|Aa 1 rfl (Af rfl) gn rfl<|Ah 2 rfl ?_
     by_cases hp39:x1.kind=5
     ·have h:=Ap hp39 h
      refine Bi rfl _ rfl ((eqi hp39))<|Ag rfl<|Ac rfl rfl<|Aa 0 rfl (Bd Lj rfl) gn rfl<|Aa 1 rfl (Au 0 Gw rfl rfl rfl) gn rfl<|Aa 2 rfl (Vb Un rfl) gn rfl<|Aa 3 rfl (Ba rfl rfl rfl) gn rfl<|Aa 4 rfl (Ae rfl) gn rfl ?_
      by_cases hp40:(x1.text.size:Int)=1
      ·have h:=Ap hp40 h
       refine Bh 61 rfl ((eqi hp40))<|Aa 5 rfl (Bd Lj rfl) (gy 61 rfl rfl) rfl<|Aa 6 rfl (Au 0 Gw rfl rfl rfl) (gy 61 rfl rfl) rfl ?_
       obtain ⟨hb41,h⟩:=h
       refine Aa 7 rfl (Oa Un rfl rfl hb41) (gy 61 rfl rfl) rfl ?_
       obtain ⟨r45,hv46,h⟩:=h
       refine Ci 8 rfl (D7 [.string (⟨#[123,125,40,41,124,42,43,63,58,59,44,61,64]⟩:ByteArray),.int .u8 (bt x1.text 0)] rfl Tryd.func95 rfl rfl rfl fun w42 hL43=>?_) (gy 61 rfl rfl)
       have hp44:=pmI hL43 .n (.c 0 rfl .n) (by kernel_rfl)
       refine Calls.mono (Ug w42 (Fl ([]:List Cc)) (⟨#[123,125,40,41,124,42,43,63,58,59,44,61,64]⟩:ByteArray) (bt x1.text 0) (hL43.hFl hp44 (Bf [] rfl)) (hL43.into hp44 _) r45 hv46) ?_
       rintro _ w47 ⟨rfl,hM48⟩
       have hL49:=hL43.call hp44 hM48
       refine ⟨_,_,_,rfl,hL49,?_⟩
       refine Aa 9 rfl (Aw (b:=true) rfl rfl) gn rfl<|Aa 10 rfl (Af rfl) gn rfl<|Ah 11 rfl ?_
       refine Bg [.bool r45] rfl Tryd.func75 rfl (.tmp rfl (.nil)) fun wr hLr=>?_
       have hMr:=hLr.pk0 (.c 1 rfl .n)
       show Eb w F  r (.returned (Bz [.bool r45])) wr
       rw [h]
       exact ⟨rfl,hMr⟩
      ·have h:=Am hp40 h
       refine Bh 61 rfl ((nei hp40))<|Ad 5 rfl (ps 61 rfl rfl rfl)<|Ad 6 rfl (ps 61 rfl rfl rfl)<|Ad 7 rfl (ps 61 rfl rfl rfl)<|Ad 8 rfl (ps 61 rfl rfl rfl)<|Aa 9 rfl (Aw (b:=false) rfl rfl) gn rfl<|Aa 10 rfl (Af rfl) gn rfl<|Ah 11 rfl ?_
       refine Bg [.bool false] rfl Tryd.func75 rfl (.tmp rfl (.nil)) fun wr hLr=>?_
       have hMr:=hLr.pk0 (.c 1 rfl .n)
       show Eb w F  r (.returned (Bz [.bool false])) wr
       rw [h]
       exact ⟨rfl,hMr⟩
     ·have h:=Am hp39 h
      refine Bc rfl _ rfl ((nei hp39))<|Bo rfl<|Bj<|Ag rfl<|Ac rfl rfl<|Aa 0 rfl (Af rfl) gn rfl<|Ah 1 rfl ?_
      refine Bg [.bool false] rfl Tryd.func75 rfl (.tmp rfl (.nil)) fun wr hLr=>?_
      have hMr:=hLr.pk0 (.c 1 rfl .n)
      show Eb w F  r (.returned (Bz [.bool false])) wr
      rw [h]
      exact ⟨rfl,hMr⟩
abbrev Ph (w:World) (F:Nat→Prop) (r:Bool):Ending→World→Prop:=fun e w'=>e=.returned (.bool r)∧B.Loc w w' [] [St w []]
noncomputable abbrev Xay (w:World) (F:Nat→Prop) (r:Bool):Cx:=⟨Tryd.prog,52,Tryd.f52,10,Ph w F  r,w⟩
theorem Pv (w:World) (F:Nat→Prop) (x1:ByteArray) (hF:∀ b,F b→b < w.heap.size∧∀ o ∈ ([]:List (List Nat)),b ∉ o) (hL0:B.Loc w w [] [Sm w.heap.size F w [],St w []]) (r:Bool) (h:J4 x1 r):Calls Tryd.prog 52 #[.string x1] w (Ph w F  r):=by
 unfold J4 at h
 refine Bl (vs:=[.string x1]) 10 Tryd.func52 rfl Tryd.ntmps52 rfl hL0 ?_
 show G (Xay w F r) _ _ _ _
 refine Ag rfl<|Ac rfl rfl<|Aa 0 rfl (Af rfl) gn rfl<|Ah 1 rfl<|Ag rfl<|Ac rfl rfl<|Aa 0 rfl (Ae rfl) gn rfl<|Aa 1 rfl (Rt rfl rfl) gn rfl<|Aa 2 rfl (Ae rfl) gn rfl ?_
 by_cases hp2:x1=(⟨#[95]⟩:ByteArray)
 ·have h:=Ap hp2 h
  refine Bh 5 rfl ((nf (Ox hp2)))<|Ad 3 rfl (ps 5 rfl rfl rfl)<|Ad 4 rfl (ps 5 rfl rfl rfl)<|Ad 5 rfl (ps 5 rfl rfl rfl)<|Aa 6 rfl (Aw (b:=false) rfl rfl) gn rfl<|Aa 7 rfl (Af rfl) gn rfl<|Ah 8 rfl ?_
  refine Bg [.bool false] rfl Tryd.func52 rfl (.tmp rfl (.nil)) fun wr hLr=>?_
  have hMr:=hLr.pk0 (.c 1 rfl .n)
  show Ph w F  r (.returned (Bz [.bool false])) wr
  rw [h]
  exact ⟨rfl,hMr⟩
 ·have h:=Am hp2 h
  refine Bh 5 rfl ((nt (Oo hp2)))<|Aa 3 rfl (Ae rfl) (gy 5 rfl rfl) rfl<|Aa 4 rfl (L6 #[.int .i64 1,.string x1,.int .i64 0,.int .i64 0] bd_84 rfl (by kernel_rfl)) (gy 5 rfl rfl) rfl ?_
  obtain ⟨r6,hv7,h⟩:=h
  refine Ci 5 rfl (D7 [.agg #[.int .i64 1,.string x1,.int .i64 0,.int .i64 0]] rfl Tryd.func75 rfl rfl rfl fun w3 hL4=>?_) (gy 5 rfl rfl)
  have hp5:=pmI hL4 .n .n (by kernel_rfl)
  refine Calls.mono (Zq w3 (Fl ([]:List Cc)) (⟨1,x1,0,0⟩:Dw) (hL4.hFl hp5 (Bf [] rfl)) (hL4.into hp5 _) r6 hv7) ?_
  rintro _ w8 ⟨rfl,hM9⟩
  have hL10:=hL4.call hp5 hM9
  refine ⟨_,_,_,rfl,hL10,?_⟩
  refine Aa 6 rfl (Aw (b:=true) rfl rfl) gn rfl<|Aa 7 rfl (Af rfl) gn rfl<|Ah 8 rfl ?_
  refine Bg [.bool r6] rfl Tryd.func52 rfl (.tmp rfl (.nil)) fun wr hLr=>?_
  have hMr:=hLr.pk0 (.c 1 rfl .n)
  show Ph w F  r (.returned (Bz [.bool r6])) wr
  rw [h]
  exact ⟨rfl,hMr⟩
noncomputable abbrev q53c4:=Code.snd (Code.snd (Df Tryd.f53))
noncomputable abbrev Xh5:=Code.fst (Code.fst (Code.snd (Code.fst (Code.snd (Df Tryd.f53)))))
abbrev Qv (w:World) (F:Nat→Prop) (r:Int):Ending→World→Prop:=fun e w'=>e=.returned (.int .i64 r)∧B.Loc w w' [] [St w []]
noncomputable abbrev Rf (w:World) (F:Nat→Prop) (r:Int):Cx:=⟨Tryd.prog,53,Tryd.f53,26,Qv w F  r,w⟩
theorem Jk (w:World) (F:Nat→Prop) (x1:Aq) (x10:ByteArray) (A2:Option Addr) (n3:Nat) (c4:Nat) (A6:Option Addr) (n7:Nat) (c8:Nat) (h5:Rw Cb w (St w []).av A2 n3 c4 x1.nodes) (h9:Rw Dq w (St w []).av A6 n7 c8 x1.conds) (hF:∀ b,F b→b < w.heap.size∧∀ o ∈ ([]:List (List Nat)),b ∉ o) (hL0:B.Loc w w [] [Sm w.heap.size F w [],St w []]) (r:Int) (h:H8 x1 x10 r):Calls Tryd.prog 53 #[.agg #[.slice A2 n3 c4,.slice A6 n7 c8],.string x10] w (Qv w F  r):=by
 unfold H8 at h
 refine Bl (vs:=[.agg #[.slice A2 n3 c4,.slice A6 n7 c8],.string x10]) 26 Tryd.func53 rfl Tryd.ntmps53 rfl hL0 ?_
 show G (Rf w F r) _ _ _ _
 refine Ag rfl<|Ac rfl rfl ?_
 refine Ci 0 rfl (O3 [.slice A2 n3 c4,.slice A6 n7 c8] rfl rfl rfl fun gb11=>?_) gn
 refine Aa 1 rfl (Af rfl) gn rfl<|Ah 2 rfl<|Ag rfl<|Ag rfl<|Ac rfl rfl<|Aa 0 rfl (Af rfl) gn rfl<|Ah 1 rfl<|Bv rfl<|Ei rfl ?_
 have key1:∀ s,Ar (fun (s:Int) o=>Gm x1 x10 s o) s r→(fun (s:Int)=>∀ (_:Unit),G (Rf w F r) [.code Xh5,.inLoop Xh5,.inBlock 0,.code q53c4] [(1,.string x10),(2,.pointer (some ⟨gb11,0,none⟩)),(5,.int .i64 s)] [.box gb11 25 [.slice A2 n3 c4,.slice A6 n7 c8]] [Sm w.heap.size F w [],St w []]) s:=by
  intro s hs
  refine Ar.ind (mot:=(fun (s:Int)=>∀ (_:Unit),G (Rf w F r) [.code Xh5,.inLoop Xh5,.inBlock 0,.code q53c4] [(1,.string x10),(2,.pointer (some ⟨gb11,0,none⟩)),(5,.int .i64 s)] [.box gb11 25 [.slice A2 n3 c4,.slice A6 n7 c8]] [Sm w.heap.size F w [],St w []])) ?_ hs
  clear hs s
  intro x19 o1 h hO1
  show ∀ (_:Unit),G (Rf w F r) [.code Xh5,.inLoop Xh5,.inBlock 0,.code q53c4] [(1,.string x10),(2,.pointer (some ⟨gb11,0,none⟩)),(5,.int .i64 x19)] [.box gb11 25 [.slice A2 n3 c4,.slice A6 n7 c8]] [Sm w.heap.size F w [],St w []]
  intro _
  have h:Gm x1 x10 x19 o1:=h
  unfold Gm at h
  refine Ag rfl<|Ag rfl<|Ac rfl rfl<|Aa 0 rfl (Ae rfl) gn rfl<|Aa 1 rfl (Bd Ew rfl) gn rfl<|Aa 2 rfl (Au 0 Kr rfl rfl rfl) gn rfl<|Aa 3 rfl (D5 Tm rfl h5.hq) gn rfl<|Aa 4 rfl (Ba rfl rfl rfl) gn rfl<|Ah 5 rfl ?_
  by_cases hp25:x19 < (x1.nodes.length:Int)
  ·have h:=Ap hp25 h
   refine Bi rfl _ rfl ((decide_eq_true hp25))<|Bo rfl<|Ag rfl<|Bv rfl<|Ag rfl<|Ac rfl rfl<|Aa 0 rfl (Ae rfl) gn rfl<|Aa 1 rfl (Rt rfl rfl) gn rfl<|Aa 2 rfl (Ae rfl) gn rfl ?_
   by_cases hp26:x10=(⟨#[]⟩:ByteArray)
   ·have h:=Ap hp26 h
    refine Bh 15 rfl ((nf (Ox hp26)))<|Ad 3 rfl (ps 15 rfl rfl rfl)<|Ad 4 rfl (ps 15 rfl rfl rfl)<|Ad 5 rfl (ps 15 rfl rfl rfl)<|Ad 6 rfl (ps 15 rfl rfl rfl)<|Ad 7 rfl (ps 15 rfl rfl rfl)<|Ad 8 rfl (ps 15 rfl rfl rfl)<|Ad 9 rfl (ps 15 rfl rfl rfl)<|Ad 10 rfl (ps 15 rfl rfl rfl)<|Aa 11 rfl (Aw (b:=false) rfl rfl) gn rfl<|Ah 12 rfl<|Bc rfl _ rfl (rfl) ?_
    refine Bo rfl<|Bj<|Ac rfl rfl<|Aa 0 rfl (Ae rfl) gn rfl<|Aa 1 rfl (Ba rfl rfl rfl) gn rfl<|Aa 2 rfl (Af rfl) gn rfl<|Ah 3 rfl<|Cm ?_
    have ih:=Out.inl hO1 h
    exact D6 [0,1] (ih ()) ⟨rfl,rfl,rfl,trivial⟩ (.cons_cons _ (.slnil)) rfl
   ·have h:=Am hp26 h
    refine Bh 15 rfl ((nt (Oo hp26)))<|Aa 3 rfl (Bd Ew rfl) (gy 15 rfl rfl) rfl<|Aa 4 rfl (Au 0 Kr rfl rfl rfl) (gy 15 rfl rfl) rfl<|Aa 5 rfl (Ae rfl) (gy 15 rfl rfl) rfl ?_
    obtain ⟨hb27,h⟩:=h
    have hr28:=Rw.readF (s:=St w []) (hl:=Dp) (h1:=Du) h5 hb27
    refine Aa 6 rfl (Ef (s:=St w []) Oq rfl rfl h5 hb27) (gy 15 rfl rfl) rfl<|Aa 7 rfl (Jq Wl rfl) (gy 15 rfl rfl) rfl<|Aa 8 rfl (Le (kk:=(x19:Int).toNat * 5) (j:=3) (St w []) Gw rfl hr28 rfl (me 1 rfl)) (gy 15 rfl rfl) rfl<|Aa 9 rfl (Ae rfl) (gy 15 rfl rfl) rfl<|Aa 10 rfl (Yp rfl rfl) (gy 15 rfl rfl) rfl<|Aa 11 rfl (Aw (b:=true) rfl rfl) gn rfl<|Ah 12 rfl ?_
    by_cases hp29:(ix x1.nodes x19).capture=x10
    ·have h:=Ap hp29 h
     refine Bi rfl _ rfl ((Ox hp29))<|Ag rfl<|Ac rfl rfl<|Aa 0 rfl (Ae rfl) gn rfl<|Aa 1 rfl (Af rfl) gn rfl<|Ah 2 rfl ?_
     have h:=Out.inr hO1 h
     refine Bg [.int .i64 x19] rfl Tryd.func53 rfl (.tmp rfl (.nil)) fun wr hLr=>?_
     have hMr:=hLr.pk0 (.c 1 rfl .n)
     show Qv w F  r (.returned (Bz [.int .i64 x19])) wr
     rw [h]
     exact ⟨rfl,hMr⟩
    ·have h:=Am hp29 h
     refine Bc rfl _ rfl ((Oo hp29))<|Bo rfl<|Bj<|Ac rfl rfl<|Aa 0 rfl (Ae rfl) gn rfl<|Aa 1 rfl (Ba rfl rfl rfl) gn rfl<|Aa 2 rfl (Af rfl) gn rfl<|Ah 3 rfl<|Cm ?_
     have ih:=Out.inl hO1 h
     exact D6 [0,1] (ih ()) ⟨rfl,rfl,rfl,trivial⟩ (.cons_cons _ (.slnil)) rfl
  ·have h:=Am hp25 h
   refine Bc rfl _ rfl ((decide_eq_false hp25))<|E8 [.code q53c4] rfl rfl<|Ag rfl<|Ac rfl rfl<|Aa 0 rfl (Af rfl) gn rfl<|Ah 1 rfl ?_
   have h:=Out.inr hO1 h
   refine Bg [.int .i64 (-1)] rfl Tryd.func53 rfl (.tmp rfl (.nil)) fun wr hLr=>?_
   have hMr:=hLr.pk0 (.c 1 rfl .n)
   show Qv w F  r (.returned (Bz [.int .i64 (-1)])) wr
   rw [h]
   exact ⟨rfl,hMr⟩
 exact D6 [0,1] (key1 _ h ()) ⟨rfl,rfl,rfl,trivial⟩ (.cons_cons _ (.slnil)) rfl
end Go.Proofs.YtjookebbmfiidaaDoor.K
