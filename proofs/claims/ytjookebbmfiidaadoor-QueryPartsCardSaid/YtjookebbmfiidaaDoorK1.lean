/- What the machine's calls do, function by function, printed by my own tool. Condition of each: its relation holds of the answer, and what is handed in lies in memory as told. -/
import Derived.Test.YtjookebbmfiidaaDoorK0
set_option linter.unusedVariables false
set_option maxRecDepth 100000
set_option maxHeartbeats 4000000
namespace Go.Proofs.YtjookebbmfiidaaDoor.K
open Go.Proofs.YtjookebbmfiidaaDoor.B Go.Proofs.YtjookebbmfiidaaDoor.R Go.RowKit
noncomputable abbrev Xe4:=Code.snd (Code.snd (Code.snd (Dv Tryd.f10)))
noncomputable abbrev Vo:=Code.fst (Code.fst (Code.snd (Code.fst (Code.snd (Code.snd (Dv Tryd.f10))))))
noncomputable abbrev Xhg:=Code.snd (Code.snd Vo)
noncomputable abbrev Xgd:=Code.snd (Code.fst (Code.fst (Code.snd Vo)))
noncomputable abbrev Xej:=Code.fst (Code.fst (Code.fst (Code.fst (Code.fst (Code.snd Vo)))))
abbrev L9 (w:World) (F:Nat→Prop) (r:Bool):Ending→World→Prop:=fun e w'=>e=.returned (.bool r)∧B.Loc w w' [] [St w []]
noncomputable abbrev I7 (w:World) (F:Nat→Prop) (r:Bool):Cx:=⟨Tryd.prog,10,Tryd.f10,54,L9 w F  r,w⟩
theorem Yy (w:World) (F:Nat→Prop) (x1:List Ag) (A2:Option Addr) (n3:Nat) (c4:Nat) (h5:Rw Dl w (St w []).av A2 n3 c4 x1) (hF:∀ b,F b→b < w.heap.size∧∀ o ∈ ([]:List (List Nat)),b ∉ o) (hL0:B.Loc w w [] [Sm w.heap.size F w [],St w []]) (r:Bool) (h:Pq x1 r):Calls Tryd.prog 10 #[.slice A2 n3 c4] w (L9 w F  r):=by
 unfold Pq at h
 refine Ce (vs:=[.slice A2 n3 c4]) 54 Tryd.func10 rfl Tryd.ntmps10 rfl hL0 ?_
 show G (I7 w F r) _ _ _ _
 refine Ah rfl<|Ac rfl rfl<|Aa 0 rfl (Af rfl) gn rfl<|Aj 1 rfl<|Ah rfl<|Ac rfl rfl<|Aa 0 rfl (Af rfl) gn rfl<|Aj 1 rfl<|Ah rfl<|Ah rfl<|Ac rfl rfl<|Aa 0 rfl (Af rfl) gn rfl ?_
 refine Aj 1 rfl<|Df rfl<|Io rfl ?_
 have key1:∀ s,Bl (fun (s:(List Int) × Int) o=>Gj x1 s.1 s.2 o) s r→(fun (s:(List Int) × Int)=>∀ (A36:Option Addr) (n37:Nat) (c38:Nat) (h39:Ow w.heap.size A36 n37 c38 s.1),G (I7 w F r) [.code Vo,.inLoop Vo,.inBlock 0,.code Xe4] [(0,.slice A2 n3 c4),(3,.slice A36 n37 c38),(4,.int .i64 s.2)] [.own (.slice A36 n37 c38) 3 1 n37 (s.1.flatMap (eI .i64))] [Sm w.heap.size F w [],St w []]) s:=by
  intro s hs
  refine Bl.ind (mot:=(fun (s:(List Int) × Int)=>∀ (A36:Option Addr) (n37:Nat) (c38:Nat) (h39:Ow w.heap.size A36 n37 c38 s.1),G (I7 w F r) [.code Vo,.inLoop Vo,.inBlock 0,.code Xe4] [(0,.slice A2 n3 c4),(3,.slice A36 n37 c38),(4,.int .i64 s.2)] [.own (.slice A36 n37 c38) 3 1 n37 (s.1.flatMap (eI .i64))] [Sm w.heap.size F w [],St w []])) ?_ hs
  clear hs s
  intro s o1 h hO1
  obtain ⟨x35,x40⟩:=s
  show ∀ (A36:Option Addr) (n37:Nat) (c38:Nat) (h39:Ow w.heap.size A36 n37 c38 x35),G (I7 w F r) [.code Vo,.inLoop Vo,.inBlock 0,.code Xe4] [(0,.slice A2 n3 c4),(3,.slice A36 n37 c38),(4,.int .i64 x40)] [.own (.slice A36 n37 c38) 3 1 n37 (x35.flatMap (eI .i64))] [Sm w.heap.size F w [],St w []]
  intro A36 n37 c38 h39
  have h:Gj x1 x35 x40 o1:=h
  unfold Gj at h
  refine Ah rfl<|Ah rfl<|Ac rfl rfl<|Aa 0 rfl (Ad rfl) gn rfl<|Aa 1 rfl (Ad rfl) gn rfl<|Aa 2 rfl (Dj Xas rfl h5.hq) gn rfl<|Aa 3 rfl (Be rfl rfl rfl) gn rfl<|Aj 4 rfl ?_
  by_cases hp166:x40 < (x1.length:Int)
  ·have h:=Ap hp166 h
   refine Bz rfl _ rfl ((decide_eq_true hp166))<|Cb rfl<|Ah rfl<|Df rfl<|Ah rfl<|Df rfl<|Io rfl ?_
   have key2:∀ s,Bl (fun (s:(List Int)) o=>Gh x40 x1 s o) s o1→(fun (s:(List Int))=>∀ (A208:Option Addr) (n209:Nat) (c210:Nat) (h211:Ow w.heap.size A208 n209 c210 s),G (I7 w F r) [.code Xej,.inLoop Xej,.inBlock 2,.code Xgd,.inBlock 1,.code Xhg,.inLoop Vo,.inBlock 0,.code Xe4] [(0,.slice A2 n3 c4),(3,.slice A208 n209 c210),(4,.int .i64 x40)] [.own (.slice A208 n209 c210) 3 1 n209 (s.flatMap (eI .i64))] [Sm w.heap.size F w [],St w []]) s:=by
    intro s hs
    refine Bl.ind (mot:=(fun (s:(List Int))=>∀ (A208:Option Addr) (n209:Nat) (c210:Nat) (h211:Ow w.heap.size A208 n209 c210 s),G (I7 w F r) [.code Xej,.inLoop Xej,.inBlock 2,.code Xgd,.inBlock 1,.code Xhg,.inLoop Vo,.inBlock 0,.code Xe4] [(0,.slice A2 n3 c4),(3,.slice A208 n209 c210),(4,.int .i64 x40)] [.own (.slice A208 n209 c210) 3 1 n209 (s.flatMap (eI .i64))] [Sm w.heap.size F w [],St w []])) ?_ hs
    clear hs s
    intro x207 o2 h hO2
    show ∀ (A208:Option Addr) (n209:Nat) (c210:Nat) (h211:Ow w.heap.size A208 n209 c210 x207),G (I7 w F r) [.code Xej,.inLoop Xej,.inBlock 2,.code Xgd,.inBlock 1,.code Xhg,.inLoop Vo,.inBlock 0,.code Xe4] [(0,.slice A2 n3 c4),(3,.slice A208 n209 c210),(4,.int .i64 x40)] [.own (.slice A208 n209 c210) 3 1 n209 (x207.flatMap (eI .i64))] [Sm w.heap.size F w [],St w []]
    intro A208 n209 c210 h211
    have h:Gh x40 x1 x207 o2:=h
    unfold Gh at h
    refine Ah rfl<|Ah rfl<|Ac rfl rfl<|Aa 0 rfl (Ad rfl) gn rfl<|Aa 1 rfl (Dj Jc rfl h211.hq) gn rfl<|Aa 2 rfl (Be rfl rfl rfl) gn rfl<|Aa 3 rfl (Ad rfl) gn rfl ?_
    by_cases hp251:(x207.length:Int) > 0
    ·have h:=Ap hp251 h
     refine Bv 14 rfl ((decide_eq_true hp251))<|Aa 4 rfl (Ad rfl) (gy 14 rfl rfl) rfl<|Aa 5 rfl (Ad rfl) (gy 14 rfl rfl) rfl<|Aa 6 rfl (Dj Jc rfl h211.hq) (gy 14 rfl rfl) rfl<|Aa 7 rfl (Be rfl rfl rfl) (gy 14 rfl rfl) rfl ?_
     obtain ⟨hb252,h⟩:=h
     refine Aa 8 rfl (Fj Jt rfl rfl h211 hb252) (gy 14 rfl rfl) rfl<|Aa 9 rfl (Ut (.int .i64 (ix x207 (w64 ((x207.length:Int) - 1)))) 0 H9 rfl rfl (Vq (hlI .i64) hb252 rfl)) (gy 14 rfl rfl) rfl<|Aa 10 rfl (Be rfl rfl rfl) (gy 14 rfl rfl) rfl<|Aa 11 rfl (Bd (b:=true) rfl rfl) gn rfl<|Aj 12 rfl ?_
     by_cases hp253:ix x207 (w64 ((x207.length:Int) - 1))≤0
     ·have h:=Ap hp253 h
      refine Bz rfl _ rfl ((decide_eq_true hp253))<|Cb rfl<|Df rfl<|Ac rfl rfl<|Aa 0 rfl (Ad rfl) gn rfl<|Aa 1 rfl (Ad rfl) gn rfl<|Aa 2 rfl (Dj Jc rfl h211.hq) gn rfl<|Aa 3 rfl (Be rfl rfl rfl) gn rfl ?_
      obtain ⟨hb254,h⟩:=h
      obtain ⟨x256,hv257,h⟩:=h
      have hle255:(w64 ((x207.length:Int) - 1):Int).toNat≤n209:=by have q:=hb254; have q1:=h211.hq; omega
      have h258:Ow w.heap.size A208 (w64 ((x207.length:Int) - 1):Int).toNat c210 x256:=Ow.w (Ow.cut h211 hle255) (by rw [hv257])
      refine Aa 4 rfl (Xg1 (i:=w64 ((x207.length:Int) - 1)) Jt rfl rfl (by have q:=hb254; have q1:=h211.hq; have q2:=h211.hn; omega) h211.hn rfl) gn rfl<|Aa 5 rfl (Af rfl) gn rfl<|Aj 6 rfl<|D7<|Dp ?_
      have h259:Ow w.heap.size A208 ((w64 ((x207.length:Int) - 1):Int).toNat) c210 x256:=(Ow.w (Ow.cut h211 hle255) (by rw [hv257]))
      refine Xg2 (j:=0) (m:=((w64 ((x207.length:Int) - 1):Int).toNat)) (cells':=x256.flatMap (eI .i64)) rfl hle255 (by rw [Xc4 (hlI .i64),hv257]) ?_
      have ih:=Out.inl hO2 h
      exact Dc [0,1] (ih A208 ((w64 ((x207.length:Int) - 1):Int).toNat) c210 h259) ⟨rfl,rfl,rfl,trivial⟩ (.cons_cons _ (.slnil)) rfl
     ·have h:=Aq hp253 h
      refine Bg rfl _ rfl ((decide_eq_false hp253))<|Gp [.code Xgd,.inBlock 1,.code Xhg,.inLoop Vo,.inBlock 0,.code Xe4] rfl rfl<|Ah rfl<|Ah rfl<|Ac rfl rfl<|Aa 0 rfl (Ad rfl) gn rfl<|Aa 1 rfl (Dj Jc rfl h211.hq) gn rfl<|Aa 2 rfl (Be rfl rfl rfl) gn rfl<|Aj 3 rfl<|Bz rfl _ rfl ((decide_eq_true hp251))<|Ac rfl rfl<|Aa 0 rfl (Ad rfl) gn rfl ?_
      refine Aa 1 rfl (Ad rfl) gn rfl<|Aa 2 rfl (Dj Jc rfl h211.hq) gn rfl<|Aa 3 rfl (Be rfl rfl rfl) gn rfl<|Aa 4 rfl (Ad rfl) gn rfl<|Aa 5 rfl (Ad rfl) gn rfl<|Aa 6 rfl (Dj Jc rfl h211.hq) gn rfl<|Aa 7 rfl (Be rfl rfl rfl) gn rfl<|Aa 8 rfl (Fj Jt rfl rfl h211 hb252) gn rfl<|Aa 9 rfl (Ut (.int .i64 (ix x207 (w64 ((x207.length:Int) - 1)))) 0 H9 rfl rfl (Vq (hlI .i64) hb252 rfl)) gn rfl<|Aa 10 rfl (Be rfl rfl rfl) gn rfl<|Aa 11 rfl (Fj Jt rfl rfl h211 hb252) gn rfl ?_
      obtain ⟨x260,hv261,h⟩:=h
      refine Cf 12 rfl (Ua (enc:=(eI .i64)) (o:=0) (z:=(w64 ((ix x207 (w64 ((x207.length:Int) - 1))) - 1))) (vs:=[.int .i64 (w64 ((ix x207 (w64 ((x207.length:Int) - 1))) - 1))]) (i:=(w64 ((x207.length:Int) - 1))) 0 (hlI .i64) Xar rfl rfl rfl rfl rfl h211 hb252 rfl rfl rfl hv261 fun h262=>?_) gn
      refine Aj 13 rfl<|Ah rfl<|Ac rfl rfl<|Aa 0 rfl (Ad rfl) gn rfl<|Aa 1 rfl (Ad rfl) gn rfl<|Aa 2 rfl (Ad rfl) gn rfl ?_
      obtain ⟨hb263,h⟩:=h
      have hr264:=Rw.readF (s:=St w []) (hl:=Ee) (h1:=Ez) h5 hb263
      refine Aa 3 rfl (F5 (s:=St w []) U7 rfl rfl h5 hb263) gn rfl<|Aa 4 rfl (Ja Uj rfl) gn rfl<|Aa 5 rfl (Hq (kk:=(x40:Int).toNat * 5) (j:=4) (St w []) H9 rfl hr264 rfl (me 1 rfl)) gn rfl ?_
      refine Cf 6 rfl (Gw (xs:=([(ix x1 x40).kids]:List Int)) [.int .i64 ((ix x1 x40).kids)] Rx rfl (by kernel_rfl) rfl rfl rfl rfl fun gb266 h267=>?_) gn
      obtain ⟨x275,hv276,h⟩:=h
      obtain ⟨hb277,h⟩:=h
      refine Xmf ?_
      refine Cf 7 rfl (s_appE (zs:=x275) (cells':=x275.flatMap (eI .i64)) 2 0 rfl Zg rfl rfl rfl rfl Eld.self h262 (Nat.le_refl _) (Src.ownF (hl:=(hlI .i64)) (h1:=(Ey .i64)) 1 rfl h267) (by rw [hv276,List.flatMap_append] <;> rfl) (Ff hv276 h267.hq) hb277 rfl rfl fun A268 c269 bs272 p273 h270 hE274=>?_) gn
      refine Aa 8 rfl (Af rfl) gn rfl<|Aj 9 rfl<|Ah rfl<|Ac rfl rfl<|Aa 0 rfl (Ad rfl) gn rfl<|Aa 1 rfl (Dj Jc rfl h270.hq) gn rfl<|Aa 2 rfl (Be rfl rfl rfl) gn rfl<|Aj 3 rfl ?_
      by_cases hp278:(x275.length:Int) > 65536
      ·have h:=Ap hp278 h
       refine Bz rfl _ rfl ((decide_eq_true hp278))<|Ah rfl<|Ac rfl rfl<|Aa 0 rfl (Af rfl) gn rfl<|Aj 1 rfl ?_
       have h:=Out.inr hO2 h
       have h:=Out.inr hO1 h
       refine C9 [.bool true] rfl Tryd.func10 rfl (.tmp rfl (.nil)) fun wr hLr=>?_
       have hMr:=hLr.pk0 (.c 1 rfl .n)
       show L9 w F  r (.returned (Ci [.bool true])) wr
       rw [h]
       exact ⟨rfl,hMr⟩
      ·have h:=Aq hp278 h
       refine Bg rfl _ rfl ((decide_eq_false hp278))<|Cb rfl<|D7<|Ac rfl rfl<|Aa 0 rfl (Ad rfl) gn rfl<|Aa 1 rfl (Be rfl rfl rfl) gn rfl<|Aa 2 rfl (Af rfl) gn rfl<|Aj 3 rfl<|Dp ?_
       have h:=Out.inr hO2 h
       have ih:=Out.inl hO1 h
       exact Dc [0,1] (ih A268 (n209 + 1) c269 h270) ⟨rfl,rfl,rfl,trivial⟩ (.cons _ (.cons _ (.cons_cons _ (.slnil)))) rfl
    ·have h:=Aq hp251 h
     refine Bv 14 rfl ((decide_eq_false hp251))<|Ae 4 rfl (ps 14 rfl rfl rfl)<|Ae 5 rfl (ps 14 rfl rfl rfl)<|Ae 6 rfl (ps 14 rfl rfl rfl)<|Ae 7 rfl (ps 14 rfl rfl rfl)<|Ae 8 rfl (ps 14 rfl rfl rfl)<|Ae 9 rfl (ps 14 rfl rfl rfl)<|Ae 10 rfl (ps 14 rfl rfl rfl)<|Aa 11 rfl (Bd (b:=false) rfl rfl) gn rfl<|Aj 12 rfl<|Bg rfl _ rfl (rfl)<|Gp [.code Xgd,.inBlock 1,.code Xhg,.inLoop Vo,.inBlock 0,.code Xe4] rfl rfl ?_
     refine Ah rfl<|Ah rfl<|Ac rfl rfl<|Aa 0 rfl (Ad rfl) gn rfl<|Aa 1 rfl (Dj Jc rfl h211.hq) gn rfl<|Aa 2 rfl (Be rfl rfl rfl) gn rfl<|Aj 3 rfl<|Bg rfl _ rfl ((decide_eq_false hp251))<|Cb rfl<|Ah rfl<|Ac rfl rfl<|Aa 0 rfl (Ad rfl) gn rfl ?_
     refine Aa 1 rfl (Ad rfl) gn rfl<|Aa 2 rfl (Ad rfl) gn rfl ?_
     obtain ⟨hb279,h⟩:=h
     have hr280:=Rw.readF (s:=St w []) (hl:=Ee) (h1:=Ez) h5 hb279
     refine Aa 3 rfl (F5 (s:=St w []) U7 rfl rfl h5 hb279) gn rfl<|Aa 4 rfl (Ja Uj rfl) gn rfl<|Aa 5 rfl (Hq (kk:=(x40:Int).toNat * 5) (j:=4) (St w []) H9 rfl hr280 rfl (me 1 rfl)) gn rfl ?_
     refine Cf 6 rfl (Gw (xs:=([(ix x1 x40).kids]:List Int)) [.int .i64 ((ix x1 x40).kids)] Rx rfl (by kernel_rfl) rfl rfl rfl rfl fun gb282 h283=>?_) gn
     obtain ⟨x287,hv288,h⟩:=h
     obtain ⟨hb289,h⟩:=h
     refine Cf 7 rfl (L8 (zs:=x287) (cells':=x287.flatMap (eI .i64)) 1 Zg rfl rfl rfl h211 (Nat.le_refl _) (Src.ownF (hl:=(hlI .i64)) (h1:=(Ey .i64)) 0 rfl h283) (by rw [hv288,List.flatMap_append] <;> rfl) (Ff hv288 h283.hq) hb289 rfl rfl fun A284 c285 h286=>?_) gn
     refine Aa 8 rfl (Af rfl) gn rfl<|Aj 9 rfl<|Ah rfl<|Ac rfl rfl<|Aa 0 rfl (Ad rfl) gn rfl<|Aa 1 rfl (Dj Jc rfl h286.hq) gn rfl<|Aa 2 rfl (Be rfl rfl rfl) gn rfl<|Aj 3 rfl ?_
     by_cases hp290:(x287.length:Int) > 65536
     ·have h:=Ap hp290 h
      refine Bz rfl _ rfl ((decide_eq_true hp290))<|Ah rfl<|Ac rfl rfl<|Aa 0 rfl (Af rfl) gn rfl<|Aj 1 rfl ?_
      have h:=Out.inr hO2 h
      have h:=Out.inr hO1 h
      refine C9 [.bool true] rfl Tryd.func10 rfl (.tmp rfl (.nil)) fun wr hLr=>?_
      have hMr:=hLr.pk0 (.c 1 rfl .n)
      show L9 w F  r (.returned (Ci [.bool true])) wr
      rw [h]
      exact ⟨rfl,hMr⟩
     ·have h:=Aq hp290 h
      refine Bg rfl _ rfl ((decide_eq_false hp290))<|Cb rfl<|D7<|Ac rfl rfl<|Aa 0 rfl (Ad rfl) gn rfl<|Aa 1 rfl (Be rfl rfl rfl) gn rfl<|Aa 2 rfl (Af rfl) gn rfl<|Aj 3 rfl<|Dp ?_
      have h:=Out.inr hO2 h
      have ih:=Out.inl hO1 h
      exact Dc [0,1] (ih A284 (n209 + 1) c285 h286) ⟨rfl,rfl,rfl,trivial⟩ (.cons _ (.cons_cons _ (.slnil))) rfl
   exact Dc [0,1] (key2 _ h A36 n37 c38 h39) ⟨rfl,rfl,rfl,trivial⟩ (.cons_cons _ (.slnil)) rfl
  ·have h:=Aq hp166 h
   refine Bg rfl _ rfl ((decide_eq_false hp166))<|Gp [.code Xe4] rfl rfl<|Ah rfl<|Ac rfl rfl<|Aa 0 rfl (Af rfl) gn rfl<|Aj 1 rfl ?_
   have h:=Out.inr hO1 h
   refine C9 [.bool false] rfl Tryd.func10 rfl (.tmp rfl (.nil)) fun wr hLr=>?_
   have hMr:=hLr.pk0 (.c 1 rfl .n)
   show L9 w F  r (.returned (Ci [.bool false])) wr
   rw [h]
   exact ⟨rfl,hMr⟩
 refine Nr 3 1 ?_
 exact Dc [0,1] (key1 _ h none 0 0 (Ow.nil (z:=w.heap.size))) ⟨rfl,rfl,rfl,trivial⟩ (.cons_cons _ (.slnil)) rfl
noncomputable abbrev Xdq:=Code.snd (Code.snd (Code.snd (Dv Tryd.f11)))
noncomputable abbrev Vm:=Code.fst (Code.fst (Code.snd (Code.fst (Code.snd (Code.snd (Dv Tryd.f11))))))
noncomputable abbrev Xh1:=Code.snd (Code.snd Vm)
noncomputable abbrev Xh6:=Code.snd (Code.fst (Code.fst (Code.snd Vm)))
noncomputable abbrev Xez:=Code.fst (Code.fst (Code.fst (Code.fst (Code.fst (Code.snd Vm)))))
abbrev L6 (w:World) (F:Nat→Prop) (r:Bool):Ending→World→Prop:=fun e w'=>e=.returned (.bool r)∧B.Loc w w' [] [St w []]
noncomputable abbrev I5 (w:World) (F:Nat→Prop) (r:Bool):Cx:=⟨Tryd.prog,11,Tryd.f11,54,L6 w F  r,w⟩
theorem Yw (w:World) (F:Nat→Prop) (x1:List Az) (A2:Option Addr) (n3:Nat) (c4:Nat) (h5:Rw F8 w (St w []).av A2 n3 c4 x1) (hF:∀ b,F b→b < w.heap.size∧∀ o ∈ ([]:List (List Nat)),b ∉ o) (hL0:B.Loc w w [] [Sm w.heap.size F w [],St w []]) (r:Bool) (h:Nh x1 r):Calls Tryd.prog 11 #[.slice A2 n3 c4] w (L6 w F  r):=by
 unfold Nh at h
 refine Ce (vs:=[.slice A2 n3 c4]) 54 Tryd.func11 rfl Tryd.ntmps11 rfl hL0 ?_
 show G (I5 w F r) _ _ _ _
 refine Ah rfl<|Ac rfl rfl<|Aa 0 rfl (Af rfl) gn rfl<|Aj 1 rfl<|Ah rfl<|Ac rfl rfl<|Aa 0 rfl (Af rfl) gn rfl<|Aj 1 rfl<|Ah rfl<|Ah rfl<|Ac rfl rfl<|Aa 0 rfl (Af rfl) gn rfl ?_
 refine Aj 1 rfl<|Df rfl<|Io rfl ?_
 have key1:∀ s,Bl (fun (s:(List Int) × Int) o=>Gt x1 s.1 s.2 o) s r→(fun (s:(List Int) × Int)=>∀ (A36:Option Addr) (n37:Nat) (c38:Nat) (h39:Ow w.heap.size A36 n37 c38 s.1),G (I5 w F r) [.code Vm,.inLoop Vm,.inBlock 0,.code Xdq] [(0,.slice A2 n3 c4),(3,.slice A36 n37 c38),(4,.int .i64 s.2)] [.own (.slice A36 n37 c38) 3 1 n37 (s.1.flatMap (eI .i64))] [Sm w.heap.size F w [],St w []]) s:=by
  intro s hs
  refine Bl.ind (mot:=(fun (s:(List Int) × Int)=>∀ (A36:Option Addr) (n37:Nat) (c38:Nat) (h39:Ow w.heap.size A36 n37 c38 s.1),G (I5 w F r) [.code Vm,.inLoop Vm,.inBlock 0,.code Xdq] [(0,.slice A2 n3 c4),(3,.slice A36 n37 c38),(4,.int .i64 s.2)] [.own (.slice A36 n37 c38) 3 1 n37 (s.1.flatMap (eI .i64))] [Sm w.heap.size F w [],St w []])) ?_ hs
  clear hs s
  intro s o1 h hO1
  obtain ⟨x35,x40⟩:=s
  show ∀ (A36:Option Addr) (n37:Nat) (c38:Nat) (h39:Ow w.heap.size A36 n37 c38 x35),G (I5 w F r) [.code Vm,.inLoop Vm,.inBlock 0,.code Xdq] [(0,.slice A2 n3 c4),(3,.slice A36 n37 c38),(4,.int .i64 x40)] [.own (.slice A36 n37 c38) 3 1 n37 (x35.flatMap (eI .i64))] [Sm w.heap.size F w [],St w []]
  intro A36 n37 c38 h39
  have h:Gt x1 x35 x40 o1:=h
  unfold Gt at h
  refine Ah rfl<|Ah rfl<|Ac rfl rfl<|Aa 0 rfl (Ad rfl) gn rfl<|Aa 1 rfl (Ad rfl) gn rfl<|Aa 2 rfl (Dj Xco rfl h5.hq) gn rfl<|Aa 3 rfl (Be rfl rfl rfl) gn rfl<|Aj 4 rfl ?_
  by_cases hp166:x40 < (x1.length:Int)
  ·have h:=Ap hp166 h
   refine Bz rfl _ rfl ((decide_eq_true hp166))<|Cb rfl<|Ah rfl<|Df rfl<|Ah rfl<|Df rfl<|Io rfl ?_
   have key2:∀ s,Bl (fun (s:(List Int)) o=>Gs x40 x1 s o) s o1→(fun (s:(List Int))=>∀ (A208:Option Addr) (n209:Nat) (c210:Nat) (h211:Ow w.heap.size A208 n209 c210 s),G (I5 w F r) [.code Xez,.inLoop Xez,.inBlock 2,.code Xh6,.inBlock 1,.code Xh1,.inLoop Vm,.inBlock 0,.code Xdq] [(0,.slice A2 n3 c4),(3,.slice A208 n209 c210),(4,.int .i64 x40)] [.own (.slice A208 n209 c210) 3 1 n209 (s.flatMap (eI .i64))] [Sm w.heap.size F w [],St w []]) s:=by
    intro s hs
    refine Bl.ind (mot:=(fun (s:(List Int))=>∀ (A208:Option Addr) (n209:Nat) (c210:Nat) (h211:Ow w.heap.size A208 n209 c210 s),G (I5 w F r) [.code Xez,.inLoop Xez,.inBlock 2,.code Xh6,.inBlock 1,.code Xh1,.inLoop Vm,.inBlock 0,.code Xdq] [(0,.slice A2 n3 c4),(3,.slice A208 n209 c210),(4,.int .i64 x40)] [.own (.slice A208 n209 c210) 3 1 n209 (s.flatMap (eI .i64))] [Sm w.heap.size F w [],St w []])) ?_ hs
    clear hs s
    intro x207 o2 h hO2
    show ∀ (A208:Option Addr) (n209:Nat) (c210:Nat) (h211:Ow w.heap.size A208 n209 c210 x207),G (I5 w F r) [.code Xez,.inLoop Xez,.inBlock 2,.code Xh6,.inBlock 1,.code Xh1,.inLoop Vm,.inBlock 0,.code Xdq] [(0,.slice A2 n3 c4),(3,.slice A208 n209 c210),(4,.int .i64 x40)] [.own (.slice A208 n209 c210) 3 1 n209 (x207.flatMap (eI .i64))] [Sm w.heap.size F w [],St w []]
    intro A208 n209 c210 h211
    have h:Gs x40 x1 x207 o2:=h
    unfold Gs at h
    refine Ah rfl<|Ah rfl<|Ac rfl rfl<|Aa 0 rfl (Ad rfl) gn rfl<|Aa 1 rfl (Dj Jc rfl h211.hq) gn rfl<|Aa 2 rfl (Be rfl rfl rfl) gn rfl<|Aa 3 rfl (Ad rfl) gn rfl ?_
    by_cases hp251:(x207.length:Int) > 0
    ·have h:=Ap hp251 h
     refine Bv 14 rfl ((decide_eq_true hp251))<|Aa 4 rfl (Ad rfl) (gy 14 rfl rfl) rfl<|Aa 5 rfl (Ad rfl) (gy 14 rfl rfl) rfl<|Aa 6 rfl (Dj Jc rfl h211.hq) (gy 14 rfl rfl) rfl<|Aa 7 rfl (Be rfl rfl rfl) (gy 14 rfl rfl) rfl ?_
     obtain ⟨hb252,h⟩:=h
     refine Aa 8 rfl (Fj Jt rfl rfl h211 hb252) (gy 14 rfl rfl) rfl<|Aa 9 rfl (Ut (.int .i64 (ix x207 (w64 ((x207.length:Int) - 1)))) 0 H9 rfl rfl (Vq (hlI .i64) hb252 rfl)) (gy 14 rfl rfl) rfl<|Aa 10 rfl (Be rfl rfl rfl) (gy 14 rfl rfl) rfl<|Aa 11 rfl (Bd (b:=true) rfl rfl) gn rfl<|Aj 12 rfl ?_
     by_cases hp253:ix x207 (w64 ((x207.length:Int) - 1))≤0
     ·have h:=Ap hp253 h
      refine Bz rfl _ rfl ((decide_eq_true hp253))<|Cb rfl<|Df rfl<|Ac rfl rfl<|Aa 0 rfl (Ad rfl) gn rfl<|Aa 1 rfl (Ad rfl) gn rfl<|Aa 2 rfl (Dj Jc rfl h211.hq) gn rfl<|Aa 3 rfl (Be rfl rfl rfl) gn rfl ?_
      obtain ⟨hb254,h⟩:=h
      obtain ⟨x256,hv257,h⟩:=h
      have hle255:(w64 ((x207.length:Int) - 1):Int).toNat≤n209:=by have q:=hb254; have q1:=h211.hq; omega
      have h258:Ow w.heap.size A208 (w64 ((x207.length:Int) - 1):Int).toNat c210 x256:=Ow.w (Ow.cut h211 hle255) (by rw [hv257])
      refine Aa 4 rfl (Xg1 (i:=w64 ((x207.length:Int) - 1)) Jt rfl rfl (by have q:=hb254; have q1:=h211.hq; have q2:=h211.hn; omega) h211.hn rfl) gn rfl<|Aa 5 rfl (Af rfl) gn rfl<|Aj 6 rfl<|D7<|Dp ?_
      have h259:Ow w.heap.size A208 ((w64 ((x207.length:Int) - 1):Int).toNat) c210 x256:=(Ow.w (Ow.cut h211 hle255) (by rw [hv257]))
      refine Xg2 (j:=0) (m:=((w64 ((x207.length:Int) - 1):Int).toNat)) (cells':=x256.flatMap (eI .i64)) rfl hle255 (by rw [Xc4 (hlI .i64),hv257]) ?_
      have ih:=Out.inl hO2 h
      exact Dc [0,1] (ih A208 ((w64 ((x207.length:Int) - 1):Int).toNat) c210 h259) ⟨rfl,rfl,rfl,trivial⟩ (.cons_cons _ (.slnil)) rfl
     ·have h:=Aq hp253 h
      refine Bg rfl _ rfl ((decide_eq_false hp253))<|Gp [.code Xh6,.inBlock 1,.code Xh1,.inLoop Vm,.inBlock 0,.code Xdq] rfl rfl<|Ah rfl<|Ah rfl<|Ac rfl rfl<|Aa 0 rfl (Ad rfl) gn rfl<|Aa 1 rfl (Dj Jc rfl h211.hq) gn rfl<|Aa 2 rfl (Be rfl rfl rfl) gn rfl<|Aj 3 rfl<|Bz rfl _ rfl ((decide_eq_true hp251))<|Ac rfl rfl<|Aa 0 rfl (Ad rfl) gn rfl ?_
      refine Aa 1 rfl (Ad rfl) gn rfl<|Aa 2 rfl (Dj Jc rfl h211.hq) gn rfl<|Aa 3 rfl (Be rfl rfl rfl) gn rfl<|Aa 4 rfl (Ad rfl) gn rfl<|Aa 5 rfl (Ad rfl) gn rfl<|Aa 6 rfl (Dj Jc rfl h211.hq) gn rfl<|Aa 7 rfl (Be rfl rfl rfl) gn rfl<|Aa 8 rfl (Fj Jt rfl rfl h211 hb252) gn rfl<|Aa 9 rfl (Ut (.int .i64 (ix x207 (w64 ((x207.length:Int) - 1)))) 0 H9 rfl rfl (Vq (hlI .i64) hb252 rfl)) gn rfl<|Aa 10 rfl (Be rfl rfl rfl) gn rfl<|Aa 11 rfl (Fj Jt rfl rfl h211 hb252) gn rfl ?_
      obtain ⟨x260,hv261,h⟩:=h
      refine Cf 12 rfl (Ua (enc:=(eI .i64)) (o:=0) (z:=(w64 ((ix x207 (w64 ((x207.length:Int) - 1))) - 1))) (vs:=[.int .i64 (w64 ((ix x207 (w64 ((x207.length:Int) - 1))) - 1))]) (i:=(w64 ((x207.length:Int) - 1))) 0 (hlI .i64) Xar rfl rfl rfl rfl rfl h211 hb252 rfl rfl rfl hv261 fun h262=>?_) gn
      refine Aj 13 rfl<|Ah rfl<|Ac rfl rfl<|Aa 0 rfl (Ad rfl) gn rfl<|Aa 1 rfl (Ad rfl) gn rfl<|Aa 2 rfl (Ad rfl) gn rfl ?_
      obtain ⟨hb263,h⟩:=h
      have hr264:=Rw.readF (s:=St w []) (hl:=V3) (h1:=V9) h5 hb263
      refine Aa 3 rfl (F5 (s:=St w []) Xhn rfl rfl h5 hb263) gn rfl<|Aa 4 rfl (Ja Xg5 rfl) gn rfl<|Aa 5 rfl (Hq (kk:=(x40:Int).toNat * 7) (j:=5) (St w []) H9 rfl hr264 rfl (me 1 rfl)) gn rfl ?_
      refine Cf 6 rfl (Gw (xs:=([(ix x1 x40).kids]:List Int)) [.int .i64 ((ix x1 x40).kids)] Rx rfl (by kernel_rfl) rfl rfl rfl rfl fun gb266 h267=>?_) gn
      obtain ⟨x275,hv276,h⟩:=h
      obtain ⟨hb277,h⟩:=h
      refine Xmf ?_
      refine Cf 7 rfl (s_appE (zs:=x275) (cells':=x275.flatMap (eI .i64)) 2 0 rfl Zg rfl rfl rfl rfl Eld.self h262 (Nat.le_refl _) (Src.ownF (hl:=(hlI .i64)) (h1:=(Ey .i64)) 1 rfl h267) (by rw [hv276,List.flatMap_append] <;> rfl) (Ff hv276 h267.hq) hb277 rfl rfl fun A268 c269 bs272 p273 h270 hE274=>?_) gn
      refine Aa 8 rfl (Af rfl) gn rfl<|Aj 9 rfl<|Ah rfl<|Ac rfl rfl<|Aa 0 rfl (Ad rfl) gn rfl<|Aa 1 rfl (Dj Jc rfl h270.hq) gn rfl<|Aa 2 rfl (Be rfl rfl rfl) gn rfl<|Aj 3 rfl ?_
      by_cases hp278:(x275.length:Int) > 65536
      ·have h:=Ap hp278 h
       refine Bz rfl _ rfl ((decide_eq_true hp278))<|Ah rfl<|Ac rfl rfl<|Aa 0 rfl (Af rfl) gn rfl<|Aj 1 rfl ?_
       have h:=Out.inr hO2 h
       have h:=Out.inr hO1 h
       refine C9 [.bool true] rfl Tryd.func11 rfl (.tmp rfl (.nil)) fun wr hLr=>?_
       have hMr:=hLr.pk0 (.c 1 rfl .n)
       show L6 w F  r (.returned (Ci [.bool true])) wr
       rw [h]
       exact ⟨rfl,hMr⟩
      ·have h:=Aq hp278 h
       refine Bg rfl _ rfl ((decide_eq_false hp278))<|Cb rfl<|D7<|Ac rfl rfl<|Aa 0 rfl (Ad rfl) gn rfl<|Aa 1 rfl (Be rfl rfl rfl) gn rfl<|Aa 2 rfl (Af rfl) gn rfl<|Aj 3 rfl<|Dp ?_
       have h:=Out.inr hO2 h
       have ih:=Out.inl hO1 h
       exact Dc [0,1] (ih A268 (n209 + 1) c269 h270) ⟨rfl,rfl,rfl,trivial⟩ (.cons _ (.cons _ (.cons_cons _ (.slnil)))) rfl
    ·have h:=Aq hp251 h
     refine Bv 14 rfl ((decide_eq_false hp251))<|Ae 4 rfl (ps 14 rfl rfl rfl)<|Ae 5 rfl (ps 14 rfl rfl rfl)<|Ae 6 rfl (ps 14 rfl rfl rfl)<|Ae 7 rfl (ps 14 rfl rfl rfl)<|Ae 8 rfl (ps 14 rfl rfl rfl)<|Ae 9 rfl (ps 14 rfl rfl rfl)<|Ae 10 rfl (ps 14 rfl rfl rfl)<|Aa 11 rfl (Bd (b:=false) rfl rfl) gn rfl<|Aj 12 rfl<|Bg rfl _ rfl (rfl)<|Gp [.code Xh6,.inBlock 1,.code Xh1,.inLoop Vm,.inBlock 0,.code Xdq] rfl rfl ?_
     refine Ah rfl<|Ah rfl<|Ac rfl rfl<|Aa 0 rfl (Ad rfl) gn rfl<|Aa 1 rfl (Dj Jc rfl h211.hq) gn rfl<|Aa 2 rfl (Be rfl rfl rfl) gn rfl<|Aj 3 rfl<|Bg rfl _ rfl ((decide_eq_false hp251))<|Cb rfl<|Ah rfl<|Ac rfl rfl<|Aa 0 rfl (Ad rfl) gn rfl ?_
     refine Aa 1 rfl (Ad rfl) gn rfl<|Aa 2 rfl (Ad rfl) gn rfl ?_
     obtain ⟨hb279,h⟩:=h
     have hr280:=Rw.readF (s:=St w []) (hl:=V3) (h1:=V9) h5 hb279
     refine Aa 3 rfl (F5 (s:=St w []) Xhn rfl rfl h5 hb279) gn rfl<|Aa 4 rfl (Ja Xg5 rfl) gn rfl<|Aa 5 rfl (Hq (kk:=(x40:Int).toNat * 7) (j:=5) (St w []) H9 rfl hr280 rfl (me 1 rfl)) gn rfl ?_
     refine Cf 6 rfl (Gw (xs:=([(ix x1 x40).kids]:List Int)) [.int .i64 ((ix x1 x40).kids)] Rx rfl (by kernel_rfl) rfl rfl rfl rfl fun gb282 h283=>?_) gn
     obtain ⟨x287,hv288,h⟩:=h
     obtain ⟨hb289,h⟩:=h
     refine Cf 7 rfl (L8 (zs:=x287) (cells':=x287.flatMap (eI .i64)) 1 Zg rfl rfl rfl h211 (Nat.le_refl _) (Src.ownF (hl:=(hlI .i64)) (h1:=(Ey .i64)) 0 rfl h283) (by rw [hv288,List.flatMap_append] <;> rfl) (Ff hv288 h283.hq) hb289 rfl rfl fun A284 c285 h286=>?_) gn
     refine Aa 8 rfl (Af rfl) gn rfl<|Aj 9 rfl<|Ah rfl<|Ac rfl rfl<|Aa 0 rfl (Ad rfl) gn rfl<|Aa 1 rfl (Dj Jc rfl h286.hq) gn rfl<|Aa 2 rfl (Be rfl rfl rfl) gn rfl<|Aj 3 rfl ?_
     by_cases hp290:(x287.length:Int) > 65536
     ·have h:=Ap hp290 h
      refine Bz rfl _ rfl ((decide_eq_true hp290))<|Ah rfl<|Ac rfl rfl<|Aa 0 rfl (Af rfl) gn rfl<|Aj 1 rfl ?_
      have h:=Out.inr hO2 h
      have h:=Out.inr hO1 h
      refine C9 [.bool true] rfl Tryd.func11 rfl (.tmp rfl (.nil)) fun wr hLr=>?_
      have hMr:=hLr.pk0 (.c 1 rfl .n)
      show L6 w F  r (.returned (Ci [.bool true])) wr
      rw [h]
      exact ⟨rfl,hMr⟩
     ·have h:=Aq hp290 h
      refine Bg rfl _ rfl ((decide_eq_false hp290))<|Cb rfl<|D7<|Ac rfl rfl<|Aa 0 rfl (Ad rfl) gn rfl<|Aa 1 rfl (Be rfl rfl rfl) gn rfl<|Aa 2 rfl (Af rfl) gn rfl<|Aj 3 rfl<|Dp ?_
      have h:=Out.inr hO2 h
      have ih:=Out.inl hO1 h
      exact Dc [0,1] (ih A284 (n209 + 1) c285 h286) ⟨rfl,rfl,rfl,trivial⟩ (.cons _ (.cons_cons _ (.slnil))) rfl
   exact Dc [0,1] (key2 _ h A36 n37 c38 h39) ⟨rfl,rfl,rfl,trivial⟩ (.cons_cons _ (.slnil)) rfl
  ·have h:=Aq hp166 h
   refine Bg rfl _ rfl ((decide_eq_false hp166))<|Gp [.code Xdq] rfl rfl<|Ah rfl<|Ac rfl rfl<|Aa 0 rfl (Af rfl) gn rfl<|Aj 1 rfl ?_
   have h:=Out.inr hO1 h
   refine C9 [.bool false] rfl Tryd.func11 rfl (.tmp rfl (.nil)) fun wr hLr=>?_
   have hMr:=hLr.pk0 (.c 1 rfl .n)
   show L6 w F  r (.returned (Ci [.bool false])) wr
   rw [h]
   exact ⟨rfl,hMr⟩
 refine Nr 3 1 ?_
 exact Dc [0,1] (key1 _ h none 0 0 (Ow.nil (z:=w.heap.size))) ⟨rfl,rfl,rfl,trivial⟩ (.cons_cons _ (.slnil)) rfl
noncomputable abbrev q54c4:=Code.snd (Code.snd (Dv Tryd.f54))
noncomputable abbrev q54c6:=Code.snd (Code.fst (Code.snd (Dv Tryd.f54)))
noncomputable abbrev Xjc:=Code.snd (Code.snd q54c4)
noncomputable abbrev Xei:=Code.fst (Code.fst (Code.snd (Code.fst (Code.snd q54c4))))
abbrev Oi (w:World) (F:Nat→Prop) (r:Int):Ending→World→Prop:=fun e w'=>e=.returned (.int .i64 r)∧B.Loc w w' [] [St w []]
noncomputable abbrev Qq (w:World) (F:Nat→Prop) (r:Int):Cx:=⟨Tryd.prog,54,Tryd.f54,34,Oi w F  r,w⟩
def X5 (rl:(List Ag)→Int→Int→Prop):Prop:=∀ (w:World) (F:Nat→Prop) (x1:List Ag) (x6:Int) (A2:Option Addr) (n3:Nat) (c4:Nat) (h5:Rw Dl w (St w []).av A2 n3 c4 x1) (hF:∀ b,F b→b < w.heap.size∧∀ o ∈ ([]:List (List Nat)),b ∉ o) (hL0:B.Loc w w [] [Sm w.heap.size F w [],St w []]) (r:Int) (h:rl x1 x6 r),Calls Tryd.prog 54 #[.slice A2 n3 c4,.int .i64 x6] w (Oi w F  r)
theorem Xdf (rc_query_subtree:(List Ag)→Int→Int→Prop) (ih_query_subtree:X5 rc_query_subtree):X5 (O9 rc_query_subtree):=by
 intro w F x1 x6 A2 n3 c4 h5 hF hL0 r h
 unfold O9 at h
 refine Ce (vs:=[.slice A2 n3 c4,.int .i64 x6]) 34 Tryd.func54 rfl Tryd.ntmps54 rfl hL0 ?_
 show G (Qq w F r) _ _ _ _
 refine Ah rfl<|Ac rfl rfl<|Aa 0 rfl (Af rfl) gn rfl<|Aj 1 rfl<|Ah rfl<|Ah rfl ?_
 have j1:∀ (x11:Bool) (h:O3 x6 x1 rc_query_subtree x11 r) ,G (Qq w F r) [.code q54c6,.code q54c4] [(0,.slice A2 n3 c4),(1,.int .i64 x6),(17,.bool x11)] [] [Sm w.heap.size F w [],St w []]:=by
  intro x11 h
  unfold O3 at h
  by_cases hp12:x11=true
  ·have h:=Ap hp12 h
   refine Bz rfl _ rfl (hp12)<|Ah rfl<|Ac rfl rfl<|Aa 0 rfl (Af rfl) gn rfl<|Aj 1 rfl ?_
   refine C9 [.int .i64 (-1)] rfl Tryd.func54 rfl (.tmp rfl (.nil)) fun wr hLr=>?_
   have hMr:=hLr.pk0 (.c 1 rfl .n)
   show Oi w F  r (.returned (Ci [.int .i64 (-1)])) wr
   rw [h]
   exact ⟨rfl,hMr⟩
  ·have h:=Aq hp12 h
   refine Bg rfl _ rfl ((bf hp12))<|Cb rfl<|Ah rfl<|Ac rfl rfl<|Aa 0 rfl (Ad rfl) gn rfl<|Aa 1 rfl (Be rfl rfl rfl) gn rfl<|Aa 2 rfl (Af rfl) gn rfl<|Aj 3 rfl<|Ah rfl<|Ah rfl<|Ac rfl rfl<|Aa 0 rfl (Ad rfl) gn rfl ?_
   refine Aa 1 rfl (Ad rfl) gn rfl ?_
   obtain ⟨hb13,h⟩:=h
   have hr14:=Rw.readF (s:=St w []) (hl:=Ee) (h1:=Ez) h5 hb13
   refine Aa 2 rfl (F5 (s:=St w []) U7 rfl rfl h5 hb13) gn rfl<|Aa 3 rfl (Ja Uj rfl) gn rfl<|Aa 4 rfl (Hq (kk:=(x6:Int).toNat * 5) (j:=4) (St w []) H9 rfl hr14 rfl (me 1 rfl)) gn rfl<|Aa 5 rfl (Ad rfl) gn rfl<|Aj 6 rfl<|Df rfl<|Io rfl ?_
   have key2:∀ s,Bl (fun (s:Int × Int) o=>Ir x1 x6 rc_query_subtree s.1 s.2 o) s r→(fun (s:Int × Int)=>∀ (_:Unit),G (Qq w F r) [.code Xei,.inLoop Xei,.inBlock 0,.code Xjc] [(0,.slice A2 n3 c4),(5,.int .i64 s.1),(24,.int .i64 ((ix x1 x6).kids)),(25,.int .i64 s.2)] [] [Sm w.heap.size F w [],St w []]) s:=by
    intro s hs
    refine Bl.ind (mot:=(fun (s:Int × Int)=>∀ (_:Unit),G (Qq w F r) [.code Xei,.inLoop Xei,.inBlock 0,.code Xjc] [(0,.slice A2 n3 c4),(5,.int .i64 s.1),(24,.int .i64 ((ix x1 x6).kids)),(25,.int .i64 s.2)] [] [Sm w.heap.size F w [],St w []])) ?_ hs
    clear hs s
    intro s o1 h hO1
    obtain ⟨x26,x27⟩:=s
    show ∀ (_:Unit),G (Qq w F r) [.code Xei,.inLoop Xei,.inBlock 0,.code Xjc] [(0,.slice A2 n3 c4),(5,.int .i64 x26),(24,.int .i64 ((ix x1 x6).kids)),(25,.int .i64 x27)] [] [Sm w.heap.size F w [],St w []]
    intro _
    have h:Ir x1 x6 rc_query_subtree x26 x27 o1:=h
    unfold Ir at h
    refine Ah rfl<|Ac rfl rfl<|Aa 0 rfl (Be rfl rfl rfl) gn rfl<|Aj 1 rfl<|Ah rfl ?_
    by_cases hp38:x27 < (ix x1 x6).kids
    ·have h:=Ap hp38 h
     refine Bz rfl _ rfl ((decide_eq_true hp38))<|Cb rfl<|Ah rfl<|Df rfl<|Ah rfl<|Ac rfl rfl<|Aa 0 rfl (Ad rfl) gn rfl<|Aa 1 rfl (Ad rfl) gn rfl ?_
     obtain ⟨r42,hv43,h⟩:=h
     refine Cf 2 rfl (D8 [.slice A2 n3 c4,.int .i64 x26] rfl Tryd.func54 rfl rfl rfl fun w39 hL40=>?_) gn
     have hp41:=pmI hL40 .n .n (by kernel_rfl)
     refine Calls.mono (ih_query_subtree w39 (Fl ([]:List Cc)) x1 x26 A2 n3 c4 (Rw.mono h5 (hL40.toSt hp41 (me 1 rfl))) (hL40.hFl hp41 (Bi [] rfl)) (hL40.into hp41 _) r42 hv43) ?_
     rintro _ w44 ⟨rfl,hM45⟩
     have hL46:=hL40.call hp41 hM45
     refine ⟨_,_,_,rfl,hL46,?_⟩
     refine Aa 3 rfl (Af rfl) gn rfl<|Aj 4 rfl<|Ah rfl<|Ac rfl rfl<|Aa 0 rfl (Ad rfl) gn rfl<|Aa 1 rfl (Be rfl rfl rfl) gn rfl<|Aj 2 rfl ?_
     by_cases hp47:r42 < 0
     ·have h:=Ap hp47 h
      refine Bz rfl _ rfl ((decide_eq_true hp47))<|Ah rfl<|Ac rfl rfl<|Aa 0 rfl (Af rfl) gn rfl<|Aj 1 rfl ?_
      have h:=Out.inr hO1 h
      refine C9 [.int .i64 (-1)] rfl Tryd.func54 rfl (.tmp rfl (.nil)) fun wr hLr=>?_
      have hMr:=hLr.pk0 (.c 1 rfl .n)
      show Oi w F  r (.returned (Ci [.int .i64 (-1)])) wr
      rw [h]
      exact ⟨rfl,hMr⟩
     ·have h:=Aq hp47 h
      refine Bg rfl _ rfl ((decide_eq_false hp47))<|Cb rfl<|D7<|Ac rfl rfl<|Aa 0 rfl (Be rfl rfl rfl) gn rfl<|Aa 1 rfl (Ad rfl) gn rfl<|Aj 2 rfl<|Dp ?_
      have ih:=Out.inl hO1 h
      exact Dc [0,1] (ih ()) ⟨rfl,rfl,rfl,rfl,trivial⟩ (.slnil) rfl
    ·have h:=Aq hp38 h
     refine Bg rfl _ rfl ((decide_eq_false hp38))<|Gp [.code Xjc] rfl rfl<|Ah rfl<|Ac rfl rfl<|Aa 0 rfl (Ad rfl) gn rfl<|Aa 1 rfl (Af rfl) gn rfl<|Aj 2 rfl ?_
     have h:=Out.inr hO1 h
     refine C9 [.int .i64 x26] rfl Tryd.func54 rfl (.tmp rfl (.nil)) fun wr hLr=>?_
     have hMr:=hLr.pk0 (.c 1 rfl .n)
     show Oi w F  r (.returned (Ci [.int .i64 x26])) wr
     rw [h]
     exact ⟨rfl,hMr⟩
   exact Dc [0,1] (key2 _ h ()) ⟨rfl,rfl,rfl,rfl,trivial⟩ (.slnil) rfl
 refine Ac rfl rfl<|Aa 0 rfl (Ad rfl) gn rfl<|Aa 1 rfl (Ad rfl) gn rfl<|Aa 2 rfl (Dj Xas rfl h5.hq) gn rfl<|Aa 3 rfl (Be rfl rfl rfl) gn rfl<|Aa 4 rfl (Ad rfl) gn rfl ?_
 by_cases hp48:x6≥(x1.length:Int)
 ·have h:=Ap hp48 h
  refine Bv 10 rfl ((decide_eq_true hp48))<|Ae 5 rfl (ps 10 rfl rfl rfl)<|Ae 6 rfl (ps 10 rfl rfl rfl)<|Ae 7 rfl (ps 10 rfl rfl rfl)<|Ae 8 rfl (ps 10 rfl rfl rfl)<|Ae 9 rfl (ps 10 rfl rfl rfl)<|Ae 10 rfl (ps 10 rfl rfl rfl)<|Aa 11 rfl (Bd (b:=true) rfl rfl) gn rfl<|Aj 12 rfl ?_
  exact Dc [0,1] (j1 true h) ⟨rfl,rfl,rfl,trivial⟩ (.slnil) rfl
 ·have h:=Aq hp48 h
  refine Bv 10 rfl ((decide_eq_false hp48))<|Aa 5 rfl (Ad rfl) (gy 10 rfl rfl) rfl<|Aa 6 rfl (Ad rfl) (gy 10 rfl rfl) rfl ?_
  obtain ⟨hb49,h⟩:=h
  have hr50:=Rw.readF (s:=St w []) (hl:=Ee) (h1:=Ez) h5 hb49
  refine Aa 7 rfl (F5 (s:=St w []) U7 rfl rfl h5 hb49) (gy 10 rfl rfl) rfl<|Aa 8 rfl (Ja Uj rfl) (gy 10 rfl rfl) rfl<|Aa 9 rfl (Hq (kk:=(x6:Int).toNat * 5) (j:=4) (St w []) H9 rfl hr50 rfl (me 1 rfl)) (gy 10 rfl rfl) rfl<|Aa 10 rfl (Be rfl rfl rfl) (gy 10 rfl rfl) rfl<|Aa 11 rfl (Bd (b:=false) rfl rfl) gn rfl<|Aj 12 rfl ?_
  exact Dc [0,1] (j1 (decide ((ix x1 x6).kids < 0)) h) ⟨rfl,rfl,rfl,trivial⟩ (.slnil) rfl
theorem Zi:∀ n,X5 (Oj n)
 | 0=>fun w F x1 x6 A2 n3 c4 h5 hF hL0 r h=>h.elim
 | n + 1=>by
  have ih:=Zi n
  exact Xdf _ ih
theorem Xce (w:World) (F:Nat→Prop) (x1:List Ag) (x6:Int) (A2:Option Addr) (n3:Nat) (c4:Nat) (h5:Rw Dl w (St w []).av A2 n3 c4 x1) (hF:∀ b,F b→b < w.heap.size∧∀ o ∈ ([]:List (List Nat)),b ∉ o) (hL0:B.Loc w w [] [Sm w.heap.size F w [],St w []]) (r:Int) (h:Zv x1 x6 r):Calls Tryd.prog 54 #[.slice A2 n3 c4,.int .i64 x6] w (Oi w F  r):=by
 obtain ⟨n,h⟩:=h
 exact (Zi n) w F x1 x6 A2 n3 c4 h5 hF hL0 r h
abbrev Xe (w:World) (F:Nat→Prop) (r:Bool):Ending→World→Prop:=fun e w'=>e=.returned (.bool r)∧B.Loc w w' [] [St w []]
noncomputable abbrev Xht (w:World) (F:Nat→Prop) (r:Bool):Cx:=⟨Tryd.prog,83,Tryd.f83,9,Xe w F  r,w⟩
theorem N9 (w:World) (F:Nat→Prop) (x1:Int) (hF:∀ b,F b→b < w.heap.size∧∀ o ∈ ([]:List (List Nat)),b ∉ o) (hL0:B.Loc w w [] [Sm w.heap.size F w [],St w []]) (r:Bool) (h:Ls x1 r):Calls Tryd.prog 83 #[.int .u8 x1] w (Xe w F  r):=by
 unfold Ls at h
 refine Ce (vs:=[.int .u8 x1]) 9 Tryd.func83 rfl Tryd.ntmps83 rfl hL0 ?_
 show G (Xht w F r) _ _ _ _
 refine Ah rfl<|Ac rfl rfl<|Aa 0 rfl (Af rfl) gn rfl<|Aj 1 rfl<|Ah rfl<|Ac rfl rfl<|Aa 0 rfl (Ad rfl) gn rfl<|Aa 1 rfl (Be rfl rfl rfl) gn rfl<|Aa 2 rfl (Ad rfl) gn rfl ?_
 by_cases hp2:x1≥48
 ·have h:=Ap hp2 h
  refine Bv 5 rfl ((decide_eq_true hp2))<|Aa 3 rfl (Ad rfl) (gy 5 rfl rfl) rfl<|Aa 4 rfl (Be rfl rfl rfl) (gy 5 rfl rfl) rfl<|Aa 5 rfl (Bd (b:=true) rfl rfl) gn rfl<|Aa 6 rfl (Af rfl) gn rfl<|Aj 7 rfl ?_
  refine C9 [.bool (decide (x1≤57))] rfl Tryd.func83 rfl (.tmp rfl (.nil)) fun wr hLr=>?_
  have hMr:=hLr.pk0 (.c 1 rfl .n)
  show Xe w F  r (.returned (Ci [.bool (decide (x1≤57))])) wr
  rw [h]
  exact ⟨rfl,hMr⟩
 ·have h:=Aq hp2 h
  refine Bv 5 rfl ((decide_eq_false hp2))<|Ae 3 rfl (ps 5 rfl rfl rfl)<|Ae 4 rfl (ps 5 rfl rfl rfl)<|Aa 5 rfl (Bd (b:=false) rfl rfl) gn rfl<|Aa 6 rfl (Af rfl) gn rfl<|Aj 7 rfl ?_
  refine C9 [.bool false] rfl Tryd.func83 rfl (.tmp rfl (.nil)) fun wr hLr=>?_
  have hMr:=hLr.pk0 (.c 1 rfl .n)
  show Xe w F  r (.returned (Ci [.bool false])) wr
  rw [h]
  exact ⟨rfl,hMr⟩
abbrev Jq (w:World) (F:Nat→Prop) (r:Bool):Ending→World→Prop:=fun e w'=>e=.returned (.bool r)∧B.Loc w w' [] [St w []]
noncomputable abbrev Xgv (w:World) (F:Nat→Prop) (r:Bool):Cx:=⟨Tryd.prog,82,Tryd.f82,21,Jq w F  r,w⟩
theorem Ur (w:World) (F:Nat→Prop) (x1:Int) (hF:∀ b,F b→b < w.heap.size∧∀ o ∈ ([]:List (List Nat)),b ∉ o) (hL0:B.Loc w w [] [Sm w.heap.size F w [],St w []]) (r:Bool) (h:P8 x1 r):Calls Tryd.prog 82 #[.int .u8 x1] w (Jq w F  r):=by
 unfold P8 at h
 refine Ce (vs:=[.int .u8 x1]) 21 Tryd.func82 rfl Tryd.ntmps82 rfl hL0 ?_
 show G (Xgv w F r) _ _ _ _
 refine Ah rfl<|Ac rfl rfl<|Aa 0 rfl (Af rfl) gn rfl<|Aj 1 rfl<|Ah rfl<|Ac rfl rfl<|Aa 0 rfl (Ad rfl) gn rfl<|Aa 1 rfl (Be rfl rfl rfl) gn rfl<|Aa 2 rfl (Ad rfl) gn rfl ?_
 by_cases hp2:x1≥97
 ·have h:=Ap hp2 h
  refine Bv 5 rfl ((decide_eq_true hp2))<|Aa 3 rfl (Ad rfl) (gy 5 rfl rfl) rfl<|Aa 4 rfl (Be rfl rfl rfl) (gy 5 rfl rfl) rfl<|Aa 5 rfl (Bd (b:=true) rfl rfl) gn rfl<|Aa 6 rfl (Ad rfl) gn rfl ?_
  by_cases hp3:x1≤122
  ·have h:=Ap hp3 h
   refine Bv 9 rfl ((decide_eq_true hp3))<|Ae 7 rfl (ps 9 rfl rfl rfl)<|Ae 8 rfl (ps 9 rfl rfl rfl)<|Ae 9 rfl (ps 9 rfl rfl rfl)<|Ae 10 rfl (pu 12 rfl rfl)<|Ae 11 rfl (pu 12 rfl rfl)<|Ae 12 rfl (ps 9 rfl rfl rfl)<|Aa 13 rfl (Bd (b:=true) rfl rfl) gn rfl<|Aa 14 rfl (Ad rfl) gn rfl<|Ae 15 rfl (ps 17 rfl rfl rfl)<|Ae 16 rfl (ps 17 rfl rfl rfl)<|Aa 17 rfl (Bd (b:=true) rfl rfl) gn rfl ?_
   refine Aa 18 rfl (Af rfl) gn rfl<|Aj 19 rfl ?_
   refine C9 [.bool true] rfl Tryd.func82 rfl (.tmp rfl (.nil)) fun wr hLr=>?_
   have hMr:=hLr.pk0 (.c 1 rfl .n)
   show Jq w F  r (.returned (Ci [.bool true])) wr
   rw [h]
   exact ⟨rfl,hMr⟩
  ·have h:=Aq hp3 h
   refine Bv 9 rfl ((decide_eq_false hp3))<|Aa 7 rfl (Ad rfl) (gy 9 rfl rfl) rfl<|Aa 8 rfl (Be rfl rfl rfl) (gy 9 rfl rfl) rfl<|Aa 9 rfl (Ad rfl) (gy 9 rfl rfl) rfl ?_
   by_cases hp4:x1≥65
   ·have h:=Ap hp4 h
    refine Bv 12 rfl ((decide_eq_true hp4))<|Aa 10 rfl (Ad rfl) (gy 12 rfl rfl) rfl<|Aa 11 rfl (Be rfl rfl rfl) (gy 12 rfl rfl) rfl<|Aa 12 rfl (Bd (b:=true) rfl rfl) (gy 9 rfl rfl) rfl<|Aa 13 rfl (Bd (b:=false) rfl rfl) gn rfl<|Aa 14 rfl (Ad rfl) gn rfl ?_
    by_cases hp5:x1≤90
    ·have h:=Ap hp5 h
     refine Bv 17 rfl ((decide_eq_true hp5))<|Ae 15 rfl (ps 17 rfl rfl rfl)<|Ae 16 rfl (ps 17 rfl rfl rfl)<|Aa 17 rfl (Bd (b:=true) rfl rfl) gn rfl<|Aa 18 rfl (Af rfl) gn rfl<|Aj 19 rfl ?_
     refine C9 [.bool true] rfl Tryd.func82 rfl (.tmp rfl (.nil)) fun wr hLr=>?_
     have hMr:=hLr.pk0 (.c 1 rfl .n)
     show Jq w F  r (.returned (Ci [.bool true])) wr
     rw [h]
     exact ⟨rfl,hMr⟩
    ·have h:=Aq hp5 h
     refine Bv 17 rfl ((decide_eq_false hp5))<|Aa 15 rfl (Ad rfl) (gy 17 rfl rfl) rfl<|Aa 16 rfl (Be rfl rfl rfl) (gy 17 rfl rfl) rfl<|Aa 17 rfl (Bd (b:=false) rfl rfl) gn rfl<|Aa 18 rfl (Af rfl) gn rfl<|Aj 19 rfl ?_
     refine C9 [.bool (x1 == 95)] rfl Tryd.func82 rfl (.tmp rfl (.nil)) fun wr hLr=>?_
     have hMr:=hLr.pk0 (.c 1 rfl .n)
     show Jq w F  r (.returned (Ci [.bool (x1 == 95)])) wr
     rw [h]
     exact ⟨rfl,hMr⟩
   ·have h:=Aq hp4 h
    refine Bv 12 rfl ((decide_eq_false hp4))<|Ae 10 rfl (ps 12 rfl rfl rfl)<|Ae 11 rfl (ps 12 rfl rfl rfl)<|Aa 12 rfl (Bd (b:=false) rfl rfl) (gy 9 rfl rfl) rfl<|Aa 13 rfl (Bd (b:=false) rfl rfl) gn rfl<|Aa 14 rfl (Ad rfl) gn rfl<|Aa 15 rfl (Ad rfl) (gy 17 rfl rfl) rfl<|Aa 16 rfl (Be rfl rfl rfl) (gy 17 rfl rfl) rfl<|Aa 17 rfl (Bd (b:=false) rfl rfl) gn rfl<|Aa 18 rfl (Af rfl) gn rfl<|Aj 19 rfl ?_
    refine C9 [.bool (x1 == 95)] rfl Tryd.func82 rfl (.tmp rfl (.nil)) fun wr hLr=>?_
    have hMr:=hLr.pk0 (.c 1 rfl .n)
    show Jq w F  r (.returned (Ci [.bool (x1 == 95)])) wr
    rw [h]
    exact ⟨rfl,hMr⟩
 ·have h:=Aq hp2 h
  refine Bv 5 rfl ((decide_eq_false hp2))<|Ae 3 rfl (ps 5 rfl rfl rfl)<|Ae 4 rfl (ps 5 rfl rfl rfl)<|Aa 5 rfl (Bd (b:=false) rfl rfl) gn rfl<|Aa 6 rfl (Ad rfl) gn rfl<|Aa 7 rfl (Ad rfl) (gy 9 rfl rfl) rfl<|Aa 8 rfl (Be rfl rfl rfl) (gy 9 rfl rfl) rfl<|Aa 9 rfl (Ad rfl) (gy 9 rfl rfl) rfl ?_
  by_cases hp6:x1≥65
  ·have h:=Ap hp6 h
   refine Bv 12 rfl ((decide_eq_true hp6))<|Aa 10 rfl (Ad rfl) (gy 12 rfl rfl) rfl<|Aa 11 rfl (Be rfl rfl rfl) (gy 12 rfl rfl) rfl<|Aa 12 rfl (Bd (b:=true) rfl rfl) (gy 9 rfl rfl) rfl<|Aa 13 rfl (Bd (b:=false) rfl rfl) gn rfl<|Aa 14 rfl (Ad rfl) gn rfl ?_
   by_cases hp7:x1≤90
   ·have h:=Ap hp7 h
    refine Bv 17 rfl ((decide_eq_true hp7))<|Ae 15 rfl (ps 17 rfl rfl rfl)<|Ae 16 rfl (ps 17 rfl rfl rfl)<|Aa 17 rfl (Bd (b:=true) rfl rfl) gn rfl<|Aa 18 rfl (Af rfl) gn rfl<|Aj 19 rfl ?_
    refine C9 [.bool true] rfl Tryd.func82 rfl (.tmp rfl (.nil)) fun wr hLr=>?_
    have hMr:=hLr.pk0 (.c 1 rfl .n)
    show Jq w F  r (.returned (Ci [.bool true])) wr
    rw [h]
    exact ⟨rfl,hMr⟩
   ·have h:=Aq hp7 h
    refine Bv 17 rfl ((decide_eq_false hp7))<|Aa 15 rfl (Ad rfl) (gy 17 rfl rfl) rfl<|Aa 16 rfl (Be rfl rfl rfl) (gy 17 rfl rfl) rfl<|Aa 17 rfl (Bd (b:=false) rfl rfl) gn rfl<|Aa 18 rfl (Af rfl) gn rfl<|Aj 19 rfl ?_
    refine C9 [.bool (x1 == 95)] rfl Tryd.func82 rfl (.tmp rfl (.nil)) fun wr hLr=>?_
    have hMr:=hLr.pk0 (.c 1 rfl .n)
    show Jq w F  r (.returned (Ci [.bool (x1 == 95)])) wr
    rw [h]
    exact ⟨rfl,hMr⟩
  ·have h:=Aq hp6 h
   refine Bv 12 rfl ((decide_eq_false hp6))<|Ae 10 rfl (ps 12 rfl rfl rfl)<|Ae 11 rfl (ps 12 rfl rfl rfl)<|Aa 12 rfl (Bd (b:=false) rfl rfl) (gy 9 rfl rfl) rfl<|Aa 13 rfl (Bd (b:=false) rfl rfl) gn rfl<|Aa 14 rfl (Ad rfl) gn rfl<|Aa 15 rfl (Ad rfl) (gy 17 rfl rfl) rfl<|Aa 16 rfl (Be rfl rfl rfl) (gy 17 rfl rfl) rfl<|Aa 17 rfl (Bd (b:=false) rfl rfl) gn rfl<|Aa 18 rfl (Af rfl) gn rfl<|Aj 19 rfl ?_
   refine C9 [.bool (x1 == 95)] rfl Tryd.func82 rfl (.tmp rfl (.nil)) fun wr hLr=>?_
   have hMr:=hLr.pk0 (.c 1 rfl .n)
   show Jq w F  r (.returned (Ci [.bool (x1 == 95)])) wr
   rw [h]
   exact ⟨rfl,hMr⟩
abbrev Xd6 (w:World) (F:Nat→Prop) (r:Bool):Ending→World→Prop:=fun e w'=>e=.returned (.bool r)∧B.Loc w w' [] [St w []]
theorem Xai (w:World) (F:Nat→Prop) (x1:ByteArray) (x2:ByteArray) (hF:∀ b,F b→b < w.heap.size∧∀ o ∈ ([]:List (List Nat)),b ∉ o) (hL0:B.Loc w w [] [Sm w.heap.size F w [],St w []]) (r:Bool) (h:X7 x1 x2 r):Calls Tryd.prog 100 #[.string x1,.string x2] w (Xd6 w F  r):=by
 unfold X7 at h
 obtain ⟨h1,rfl⟩:=h
 rw [one_byte h1]
 refine Calls.mono (Tryd.strings_Contains_one x1 _ w) ?_
 rintro e w' ⟨rfl,rfl⟩
 exact ⟨rfl,Loc.of_below (Below.refl _ _)⟩
noncomputable abbrev Xcn:=Code.snd (Code.snd (Dv Tryd.f78))
noncomputable abbrev Xm3:=Code.snd (Code.fst (Code.snd (Code.fst (Code.snd (Code.fst (Code.snd (Dv Tryd.f78)))))))
noncomputable abbrev q78c15:=Code.snd (Code.fst (Code.fst (Code.snd (Code.fst (Code.snd (Code.fst (Code.snd (Dv Tryd.f78))))))))
noncomputable abbrev Xje:=Code.snd Xm3
noncomputable abbrev Xeo:=Code.fst (Code.fst (Code.snd (Code.fst Xm3)))
noncomputable abbrev Xgh:=Code.snd (Code.fst (Code.snd (Code.snd (Code.snd (Code.snd (Code.snd (Code.fst (Code.snd (Code.fst (Code.snd (Dv Tryd.f78)))))))))))
noncomputable abbrev Xaj:=Code.fst (Code.fst (Code.snd (Code.fst (Code.fst (Code.snd (Code.snd (Code.snd (Code.snd (Code.snd (Code.fst (Code.snd (Code.fst (Code.snd (Dv Tryd.f78))))))))))))))
noncomputable abbrev q78c66:=Code.snd (Code.snd Xaj)
noncomputable abbrev q78c72:=Code.snd (Code.fst (Code.snd (Code.fst (Code.fst (Code.snd Xaj)))))
abbrev Gx (w:World) (F:Nat→Prop) (r:Bool):Ending→World→Prop:=fun e w'=>e=.returned (.bool r)∧B.Loc w w' [] [St w []]
noncomputable abbrev Lm (w:World) (F:Nat→Prop) (r:Bool):Cx:=⟨Tryd.prog,78,Tryd.f78,100,Gx w F  r,w⟩
theorem Zb (w:World) (F:Nat→Prop) (x1:Ak) (hF:∀ b,F b→b < w.heap.size∧∀ o ∈ ([]:List (List Nat)),b ∉ o) (hL0:B.Loc w w [] [Sm w.heap.size F w [],St w []]) (r:Bool) (h:V8 x1 r):Calls Tryd.prog 78 #[.agg #[.int .i64 x1.kind,.string x1.text,.int .i64 x1.n,.int .i64 x1.at_]] w (Gx w F  r):=by
 unfold V8 at h
 refine Ce (vs:=[.agg #[.int .i64 x1.kind,.string x1.text,.int .i64 x1.n,.int .i64 x1.at_]]) 100 Tryd.func78 rfl Tryd.ntmps78 rfl hL0 ?_
 show G (Lm w F r) _ _ _ _
 refine Ah rfl<|Ac rfl rfl ?_
 refine Cf 0 rfl (V5 [.int .i64 x1.kind,.string x1.text,.int .i64 x1.n,.int .i64 x1.at_] rfl rfl rfl fun gb2=>?_) gn
 refine Aa 1 rfl (Af rfl) gn rfl<|Aj 2 rfl<|Ah rfl<|Ah rfl<|Ac rfl rfl<|Aa 0 rfl (Aw Ve rfl) gn rfl<|Aa 1 rfl (Au 0 Xb3 rfl rfl rfl) gn rfl<|Aj 2 rfl<|Df rfl<|Ah rfl<|Ac rfl rfl<|Aa 0 rfl (Be rfl rfl rfl) gn rfl ?_
 refine Aa 1 rfl (Af rfl) gn rfl<|Aj 2 rfl ?_
 by_cases hp4:x1.kind=1
 ·have h:=Ap hp4 h
  refine Bz rfl _ rfl ((eqi hp4))<|Ah rfl<|Ah rfl ?_
  have j1:∀ (x17:Bool) (h:O8 x1 x17 r) ,G (Lm w F r) [.code q78c15,.code Xm3,.inBlock 0,.code Xcn] [(1,.pointer (some ⟨gb2,0,none⟩)),(23,.bool x17)] [.box gb2 84 [.int .i64 x1.kind,.string x1.text,.int .i64 x1.n,.int .i64 x1.at_]] [Sm w.heap.size F w [],St w []]:=by
   intro x17 h
   unfold O8 at h
   by_cases hp18:x17=true
   ·have h:=Ap hp18 h
    refine Bz rfl _ rfl (hp18)<|Ah rfl<|Ac rfl rfl<|Aa 0 rfl (Af rfl) gn rfl<|Aj 1 rfl ?_
    refine C9 [.bool false] rfl Tryd.func78 rfl (.tmp rfl (.nil)) fun wr hLr=>?_
    have hMr:=hLr.pk0 (.c 1 rfl .n)
    show Gx w F  r (.returned (Ci [.bool false])) wr
    rw [h]
    exact ⟨rfl,hMr⟩
   ·have h:=Aq hp18 h
    refine Bg rfl _ rfl ((bf hp18))<|Cb rfl<|Ah rfl<|Ah rfl<|Ac rfl rfl<|Aa 0 rfl (Af rfl) gn rfl<|Aj 1 rfl<|Df rfl<|Io rfl ?_
    have key2:∀ s,Bl (fun (s:Int) o=>Oa x1 s o) s r→(fun (s:Int)=>∀ (_:Unit),G (Lm w F r) [.code Xeo,.inLoop Xeo,.inBlock 1,.code Xje,.inBlock 0,.code Xcn] [(1,.pointer (some ⟨gb2,0,none⟩)),(3,.int .i64 s)] [.box gb2 84 [.int .i64 x1.kind,.string x1.text,.int .i64 x1.n,.int .i64 x1.at_]] [Sm w.heap.size F w [],St w []]) s:=by
     intro s hs
     refine Bl.ind (mot:=(fun (s:Int)=>∀ (_:Unit),G (Lm w F r) [.code Xeo,.inLoop Xeo,.inBlock 1,.code Xje,.inBlock 0,.code Xcn] [(1,.pointer (some ⟨gb2,0,none⟩)),(3,.int .i64 s)] [.box gb2 84 [.int .i64 x1.kind,.string x1.text,.int .i64 x1.n,.int .i64 x1.at_]] [Sm w.heap.size F w [],St w []])) ?_ hs
     clear hs s
     intro x40 o1 h hO1
     show ∀ (_:Unit),G (Lm w F r) [.code Xeo,.inLoop Xeo,.inBlock 1,.code Xje,.inBlock 0,.code Xcn] [(1,.pointer (some ⟨gb2,0,none⟩)),(3,.int .i64 x40)] [.box gb2 84 [.int .i64 x1.kind,.string x1.text,.int .i64 x1.n,.int .i64 x1.at_]] [Sm w.heap.size F w [],St w []]
     intro _
     have h:Oa x1 x40 o1:=h
     unfold Oa at h
     refine Ah rfl<|Ah rfl<|Ac rfl rfl<|Aa 0 rfl (Ad rfl) gn rfl<|Aa 1 rfl (Aw Kt rfl) gn rfl<|Aa 2 rfl (Au 0 Ib rfl rfl rfl) gn rfl<|Aa 3 rfl (Rh Nl rfl) gn rfl<|Aa 4 rfl (Be rfl rfl rfl) gn rfl<|Aj 5 rfl ?_
     by_cases hp61:x40 < (x1.text.size:Int)
     ·have h:=Ap hp61 h
      refine Bz rfl _ rfl ((decide_eq_true hp61))<|Cb rfl<|Ah rfl<|Df rfl<|Ah rfl<|Ac rfl rfl<|Aa 0 rfl (Aw Kt rfl) gn rfl<|Aa 1 rfl (Au 0 Ib rfl rfl rfl) gn rfl<|Aa 2 rfl (Ad rfl) gn rfl ?_
      obtain ⟨hb62,h⟩:=h
      refine Aa 3 rfl (Ia Nl rfl rfl hb62) gn rfl ?_
      obtain ⟨r66,hv67,h⟩:=h
      refine Cf 4 rfl (D8 [.int .u8 (bt x1.text x40)] rfl Tryd.func82 rfl rfl rfl fun w63 hL64=>?_) gn
      have hp65:=pmI hL64 .n (.c 0 rfl .n) (by kernel_rfl)
      refine Calls.mono (Ur w63 (Fl ([]:List Cc)) (bt x1.text x40) (hL64.hFl hp65 (Bi [] rfl)) (hL64.into hp65 _) r66 hv67) ?_
      rintro _ w68 ⟨rfl,hM69⟩
      have hL70:=hL64.call hp65 hM69
      refine ⟨_,_,_,rfl,hL70,?_⟩
      refine Aa 5 rfl (Qv rfl) gn rfl<|Aa 6 rfl (Ad rfl) gn rfl ?_
      by_cases hp71:r66=true
      ·have h:=Ap hp71 h
       refine Bv 37 rfl ((nf hp71))<|Ae 7 rfl (ps 37 rfl rfl rfl)<|Ae 8 rfl (ps 37 rfl rfl rfl)<|Ae 9 rfl (ps 37 rfl rfl rfl)<|Ae 10 rfl (ps 37 rfl rfl rfl)<|Ae 11 rfl (ps 37 rfl rfl rfl)<|Ae 12 rfl (ps 37 rfl rfl rfl)<|Aa 13 rfl (Bd (b:=false) rfl rfl) gn rfl<|Aj 14 rfl<|Bg rfl _ rfl (rfl)<|Cb rfl<|D7 ?_
       refine Ac rfl rfl<|Aa 0 rfl (Ad rfl) gn rfl<|Aa 1 rfl (Be rfl rfl rfl) gn rfl<|Aa 2 rfl (Af rfl) gn rfl<|Aj 3 rfl<|Dp ?_
       have ih:=Out.inl hO1 h
       exact Dc [0,1] (ih ()) ⟨rfl,rfl,trivial⟩ (.cons_cons _ (.slnil)) rfl
      ·have h:=Aq hp71 h
       refine Bv 37 rfl ((nt (bf hp71)))<|Aa 7 rfl (Aw Kt rfl) (gy 37 rfl rfl) rfl<|Aa 8 rfl (Au 0 Ib rfl rfl rfl) (gy 37 rfl rfl) rfl<|Aa 9 rfl (Ad rfl) (gy 37 rfl rfl) rfl<|Aa 10 rfl (Ia Nl rfl rfl hb62) (gy 37 rfl rfl) rfl ?_
       obtain ⟨r75,hv76,h⟩:=h
       refine Cf 11 rfl (D8 [.int .u8 (bt x1.text x40)] rfl Tryd.func83 rfl rfl rfl fun w72 hL73=>?_) (gy 37 rfl rfl)
       have hp74:=pmI hL73 .n (.c 0 rfl .n) (by kernel_rfl)
       refine Calls.mono (N9 w72 (Fl ([]:List Cc)) (bt x1.text x40) (hL73.hFl hp74 (Bi [] rfl)) (hL73.into hp74 _) r75 hv76) ?_
       rintro _ w77 ⟨rfl,hM78⟩
       have hL79:=hL73.call hp74 hM78
       refine ⟨_,_,_,rfl,hL79,?_⟩
       refine Aa 12 rfl (Qv rfl) (gy 37 rfl rfl) rfl<|Aa 13 rfl (Bd (b:=true) rfl rfl) gn rfl<|Aj 14 rfl ?_
       by_cases hp80:r75=true
       ·have h:=Ap hp80 h
        refine Bg rfl _ rfl ((nf hp80))<|Cb rfl<|D7<|Ac rfl rfl<|Aa 0 rfl (Ad rfl) gn rfl<|Aa 1 rfl (Be rfl rfl rfl) gn rfl<|Aa 2 rfl (Af rfl) gn rfl<|Aj 3 rfl<|Dp ?_
        have ih:=Out.inl hO1 h
        exact Dc [0,1] (ih ()) ⟨rfl,rfl,trivial⟩ (.cons_cons _ (.slnil)) rfl
       ·have h:=Aq hp80 h
        refine Bz rfl _ rfl ((nt (bf hp80)))<|Ah rfl<|Ac rfl rfl<|Aa 0 rfl (Af rfl) gn rfl<|Aj 1 rfl ?_
        have h:=Out.inr hO1 h
        refine C9 [.bool false] rfl Tryd.func78 rfl (.tmp rfl (.nil)) fun wr hLr=>?_
        have hMr:=hLr.pk0 (.c 1 rfl .n)
        show Gx w F  r (.returned (Ci [.bool false])) wr
        rw [h]
        exact ⟨rfl,hMr⟩
     ·have h:=Aq hp61 h
      refine Bg rfl _ rfl ((decide_eq_false hp61))<|Gp [.code Xje,.inBlock 0,.code Xcn] rfl rfl<|Ah rfl<|Ac rfl rfl<|Aa 0 rfl (Af rfl) gn rfl<|Aj 1 rfl ?_
      have h:=Out.inr hO1 h
      refine C9 [.bool true] rfl Tryd.func78 rfl (.tmp rfl (.nil)) fun wr hLr=>?_
      have hMr:=hLr.pk0 (.c 1 rfl .n)
      show Gx w F  r (.returned (Ci [.bool true])) wr
      rw [h]
      exact ⟨rfl,hMr⟩
    exact Dc [0,1] (key2 _ h ()) ⟨rfl,rfl,trivial⟩ (.cons_cons _ (.slnil)) rfl
  refine Ac rfl rfl<|Aa 0 rfl (Aw Kt rfl) gn rfl<|Aa 1 rfl (Au 0 Ib rfl rfl rfl) gn rfl<|Aa 2 rfl (Zc rfl rfl) gn rfl<|Aa 3 rfl (Ad rfl) gn rfl ?_
  by_cases hp81:x1.text=(⟨#[]⟩:ByteArray)
  ·have h:=Ap hp81 h
   refine Bv 12 rfl ((Qw hp81))<|Ae 4 rfl (ps 12 rfl rfl rfl)<|Ae 5 rfl (ps 12 rfl rfl rfl)<|Ae 6 rfl (ps 12 rfl rfl rfl)<|Ae 7 rfl (ps 12 rfl rfl rfl)<|Aa 8 rfl (Bd (b:=true) rfl rfl) gn rfl<|Aa 9 rfl (Ad rfl) gn rfl<|Ae 10 rfl (ps 18 rfl rfl rfl)<|Ae 11 rfl (ps 18 rfl rfl rfl)<|Ae 12 rfl (ps 18 rfl rfl rfl)<|Ae 13 rfl (ps 18 rfl rfl rfl)<|Aa 14 rfl (Bd (b:=true) rfl rfl) gn rfl ?_
   refine Aj 15 rfl ?_
   exact Dc [0,1] (j1 true h) ⟨rfl,rfl,trivial⟩ (.cons_cons _ (.slnil)) rfl
  ·have h:=Aq hp81 h
   refine Bv 12 rfl ((Rq hp81))<|Aa 4 rfl (Aw Kt rfl) (gy 12 rfl rfl) rfl<|Aa 5 rfl (Au 0 Ib rfl rfl rfl) (gy 12 rfl rfl) rfl<|Aa 6 rfl (Rh Nl rfl) (gy 12 rfl rfl) rfl<|Aa 7 rfl (Be rfl rfl rfl) (gy 12 rfl rfl) rfl<|Aa 8 rfl (Bd (b:=false) rfl rfl) gn rfl<|Aa 9 rfl (Ad rfl) gn rfl ?_
   by_cases hp82:(x1.text.size:Int) > 24
   ·have h:=Ap hp82 h
    refine Bv 18 rfl ((decide_eq_true hp82))<|Ae 10 rfl (ps 18 rfl rfl rfl)<|Ae 11 rfl (ps 18 rfl rfl rfl)<|Ae 12 rfl (ps 18 rfl rfl rfl)<|Ae 13 rfl (ps 18 rfl rfl rfl)<|Aa 14 rfl (Bd (b:=true) rfl rfl) gn rfl<|Aj 15 rfl ?_
    exact Dc [0,1] (j1 true h) ⟨rfl,rfl,trivial⟩ (.cons_cons _ (.slnil)) rfl
   ·have h:=Aq hp82 h
    refine Bv 18 rfl ((decide_eq_false hp82))<|Aa 10 rfl (Aw Kt rfl) (gy 18 rfl rfl) rfl<|Aa 11 rfl (Au 0 Ib rfl rfl rfl) (gy 18 rfl rfl) rfl ?_
    obtain ⟨hb83,h⟩:=h
    refine Aa 12 rfl (Ia Nl rfl rfl hb83) (gy 18 rfl rfl) rfl ?_
    obtain ⟨r87,hv88,h⟩:=h
    refine Cf 13 rfl (D8 [.int .u8 (bt x1.text 0)] rfl Tryd.func83 rfl rfl rfl fun w84 hL85=>?_) (gy 18 rfl rfl)
    have hp86:=pmI hL85 .n (.c 0 rfl .n) (by kernel_rfl)
    refine Calls.mono (N9 w84 (Fl ([]:List Cc)) (bt x1.text 0) (hL85.hFl hp86 (Bi [] rfl)) (hL85.into hp86 _) r87 hv88) ?_
    rintro _ w89 ⟨rfl,hM90⟩
    have hL91:=hL85.call hp86 hM90
    refine ⟨_,_,_,rfl,hL91,?_⟩
    refine Aa 14 rfl (Bd (b:=false) rfl rfl) gn rfl<|Aj 15 rfl ?_
    exact Dc [0,1] (j1 r87 h) ⟨rfl,rfl,trivial⟩ (.cons_cons _ (.slnil)) rfl
 ·have h:=Aq hp4 h
  refine Bg rfl _ rfl ((nei hp4))<|Ah rfl<|Ac rfl rfl<|Aa 0 rfl (Be rfl rfl rfl) gn rfl<|Aa 1 rfl (Af rfl) gn rfl<|Aj 2 rfl ?_
  by_cases hp92:x1.kind=2
  ·have h:=Ap hp92 h
   refine Bz rfl _ rfl ((eqi hp92))<|Ah rfl<|Ac rfl rfl<|Aa 0 rfl (Af rfl) gn rfl<|Aj 1 rfl ?_
   refine C9 [.bool true] rfl Tryd.func78 rfl (.tmp rfl (.nil)) fun wr hLr=>?_
   have hMr:=hLr.pk0 (.c 1 rfl .n)
   show Gx w F  r (.returned (Ci [.bool true])) wr
   rw [h]
   exact ⟨rfl,hMr⟩
  ·have h:=Aq hp92 h
   refine Bg rfl _ rfl ((nei hp92))<|Ah rfl<|Ac rfl rfl<|Aa 0 rfl (Be rfl rfl rfl) gn rfl<|Aa 1 rfl (Af rfl) gn rfl<|Aj 2 rfl ?_
   by_cases hp93:x1.kind=3
   ·have h:=Ap hp93 h
    refine Bz rfl _ rfl ((eqi hp93))<|Ah rfl<|Ah rfl<|Ac rfl rfl<|Aa 0 rfl (Af rfl) gn rfl<|Aj 1 rfl<|Df rfl<|Io rfl ?_
    have key3:∀ s,Bl (fun (s:Int) o=>Jv x1 s o) s r→(fun (s:Int)=>∀ (_:Unit),G (Lm w F r) [.code Xaj,.inLoop Xaj,.inBlock 3,.code Xgh,.inBlock 0,.code Xcn] [(1,.pointer (some ⟨gb2,0,none⟩)),(4,.int .i64 s)] [.box gb2 84 [.int .i64 x1.kind,.string x1.text,.int .i64 x1.n,.int .i64 x1.at_]] [Sm w.heap.size F w [],St w []]) s:=by
     intro s hs
     refine Bl.ind (mot:=(fun (s:Int)=>∀ (_:Unit),G (Lm w F r) [.code Xaj,.inLoop Xaj,.inBlock 3,.code Xgh,.inBlock 0,.code Xcn] [(1,.pointer (some ⟨gb2,0,none⟩)),(4,.int .i64 s)] [.box gb2 84 [.int .i64 x1.kind,.string x1.text,.int .i64 x1.n,.int .i64 x1.at_]] [Sm w.heap.size F w [],St w []])) ?_ hs
     clear hs s
     intro x105 o1 h hO1
     show ∀ (_:Unit),G (Lm w F r) [.code Xaj,.inLoop Xaj,.inBlock 3,.code Xgh,.inBlock 0,.code Xcn] [(1,.pointer (some ⟨gb2,0,none⟩)),(4,.int .i64 x105)] [.box gb2 84 [.int .i64 x1.kind,.string x1.text,.int .i64 x1.n,.int .i64 x1.at_]] [Sm w.heap.size F w [],St w []]
     intro _
     have h:Jv x1 x105 o1:=h
     unfold Jv at h
     refine Ah rfl<|Ah rfl<|Ac rfl rfl<|Aa 0 rfl (Ad rfl) gn rfl<|Aa 1 rfl (Aw Kt rfl) gn rfl<|Aa 2 rfl (Au 0 Ib rfl rfl rfl) gn rfl<|Aa 3 rfl (Rh Nl rfl) gn rfl<|Aa 4 rfl (Be rfl rfl rfl) gn rfl<|Aj 5 rfl ?_
     by_cases hp116:x105 < (x1.text.size:Int)
     ·have h:=Ap hp116 h
      refine Bz rfl _ rfl ((decide_eq_true hp116))<|Cb rfl<|Ah rfl<|Df rfl<|Ah rfl<|Ac rfl rfl<|Aa 0 rfl (Aw Kt rfl) gn rfl<|Aa 1 rfl (Au 0 Ib rfl rfl rfl) gn rfl<|Aa 2 rfl (Ad rfl) gn rfl ?_
      obtain ⟨hb117,h⟩:=h
      refine Aa 3 rfl (Ia Nl rfl rfl hb117) gn rfl<|Aj 4 rfl<|Df rfl<|Ah rfl<|Ah rfl<|Ac rfl rfl<|Aa 0 rfl (Be rfl rfl rfl) gn rfl<|Aa 1 rfl (Af rfl) gn rfl<|Aj 2 rfl ?_
      have j4:∀ (x120:Bool) (h:Je x1 x105 x120 o1) ,G (Lm w F r) [.code q78c72,.inBlock 5,.inBlock 4,.code q78c66,.inLoop Xaj,.inBlock 3,.code Xgh,.inBlock 0,.code Xcn] [(1,.pointer (some ⟨gb2,0,none⟩)),(4,.int .i64 x105),(59,.int .u8 (bt x1.text x105)),(60,.bool x120)] [.box gb2 84 [.int .i64 x1.kind,.string x1.text,.int .i64 x1.n,.int .i64 x1.at_]] [Sm w.heap.size F w [],St w []]:=by
       intro x120 h
       unfold Je at h
       by_cases hp121:x120=true
       ·have h:=Ap hp121 h
        refine Bz rfl _ rfl (hp121)<|Ah rfl<|Ac rfl rfl<|Aa 0 rfl (Af rfl) gn rfl<|Aj 1 rfl ?_
        have h:=Out.inr hO1 h
        refine C9 [.bool false] rfl Tryd.func78 rfl (.tmp rfl (.nil)) fun wr hLr=>?_
        have hMr:=hLr.pk0 (.c 1 rfl .n)
        show Gx w F  r (.returned (Ci [.bool false])) wr
        rw [h]
        exact ⟨rfl,hMr⟩
       ·have h:=Aq hp121 h
        refine Bg rfl _ rfl ((bf hp121))<|Ah rfl<|Ac rfl rfl<|Aa 0 rfl (Be rfl rfl rfl) gn rfl<|Aa 1 rfl (Af rfl) gn rfl<|Aj 2 rfl ?_
        by_cases hp122:bt x1.text x105=92
        ·have h:=Ap hp122 h
         refine Bz rfl _ rfl ((eqi hp122))<|Ah rfl<|Ac rfl rfl<|Aa 0 rfl (Ad rfl) gn rfl<|Aa 1 rfl (Be rfl rfl rfl) gn rfl<|Aa 2 rfl (Af rfl) gn rfl<|Aj 3 rfl<|Ah rfl<|Ac rfl rfl<|Aa 0 rfl (Ad rfl) gn rfl<|Aa 1 rfl (Aw Kt rfl) gn rfl<|Aa 2 rfl (Au 0 Ib rfl rfl rfl) gn rfl ?_
         refine Aa 3 rfl (Rh Nl rfl) gn rfl<|Aa 4 rfl (Be rfl rfl rfl) gn rfl<|Aa 5 rfl (Ad rfl) gn rfl ?_
         by_cases hp123:w64 (x105 + 1)=(x1.text.size:Int)
         ·have h:=Ap hp123 h
          refine Bv 72 rfl ((eqi hp123))<|Ae 6 rfl (ps 72 rfl rfl rfl)<|Ae 7 rfl (ps 72 rfl rfl rfl)<|Ae 8 rfl (ps 72 rfl rfl rfl)<|Ae 9 rfl (ps 72 rfl rfl rfl)<|Ae 10 rfl (ps 72 rfl rfl rfl)<|Aa 11 rfl (Bd (b:=true) rfl rfl) gn rfl<|Aj 12 rfl<|Bz rfl _ rfl (rfl)<|Ah rfl<|Ac rfl rfl<|Aa 0 rfl (Af rfl) gn rfl ?_
          refine Aj 1 rfl ?_
          have h:=Out.inr hO1 h
          refine C9 [.bool false] rfl Tryd.func78 rfl (.tmp rfl (.nil)) fun wr hLr=>?_
          have hMr:=hLr.pk0 (.c 1 rfl .n)
          show Gx w F  r (.returned (Ci [.bool false])) wr
          rw [h]
          exact ⟨rfl,hMr⟩
         ·have h:=Aq hp123 h
          refine Bv 72 rfl ((nei hp123))<|Aa 6 rfl (Aw Kt rfl) (gy 72 rfl rfl) rfl<|Aa 7 rfl (Au 0 Ib rfl rfl rfl) (gy 72 rfl rfl) rfl<|Aa 8 rfl (Ad rfl) (gy 72 rfl rfl) rfl ?_
          obtain ⟨hb124,h⟩:=h
          refine Aa 9 rfl (Ia Nl rfl rfl hb124) (gy 72 rfl rfl) rfl<|Aa 10 rfl (Be rfl rfl rfl) (gy 72 rfl rfl) rfl<|Aa 11 rfl (Bd (b:=false) rfl rfl) gn rfl<|Aj 12 rfl ?_
          by_cases hp125:bt x1.text (w64 (x105 + 1))=10
          ·have h:=Ap hp125 h
           refine Bz rfl _ rfl ((eqi hp125))<|Ah rfl<|Ac rfl rfl<|Aa 0 rfl (Af rfl) gn rfl<|Aj 1 rfl ?_
           have h:=Out.inr hO1 h
           refine C9 [.bool false] rfl Tryd.func78 rfl (.tmp rfl (.nil)) fun wr hLr=>?_
           have hMr:=hLr.pk0 (.c 1 rfl .n)
           show Gx w F  r (.returned (Ci [.bool false])) wr
           rw [h]
           exact ⟨rfl,hMr⟩
          ·have h:=Aq hp125 h
           refine Bg rfl _ rfl ((nei hp125))<|Cb rfl<|D7<|D7<|Ac rfl rfl<|Aa 0 rfl (Ad rfl) gn rfl<|Aa 1 rfl (Be rfl rfl rfl) gn rfl<|Aa 2 rfl (Af rfl) gn rfl<|Aj 3 rfl<|Dp ?_
           have ih:=Out.inl hO1 h
           exact Dc [0,1] (ih ()) ⟨rfl,rfl,trivial⟩ (.cons_cons _ (.slnil)) rfl
        ·have h:=Aq hp122 h
         refine Bg rfl _ rfl ((nei hp122))<|Cb rfl<|D7<|D7<|Ac rfl rfl<|Aa 0 rfl (Ad rfl) gn rfl<|Aa 1 rfl (Be rfl rfl rfl) gn rfl<|Aa 2 rfl (Af rfl) gn rfl<|Aj 3 rfl<|Dp ?_
         have ih:=Out.inl hO1 h
         exact Dc [0,1] (ih ()) ⟨rfl,rfl,trivial⟩ (.cons_cons _ (.slnil)) rfl
      by_cases hp118:bt x1.text x105=47
      ·have h:=Ap hp118 h
       refine Bz rfl _ rfl ((eqi hp118))<|Cb rfl ?_
       exact Dc [0,1] (j4 ((bt x1.text x105) == 47) h) ⟨rfl,rfl,rfl,rfl,trivial⟩ (.cons_cons _ (.slnil)) rfl
      ·have h:=Aq hp118 h
       refine Bg rfl _ rfl ((nei hp118))<|Ac rfl rfl<|Aa 0 rfl (Be rfl rfl rfl) gn rfl<|Aa 1 rfl (Af rfl) gn rfl<|Aj 2 rfl ?_
       exact Dc [0,1] (j4 ((bt x1.text x105) == 10) h) ⟨rfl,rfl,rfl,rfl,trivial⟩ (.cons_cons _ (.slnil)) rfl
     ·have h:=Aq hp116 h
      refine Bg rfl _ rfl ((decide_eq_false hp116))<|Gp [.code Xgh,.inBlock 0,.code Xcn] rfl rfl<|Ah rfl<|Ac rfl rfl<|Aa 0 rfl (Af rfl) gn rfl<|Aj 1 rfl ?_
      have h:=Out.inr hO1 h
      refine C9 [.bool true] rfl Tryd.func78 rfl (.tmp rfl (.nil)) fun wr hLr=>?_
      have hMr:=hLr.pk0 (.c 1 rfl .n)
      show Gx w F  r (.returned (Ci [.bool true])) wr
      rw [h]
      exact ⟨rfl,hMr⟩
    exact Dc [0,1] (key3 _ h ()) ⟨rfl,rfl,trivial⟩ (.cons_cons _ (.slnil)) rfl
   ·have h:=Aq hp93 h
    refine Bg rfl _ rfl ((nei hp93))<|Ah rfl<|Ac rfl rfl<|Aa 0 rfl (Be rfl rfl rfl) gn rfl<|Aa 1 rfl (Af rfl) gn rfl<|Aj 2 rfl ?_
    by_cases hp126:x1.kind=4
    ·have h:=Ap hp126 h
     refine Bz rfl _ rfl ((eqi hp126))<|Ah rfl<|Ac rfl rfl<|Aa 0 rfl (Aw Xjw rfl) gn rfl<|Aa 1 rfl (Au 0 H9 rfl rfl rfl) gn rfl<|Aa 2 rfl (Be rfl rfl rfl) gn rfl<|Aa 3 rfl (Ad rfl) gn rfl ?_
     by_cases hp127:x1.n≥0
     ·have h:=Ap hp127 h
      refine Bv 84 rfl ((decide_eq_true hp127))<|Aa 4 rfl (Aw Xjw rfl) (gy 84 rfl rfl) rfl<|Aa 5 rfl (Au 0 H9 rfl rfl rfl) (gy 84 rfl rfl) rfl<|Aa 6 rfl (Be rfl rfl rfl) (gy 84 rfl rfl) rfl<|Aa 7 rfl (Bd (b:=true) rfl rfl) gn rfl<|Aa 8 rfl (Af rfl) gn rfl<|Aj 9 rfl ?_
      refine C9 [.bool (decide (x1.n≤65535))] rfl Tryd.func78 rfl (.tmp rfl (.nil)) fun wr hLr=>?_
      have hMr:=hLr.pk0 (.c 1 rfl .n)
      show Gx w F  r (.returned (Ci [.bool (decide (x1.n≤65535))])) wr
      rw [h]
      exact ⟨rfl,hMr⟩
     ·have h:=Aq hp127 h
      refine Bv 84 rfl ((decide_eq_false hp127))<|Ae 4 rfl (ps 84 rfl rfl rfl)<|Ae 5 rfl (ps 84 rfl rfl rfl)<|Ae 6 rfl (ps 84 rfl rfl rfl)<|Aa 7 rfl (Bd (b:=false) rfl rfl) gn rfl<|Aa 8 rfl (Af rfl) gn rfl<|Aj 9 rfl ?_
      refine C9 [.bool false] rfl Tryd.func78 rfl (.tmp rfl (.nil)) fun wr hLr=>?_
      have hMr:=hLr.pk0 (.c 1 rfl .n)
      show Gx w F  r (.returned (Ci [.bool false])) wr
      rw [h]
      exact ⟨rfl,hMr⟩
    ·have h:=Aq hp126 h
     refine Bg rfl _ rfl ((nei hp126))<|Ah rfl<|Ac rfl rfl<|Aa 0 rfl (Be rfl rfl rfl) gn rfl<|Aa 1 rfl (Af rfl) gn rfl<|Aj 2 rfl ?_
     by_cases hp128:x1.kind=5
     ·have h:=Ap hp128 h
      refine Bz rfl _ rfl ((eqi hp128))<|Ah rfl<|Ac rfl rfl<|Aa 0 rfl (Aw Kt rfl) gn rfl<|Aa 1 rfl (Au 0 Ib rfl rfl rfl) gn rfl<|Aa 2 rfl (Rh Nl rfl) gn rfl<|Aa 3 rfl (Be rfl rfl rfl) gn rfl<|Aa 4 rfl (Ad rfl) gn rfl ?_
      by_cases hp129:(x1.text.size:Int)=1
      ·have h:=Ap hp129 h
       refine Bv 95 rfl ((eqi hp129))<|Aa 5 rfl (Aw Kt rfl) (gy 95 rfl rfl) rfl<|Aa 6 rfl (Au 0 Ib rfl rfl rfl) (gy 95 rfl rfl) rfl ?_
       obtain ⟨r133,hv134,h⟩:=h
       refine Cf 7 rfl (D8 [.string (⟨#[123,125,40,41,124,42,43,63,58,59,44,61,64]⟩:ByteArray),.string x1.text] rfl Tryd.func100 rfl rfl rfl fun w130 hL131=>?_) (gy 95 rfl rfl)
       have hp132:=pmI hL131 .n (.c 0 rfl .n) (by kernel_rfl)
       refine Calls.mono (Xai w130 (Fl ([]:List Cc)) (⟨#[123,125,40,41,124,42,43,63,58,59,44,61,64]⟩:ByteArray) x1.text (hL131.hFl hp132 (Bi [] rfl)) (hL131.into hp132 _) r133 hv134) ?_
       rintro _ w135 ⟨rfl,hM136⟩
       have hL137:=hL131.call hp132 hM136
       refine ⟨_,_,_,rfl,hL137,?_⟩
       refine Aa 8 rfl (Bd (b:=true) rfl rfl) gn rfl<|Aa 9 rfl (Af rfl) gn rfl<|Aj 10 rfl ?_
       refine C9 [.bool r133] rfl Tryd.func78 rfl (.tmp rfl (.nil)) fun wr hLr=>?_
       have hMr:=hLr.pk0 (.c 1 rfl .n)
       show Gx w F  r (.returned (Ci [.bool r133])) wr
       rw [h]
       exact ⟨rfl,hMr⟩
      ·have h:=Aq hp129 h
       refine Bv 95 rfl ((nei hp129))<|Ae 5 rfl (ps 95 rfl rfl rfl)<|Ae 6 rfl (ps 95 rfl rfl rfl)<|Ae 7 rfl (ps 95 rfl rfl rfl)<|Aa 8 rfl (Bd (b:=false) rfl rfl) gn rfl<|Aa 9 rfl (Af rfl) gn rfl<|Aj 10 rfl ?_
       refine C9 [.bool false] rfl Tryd.func78 rfl (.tmp rfl (.nil)) fun wr hLr=>?_
       have hMr:=hLr.pk0 (.c 1 rfl .n)
       show Gx w F  r (.returned (Ci [.bool false])) wr
       rw [h]
       exact ⟨rfl,hMr⟩
     ·have h:=Aq hp128 h
      refine Bg rfl _ rfl ((nei hp128))<|Cb rfl<|D7<|Ah rfl<|Ac rfl rfl<|Aa 0 rfl (Af rfl) gn rfl<|Aj 1 rfl ?_
      refine C9 [.bool false] rfl Tryd.func78 rfl (.tmp rfl (.nil)) fun wr hLr=>?_
      have hMr:=hLr.pk0 (.c 1 rfl .n)
      show Gx w F  r (.returned (Ci [.bool false])) wr
      rw [h]
      exact ⟨rfl,hMr⟩
noncomputable abbrev Xek:=Code.snd (Code.snd (Code.snd (Dv Tryd.f101)))
noncomputable abbrev Xa:=Code.fst (Code.fst (Code.snd (Code.fst (Code.snd (Code.snd (Dv Tryd.f101))))))
noncomputable abbrev Xmj:=Code.snd (Code.snd Xa)
noncomputable abbrev Xms:=Code.snd (Code.fst (Code.snd (Code.fst (Code.fst (Code.snd Xa)))))
noncomputable abbrev Xmz:=Code.snd (Code.snd (Code.snd (Code.snd (Code.snd (Code.snd (Code.snd (Code.snd Xms)))))))
noncomputable abbrev q101c41:=Code.fst Xmz
abbrev Zu (w:World) (F:Nat→Prop) (r:ByteArray):Ending→World→Prop:=fun e w'=>e=.returned (.string r)∧B.Loc w w' [] [St w []]
noncomputable abbrev Qz (w:World) (F:Nat→Prop) (r:ByteArray):Cx:=⟨Tryd.prog,101,Tryd.f101,69,Zu w F  r,w⟩
theorem Xe7 (w:World) (F:Nat→Prop) (x1:ByteArray) (hF:∀ b,F b→b < w.heap.size∧∀ o ∈ ([]:List (List Nat)),b ∉ o) (hL0:B.Loc w w [] [Sm w.heap.size F w [],St w []]) (r:ByteArray) (h:Xn x1 r):Calls Tryd.prog 101 #[.string x1] w (Zu w F  r):=by
 unfold Xn at h
 refine Ce (vs:=[.string x1]) 69 Tryd.func101 rfl Tryd.ntmps101 rfl hL0 ?_
 show G (Qz w F r) _ _ _ _
 refine Ah rfl<|Ac rfl rfl<|Aa 0 rfl (Af rfl) gn rfl<|Aj 1 rfl<|Ah rfl<|Ac rfl rfl ?_
 refine Cf 0 rfl (Gw (xs:=([34]:List Int)) [.int .u8 34] Xbg rfl (by kernel_rfl) rfl rfl rfl rfl fun gb3 h4=>?_) gn
 refine Aa 1 rfl (Af rfl) gn rfl<|Aj 2 rfl<|Ah rfl<|Ah rfl<|Ac rfl rfl<|Aa 0 rfl (Af rfl) gn rfl<|Aj 1 rfl<|Df rfl<|Io rfl ?_
 have key1:∀ s,Bl (fun (s:(List Int) × Int) o=>Kr x1 s.1 s.2 o) s r→(fun (s:(List Int) × Int)=>∀ (A101:Option Addr) (n102:Nat) (c103:Nat) (h104:Ow w.heap.size A101 n102 c103 s.1),G (Qz w F r) [.code Xa,.inLoop Xa,.inBlock 0,.code Xek] [(0,.string x1),(3,.slice A101 n102 c103),(4,.int .i64 s.2)] [.own (.slice A101 n102 c103) 5 1 n102 (s.1.flatMap (eI .u8))] [Sm w.heap.size F w [],St w []]) s:=by
  intro s hs
  refine Bl.ind (mot:=(fun (s:(List Int) × Int)=>∀ (A101:Option Addr) (n102:Nat) (c103:Nat) (h104:Ow w.heap.size A101 n102 c103 s.1),G (Qz w F r) [.code Xa,.inLoop Xa,.inBlock 0,.code Xek] [(0,.string x1),(3,.slice A101 n102 c103),(4,.int .i64 s.2)] [.own (.slice A101 n102 c103) 5 1 n102 (s.1.flatMap (eI .u8))] [Sm w.heap.size F w [],St w []])) ?_ hs
  clear hs s
  intro s o1 h hO1
  obtain ⟨x100,x105⟩:=s
  show ∀ (A101:Option Addr) (n102:Nat) (c103:Nat) (h104:Ow w.heap.size A101 n102 c103 x100),G (Qz w F r) [.code Xa,.inLoop Xa,.inBlock 0,.code Xek] [(0,.string x1),(3,.slice A101 n102 c103),(4,.int .i64 x105)] [.own (.slice A101 n102 c103) 5 1 n102 (x100.flatMap (eI .u8))] [Sm w.heap.size F w [],St w []]
  intro A101 n102 c103 h104
  have h:Kr x1 x100 x105 o1:=h
  unfold Kr at h
  refine Ah rfl<|Ah rfl<|Ac rfl rfl<|Aa 0 rfl (Ad rfl) gn rfl<|Aa 1 rfl (Ad rfl) gn rfl<|Aa 2 rfl (Rh Nl rfl) gn rfl<|Aa 3 rfl (Be rfl rfl rfl) gn rfl<|Aj 4 rfl ?_
  by_cases hp200:x105 < (x1.size:Int)
  ·have h:=Ap hp200 h
   refine Bz rfl _ rfl ((decide_eq_true hp200))<|Cb rfl<|Ah rfl<|Df rfl<|Ah rfl<|Ac rfl rfl<|Aa 0 rfl (Ad rfl) gn rfl<|Aa 1 rfl (Ad rfl) gn rfl ?_
   obtain ⟨hb201,h⟩:=h
   refine Aa 2 rfl (Ia Nl rfl rfl hb201) gn rfl<|Aa 3 rfl (Af rfl) gn rfl<|Aj 4 rfl<|Df rfl<|Ah rfl ?_
   have j2:∀ (x204:Bool) (h:Q4 x100 x1 x105 x204 o1) ,G (Qz w F r) [.code Xms,.inBlock 2,.inBlock 1,.code Xmj,.inLoop Xa,.inBlock 0,.code Xek] [(0,.string x1),(3,.slice A101 n102 c103),(4,.int .i64 x105),(5,.int .u8 (bt x1 x105)),(20,.bool x204)] [.own (.slice A101 n102 c103) 5 1 n102 (x100.flatMap (eI .u8))] [Sm w.heap.size F w [],St w []]:=by
    intro x204 h
    unfold Q4 at h
    by_cases hp205:x204=true
    ·have h:=Ap hp205 h
     refine Bz rfl _ rfl (hp205)<|Ac rfl rfl<|Aa 0 rfl (Ad rfl) gn rfl<|Aa 1 rfl (Ad rfl) gn rfl ?_
     refine Cf 2 rfl (Gw (xs:=([92,bt x1 x105]:List Int)) [.int .u8 92,.int .u8 (bt x1 x105)] Xdm rfl (by kernel_rfl) rfl rfl rfl rfl fun gb207 h208=>?_) gn
     obtain ⟨x212,hv213,h⟩:=h
     obtain ⟨hb214,h⟩:=h
     refine Cf 3 rfl (L8 (zs:=x212) (cells':=x212.flatMap (eI .u8)) 1 Xaq rfl rfl rfl h104 (Nat.le_refl _) (Src.ownF (hl:=(hlI .u8)) (h1:=(Ey .u8)) 0 rfl h208) (by rw [hv213,List.flatMap_append] <;> rfl) (Ff hv213 h208.hq) hb214 rfl rfl fun A209 c210 h211=>?_) gn
     refine Aa 4 rfl (Af rfl) gn rfl<|Aj 5 rfl<|D7<|D7<|Ac rfl rfl<|Aa 0 rfl (Ad rfl) gn rfl<|Aa 1 rfl (Be rfl rfl rfl) gn rfl<|Aa 2 rfl (Af rfl) gn rfl<|Aj 3 rfl<|Dp ?_
     have ih:=Out.inl hO1 h
     exact Dc [0,1] (ih A209 (n102 + 2) c210 h211) ⟨rfl,rfl,rfl,trivial⟩ (.cons _ (.cons_cons _ (.slnil))) rfl
    ·have h:=Aq hp205 h
     refine Bg rfl _ rfl ((bf hp205))<|Ah rfl<|Ac rfl rfl<|Aa 0 rfl (Ad rfl) gn rfl<|Aa 1 rfl (Be rfl rfl rfl) gn rfl<|Aa 2 rfl (Af rfl) gn rfl<|Aj 3 rfl ?_
     by_cases hp215:bt x1 x105=10
     ·have h:=Ap hp215 h
      refine Bz rfl _ rfl ((eqi hp215))<|Ac rfl rfl<|Aa 0 rfl (Ad rfl) gn rfl ?_
      refine Cf 1 rfl (Gw (xs:=([92,110]:List Int)) [.int .u8 92,.int .u8 110] Xdm rfl (by kernel_rfl) rfl rfl rfl rfl fun gb217 h218=>?_) gn
      obtain ⟨x222,hv223,h⟩:=h
      obtain ⟨hb224,h⟩:=h
      refine Cf 2 rfl (L8 (zs:=x222) (cells':=x222.flatMap (eI .u8)) 1 Xaq rfl rfl rfl h104 (Nat.le_refl _) (Src.ownF (hl:=(hlI .u8)) (h1:=(Ey .u8)) 0 rfl h218) (by rw [hv223,List.flatMap_append] <;> rfl) (Ff hv223 h218.hq) hb224 rfl rfl fun A219 c220 h221=>?_) gn
      refine Aa 3 rfl (Af rfl) gn rfl<|Aj 4 rfl<|D7<|D7<|Ac rfl rfl<|Aa 0 rfl (Ad rfl) gn rfl<|Aa 1 rfl (Be rfl rfl rfl) gn rfl<|Aa 2 rfl (Af rfl) gn rfl<|Aj 3 rfl<|Dp ?_
      have ih:=Out.inl hO1 h
      exact Dc [0,1] (ih A219 (n102 + 2) c220 h221) ⟨rfl,rfl,rfl,trivial⟩ (.cons _ (.cons_cons _ (.slnil))) rfl
     ·have h:=Aq hp215 h
      refine Bg rfl _ rfl ((nei hp215))<|Ah rfl<|Ac rfl rfl<|Aa 0 rfl (Ad rfl) gn rfl<|Aa 1 rfl (Be rfl rfl rfl) gn rfl<|Aa 2 rfl (Af rfl) gn rfl<|Aj 3 rfl ?_
      by_cases hp225:bt x1 x105=9
      ·have h:=Ap hp225 h
       refine Bz rfl _ rfl ((eqi hp225))<|Ac rfl rfl<|Aa 0 rfl (Ad rfl) gn rfl ?_
       refine Cf 1 rfl (Gw (xs:=([92,116]:List Int)) [.int .u8 92,.int .u8 116] Xdm rfl (by kernel_rfl) rfl rfl rfl rfl fun gb227 h228=>?_) gn
       obtain ⟨x232,hv233,h⟩:=h
       obtain ⟨hb234,h⟩:=h
       refine Cf 2 rfl (L8 (zs:=x232) (cells':=x232.flatMap (eI .u8)) 1 Xaq rfl rfl rfl h104 (Nat.le_refl _) (Src.ownF (hl:=(hlI .u8)) (h1:=(Ey .u8)) 0 rfl h228) (by rw [hv233,List.flatMap_append] <;> rfl) (Ff hv233 h228.hq) hb234 rfl rfl fun A229 c230 h231=>?_) gn
       refine Aa 3 rfl (Af rfl) gn rfl<|Aj 4 rfl<|D7<|D7<|Ac rfl rfl<|Aa 0 rfl (Ad rfl) gn rfl<|Aa 1 rfl (Be rfl rfl rfl) gn rfl<|Aa 2 rfl (Af rfl) gn rfl<|Aj 3 rfl<|Dp ?_
       have ih:=Out.inl hO1 h
       exact Dc [0,1] (ih A229 (n102 + 2) c230 h231) ⟨rfl,rfl,rfl,trivial⟩ (.cons _ (.cons_cons _ (.slnil))) rfl
      ·have h:=Aq hp225 h
       refine Bg rfl _ rfl ((nei hp225))<|Ah rfl<|Ac rfl rfl<|Aa 0 rfl (Ad rfl) gn rfl<|Aa 1 rfl (Be rfl rfl rfl) gn rfl<|Aa 2 rfl (Af rfl) gn rfl<|Aj 3 rfl ?_
       by_cases hp235:bt x1 x105=13
       ·have h:=Ap hp235 h
        refine Bz rfl _ rfl ((eqi hp235))<|Ac rfl rfl<|Aa 0 rfl (Ad rfl) gn rfl ?_
        refine Cf 1 rfl (Gw (xs:=([92,114]:List Int)) [.int .u8 92,.int .u8 114] Xdm rfl (by kernel_rfl) rfl rfl rfl rfl fun gb237 h238=>?_) gn
        obtain ⟨x242,hv243,h⟩:=h
        obtain ⟨hb244,h⟩:=h
        refine Cf 2 rfl (L8 (zs:=x242) (cells':=x242.flatMap (eI .u8)) 1 Xaq rfl rfl rfl h104 (Nat.le_refl _) (Src.ownF (hl:=(hlI .u8)) (h1:=(Ey .u8)) 0 rfl h238) (by rw [hv243,List.flatMap_append] <;> rfl) (Ff hv243 h238.hq) hb244 rfl rfl fun A239 c240 h241=>?_) gn
        refine Aa 3 rfl (Af rfl) gn rfl<|Aj 4 rfl<|D7<|D7<|Ac rfl rfl<|Aa 0 rfl (Ad rfl) gn rfl<|Aa 1 rfl (Be rfl rfl rfl) gn rfl<|Aa 2 rfl (Af rfl) gn rfl<|Aj 3 rfl<|Dp ?_
        have ih:=Out.inl hO1 h
        exact Dc [0,1] (ih A239 (n102 + 2) c240 h241) ⟨rfl,rfl,rfl,trivial⟩ (.cons _ (.cons_cons _ (.slnil))) rfl
       ·have h:=Aq hp235 h
        refine Bg rfl _ rfl ((nei hp235))<|Ah rfl ?_
        have j3:∀ (x247:Bool) (h:O7 x1 x105 x100 x247 o1) ,G (Qz w F r) [.code Xmz,.inBlock 2,.inBlock 1,.code Xmj,.inLoop Xa,.inBlock 0,.code Xek] [(0,.string x1),(3,.slice A101 n102 c103),(4,.int .i64 x105),(5,.int .u8 (bt x1 x105)),(49,.bool x247)] [.own (.slice A101 n102 c103) 5 1 n102 (x100.flatMap (eI .u8))] [Sm w.heap.size F w [],St w []]:=by
         intro x247 h
         unfold O7 at h
         by_cases hp248:x247=true
         ·have h:=Ap hp248 h
          refine Bz rfl _ rfl (hp248) ?_
          obtain ⟨hb249,h⟩:=h
          obtain ⟨hb250,h⟩:=h
          obtain ⟨x257,hv258,h⟩:=h
          obtain ⟨hb259,h⟩:=h
          have hns:Region.noSelect (Code.ops q101c41)=true:=by kernel_rfl
          refine Gf [8,9] 10 rfl rfl mix rfl (.c 0 rfl (.c 1 rfl .n))<|wfv 0 rfl (Ad rfl) gn hns (by kernel_rfl)<|wfv 1 rfl (Ad rfl) gn hns (by kernel_rfl)<|wfv 2 rfl (v_quo rfl rfl (by decide)) gn hns (by kernel_rfl)<|wfv 3 rfl (Ia Nl rfl rfl hb249) gn hns (by kernel_rfl)<|wfv 4 rfl (Ad rfl) gn hns (by kernel_rfl)<|wfv 5 rfl (v_rem rfl rfl (by decide)) gn hns (by kernel_rfl)<|wfv 6 rfl (Ia Nl rfl rfl hb250) gn hns (by kernel_rfl) ?_
          refine Cm [7] (by kernel_rfl) rfl ⟨Et 7 rfl gn rfl (Gw (xs:=([92,120,bt (⟨#[48,49,50,51,52,53,54,55,56,57,97,98,99,100,101,102]⟩:ByteArray) (IntKind.u8.wrap (Int.tdiv (bt x1 x105) 16)),bt (⟨#[48,49,50,51,52,53,54,55,56,57,97,98,99,100,101,102]⟩:ByteArray) (Int.tmod (bt x1 x105) 16)]:List Int)) [.int .u8 92,.int .u8 120,.int .u8 (bt (⟨#[48,49,50,51,52,53,54,55,56,57,97,98,99,100,101,102]⟩:ByteArray) (IntKind.u8.wrap (Int.tdiv (bt x1 x105) 16))),.int .u8 (bt (⟨#[48,49,50,51,52,53,54,55,56,57,97,98,99,100,101,102]⟩:ByteArray) (Int.tmod (bt x1 x105) 16))] bs_108_4 rfl (by kernel_rfl) rfl rfl rfl rfl fun gb269 h270=>?_),trivial⟩
          refine ⟨Bi [1] rfl,Bi [0,1] rfl,?_⟩
          refine Cm [8] (by kernel_rfl) rfl ⟨Q7 8 rfl gn rfl (L8 (zs:=x257) (cells':=x257.flatMap (eI .u8)) 1 Xaq rfl rfl rfl h104 (Nat.le_refl _) (Src.ownF (hl:=(hlI .u8)) (h1:=(Ey .u8)) 0 rfl h270) (by rw [hv258,List.flatMap_append] <;> rfl) (Ff hv258 h270.hq) hb259 rfl rfl fun A271 c272 h273=>?_),trivial⟩
          unfold NxL
          refine Cm [9] (by kernel_rfl) rfl ⟨Q7 9 rfl gn rfl (Nk (Af rfl) rfl ?_),trivial⟩
          unfold NxL
          refine E8 (by kernel_rfl)<|D7<|D7<|Ac rfl rfl<|Aa 0 rfl (Ad rfl) gn rfl<|Aa 1 rfl (Be rfl rfl rfl) gn rfl<|Aa 2 rfl (Af rfl) gn rfl<|Aj 3 rfl<|Dp ?_
          have ih:=Out.inl hO1 h
          exact Dc [0,1] (ih A271 (n102 + 4) c272 h273) ⟨rfl,rfl,rfl,trivial⟩ (.cons _ (.cons_cons _ (.slnil))) rfl
         ·have h:=Aq hp248 h
          refine Bg rfl _ rfl ((bf hp248))<|Ac rfl rfl<|Aa 0 rfl (Ad rfl) gn rfl<|Aa 1 rfl (Ad rfl) gn rfl ?_
          refine Cf 2 rfl (Gw (xs:=([bt x1 x105]:List Int)) [.int .u8 (bt x1 x105)] Xbg rfl (by kernel_rfl) rfl rfl rfl rfl fun gb275 h276=>?_) gn
          obtain ⟨x280,hv281,h⟩:=h
          obtain ⟨hb282,h⟩:=h
          refine Cf 3 rfl (L8 (zs:=x280) (cells':=x280.flatMap (eI .u8)) 1 Xaq rfl rfl rfl h104 (Nat.le_refl _) (Src.ownF (hl:=(hlI .u8)) (h1:=(Ey .u8)) 0 rfl h276) (by rw [hv281,List.flatMap_append] <;> rfl) (Ff hv281 h276.hq) hb282 rfl rfl fun A277 c278 h279=>?_) gn
          refine Aa 4 rfl (Af rfl) gn rfl<|Aj 5 rfl<|D7<|D7<|Ac rfl rfl<|Aa 0 rfl (Ad rfl) gn rfl<|Aa 1 rfl (Be rfl rfl rfl) gn rfl<|Aa 2 rfl (Af rfl) gn rfl<|Aj 3 rfl<|Dp ?_
          have ih:=Out.inl hO1 h
          exact Dc [0,1] (ih A277 (n102 + 1) c278 h279) ⟨rfl,rfl,rfl,trivial⟩ (.cons _ (.cons_cons _ (.slnil))) rfl
        refine Ac rfl rfl<|Aa 0 rfl (Ad rfl) gn rfl<|Aa 1 rfl (Be rfl rfl rfl) gn rfl<|Aa 2 rfl (Ad rfl) gn rfl ?_
        by_cases hp283:bt x1 x105 < 32
        ·have h:=Ap hp283 h
         refine Bv 52 rfl ((decide_eq_true hp283))<|Ae 3 rfl (ps 52 rfl rfl rfl)<|Ae 4 rfl (ps 52 rfl rfl rfl)<|Aa 5 rfl (Bd (b:=true) rfl rfl) gn rfl<|Aa 6 rfl (Af rfl) gn rfl<|Aj 7 rfl ?_
         exact Dc [0,1] (j3 true h) ⟨rfl,rfl,rfl,rfl,rfl,trivial⟩ (.cons_cons _ (.slnil)) rfl
        ·have h:=Aq hp283 h
         refine Bv 52 rfl ((decide_eq_false hp283))<|Aa 3 rfl (Ad rfl) (gy 52 rfl rfl) rfl<|Aa 4 rfl (Be rfl rfl rfl) (gy 52 rfl rfl) rfl<|Aa 5 rfl (Bd (b:=false) rfl rfl) gn rfl<|Aa 6 rfl (Af rfl) gn rfl<|Aj 7 rfl ?_
         exact Dc [0,1] (j3 (decide (bt x1 x105 > 126)) h) ⟨rfl,rfl,rfl,rfl,rfl,trivial⟩ (.cons_cons _ (.slnil)) rfl
   refine Ac rfl rfl<|Aa 0 rfl (Ad rfl) gn rfl<|Aa 1 rfl (Be rfl rfl rfl) gn rfl<|Aa 2 rfl (Ad rfl) gn rfl ?_
   by_cases hp284:bt x1 x105=34
   ·have h:=Ap hp284 h
    refine Bv 23 rfl ((eqi hp284))<|Ae 3 rfl (ps 23 rfl rfl rfl)<|Ae 4 rfl (ps 23 rfl rfl rfl)<|Aa 5 rfl (Bd (b:=true) rfl rfl) gn rfl<|Aa 6 rfl (Af rfl) gn rfl<|Aj 7 rfl ?_
    exact Dc [0,1] (j2 true h) ⟨rfl,rfl,rfl,rfl,rfl,trivial⟩ (.cons_cons _ (.slnil)) rfl
   ·have h:=Aq hp284 h
    refine Bv 23 rfl ((nei hp284))<|Aa 3 rfl (Ad rfl) (gy 23 rfl rfl) rfl<|Aa 4 rfl (Be rfl rfl rfl) (gy 23 rfl rfl) rfl<|Aa 5 rfl (Bd (b:=false) rfl rfl) gn rfl<|Aa 6 rfl (Af rfl) gn rfl<|Aj 7 rfl ?_
    exact Dc [0,1] (j2 ((bt x1 x105) == 92) h) ⟨rfl,rfl,rfl,rfl,rfl,trivial⟩ (.cons_cons _ (.slnil)) rfl
  ·have h:=Aq hp200 h
   refine Bg rfl _ rfl ((decide_eq_false hp200))<|Gp [.code Xek] rfl rfl<|Ah rfl<|Ac rfl rfl<|Aa 0 rfl (Ad rfl) gn rfl ?_
   refine Cf 1 rfl (Gw (xs:=([34]:List Int)) [.int .u8 34] Xbg rfl (by kernel_rfl) rfl rfl rfl rfl fun gb286 h287=>?_) gn
   obtain ⟨x291,hv292,h⟩:=h
   obtain ⟨hb293,h⟩:=h
   refine Cf 2 rfl (L8 (zs:=x291) (cells':=x291.flatMap (eI .u8)) 1 Xaq rfl rfl rfl h104 (Nat.le_refl _) (Src.ownF (hl:=(hlI .u8)) (h1:=(Ey .u8)) 0 rfl h287) (by rw [hv292,List.flatMap_append] <;> rfl) (Ff hv292 h287.hq) hb293 rfl rfl fun A288 c289 h290=>?_) gn
   refine Aa 3 rfl (v_b2s Xlc Nl rfl (Src.ownF (hl:=(hlI .u8)) (h1:=(Ey .u8)) 1 rfl h290) h290.hq) gn rfl<|Aa 4 rfl (Af rfl) gn rfl<|Aj 5 rfl ?_
   have h:=Out.inr hO1 h
   refine C9 [.string (Qo x291)] rfl Tryd.func101 rfl (.tmp rfl (.nil)) fun wr hLr=>?_
   have hMr:=hLr.pk0 (.c 1 rfl .n)
   show Zu w F  r (.returned (Ci [.string (Qo x291)])) wr
   rw [h]
   exact ⟨rfl,hMr⟩
 exact Dc [0,1] (key1 _ h (some ⟨gb3,0,none⟩) 1 1 h4) ⟨rfl,rfl,rfl,trivial⟩ (.cons_cons _ (.slnil)) rfl
abbrev Xgf (w:World) (F:Nat→Prop) (r:ByteArray):Ending→World→Prop:=fun e w'=>e=.returned (.string r)∧B.Loc w w' [] [St w []]
theorem Xda (w:World) (F:Nat→Prop) (x1:Int) (hG:Tb Tryd.prog (St w [])) (hF:∀ b,F b→b < w.heap.size∧∀ o ∈ ([]:List (List Nat)),b ∉ o) (hL0:B.Loc w w [] [Sm w.heap.size F w [],St w []]) (r:ByteArray) (h:strconv_Itoa x1 r):Calls Tryd.prog 99 #[.int .i64 x1] w (Xgf w F  r):=by
 unfold strconv_Itoa at h
 obtain ⟨h1,rfl⟩:=h
 refine Calls.mono (Tryd.strconv_Itoa x1 h1.1 h1.2 w hG.2) ?_
 rintro e w' ⟨rfl,k,os,rfl⟩
 exact ⟨rfl,Loc.of_below (Lib.below_grow _ _ (Nat.le_refl _) _ _)⟩
abbrev Pm (w:World) (F:Nat→Prop) (r:ByteArray):Ending→World→Prop:=fun e w'=>e=.returned (.string r)∧B.Loc w w' [] [St w []]
noncomputable abbrev Xhu (w:World) (F:Nat→Prop) (r:ByteArray):Cx:=⟨Tryd.prog,79,Tryd.f79,26,Pm w F  r,w⟩
theorem Zj (w:World) (F:Nat→Prop) (x1:Ak) (hG:Tb Tryd.prog (St w [])) (hF:∀ b,F b→b < w.heap.size∧∀ o ∈ ([]:List (List Nat)),b ∉ o) (hL0:B.Loc w w [] [Sm w.heap.size F w [],St w []]) (r:ByteArray) (h:Qc x1 r):Calls Tryd.prog 79 #[.agg #[.int .i64 x1.kind,.string x1.text,.int .i64 x1.n,.int .i64 x1.at_]] w (Pm w F  r):=by
 unfold Qc at h
 refine Ce (vs:=[.agg #[.int .i64 x1.kind,.string x1.text,.int .i64 x1.n,.int .i64 x1.at_]]) 26 Tryd.func79 rfl Tryd.ntmps79 rfl hL0 ?_
 show G (Xhu w F r) _ _ _ _
 refine Ah rfl<|Ac rfl rfl ?_
 refine Cf 0 rfl (V5 [.int .i64 x1.kind,.string x1.text,.int .i64 x1.n,.int .i64 x1.at_] rfl rfl rfl fun gb2=>?_) gn
 refine Aa 1 rfl (Af rfl) gn rfl<|Aj 2 rfl<|Ah rfl<|Ah rfl<|Ac rfl rfl<|Aa 0 rfl (Nj [.int .i64 x1.kind,.string x1.text,.int .i64 x1.n,.int .i64 x1.at_] 0 ld_84 rfl rfl rfl rfl) gn rfl ?_
 obtain ⟨r7,hv8,h⟩:=h
 refine Cf 1 rfl (D8 [.agg #[.int .i64 x1.kind,.string x1.text,.int .i64 x1.n,.int .i64 x1.at_]] rfl Tryd.func78 rfl rfl rfl fun w4 hL5=>?_) gn
 have hp6:=pmI hL5 .n (.c 0 rfl .n) (by kernel_rfl)
 refine Calls.mono (Zb w4 (Fl ([]:List Cc)) x1 (hL5.hFl hp6 (Bi [] rfl)) (hL5.into hp6 _) r7 hv8) ?_
 rintro _ w9 ⟨rfl,hM10⟩
 have hL11:=hL5.call hp6 hM10
 refine ⟨_,_,_,rfl,hL11,?_⟩
 refine Aa 2 rfl (Qv rfl) gn rfl<|Aj 3 rfl ?_
 by_cases hp12:r7=true
 ·have h:=Ap hp12 h
  refine Bg rfl _ rfl ((nf hp12))<|Cb rfl<|Ah rfl<|Ah rfl<|Ac rfl rfl<|Aa 0 rfl (Aw Ve rfl) gn rfl<|Aa 1 rfl (Au 0 Xb3 rfl rfl rfl) gn rfl<|Aj 2 rfl<|Df rfl<|Ah rfl<|Ac rfl rfl<|Aa 0 rfl (Be rfl rfl rfl) gn rfl ?_
  refine Aa 1 rfl (Af rfl) gn rfl<|Aj 2 rfl ?_
  by_cases hp13:x1.kind=2
  ·have h:=Ap hp13 h
   refine Bz rfl _ rfl ((eqi hp13))<|Ah rfl<|Ac rfl rfl<|Aa 0 rfl (Aw Kt rfl) gn rfl<|Aa 1 rfl (Au 0 Ib rfl rfl rfl) gn rfl ?_
   obtain ⟨r17,hv18,h⟩:=h
   refine Cf 2 rfl (D8 [.string x1.text] rfl Tryd.func101 rfl rfl rfl fun w14 hL15=>?_) gn
   have hp16:=pmI hL15 .n (.c 0 rfl .n) (by kernel_rfl)
   refine Calls.mono (Xe7 w14 (Fl ([]:List Cc)) x1.text (hL15.hFl hp16 (Bi [] rfl)) (hL15.into hp16 _) r17 hv18) ?_
   rintro _ w19 ⟨rfl,hM20⟩
   have hL21:=hL15.call hp16 hM20
   refine ⟨_,_,_,rfl,hL21,?_⟩
   refine Aa 3 rfl (Af rfl) gn rfl<|Aj 4 rfl ?_
   refine C9 [.string r17] rfl Tryd.func79 rfl (.tmp rfl (.nil)) fun wr hLr=>?_
   have hMr:=hLr.pk0 (.c 1 rfl .n)
   show Pm w F  r (.returned (Ci [.string r17])) wr
   rw [h]
   exact ⟨rfl,hMr⟩
  ·have h:=Aq hp13 h
   refine Bg rfl _ rfl ((nei hp13))<|Ah rfl<|Ac rfl rfl<|Aa 0 rfl (Be rfl rfl rfl) gn rfl<|Aa 1 rfl (Af rfl) gn rfl<|Aj 2 rfl ?_
   by_cases hp22:x1.kind=3
   ·have h:=Ap hp22 h
    refine Bz rfl _ rfl ((eqi hp22))<|Ah rfl<|Ac rfl rfl<|Aa 0 rfl (Aw Kt rfl) gn rfl<|Aa 1 rfl (Au 0 Ib rfl rfl rfl) gn rfl ?_
    obtain ⟨hb23,h⟩:=h
    refine Aa 2 rfl (v_catS rfl rfl hb23) gn rfl ?_
    obtain ⟨hb24,h⟩:=h
    refine Aa 3 rfl (v_catS rfl rfl hb24) gn rfl<|Aa 4 rfl (Af rfl) gn rfl<|Aj 5 rfl ?_
    refine C9 [.string (((⟨#[47]⟩:ByteArray)++x1.text)++(⟨#[47]⟩:ByteArray))] rfl Tryd.func79 rfl (.tmp rfl (.nil)) fun wr hLr=>?_
    have hMr:=hLr.pk0 (.c 1 rfl .n)
    show Pm w F  r (.returned (Ci [.string (((⟨#[47]⟩:ByteArray)++x1.text)++(⟨#[47]⟩:ByteArray))])) wr
    rw [h]
    exact ⟨rfl,hMr⟩
   ·have h:=Aq hp22 h
    refine Bg rfl _ rfl ((nei hp22))<|Ah rfl<|Ac rfl rfl<|Aa 0 rfl (Be rfl rfl rfl) gn rfl<|Aa 1 rfl (Af rfl) gn rfl<|Aj 2 rfl ?_
    by_cases hp25:x1.kind=4
    ·have h:=Ap hp25 h
     refine Bz rfl _ rfl ((eqi hp25))<|Ah rfl<|Ac rfl rfl<|Aa 0 rfl (Aw Xjw rfl) gn rfl<|Aa 1 rfl (Au 0 H9 rfl rfl rfl) gn rfl ?_
     obtain ⟨r29,hv30,h⟩:=h
     refine Cf 2 rfl (D8 [.int .i64 x1.n] rfl Tryd.func99 rfl rfl rfl fun w26 hL27=>?_) gn
     have hp28:=pmI hL27 .n (.c 0 rfl .n) (by kernel_rfl)
     refine Calls.mono (Xda w26 (Fl ([]:List Cc)) x1.n (hL27.tb hp28 hG (me 1 rfl)) (hL27.hFl hp28 (Bi [] rfl)) (hL27.into hp28 _) r29 hv30) ?_
     rintro _ w31 ⟨rfl,hM32⟩
     have hL33:=hL27.call hp28 hM32
     refine ⟨_,_,_,rfl,hL33,?_⟩
     refine Aa 3 rfl (Af rfl) gn rfl<|Aj 4 rfl ?_
     refine C9 [.string r29] rfl Tryd.func79 rfl (.tmp rfl (.nil)) fun wr hLr=>?_
     have hMr:=hLr.pk0 (.c 1 rfl .n)
     show Pm w F  r (.returned (Ci [.string r29])) wr
     rw [h]
     exact ⟨rfl,hMr⟩
    ·have h:=Aq hp25 h
     refine Bg rfl _ rfl ((nei hp25))<|Cb rfl<|D7<|Ah rfl<|Ac rfl rfl<|Aa 0 rfl (Aw Kt rfl) gn rfl<|Aa 1 rfl (Au 0 Ib rfl rfl rfl) gn rfl<|Aa 2 rfl (Af rfl) gn rfl<|Aj 3 rfl ?_
     refine C9 [.string x1.text] rfl Tryd.func79 rfl (.tmp rfl (.nil)) fun wr hLr=>?_
     have hMr:=hLr.pk0 (.c 1 rfl .n)
     show Pm w F  r (.returned (Ci [.string x1.text])) wr
     rw [h]
     exact ⟨rfl,hMr⟩
 ·have h:=Aq hp12 h
  refine Bz rfl _ rfl ((nt (bf hp12)))<|Ah rfl<|Ac rfl rfl<|Aa 0 rfl (Af rfl) gn rfl<|Aj 1 rfl ?_
  refine C9 [.string (⟨#[]⟩:ByteArray)] rfl Tryd.func79 rfl (.tmp rfl (.nil)) fun wr hLr=>?_
  have hMr:=hLr.pk0 (.c 1 rfl .n)
  show Pm w F  r (.returned (Ci [.string (⟨#[]⟩:ByteArray)])) wr
  rw [h]
  exact ⟨rfl,hMr⟩
abbrev Y3 (w:World) (F:Nat→Prop) (r:Bool):Ending→World→Prop:=fun e w'=>e=.returned (.bool r)∧B.Loc w w' [] [St w []]
noncomputable abbrev Xjr (w:World) (F:Nat→Prop) (r:Bool):Cx:=⟨Tryd.prog,77,Tryd.f77,11,Y3 w F  r,w⟩
theorem Tn (w:World) (F:Nat→Prop) (x1:ByteArray) (hG:Tb Tryd.prog (St w [])) (hF:∀ b,F b→b < w.heap.size∧∀ o ∈ ([]:List (List Nat)),b ∉ o) (hL0:B.Loc w w [] [Sm w.heap.size F w [],St w []]) (r:Bool) (h:Qg x1 r):Calls Tryd.prog 77 #[.string x1] w (Y3 w F  r):=by
 unfold Qg at h
 refine Ce (vs:=[.string x1]) 11 Tryd.func77 rfl Tryd.ntmps77 rfl hL0 ?_
 show G (Xjr w F r) _ _ _ _
 refine Ah rfl<|Ac rfl rfl<|Aa 0 rfl (Af rfl) gn rfl<|Aj 1 rfl<|Ah rfl<|Ac rfl rfl<|Aa 0 rfl (Ad rfl) gn rfl<|Aa 1 rfl (Uf rfl rfl) gn rfl<|Aa 2 rfl (Ad rfl) gn rfl ?_
 by_cases hp2:x1=(⟨#[95]⟩:ByteArray)
 ·have h:=Ap hp2 h
  refine Bv 5 rfl ((nf (Qw hp2)))<|Ae 3 rfl (ps 5 rfl rfl rfl)<|Ae 4 rfl (ps 5 rfl rfl rfl)<|Ae 5 rfl (ps 5 rfl rfl rfl)<|Ae 6 rfl (ps 5 rfl rfl rfl)<|Aa 7 rfl (Bd (b:=false) rfl rfl) gn rfl<|Aa 8 rfl (Af rfl) gn rfl<|Aj 9 rfl ?_
  refine C9 [.bool false] rfl Tryd.func77 rfl (.tmp rfl (.nil)) fun wr hLr=>?_
  have hMr:=hLr.pk0 (.c 1 rfl .n)
  show Y3 w F  r (.returned (Ci [.bool false])) wr
  rw [h]
  exact ⟨rfl,hMr⟩
 ·have h:=Aq hp2 h
  refine Bv 5 rfl ((nt (Rq hp2)))<|Aa 3 rfl (Ad rfl) (gy 5 rfl rfl) rfl<|Aa 4 rfl (J5 #[.int .i64 1,.string x1,.int .i64 0,.int .i64 0] Xgp rfl (by kernel_rfl)) (gy 5 rfl rfl) rfl ?_
  obtain ⟨r6,hv7,h⟩:=h
  refine Cf 5 rfl (D8 [.agg #[.int .i64 1,.string x1,.int .i64 0,.int .i64 0]] rfl Tryd.func79 rfl rfl rfl fun w3 hL4=>?_) (gy 5 rfl rfl)
  have hp5:=pmI hL4 .n .n (by kernel_rfl)
  refine Calls.mono (Zj w3 (Fl ([]:List Cc)) (⟨1,x1,0,0⟩:Ak) (hL4.tb hp5 hG (me 1 rfl)) (hL4.hFl hp5 (Bi [] rfl)) (hL4.into hp5 _) r6 hv7) ?_
  rintro _ w8 ⟨rfl,hM9⟩
  have hL10:=hL4.call hp5 hM9
  refine ⟨_,_,_,rfl,hL10,?_⟩
  refine Aa 6 rfl (Uf rfl rfl) (gy 5 rfl rfl) rfl<|Aa 7 rfl (Bd (b:=true) rfl rfl) gn rfl<|Aa 8 rfl (Af rfl) gn rfl<|Aj 9 rfl ?_
  refine C9 [.bool (!(seq r6 (⟨#[]⟩:ByteArray)))] rfl Tryd.func77 rfl (.tmp rfl (.nil)) fun wr hLr=>?_
  have hMr:=hLr.pk0 (.c 1 rfl .n)
  show Y3 w F  r (.returned (Ci [.bool (!(seq r6 (⟨#[]⟩:ByteArray)))])) wr
  rw [h]
  exact ⟨rfl,hMr⟩
noncomputable abbrev q55c4:=Code.snd (Code.snd (Dv Tryd.f55))
noncomputable abbrev q55c6:=Code.snd (Code.fst (Code.snd (Dv Tryd.f55)))
abbrev O0 (w:World) (F:Nat→Prop) (r:Bool):Ending→World→Prop:=fun e w'=>e=.returned (.bool r)∧B.Loc w w' [] [St w []]
noncomputable abbrev Xcj (w:World) (F:Nat→Prop) (r:Bool):Cx:=⟨Tryd.prog,55,Tryd.f55,49,O0 w F  r,w⟩
theorem Xds (w:World) (F:Nat→Prop) (x1:Ag) (hG:Tb Tryd.prog (St w [])) (hF:∀ b,F b→b < w.heap.size∧∀ o ∈ ([]:List (List Nat)),b ∉ o) (hL0:B.Loc w w [] [Sm w.heap.size F w [],St w []]) (r:Bool) (h:Xj x1 r):Calls Tryd.prog 55 #[.agg #[.string x1.name,.bool x1.lit,.string x1.field,.string x1.capture,.int .i64 x1.kids]] w (O0 w F  r):=by
 unfold Xj at h
 refine Ce (vs:=[.agg #[.string x1.name,.bool x1.lit,.string x1.field,.string x1.capture,.int .i64 x1.kids]]) 49 Tryd.func55 rfl Tryd.ntmps55 rfl hL0 ?_
 show G (Xcj w F r) _ _ _ _
 refine Ah rfl<|Ac rfl rfl ?_
 refine Cf 0 rfl (V5 [.string x1.name,.bool x1.lit,.string x1.field,.string x1.capture,.int .i64 x1.kids] rfl rfl rfl fun gb2=>?_) gn
 refine Aa 1 rfl (Af rfl) gn rfl<|Aj 2 rfl<|Ah rfl<|Ah rfl ?_
 have j1:∀ (x17:Bool) (h:Jr x1 x17 r) ,G (Xcj w F r) [.code q55c6,.code q55c4] [(1,.pointer (some ⟨gb2,0,none⟩)),(30,.bool x17)] [.box gb2 45 [.string x1.name,.bool x1.lit,.string x1.field,.string x1.capture,.int .i64 x1.kids]] [Sm w.heap.size F w [],St w []]:=by
  intro x17 h
  unfold Jr at h
  by_cases hp18:x17=true
  ·have h:=Ap hp18 h
   refine Bz rfl _ rfl (hp18)<|Ah rfl<|Ac rfl rfl<|Aa 0 rfl (Af rfl) gn rfl<|Aj 1 rfl ?_
   refine C9 [.bool false] rfl Tryd.func55 rfl (.tmp rfl (.nil)) fun wr hLr=>?_
   have hMr:=hLr.pk0 (.c 1 rfl .n)
   show O0 w F  r (.returned (Ci [.bool false])) wr
   rw [h]
   exact ⟨rfl,hMr⟩
  ·have h:=Aq hp18 h
   refine Bg rfl _ rfl ((bf hp18))<|Cb rfl<|Ah rfl<|Ac rfl rfl<|Aa 0 rfl (Aw Vb rfl) gn rfl<|Aa 1 rfl (Au 0 Ib rfl rfl rfl) gn rfl<|Aa 2 rfl (Zc rfl rfl) gn rfl<|Aa 3 rfl (Ad rfl) gn rfl ?_
   by_cases hp19:x1.field=(⟨#[]⟩:ByteArray)
   ·have h:=Ap hp19 h
    refine Bv 34 rfl ((Qw hp19))<|Ae 4 rfl (ps 34 rfl rfl rfl)<|Ae 5 rfl (ps 34 rfl rfl rfl)<|Ae 6 rfl (ps 34 rfl rfl rfl)<|Aa 7 rfl (Bd (b:=true) rfl rfl) gn rfl<|Aa 8 rfl (Ad rfl) gn rfl<|Aa 9 rfl (Aw Vp rfl) (gy 39 rfl rfl) rfl<|Aa 10 rfl (Au 0 Ib rfl rfl rfl) (gy 39 rfl rfl) rfl<|Aa 11 rfl (Zc rfl rfl) (gy 39 rfl rfl) rfl<|Aa 12 rfl (Ad rfl) (gy 39 rfl rfl) rfl ?_
    by_cases hp20:x1.capture=(⟨#[]⟩:ByteArray)
    ·have h:=Ap hp20 h
     refine Bv 43 rfl ((Qw hp20))<|Ae 13 rfl (ps 43 rfl rfl rfl)<|Ae 14 rfl (ps 43 rfl rfl rfl)<|Ae 15 rfl (ps 43 rfl rfl rfl)<|Aa 16 rfl (Bd (b:=true) rfl rfl) (gy 39 rfl rfl) rfl<|Aa 17 rfl (Bd (b:=true) rfl rfl) gn rfl<|Aa 18 rfl (Af rfl) gn rfl<|Aj 19 rfl ?_
     refine C9 [.bool true] rfl Tryd.func55 rfl (.tmp rfl (.nil)) fun wr hLr=>?_
     have hMr:=hLr.pk0 (.c 1 rfl .n)
     show O0 w F  r (.returned (Ci [.bool true])) wr
     rw [h]
     exact ⟨rfl,hMr⟩
    ·have h:=Aq hp20 h
     refine Bv 43 rfl ((Rq hp20))<|Aa 13 rfl (Aw Vp rfl) (gy 43 rfl rfl) rfl<|Aa 14 rfl (Au 0 Ib rfl rfl rfl) (gy 43 rfl rfl) rfl ?_
     obtain ⟨r24,hv25,h⟩:=h
     refine Cf 15 rfl (D8 [.string x1.capture] rfl Tryd.func77 rfl rfl rfl fun w21 hL22=>?_) (gy 43 rfl rfl)
     have hp23:=pmI hL22 .n (.c 0 rfl .n) (by kernel_rfl)
     refine Calls.mono (Tn w21 (Fl ([]:List Cc)) x1.capture (hL22.tb hp23 hG (me 1 rfl)) (hL22.hFl hp23 (Bi [] rfl)) (hL22.into hp23 _) r24 hv25) ?_
     rintro _ w26 ⟨rfl,hM27⟩
     have hL28:=hL22.call hp23 hM27
     refine ⟨_,_,_,rfl,hL28,?_⟩
     refine Aa 16 rfl (Bd (b:=false) rfl rfl) (gy 39 rfl rfl) rfl<|Aa 17 rfl (Bd (b:=true) rfl rfl) gn rfl<|Aa 18 rfl (Af rfl) gn rfl<|Aj 19 rfl ?_
     refine C9 [.bool r24] rfl Tryd.func55 rfl (.tmp rfl (.nil)) fun wr hLr=>?_
     have hMr:=hLr.pk0 (.c 1 rfl .n)
     show O0 w F  r (.returned (Ci [.bool r24])) wr
     rw [h]
     exact ⟨rfl,hMr⟩
   ·have h:=Aq hp19 h
    refine Bv 34 rfl ((Rq hp19))<|Aa 4 rfl (Aw Vb rfl) (gy 34 rfl rfl) rfl<|Aa 5 rfl (Au 0 Ib rfl rfl rfl) (gy 34 rfl rfl) rfl ?_
    obtain ⟨r32,hv33,h⟩:=h
    refine Cf 6 rfl (D8 [.string x1.field] rfl Tryd.func77 rfl rfl rfl fun w29 hL30=>?_) (gy 34 rfl rfl)
    have hp31:=pmI hL30 .n (.c 0 rfl .n) (by kernel_rfl)
    refine Calls.mono (Tn w29 (Fl ([]:List Cc)) x1.field (hL30.tb hp31 hG (me 1 rfl)) (hL30.hFl hp31 (Bi [] rfl)) (hL30.into hp31 _) r32 hv33) ?_
    rintro _ w34 ⟨rfl,hM35⟩
    have hL36:=hL30.call hp31 hM35
    refine ⟨_,_,_,rfl,hL36,?_⟩
    refine Aa 7 rfl (Bd (b:=false) rfl rfl) gn rfl<|Aa 8 rfl (Ad rfl) gn rfl ?_
    by_cases hp37:r32=true
    ·have h:=Ap hp37 h
     refine Bv 39 rfl (hp37)<|Aa 9 rfl (Aw Vp rfl) (gy 39 rfl rfl) rfl<|Aa 10 rfl (Au 0 Ib rfl rfl rfl) (gy 39 rfl rfl) rfl<|Aa 11 rfl (Zc rfl rfl) (gy 39 rfl rfl) rfl<|Aa 12 rfl (Ad rfl) (gy 39 rfl rfl) rfl ?_
     by_cases hp38:x1.capture=(⟨#[]⟩:ByteArray)
     ·have h:=Ap hp38 h
      refine Bv 43 rfl ((Qw hp38))<|Ae 13 rfl (ps 43 rfl rfl rfl)<|Ae 14 rfl (ps 43 rfl rfl rfl)<|Ae 15 rfl (ps 43 rfl rfl rfl)<|Aa 16 rfl (Bd (b:=true) rfl rfl) (gy 39 rfl rfl) rfl<|Aa 17 rfl (Bd (b:=true) rfl rfl) gn rfl<|Aa 18 rfl (Af rfl) gn rfl<|Aj 19 rfl ?_
      refine C9 [.bool true] rfl Tryd.func55 rfl (.tmp rfl (.nil)) fun wr hLr=>?_
      have hMr:=hLr.pk0 (.c 1 rfl .n)
      show O0 w F  r (.returned (Ci [.bool true])) wr
      rw [h]
      exact ⟨rfl,hMr⟩
     ·have h:=Aq hp38 h
      refine Bv 43 rfl ((Rq hp38))<|Aa 13 rfl (Aw Vp rfl) (gy 43 rfl rfl) rfl<|Aa 14 rfl (Au 0 Ib rfl rfl rfl) (gy 43 rfl rfl) rfl ?_
      obtain ⟨r42,hv43,h⟩:=h
      refine Cf 15 rfl (D8 [.string x1.capture] rfl Tryd.func77 rfl rfl rfl fun w39 hL40=>?_) (gy 43 rfl rfl)
      have hp41:=pmI hL40 .n (.c 0 rfl .n) (by kernel_rfl)
      refine Calls.mono (Tn w39 (Fl ([]:List Cc)) x1.capture (hL40.tb hp41 hG (me 1 rfl)) (hL40.hFl hp41 (Bi [] rfl)) (hL40.into hp41 _) r42 hv43) ?_
      rintro _ w44 ⟨rfl,hM45⟩
      have hL46:=hL40.call hp41 hM45
      refine ⟨_,_,_,rfl,hL46,?_⟩
      refine Aa 16 rfl (Bd (b:=false) rfl rfl) (gy 39 rfl rfl) rfl<|Aa 17 rfl (Bd (b:=true) rfl rfl) gn rfl<|Aa 18 rfl (Af rfl) gn rfl<|Aj 19 rfl ?_
      refine C9 [.bool r42] rfl Tryd.func55 rfl (.tmp rfl (.nil)) fun wr hLr=>?_
      have hMr:=hLr.pk0 (.c 1 rfl .n)
      show O0 w F  r (.returned (Ci [.bool r42])) wr
      rw [h]
      exact ⟨rfl,hMr⟩
    ·have h:=Aq hp37 h
     refine Bv 39 rfl ((bf hp37))<|Ae 9 rfl (ps 39 rfl rfl rfl)<|Ae 10 rfl (ps 39 rfl rfl rfl)<|Ae 11 rfl (ps 39 rfl rfl rfl)<|Ae 12 rfl (ps 39 rfl rfl rfl)<|Ae 13 rfl (pu 43 rfl rfl)<|Ae 14 rfl (pu 43 rfl rfl)<|Ae 15 rfl (pu 43 rfl rfl)<|Ae 16 rfl (ps 39 rfl rfl rfl)<|Aa 17 rfl (Bd (b:=false) rfl rfl) gn rfl<|Aa 18 rfl (Af rfl) gn rfl<|Aj 19 rfl ?_
     refine C9 [.bool false] rfl Tryd.func55 rfl (.tmp rfl (.nil)) fun wr hLr=>?_
     have hMr:=hLr.pk0 (.c 1 rfl .n)
     show O0 w F  r (.returned (Ci [.bool false])) wr
     rw [h]
     exact ⟨rfl,hMr⟩
 refine Ac rfl rfl<|Aa 0 rfl (Aw Zl rfl) gn rfl<|Aa 1 rfl (Au 0 Xcy rfl rfl rfl) gn rfl<|Aa 2 rfl (Ad rfl) gn rfl ?_
 by_cases hp47:x1.lit=true
 ·have h:=Ap hp47 h
  refine Bv 5 rfl (hp47)<|Aa 3 rfl (Aw Vt rfl) (gy 5 rfl rfl) rfl<|Aa 4 rfl (Au 0 Ib rfl rfl rfl) (gy 5 rfl rfl) rfl<|Aa 5 rfl (Zc rfl rfl) (gy 5 rfl rfl) rfl<|Aa 6 rfl (Ad rfl) (gy 5 rfl rfl) rfl ?_
  by_cases hp48:x1.name=(⟨#[]⟩:ByteArray)
  ·have h:=Ap hp48 h
   refine Bv 9 rfl ((Qw hp48))<|Ae 7 rfl (ps 9 rfl rfl rfl)<|Ae 8 rfl (ps 9 rfl rfl rfl)<|Ae 9 rfl (ps 9 rfl rfl rfl)<|Aa 10 rfl (Bd (b:=true) rfl rfl) (gy 5 rfl rfl) rfl<|Aa 11 rfl (Bd (b:=true) rfl rfl) gn rfl<|Aa 12 rfl (Ad rfl) gn rfl<|Ae 13 rfl (ps 15 rfl rfl rfl)<|Ae 14 rfl (ps 15 rfl rfl rfl)<|Ae 15 rfl (ps 15 rfl rfl rfl)<|Ae 16 rfl (ps 15 rfl rfl rfl)<|Ae 17 rfl (pu 19 rfl rfl) ?_
   refine Ae 18 rfl (pu 19 rfl rfl)<|Ae 19 rfl (pu 19 rfl rfl)<|Ae 20 rfl (ps 15 rfl rfl rfl)<|Ae 21 rfl (ps 15 rfl rfl rfl)<|Ae 22 rfl (pu 24 rfl rfl)<|Ae 23 rfl (pu 24 rfl rfl)<|Ae 24 rfl (pu 24 rfl rfl)<|Ae 25 rfl (pu 24 rfl rfl)<|Ae 26 rfl (ps 15 rfl rfl rfl)<|Aa 27 rfl (Bd (b:=true) rfl rfl) gn rfl<|Aj 28 rfl ?_
   exact Dc [0,1] (j1 true h) ⟨rfl,rfl,trivial⟩ (.cons_cons _ (.slnil)) rfl
  ·have h:=Aq hp48 h
   refine Bv 9 rfl ((Rq hp48))<|Aa 7 rfl (Aw Uj rfl) (gy 9 rfl rfl) rfl<|Aa 8 rfl (Au 0 H9 rfl rfl rfl) (gy 9 rfl rfl) rfl<|Aa 9 rfl (Be rfl rfl rfl) (gy 9 rfl rfl) rfl<|Aa 10 rfl (Bd (b:=false) rfl rfl) (gy 5 rfl rfl) rfl<|Aa 11 rfl (Bd (b:=true) rfl rfl) gn rfl<|Aa 12 rfl (Ad rfl) gn rfl ?_
   by_cases hp49:x1.kids=0
   ·have h:=Ap hp49 h
    refine Bv 15 rfl ((Xd2 hp49))<|Aa 13 rfl (Aw Zl rfl) (gy 15 rfl rfl) rfl<|Aa 14 rfl (Au 0 Xcy rfl rfl rfl) (gy 15 rfl rfl) rfl<|Aa 15 rfl (Qv rfl) (gy 15 rfl rfl) rfl<|Aa 16 rfl (Ad rfl) (gy 15 rfl rfl) rfl<|Bv 19 rfl ((nf hp47))<|Ae 17 rfl (ps 19 rfl rfl rfl)<|Ae 18 rfl (ps 19 rfl rfl rfl)<|Ae 19 rfl (ps 19 rfl rfl rfl)<|Aa 20 rfl (Bd (b:=false) rfl rfl) (gy 15 rfl rfl) rfl<|Aa 21 rfl (Ad rfl) (gy 15 rfl rfl) rfl<|Ae 22 rfl (ps 24 rfl rfl rfl) ?_
    refine Ae 23 rfl (ps 24 rfl rfl rfl)<|Ae 24 rfl (ps 24 rfl rfl rfl)<|Ae 25 rfl (ps 24 rfl rfl rfl)<|Aa 26 rfl (Bd (b:=false) rfl rfl) (gy 15 rfl rfl) rfl<|Aa 27 rfl (Bd (b:=false) rfl rfl) gn rfl<|Aj 28 rfl ?_
    exact Dc [0,1] (j1 false h) ⟨rfl,rfl,trivial⟩ (.cons_cons _ (.slnil)) rfl
   ·have h:=Aq hp49 h
    refine Bv 15 rfl ((Xde hp49))<|Ae 13 rfl (ps 15 rfl rfl rfl)<|Ae 14 rfl (ps 15 rfl rfl rfl)<|Ae 15 rfl (ps 15 rfl rfl rfl)<|Ae 16 rfl (ps 15 rfl rfl rfl)<|Ae 17 rfl (pu 19 rfl rfl)<|Ae 18 rfl (pu 19 rfl rfl)<|Ae 19 rfl (pu 19 rfl rfl)<|Ae 20 rfl (ps 15 rfl rfl rfl)<|Ae 21 rfl (ps 15 rfl rfl rfl)<|Ae 22 rfl (pu 24 rfl rfl)<|Ae 23 rfl (pu 24 rfl rfl) ?_
    refine Ae 24 rfl (pu 24 rfl rfl)<|Ae 25 rfl (pu 24 rfl rfl)<|Ae 26 rfl (ps 15 rfl rfl rfl)<|Aa 27 rfl (Bd (b:=true) rfl rfl) gn rfl<|Aj 28 rfl ?_
    exact Dc [0,1] (j1 true h) ⟨rfl,rfl,trivial⟩ (.cons_cons _ (.slnil)) rfl
 ·have h:=Aq hp47 h
  refine Bv 5 rfl ((bf hp47))<|Ae 3 rfl (ps 5 rfl rfl rfl)<|Ae 4 rfl (ps 5 rfl rfl rfl)<|Ae 5 rfl (ps 5 rfl rfl rfl)<|Ae 6 rfl (ps 5 rfl rfl rfl)<|Ae 7 rfl (pu 9 rfl rfl)<|Ae 8 rfl (pu 9 rfl rfl)<|Ae 9 rfl (pu 9 rfl rfl)<|Ae 10 rfl (ps 5 rfl rfl rfl)<|Aa 11 rfl (Bd (b:=false) rfl rfl) gn rfl<|Aa 12 rfl (Ad rfl) gn rfl<|Aa 13 rfl (Aw Zl rfl) (gy 15 rfl rfl) rfl ?_
  refine Aa 14 rfl (Au 0 Xcy rfl rfl rfl) (gy 15 rfl rfl) rfl<|Aa 15 rfl (Qv rfl) (gy 15 rfl rfl) rfl<|Aa 16 rfl (Ad rfl) (gy 15 rfl rfl) rfl<|Bv 19 rfl ((nt (bf hp47)))<|Aa 17 rfl (Aw Vt rfl) (gy 19 rfl rfl) rfl<|Aa 18 rfl (Au 0 Ib rfl rfl rfl) (gy 19 rfl rfl) rfl<|Aa 19 rfl (Uf rfl rfl) (gy 19 rfl rfl) rfl<|Aa 20 rfl (Bd (b:=true) rfl rfl) (gy 15 rfl rfl) rfl<|Aa 21 rfl (Ad rfl) (gy 15 rfl rfl) rfl ?_
  by_cases hp50:x1.name=(⟨#[]⟩:ByteArray)
  ·have h:=Ap hp50 h
   refine Bv 24 rfl ((nf (Qw hp50)))<|Ae 22 rfl (ps 24 rfl rfl rfl)<|Ae 23 rfl (ps 24 rfl rfl rfl)<|Ae 24 rfl (ps 24 rfl rfl rfl)<|Ae 25 rfl (ps 24 rfl rfl rfl)<|Aa 26 rfl (Bd (b:=false) rfl rfl) (gy 15 rfl rfl) rfl<|Aa 27 rfl (Bd (b:=false) rfl rfl) gn rfl<|Aj 28 rfl ?_
   exact Dc [0,1] (j1 false h) ⟨rfl,rfl,trivial⟩ (.cons_cons _ (.slnil)) rfl
  ·have h:=Aq hp50 h
   refine Bv 24 rfl ((nt (Rq hp50)))<|Aa 22 rfl (Aw Vt rfl) (gy 24 rfl rfl) rfl<|Aa 23 rfl (Au 0 Ib rfl rfl rfl) (gy 24 rfl rfl) rfl ?_
   obtain ⟨r54,hv55,h⟩:=h
   refine Cf 24 rfl (D8 [.string x1.name] rfl Tryd.func77 rfl rfl rfl fun w51 hL52=>?_) (gy 24 rfl rfl)
   have hp53:=pmI hL52 .n (.c 0 rfl .n) (by kernel_rfl)
   refine Calls.mono (Tn w51 (Fl ([]:List Cc)) x1.name (hL52.tb hp53 hG (me 1 rfl)) (hL52.hFl hp53 (Bi [] rfl)) (hL52.into hp53 _) r54 hv55) ?_
   rintro _ w56 ⟨rfl,hM57⟩
   have hL58:=hL52.call hp53 hM57
   refine ⟨_,_,_,rfl,hL58,?_⟩
   refine Aa 25 rfl (Qv rfl) (gy 24 rfl rfl) rfl<|Aa 26 rfl (Bd (b:=true) rfl rfl) (gy 15 rfl rfl) rfl<|Aa 27 rfl (Bd (b:=false) rfl rfl) gn rfl<|Aj 28 rfl ?_
   exact Dc [0,1] (j1 (!r54) h) ⟨rfl,rfl,trivial⟩ (.cons_cons _ (.slnil)) rfl
abbrev Uy (w:World) (F:Nat→Prop) (g3:Nat) (Tb4:Nat) (r:Bool × ByteArray):Ending→World→Prop:=fun e w'=>e=.returned (.bool r.1)∧B.Loc w w' [.box g3 Tb4 [.string r.2]] [St w [[g3]]]
noncomputable abbrev Xcq (w:World) (F:Nat→Prop) (g3:Nat) (Tb4:Nat) (r:Bool × ByteArray):Cx:=⟨Tryd.prog,73,Tryd.f73,8,Uy w F g3 Tb4 r,w⟩
theorem Xal (w:World) (F:Nat→Prop) (x1:Ag) (x2:ByteArray) (g3:Nat) (Tb4:Nat) (hF:∀ b,F b→b < w.heap.size∧∀ o ∈ ([[g3]]:List (List Nat)),b ∉ o) (hL0:B.Loc w w [.box g3 Tb4 [.string x2]] [Sm w.heap.size F w [[g3]],St w [[g3]]]) (r:Bool × ByteArray) (h:X3 x1 x2 r):Calls Tryd.prog 73 #[.agg #[.string x1.name,.bool x1.lit,.string x1.field,.string x1.capture,.int .i64 x1.kids],.pointer (some ⟨g3,0,none⟩)] w (Uy w F g3 Tb4 r):=by
 unfold X3 at h
 refine Ce (vs:=[.agg #[.string x1.name,.bool x1.lit,.string x1.field,.string x1.capture,.int .i64 x1.kids],.pointer (some ⟨g3,0,none⟩)]) 8 Tryd.func73 rfl Tryd.ntmps73 rfl hL0 ?_
 show G (Xcq w F g3 Tb4 r) _ _ _ _
 refine Ah rfl<|Ac rfl rfl ?_
 refine Cf 0 rfl (V5 [.string x1.name,.bool x1.lit,.string x1.field,.string x1.capture,.int .i64 x1.kids] rfl rfl rfl fun gb5=>?_) gn
 refine Aa 1 rfl (Af rfl) gn rfl<|Aj 2 rfl<|Ah rfl<|Ac rfl rfl<|Aa 0 rfl (Aw Vp rfl) gn rfl<|Aa 1 rfl (Au 0 Ib rfl rfl rfl) gn rfl<|Aa 2 rfl (Au 1 Ib rfl rfl rfl) gn rfl<|Aa 3 rfl (Zc rfl rfl) gn rfl<|Aa 4 rfl (Af rfl) gn rfl<|Aj 5 rfl ?_
 refine C9 [.bool (seq x1.capture x2)] rfl Tryd.func73 rfl (.tmp rfl (.nil)) fun wr hLr=>?_
 have hMr:=hLr.pkI (.c 1 rfl .n) (.c 0 rfl .n) (by kernel_rfl) (.c 1 rfl .n)
 show Uy w F g3 Tb4 r (.returned (Ci [.bool (seq x1.capture x2)])) wr
 rw [h]
 exact ⟨rfl,hMr⟩
noncomputable abbrev q72c4:=Code.snd (Code.snd (Dv Tryd.f72))
noncomputable abbrev Xip:=Code.fst (Code.fst (Code.snd (Code.fst (Code.snd (Dv Tryd.f72)))))
abbrev Fb (w:World) (F:Nat→Prop) (g7:Nat) (Tb8:Nat) (r:Int × ByteArray):Ending→World→Prop:=fun e w'=>e=.returned (.int .i64 r.1)∧B.Loc w w' [.box g7 Tb8 [.string r.2]] [St w [[g7]]]
noncomputable abbrev Fe (w:World) (F:Nat→Prop) (g7:Nat) (Tb8:Nat) (r:Int × ByteArray):Cx:=⟨Tryd.prog,72,Tryd.f72,19,Fb w F g7 Tb8 r,w⟩
theorem Pj (w:World) (F:Nat→Prop) (x1:List Ag) (x6:ByteArray) (A2:Option Addr) (n3:Nat) (c4:Nat) (g7:Nat) (Tb8:Nat) (h5:Rw Dl w (St w [[g7]]).av A2 n3 c4 x1) (hF:∀ b,F b→b < w.heap.size∧∀ o ∈ ([[g7]]:List (List Nat)),b ∉ o) (hL0:B.Loc w w [.box g7 Tb8 [.string x6]] [Sm w.heap.size F w [[g7]],St w [[g7]]]) (r:Int × ByteArray) (h:G6 x1 x6 r):Calls Tryd.prog 72 #[.slice A2 n3 c4,.func (.func 73) #[] #[.pointer (some ⟨g7,0,none⟩)]] w (Fb w F g7 Tb8 r):=by
 unfold G6 at h
 refine Ce (vs:=[.slice A2 n3 c4,.func (.func 73) #[] #[.pointer (some ⟨g7,0,none⟩)]]) 19 Tryd.func72 rfl Tryd.ntmps72 rfl hL0 ?_
 show G (Fe w F g7 Tb8 r) _ _ _ _
 refine Ah rfl<|Ac rfl rfl<|Aa 0 rfl (Af rfl) gn rfl<|Aj 1 rfl<|Ah rfl<|Ah rfl<|Ac rfl rfl<|Aa 0 rfl (Ad rfl) gn rfl<|Aa 1 rfl (Dj Xas rfl h5.hq) gn rfl<|Aa 2 rfl (Ad rfl) gn rfl<|Aj 3 rfl<|Df rfl ?_
 refine Io rfl ?_
 have key1:∀ s,Bl (fun (s:Int × ByteArray) o=>Di x1 s.1 s.2 o) s r→(fun (s:Int × ByteArray)=>∀ (_:Unit),G (Fe w F g7 Tb8 r) [.code Xip,.inLoop Xip,.inBlock 0,.code q72c4] [(0,.slice A2 n3 c4),(1,.func (.func 73) #[] #[.pointer (some ⟨g7,0,none⟩)]),(7,.int .i64 (x1.length:Int)),(8,.int .i64 s.1)] [.box g7 Tb8 [.string s.2]] [Sm w.heap.size F w [[g7]],St w [[g7]]]) s:=by
  intro s hs
  refine Bl.ind (mot:=(fun (s:Int × ByteArray)=>∀ (_:Unit),G (Fe w F g7 Tb8 r) [.code Xip,.inLoop Xip,.inBlock 0,.code q72c4] [(0,.slice A2 n3 c4),(1,.func (.func 73) #[] #[.pointer (some ⟨g7,0,none⟩)]),(7,.int .i64 (x1.length:Int)),(8,.int .i64 s.1)] [.box g7 Tb8 [.string s.2]] [Sm w.heap.size F w [[g7]],St w [[g7]]])) ?_ hs
  clear hs s
  intro s o1 h hO1
  obtain ⟨x22,x23⟩:=s
  show ∀ (_:Unit),G (Fe w F g7 Tb8 r) [.code Xip,.inLoop Xip,.inBlock 0,.code q72c4] [(0,.slice A2 n3 c4),(1,.func (.func 73) #[] #[.pointer (some ⟨g7,0,none⟩)]),(7,.int .i64 (x1.length:Int)),(8,.int .i64 x22)] [.box g7 Tb8 [.string x23]] [Sm w.heap.size F w [[g7]],St w [[g7]]]
  intro _
  have h:Di x1 x22 x23 o1:=h
  unfold Di at h
  refine Ah rfl<|Ac rfl rfl<|Aa 0 rfl (Be rfl rfl rfl) gn rfl<|Aj 1 rfl<|Ah rfl ?_
  by_cases hp36:x22 < (x1.length:Int)
  ·have h:=Ap hp36 h
   refine Bz rfl _ rfl ((decide_eq_true hp36))<|Cb rfl<|Ah rfl<|Df rfl<|Ah rfl<|Ac rfl rfl<|Aa 0 rfl (Ad rfl) gn rfl<|Aa 1 rfl (Af rfl) gn rfl<|Aj 2 rfl<|Ah rfl<|Ac rfl rfl<|Aa 0 rfl (Ad rfl) gn rfl ?_
   refine Aa 1 rfl (Ad rfl) gn rfl<|Aa 2 rfl (Ad rfl) gn rfl ?_
   obtain ⟨hb37,h⟩:=h
   have hr38:=Rw.readF (s:=St w [[g7]]) (hl:=Ee) (h1:=Ez) h5 hb37
   refine Aa 3 rfl (F5 (s:=St w [[g7]]) U7 rfl rfl h5 hb37) gn rfl<|Aa 4 rfl (Z9 (St w [[g7]]) Xav rfl hr38 rfl (me 1 rfl)) gn rfl ?_
   obtain ⟨r42,hv43,h⟩:=h
   refine Cf 5 rfl (J7 [.agg #[.string ((ix x1 x22).name),.bool ((ix x1 x22).lit),.string ((ix x1 x22).field),.string ((ix x1 x22).capture),.int .i64 ((ix x1 x22).kids)]] [.pointer (some ⟨g7,0,none⟩)] rfl rfl Tryd.func73 rfl rfl rfl fun w39 hL40=>?_) gn
   have hp41:=pmI hL40 (.c 0 rfl .n) .n (by kernel_rfl)
   refine Calls.mono (Xal w39 (Fl ([]:List Cc)) (ix x1 x22) x23 g7 Tb8 (hL40.hFl hp41 (Bi [] rfl)) (hL40.into hp41 _) r42 hv43) ?_
   rintro _ w44 ⟨rfl,hM45⟩
   have hL46:=hL40.call hp41 hM45
   refine ⟨_,_,_,rfl,hL46,?_⟩
   refine Aj 6 rfl ?_
   by_cases hp47:r42.1=true
   ·have h:=Ap hp47 h
    refine Bz rfl _ rfl (hp47)<|Ah rfl<|Ac rfl rfl<|Aa 0 rfl (Ad rfl) gn rfl<|Aa 1 rfl (Af rfl) gn rfl<|Aj 2 rfl ?_
    have h:=Out.inr hO1 h
    refine C9 [.int .i64 x22] rfl Tryd.func72 rfl (.tmp rfl (.nil)) fun wr hLr=>?_
    have hMr:=hLr.pkI (.c 0 rfl .n) .n (by kernel_rfl) (.c 1 rfl .n)
    show Fb w F g7 Tb8 r (.returned (Ci [.int .i64 x22])) wr
    rw [h]
    exact ⟨rfl,hMr⟩
   ·have h:=Aq hp47 h
    refine Bg rfl _ rfl ((bf hp47))<|Cb rfl<|D7<|Ac rfl rfl<|Aa 0 rfl (Be rfl rfl rfl) gn rfl<|Aa 1 rfl (Ad rfl) gn rfl<|Aj 2 rfl<|Dp ?_
    have ih:=Out.inl hO1 h
    exact Dc [0,1] (ih ()) ⟨rfl,rfl,rfl,rfl,trivial⟩ (.cons_cons _ (.slnil)) rfl
  ·have h:=Aq hp36 h
   refine Bg rfl _ rfl ((decide_eq_false hp36))<|Gp [.code q72c4] rfl rfl<|Ah rfl<|Ac rfl rfl<|Aa 0 rfl (Af rfl) gn rfl<|Aj 1 rfl ?_
   have h:=Out.inr hO1 h
   refine C9 [.int .i64 (-1)] rfl Tryd.func72 rfl (.tmp rfl (.nil)) fun wr hLr=>?_
   have hMr:=hLr.pkI (.c 0 rfl .n) .n (by kernel_rfl) (.c 1 rfl .n)
   show Fb w F g7 Tb8 r (.returned (Ci [.int .i64 (-1)])) wr
   rw [h]
   exact ⟨rfl,hMr⟩
 exact Dc [0,1] (key1 _ h ()) ⟨rfl,rfl,rfl,rfl,trivial⟩ (.cons_cons _ (.slnil)) rfl
abbrev U1 (w:World) (F:Nat→Prop) (r:Int):Ending→World→Prop:=fun e w'=>e=.returned (.int .i64 r)∧B.Loc w w' [] [St w []]
noncomputable abbrev Xf6 (w:World) (F:Nat→Prop) (r:Int):Cx:=⟨Tryd.prog,43,Tryd.f43,11,U1 w F  r,w⟩
theorem Jj (w:World) (F:Nat→Prop) (x1:Ar) (x10:ByteArray) (A2:Option Addr) (n3:Nat) (c4:Nat) (A6:Option Addr) (n7:Nat) (c8:Nat) (h5:Rw Dl w (St w []).av A2 n3 c4 x1.nodes) (h9:Rw Gg w (St w []).av A6 n7 c8 x1.conds) (hF:∀ b,F b→b < w.heap.size∧∀ o ∈ ([]:List (List Nat)),b ∉ o) (hL0:B.Loc w w [] [Sm w.heap.size F w [],St w []]) (r:Int) (h:Hf x1 x10 r):Calls Tryd.prog 43 #[.agg #[.slice A2 n3 c4,.slice A6 n7 c8],.string x10] w (U1 w F  r):=by
 unfold Hf at h
 refine Ce (vs:=[.agg #[.slice A2 n3 c4,.slice A6 n7 c8],.string x10]) 11 Tryd.func43 rfl Tryd.ntmps43 rfl hL0 ?_
 show G (Xf6 w F r) _ _ _ _
 refine Ah rfl<|Ac rfl rfl ?_
 refine Cf 0 rfl (V5 [.slice A2 n3 c4,.slice A6 n7 c8] rfl rfl rfl fun gb11=>?_) gn
 refine Cf 1 rfl (V5 [.string x10] rfl rfl rfl fun gb13=>?_) gn
 refine Aa 2 rfl (Af rfl) gn rfl<|Aj 3 rfl<|Ah rfl<|Ah rfl<|Ac rfl rfl<|Aa 0 rfl (Au 0 Ib rfl rfl rfl) gn rfl<|Aa 1 rfl (Zc rfl rfl) gn rfl<|Aj 2 rfl ?_
 by_cases hp15:x10=(⟨#[]⟩:ByteArray)
 ·have h:=Ap hp15 h
  refine Bz rfl _ rfl ((Qw hp15))<|Ah rfl<|Ac rfl rfl<|Aa 0 rfl (Af rfl) gn rfl<|Aj 1 rfl ?_
  refine C9 [.int .i64 (-1)] rfl Tryd.func43 rfl (.tmp rfl (.nil)) fun wr hLr=>?_
  have hMr:=hLr.pk0 (.c 1 rfl .n)
  show U1 w F  r (.returned (Ci [.int .i64 (-1)])) wr
  rw [h]
  exact ⟨rfl,hMr⟩
 ·have h:=Aq hp15 h
  refine Bg rfl _ rfl ((Rq hp15))<|Cb rfl<|Ah rfl<|Ac rfl rfl<|Aa 0 rfl (Aw J4 rfl) gn rfl<|Aa 1 rfl (Au 1 Rl rfl rfl rfl) gn rfl<|Aa 2 rfl (X0 [.pointer (some ⟨gb13,0,none⟩)] rfl) gn rfl ?_
  obtain ⟨r19,hv20,h⟩:=h
  refine Cf 3 rfl (D8 [.slice A2 n3 c4,.func (.func 73) #[] #[.pointer (some ⟨gb13,0,none⟩)]] rfl Tryd.func72 rfl rfl rfl fun w16 hL17=>?_) gn
  have hp18:=pmI hL17 (.c 0 rfl .n) (.c 1 rfl .n) (by kernel_rfl)
  refine Calls.mono (Pj w16 (Fl ([]:List Cc)) x1.nodes x10 A2 n3 c4 gb13 9 (Rw.mono h5 (hL17.toSt hp18 (me 1 rfl))) (hL17.hFl hp18 (Bi [] rfl)) (hL17.into hp18 _) r19 hv20) ?_
  rintro _ w21 ⟨rfl,hM22⟩
  have hL23:=hL17.call hp18 hM22
  refine ⟨_,_,_,rfl,hL23,?_⟩
  refine Aa 4 rfl (Af rfl) gn rfl<|Aj 5 rfl ?_
  refine C9 [.int .i64 r19.1] rfl Tryd.func43 rfl (.tmp rfl (.nil)) fun wr hLr=>?_
  have hMr:=hLr.pk0 (.c 1 rfl .n)
  show U1 w F  r (.returned (Ci [.int .i64 r19.1])) wr
  rw [h]
  exact ⟨rfl,hMr⟩
end Go.Proofs.YtjookebbmfiidaaDoor.K
