/- What the machine's calls do, function by function, printed by my own tool. Condition of each: its relation holds of the answer, and what is handed in lies in memory as told. -/
import Derived.Test.YtjookebbmfiidaaDoorK3
set_option linter.unusedVariables false
set_option maxRecDepth 100000
set_option maxHeartbeats 4000000
namespace Go.Proofs.YtjookebbmfiidaaDoor.K
open Go.Proofs.YtjookebbmfiidaaDoor.B Go.Proofs.YtjookebbmfiidaaDoor.R Go.RowKit
noncomputable abbrev Xer:=Code.snd (Code.snd (Code.snd (Df Tryd.f101)))
noncomputable abbrev Xd:=Code.fst (Code.fst (Code.snd (Code.fst (Code.snd (Code.snd (Df Tryd.f101))))))
noncomputable abbrev Xkt:=Code.snd (Code.snd Xd)
noncomputable abbrev Xla:=Code.snd (Code.fst (Code.snd (Code.fst (Code.fst (Code.snd Xd)))))
noncomputable abbrev Xkv:=Code.snd (Code.snd (Code.snd (Code.snd (Code.snd (Code.snd (Code.snd (Code.snd Xla)))))))
noncomputable abbrev q101c41:=Code.fst Xkv
abbrev Ze (w:World) (F:Nat→Prop) (r:ByteArray):Ending→World→Prop:=fun e w'=>e=.returned (.string r)∧B.Loc w w' [] [St w []]
noncomputable abbrev Tn (w:World) (F:Nat→Prop) (r:ByteArray):Cx:=⟨Tryd.prog,101,Tryd.f101,69,Ze w F  r,w⟩
theorem Xdj (w:World) (F:Nat→Prop) (x1:ByteArray) (hF:∀ b,F b→b < w.heap.size∧∀ o ∈ ([]:List (List Nat)),b ∉ o) (hL0:B.Loc w w [] [Sm w.heap.size F w [],St w []]) (r:ByteArray) (h:Xbo x1 r):Calls Tryd.prog 101 #[.string x1] w (Ze w F  r):=by
 unfold Xbo at h
 refine Bl (vs:=[.string x1]) 69 Tryd.func101 rfl Tryd.ntmps101 rfl hL0 ?_
 show G (Tn w F r) _ _ _ _
 refine Ag rfl<|Ac rfl rfl<|Aa 0 rfl (Af rfl) gn rfl<|Ah 1 rfl<|Ag rfl<|Ac rfl rfl ?_
 refine Ci 0 rfl (Io (xs:=([34]:List Int)) [.int .u8 34] Xgd rfl (by kernel_rfl) rfl rfl rfl rfl fun gb3 h4=>?_) gn
 refine Aa 1 rfl (Af rfl) gn rfl<|Ah 2 rfl<|Ag rfl<|Ag rfl<|Ac rfl rfl<|Aa 0 rfl (Af rfl) gn rfl<|Ah 1 rfl<|Bv rfl<|Ei rfl ?_
 have key1:∀ s,Ar (fun (s:(List Int) × Int) o=>Wp x1 s.1 s.2 o) s r→(fun (s:(List Int) × Int)=>∀ (A101:Option Addr) (n102:Nat) (c103:Nat) (h104:Ow w.heap.size A101 n102 c103 s.1),G (Tn w F r) [.code Xd,.inLoop Xd,.inBlock 0,.code Xer] [(0,.string x1),(3,.slice A101 n102 c103),(4,.int .i64 s.2)] [.own (.slice A101 n102 c103) 5 1 n102 (s.1.flatMap (eI .u8))] [Sm w.heap.size F w [],St w []]) s:=by
  intro s hs
  refine Ar.ind (mot:=(fun (s:(List Int) × Int)=>∀ (A101:Option Addr) (n102:Nat) (c103:Nat) (h104:Ow w.heap.size A101 n102 c103 s.1),G (Tn w F r) [.code Xd,.inLoop Xd,.inBlock 0,.code Xer] [(0,.string x1),(3,.slice A101 n102 c103),(4,.int .i64 s.2)] [.own (.slice A101 n102 c103) 5 1 n102 (s.1.flatMap (eI .u8))] [Sm w.heap.size F w [],St w []])) ?_ hs
  clear hs s
  intro s o1 h hO1
  obtain ⟨x100,x105⟩:=s
  show ∀ (A101:Option Addr) (n102:Nat) (c103:Nat) (h104:Ow w.heap.size A101 n102 c103 x100),G (Tn w F r) [.code Xd,.inLoop Xd,.inBlock 0,.code Xer] [(0,.string x1),(3,.slice A101 n102 c103),(4,.int .i64 x105)] [.own (.slice A101 n102 c103) 5 1 n102 (x100.flatMap (eI .u8))] [Sm w.heap.size F w [],St w []]
  intro A101 n102 c103 h104
  have h:Wp x1 x100 x105 o1:=h
  unfold Wp at h
  refine Ag rfl<|Ag rfl<|Ac rfl rfl<|Aa 0 rfl (Ae rfl) gn rfl<|Aa 1 rfl (Ae rfl) gn rfl<|Aa 2 rfl (Vb Un rfl) gn rfl<|Aa 3 rfl (Ba rfl rfl rfl) gn rfl<|Ah 4 rfl ?_
  by_cases hp200:x105 < (x1.size:Int)
  ·have h:=Ap hp200 h
   refine Bi rfl _ rfl ((decide_eq_true hp200))<|Bo rfl<|Ag rfl<|Bv rfl<|Ag rfl<|Ac rfl rfl<|Aa 0 rfl (Ae rfl) gn rfl<|Aa 1 rfl (Ae rfl) gn rfl ?_
   obtain ⟨hb201,h⟩:=h
   refine Aa 2 rfl (Oa Un rfl rfl hb201) gn rfl<|Aa 3 rfl (Af rfl) gn rfl<|Ah 4 rfl<|Bv rfl<|Ag rfl ?_
   have j2:∀ (x204:Bool) (h:Wq x100 x1 x105 x204 o1) ,G (Tn w F r) [.code Xla,.inBlock 2,.inBlock 1,.code Xkt,.inLoop Xd,.inBlock 0,.code Xer] [(0,.string x1),(3,.slice A101 n102 c103),(4,.int .i64 x105),(5,.int .u8 (bt x1 x105)),(20,.bool x204)] [.own (.slice A101 n102 c103) 5 1 n102 (x100.flatMap (eI .u8))] [Sm w.heap.size F w [],St w []]:=by
    intro x204 h
    unfold Wq at h
    by_cases hp205:x204=true
    ·have h:=Ap hp205 h
     refine Bi rfl _ rfl (hp205)<|Ac rfl rfl<|Aa 0 rfl (Ae rfl) gn rfl<|Aa 1 rfl (Ae rfl) gn rfl ?_
     refine Ci 2 rfl (Io (xs:=([92,bt x1 x105]:List Int)) [.int .u8 92,.int .u8 (bt x1 x105)] Xdw rfl (by kernel_rfl) rfl rfl rfl rfl fun gb207 h208=>?_) gn
     obtain ⟨x212,hv213,h⟩:=h
     obtain ⟨hb214,h⟩:=h
     refine Ci 3 rfl (Pn (zs:=x212) (cells':=x212.flatMap (eI .u8)) 1 Xcj rfl rfl rfl h104 (Nat.le_refl _) (Src.ownF (hl:=(hlI .u8)) (h1:=(F9 .u8)) 0 rfl h208) (by rw [hv213,List.flatMap_append] <;> rfl) (H9 hv213 h208.hq) hb214 rfl rfl fun A209 c210 h211=>?_) gn
     refine Aa 4 rfl (Af rfl) gn rfl<|Ah 5 rfl<|Bj<|Bj<|Ac rfl rfl<|Aa 0 rfl (Ae rfl) gn rfl<|Aa 1 rfl (Ba rfl rfl rfl) gn rfl<|Aa 2 rfl (Af rfl) gn rfl<|Ah 3 rfl<|Cm ?_
     have ih:=Out.inl hO1 h
     exact D6 [0,1] (ih A209 (n102 + 2) c210 h211) ⟨rfl,rfl,rfl,trivial⟩ (.cons _ (.cons_cons _ (.slnil))) rfl
    ·have h:=Am hp205 h
     refine Bc rfl _ rfl ((bf hp205))<|Ag rfl<|Ac rfl rfl<|Aa 0 rfl (Ae rfl) gn rfl<|Aa 1 rfl (Ba rfl rfl rfl) gn rfl<|Aa 2 rfl (Af rfl) gn rfl<|Ah 3 rfl ?_
     by_cases hp215:bt x1 x105=10
     ·have h:=Ap hp215 h
      refine Bi rfl _ rfl ((eqi hp215))<|Ac rfl rfl<|Aa 0 rfl (Ae rfl) gn rfl ?_
      refine Ci 1 rfl (Io (xs:=([92,110]:List Int)) [.int .u8 92,.int .u8 110] Xdw rfl (by kernel_rfl) rfl rfl rfl rfl fun gb217 h218=>?_) gn
      obtain ⟨x222,hv223,h⟩:=h
      obtain ⟨hb224,h⟩:=h
      refine Ci 2 rfl (Pn (zs:=x222) (cells':=x222.flatMap (eI .u8)) 1 Xcj rfl rfl rfl h104 (Nat.le_refl _) (Src.ownF (hl:=(hlI .u8)) (h1:=(F9 .u8)) 0 rfl h218) (by rw [hv223,List.flatMap_append] <;> rfl) (H9 hv223 h218.hq) hb224 rfl rfl fun A219 c220 h221=>?_) gn
      refine Aa 3 rfl (Af rfl) gn rfl<|Ah 4 rfl<|Bj<|Bj<|Ac rfl rfl<|Aa 0 rfl (Ae rfl) gn rfl<|Aa 1 rfl (Ba rfl rfl rfl) gn rfl<|Aa 2 rfl (Af rfl) gn rfl<|Ah 3 rfl<|Cm ?_
      have ih:=Out.inl hO1 h
      exact D6 [0,1] (ih A219 (n102 + 2) c220 h221) ⟨rfl,rfl,rfl,trivial⟩ (.cons _ (.cons_cons _ (.slnil))) rfl
     ·have h:=Am hp215 h
      refine Bc rfl _ rfl ((nei hp215))<|Ag rfl<|Ac rfl rfl<|Aa 0 rfl (Ae rfl) gn rfl<|Aa 1 rfl (Ba rfl rfl rfl) gn rfl<|Aa 2 rfl (Af rfl) gn rfl<|Ah 3 rfl ?_
      by_cases hp225:bt x1 x105=9
      ·have h:=Ap hp225 h
       refine Bi rfl _ rfl ((eqi hp225))<|Ac rfl rfl<|Aa 0 rfl (Ae rfl) gn rfl ?_
       refine Ci 1 rfl (Io (xs:=([92,116]:List Int)) [.int .u8 92,.int .u8 116] Xdw rfl (by kernel_rfl) rfl rfl rfl rfl fun gb227 h228=>?_) gn
       obtain ⟨x232,hv233,h⟩:=h
       obtain ⟨hb234,h⟩:=h
       refine Ci 2 rfl (Pn (zs:=x232) (cells':=x232.flatMap (eI .u8)) 1 Xcj rfl rfl rfl h104 (Nat.le_refl _) (Src.ownF (hl:=(hlI .u8)) (h1:=(F9 .u8)) 0 rfl h228) (by rw [hv233,List.flatMap_append] <;> rfl) (H9 hv233 h228.hq) hb234 rfl rfl fun A229 c230 h231=>?_) gn
       refine Aa 3 rfl (Af rfl) gn rfl<|Ah 4 rfl<|Bj<|Bj<|Ac rfl rfl<|Aa 0 rfl (Ae rfl) gn rfl<|Aa 1 rfl (Ba rfl rfl rfl) gn rfl<|Aa 2 rfl (Af rfl) gn rfl<|Ah 3 rfl<|Cm ?_
       have ih:=Out.inl hO1 h
       exact D6 [0,1] (ih A229 (n102 + 2) c230 h231) ⟨rfl,rfl,rfl,trivial⟩ (.cons _ (.cons_cons _ (.slnil))) rfl
      ·have h:=Am hp225 h
       refine Bc rfl _ rfl ((nei hp225))<|Ag rfl<|Ac rfl rfl<|Aa 0 rfl (Ae rfl) gn rfl<|Aa 1 rfl (Ba rfl rfl rfl) gn rfl<|Aa 2 rfl (Af rfl) gn rfl<|Ah 3 rfl ?_
       by_cases hp235:bt x1 x105=13
       ·have h:=Ap hp235 h
        refine Bi rfl _ rfl ((eqi hp235))<|Ac rfl rfl<|Aa 0 rfl (Ae rfl) gn rfl ?_
        refine Ci 1 rfl (Io (xs:=([92,114]:List Int)) [.int .u8 92,.int .u8 114] Xdw rfl (by kernel_rfl) rfl rfl rfl rfl fun gb237 h238=>?_) gn
        obtain ⟨x242,hv243,h⟩:=h
        obtain ⟨hb244,h⟩:=h
        refine Ci 2 rfl (Pn (zs:=x242) (cells':=x242.flatMap (eI .u8)) 1 Xcj rfl rfl rfl h104 (Nat.le_refl _) (Src.ownF (hl:=(hlI .u8)) (h1:=(F9 .u8)) 0 rfl h238) (by rw [hv243,List.flatMap_append] <;> rfl) (H9 hv243 h238.hq) hb244 rfl rfl fun A239 c240 h241=>?_) gn
        refine Aa 3 rfl (Af rfl) gn rfl<|Ah 4 rfl<|Bj<|Bj<|Ac rfl rfl<|Aa 0 rfl (Ae rfl) gn rfl<|Aa 1 rfl (Ba rfl rfl rfl) gn rfl<|Aa 2 rfl (Af rfl) gn rfl<|Ah 3 rfl<|Cm ?_
        have ih:=Out.inl hO1 h
        exact D6 [0,1] (ih A239 (n102 + 2) c240 h241) ⟨rfl,rfl,rfl,trivial⟩ (.cons _ (.cons_cons _ (.slnil))) rfl
       ·have h:=Am hp235 h
        refine Bc rfl _ rfl ((nei hp235))<|Ag rfl ?_
        have j3:∀ (x247:Bool) (h:Vy x1 x105 x100 x247 o1) ,G (Tn w F r) [.code Xkv,.inBlock 2,.inBlock 1,.code Xkt,.inLoop Xd,.inBlock 0,.code Xer] [(0,.string x1),(3,.slice A101 n102 c103),(4,.int .i64 x105),(5,.int .u8 (bt x1 x105)),(49,.bool x247)] [.own (.slice A101 n102 c103) 5 1 n102 (x100.flatMap (eI .u8))] [Sm w.heap.size F w [],St w []]:=by
         intro x247 h
         unfold Vy at h
         by_cases hp248:x247=true
         ·have h:=Ap hp248 h
          refine Bi rfl _ rfl (hp248) ?_
          obtain ⟨hb249,h⟩:=h
          obtain ⟨hb250,h⟩:=h
          obtain ⟨x257,hv258,h⟩:=h
          obtain ⟨hb259,h⟩:=h
          have hns:Region.noSelect (Code.ops q101c41)=true:=by kernel_rfl
          refine J7 [8,9] 10 rfl rfl mix rfl (.c 0 rfl (.c 1 rfl .n))<|wfv 0 rfl (Ae rfl) gn hns (by kernel_rfl)<|wfv 1 rfl (Ae rfl) gn hns (by kernel_rfl)<|wfv 2 rfl (v_quo rfl rfl (by decide)) gn hns (by kernel_rfl)<|wfv 3 rfl (Oa Un rfl rfl hb249) gn hns (by kernel_rfl)<|wfv 4 rfl (Ae rfl) gn hns (by kernel_rfl)<|wfv 5 rfl (v_rem rfl rfl (by decide)) gn hns (by kernel_rfl)<|wfv 6 rfl (Oa Un rfl rfl hb250) gn hns (by kernel_rfl) ?_
          refine Cf [7] (by kernel_rfl) rfl ⟨Ej 7 rfl gn rfl (Io (xs:=([92,120,bt (⟨#[48,49,50,51,52,53,54,55,56,57,97,98,99,100,101,102]⟩:ByteArray) (IntKind.u8.wrap (Int.tdiv (bt x1 x105) 16)),bt (⟨#[48,49,50,51,52,53,54,55,56,57,97,98,99,100,101,102]⟩:ByteArray) (Int.tmod (bt x1 x105) 16)]:List Int)) [.int .u8 92,.int .u8 120,.int .u8 (bt (⟨#[48,49,50,51,52,53,54,55,56,57,97,98,99,100,101,102]⟩:ByteArray) (IntKind.u8.wrap (Int.tdiv (bt x1 x105) 16))),.int .u8 (bt (⟨#[48,49,50,51,52,53,54,55,56,57,97,98,99,100,101,102]⟩:ByteArray) (Int.tmod (bt x1 x105) 16))] bs_108_4 rfl (by kernel_rfl) rfl rfl rfl rfl fun gb269 h270=>?_),trivial⟩
          refine ⟨Bf [1] rfl,Bf [0,1] rfl,?_⟩
          refine Cf [8] (by kernel_rfl) rfl ⟨Ut 8 rfl gn rfl (Pn (zs:=x257) (cells':=x257.flatMap (eI .u8)) 1 Xcj rfl rfl rfl h104 (Nat.le_refl _) (Src.ownF (hl:=(hlI .u8)) (h1:=(F9 .u8)) 0 rfl h270) (by rw [hv258,List.flatMap_append] <;> rfl) (H9 hv258 h270.hq) hb259 rfl rfl fun A271 c272 h273=>?_),trivial⟩
          unfold NxL
          refine Cf [9] (by kernel_rfl) rfl ⟨Ut 9 rfl gn rfl (Ob (Af rfl) rfl ?_),trivial⟩
          unfold NxL
          refine Et (by kernel_rfl)<|Bj<|Bj<|Ac rfl rfl<|Aa 0 rfl (Ae rfl) gn rfl<|Aa 1 rfl (Ba rfl rfl rfl) gn rfl<|Aa 2 rfl (Af rfl) gn rfl<|Ah 3 rfl<|Cm ?_
          have ih:=Out.inl hO1 h
          exact D6 [0,1] (ih A271 (n102 + 4) c272 h273) ⟨rfl,rfl,rfl,trivial⟩ (.cons _ (.cons_cons _ (.slnil))) rfl
         ·have h:=Am hp248 h
          refine Bc rfl _ rfl ((bf hp248))<|Ac rfl rfl<|Aa 0 rfl (Ae rfl) gn rfl<|Aa 1 rfl (Ae rfl) gn rfl ?_
          refine Ci 2 rfl (Io (xs:=([bt x1 x105]:List Int)) [.int .u8 (bt x1 x105)] Xgd rfl (by kernel_rfl) rfl rfl rfl rfl fun gb275 h276=>?_) gn
          obtain ⟨x280,hv281,h⟩:=h
          obtain ⟨hb282,h⟩:=h
          refine Ci 3 rfl (Pn (zs:=x280) (cells':=x280.flatMap (eI .u8)) 1 Xcj rfl rfl rfl h104 (Nat.le_refl _) (Src.ownF (hl:=(hlI .u8)) (h1:=(F9 .u8)) 0 rfl h276) (by rw [hv281,List.flatMap_append] <;> rfl) (H9 hv281 h276.hq) hb282 rfl rfl fun A277 c278 h279=>?_) gn
          refine Aa 4 rfl (Af rfl) gn rfl<|Ah 5 rfl<|Bj<|Bj<|Ac rfl rfl<|Aa 0 rfl (Ae rfl) gn rfl<|Aa 1 rfl (Ba rfl rfl rfl) gn rfl<|Aa 2 rfl (Af rfl) gn rfl<|Ah 3 rfl<|Cm ?_
          have ih:=Out.inl hO1 h
          exact D6 [0,1] (ih A277 (n102 + 1) c278 h279) ⟨rfl,rfl,rfl,trivial⟩ (.cons _ (.cons_cons _ (.slnil))) rfl
        refine Ac rfl rfl<|Aa 0 rfl (Ae rfl) gn rfl<|Aa 1 rfl (Ba rfl rfl rfl) gn rfl<|Aa 2 rfl (Ae rfl) gn rfl ?_
        by_cases hp283:bt x1 x105 < 32
        ·have h:=Ap hp283 h
         refine Bh 52 rfl ((decide_eq_true hp283))<|Ad 3 rfl (ps 52 rfl rfl rfl)<|Ad 4 rfl (ps 52 rfl rfl rfl)<|Aa 5 rfl (Aw (b:=true) rfl rfl) gn rfl<|Aa 6 rfl (Af rfl) gn rfl<|Ah 7 rfl ?_
         exact D6 [0,1] (j3 true h) ⟨rfl,rfl,rfl,rfl,rfl,trivial⟩ (.cons_cons _ (.slnil)) rfl
        ·have h:=Am hp283 h
         refine Bh 52 rfl ((decide_eq_false hp283))<|Aa 3 rfl (Ae rfl) (gy 52 rfl rfl) rfl<|Aa 4 rfl (Ba rfl rfl rfl) (gy 52 rfl rfl) rfl<|Aa 5 rfl (Aw (b:=false) rfl rfl) gn rfl<|Aa 6 rfl (Af rfl) gn rfl<|Ah 7 rfl ?_
         exact D6 [0,1] (j3 (decide (bt x1 x105 > 126)) h) ⟨rfl,rfl,rfl,rfl,rfl,trivial⟩ (.cons_cons _ (.slnil)) rfl
   refine Ac rfl rfl<|Aa 0 rfl (Ae rfl) gn rfl<|Aa 1 rfl (Ba rfl rfl rfl) gn rfl<|Aa 2 rfl (Ae rfl) gn rfl ?_
   by_cases hp284:bt x1 x105=34
   ·have h:=Ap hp284 h
    refine Bh 23 rfl ((eqi hp284))<|Ad 3 rfl (ps 23 rfl rfl rfl)<|Ad 4 rfl (ps 23 rfl rfl rfl)<|Aa 5 rfl (Aw (b:=true) rfl rfl) gn rfl<|Aa 6 rfl (Af rfl) gn rfl<|Ah 7 rfl ?_
    exact D6 [0,1] (j2 true h) ⟨rfl,rfl,rfl,rfl,rfl,trivial⟩ (.cons_cons _ (.slnil)) rfl
   ·have h:=Am hp284 h
    refine Bh 23 rfl ((nei hp284))<|Aa 3 rfl (Ae rfl) (gy 23 rfl rfl) rfl<|Aa 4 rfl (Ba rfl rfl rfl) (gy 23 rfl rfl) rfl<|Aa 5 rfl (Aw (b:=false) rfl rfl) gn rfl<|Aa 6 rfl (Af rfl) gn rfl<|Ah 7 rfl ?_
    exact D6 [0,1] (j2 ((bt x1 x105) == 92) h) ⟨rfl,rfl,rfl,rfl,rfl,trivial⟩ (.cons_cons _ (.slnil)) rfl
  ·have h:=Am hp200 h
   refine Bc rfl _ rfl ((decide_eq_false hp200))<|E8 [.code Xer] rfl rfl<|Ag rfl<|Ac rfl rfl<|Aa 0 rfl (Ae rfl) gn rfl ?_
   refine Ci 1 rfl (Io (xs:=([34]:List Int)) [.int .u8 34] Xgd rfl (by kernel_rfl) rfl rfl rfl rfl fun gb286 h287=>?_) gn
   obtain ⟨x291,hv292,h⟩:=h
   obtain ⟨hb293,h⟩:=h
   refine Ci 2 rfl (Pn (zs:=x291) (cells':=x291.flatMap (eI .u8)) 1 Xcj rfl rfl rfl h104 (Nat.le_refl _) (Src.ownF (hl:=(hlI .u8)) (h1:=(F9 .u8)) 0 rfl h287) (by rw [hv292,List.flatMap_append] <;> rfl) (H9 hv292 h287.hq) hb293 rfl rfl fun A288 c289 h290=>?_) gn
   refine Aa 3 rfl (v_b2s u8_108 Un rfl (Src.ownF (hl:=(hlI .u8)) (h1:=(F9 .u8)) 1 rfl h290) h290.hq) gn rfl<|Aa 4 rfl (Af rfl) gn rfl<|Ah 5 rfl ?_
   have h:=Out.inr hO1 h
   refine Bg [.string (Xbk x291)] rfl Tryd.func101 rfl (.tmp rfl (.nil)) fun wr hLr=>?_
   have hMr:=hLr.pk0 (.c 1 rfl .n)
   show Ze w F  r (.returned (Bz [.string (Xbk x291)])) wr
   rw [h]
   exact ⟨rfl,hMr⟩
 exact D6 [0,1] (key1 _ h (some ⟨gb3,0,none⟩) 1 1 h4) ⟨rfl,rfl,rfl,trivial⟩ (.cons_cons _ (.slnil)) rfl
abbrev Xgi (w:World) (F:Nat→Prop) (r:ByteArray):Ending→World→Prop:=fun e w'=>e=.returned (.string r)∧B.Loc w w' [] [St w []]
theorem Xck (w:World) (F:Nat→Prop) (x1:Int) (hG:Tb Tryd.prog (St w [])) (hF:∀ b,F b→b < w.heap.size∧∀ o ∈ ([]:List (List Nat)),b ∉ o) (hL0:B.Loc w w [] [Sm w.heap.size F w [],St w []]) (r:ByteArray) (h:strconv_Itoa x1 r):Calls Tryd.prog 99 #[.int .i64 x1] w (Xgi w F  r):=by
 unfold strconv_Itoa at h
 obtain ⟨h1,rfl⟩:=h
 refine Calls.mono (Tryd.strconv_Itoa x1 h1.1 h1.2 w hG.2) ?_
 rintro e w' ⟨rfl,k,os,rfl⟩
 exact ⟨rfl,Loc.of_below (Lib.below_grow _ _ (Nat.le_refl _) _ _)⟩
abbrev Qq (w:World) (F:Nat→Prop) (r:ByteArray):Ending→World→Prop:=fun e w'=>e=.returned (.string r)∧B.Loc w w' [] [St w []]
noncomputable abbrev Xgt (w:World) (F:Nat→Prop) (r:ByteArray):Cx:=⟨Tryd.prog,79,Tryd.f79,26,Qq w F  r,w⟩
theorem Xdz (w:World) (F:Nat→Prop) (x1:Dw) (hG:Tb Tryd.prog (St w [])) (hF:∀ b,F b→b < w.heap.size∧∀ o ∈ ([]:List (List Nat)),b ∉ o) (hL0:B.Loc w w [] [Sm w.heap.size F w [],St w []]) (r:ByteArray) (h:Xw x1 r):Calls Tryd.prog 79 #[.agg #[.int .i64 x1.kind,.string x1.text,.int .i64 x1.n,.int .i64 x1.at_]] w (Qq w F  r):=by
 unfold Xw at h
 refine Bl (vs:=[.agg #[.int .i64 x1.kind,.string x1.text,.int .i64 x1.n,.int .i64 x1.at_]]) 26 Tryd.func79 rfl Tryd.ntmps79 rfl hL0 ?_
 show G (Xgt w F r) _ _ _ _
 refine Ag rfl<|Ac rfl rfl ?_
 refine Ci 0 rfl (O3 [.int .i64 x1.kind,.string x1.text,.int .i64 x1.n,.int .i64 x1.at_] rfl rfl rfl fun gb2=>?_) gn
 refine Aa 1 rfl (Af rfl) gn rfl<|Ah 2 rfl<|Ag rfl<|Ag rfl<|Ac rfl rfl<|Aa 0 rfl (Ji [.int .i64 x1.kind,.string x1.text,.int .i64 x1.n,.int .i64 x1.at_] 0 ld_84 rfl rfl rfl rfl) gn rfl ?_
 obtain ⟨r7,hv8,h⟩:=h
 refine Ci 1 rfl (D7 [.agg #[.int .i64 x1.kind,.string x1.text,.int .i64 x1.n,.int .i64 x1.at_]] rfl Tryd.func78 rfl rfl rfl fun w4 hL5=>?_) gn
 have hp6:=pmI hL5 .n (.c 0 rfl .n) (by kernel_rfl)
 refine Calls.mono (Xd6 w4 (Fl ([]:List Cc)) x1 (hL5.hFl hp6 (Bf [] rfl)) (hL5.into hp6 _) r7 hv8) ?_
 rintro _ w9 ⟨rfl,hM10⟩
 have hL11:=hL5.call hp6 hM10
 refine ⟨_,_,_,rfl,hL11,?_⟩
 refine Aa 2 rfl (Oi rfl) gn rfl<|Ah 3 rfl ?_
 by_cases hp12:r7=true
 ·have h:=Ap hp12 h
  refine Bc rfl _ rfl ((nf hp12))<|Bo rfl<|Ag rfl<|Ag rfl<|Ac rfl rfl<|Aa 0 rfl (Bd Xic rfl) gn rfl<|Aa 1 rfl (Au 0 ld_79 rfl rfl rfl) gn rfl<|Ah 2 rfl<|Bv rfl<|Ag rfl<|Ac rfl rfl<|Aa 0 rfl (Ba rfl rfl rfl) gn rfl ?_
  refine Aa 1 rfl (Af rfl) gn rfl<|Ah 2 rfl ?_
  by_cases hp13:x1.kind=2
  ·have h:=Ap hp13 h
   refine Bi rfl _ rfl ((eqi hp13))<|Ag rfl<|Ac rfl rfl<|Aa 0 rfl (Bd Lj rfl) gn rfl<|Aa 1 rfl (Au 0 Gw rfl rfl rfl) gn rfl ?_
   obtain ⟨r17,hv18,h⟩:=h
   refine Ci 2 rfl (D7 [.string x1.text] rfl Tryd.func101 rfl rfl rfl fun w14 hL15=>?_) gn
   have hp16:=pmI hL15 .n (.c 0 rfl .n) (by kernel_rfl)
   refine Calls.mono (Xdj w14 (Fl ([]:List Cc)) x1.text (hL15.hFl hp16 (Bf [] rfl)) (hL15.into hp16 _) r17 hv18) ?_
   rintro _ w19 ⟨rfl,hM20⟩
   have hL21:=hL15.call hp16 hM20
   refine ⟨_,_,_,rfl,hL21,?_⟩
   refine Aa 3 rfl (Af rfl) gn rfl<|Ah 4 rfl ?_
   refine Bg [.string r17] rfl Tryd.func79 rfl (.tmp rfl (.nil)) fun wr hLr=>?_
   have hMr:=hLr.pk0 (.c 1 rfl .n)
   show Qq w F  r (.returned (Bz [.string r17])) wr
   rw [h]
   exact ⟨rfl,hMr⟩
  ·have h:=Am hp13 h
   refine Bc rfl _ rfl ((nei hp13))<|Ag rfl<|Ac rfl rfl<|Aa 0 rfl (Ba rfl rfl rfl) gn rfl<|Aa 1 rfl (Af rfl) gn rfl<|Ah 2 rfl ?_
   by_cases hp22:x1.kind=3
   ·have h:=Ap hp22 h
    refine Bi rfl _ rfl ((eqi hp22))<|Ag rfl<|Ac rfl rfl<|Aa 0 rfl (Bd Lj rfl) gn rfl<|Aa 1 rfl (Au 0 Gw rfl rfl rfl) gn rfl ?_
    obtain ⟨hb23,h⟩:=h
    refine Aa 2 rfl (Xhu rfl rfl hb23) gn rfl ?_
    obtain ⟨hb24,h⟩:=h
    refine Aa 3 rfl (Xhu rfl rfl hb24) gn rfl<|Aa 4 rfl (Af rfl) gn rfl<|Ah 5 rfl ?_
    refine Bg [.string (((⟨#[47]⟩:ByteArray)++x1.text)++(⟨#[47]⟩:ByteArray))] rfl Tryd.func79 rfl (.tmp rfl (.nil)) fun wr hLr=>?_
    have hMr:=hLr.pk0 (.c 1 rfl .n)
    show Qq w F  r (.returned (Bz [.string (((⟨#[47]⟩:ByteArray)++x1.text)++(⟨#[47]⟩:ByteArray))])) wr
    rw [h]
    exact ⟨rfl,hMr⟩
   ·have h:=Am hp22 h
    refine Bc rfl _ rfl ((nei hp22))<|Ag rfl<|Ac rfl rfl<|Aa 0 rfl (Ba rfl rfl rfl) gn rfl<|Aa 1 rfl (Af rfl) gn rfl<|Ah 2 rfl ?_
    by_cases hp25:x1.kind=4
    ·have h:=Ap hp25 h
     refine Bi rfl _ rfl ((eqi hp25))<|Ag rfl<|Ac rfl rfl<|Aa 0 rfl (Bd Xdy rfl) gn rfl<|Aa 1 rfl (Au 0 O9 rfl rfl rfl) gn rfl ?_
     obtain ⟨r29,hv30,h⟩:=h
     refine Ci 2 rfl (D7 [.int .i64 x1.n] rfl Tryd.func99 rfl rfl rfl fun w26 hL27=>?_) gn
     have hp28:=pmI hL27 .n (.c 0 rfl .n) (by kernel_rfl)
     refine Calls.mono (Xck w26 (Fl ([]:List Cc)) x1.n (hL27.tb hp28 hG (me 1 rfl)) (hL27.hFl hp28 (Bf [] rfl)) (hL27.into hp28 _) r29 hv30) ?_
     rintro _ w31 ⟨rfl,hM32⟩
     have hL33:=hL27.call hp28 hM32
     refine ⟨_,_,_,rfl,hL33,?_⟩
     refine Aa 3 rfl (Af rfl) gn rfl<|Ah 4 rfl ?_
     refine Bg [.string r29] rfl Tryd.func79 rfl (.tmp rfl (.nil)) fun wr hLr=>?_
     have hMr:=hLr.pk0 (.c 1 rfl .n)
     show Qq w F  r (.returned (Bz [.string r29])) wr
     rw [h]
     exact ⟨rfl,hMr⟩
    ·have h:=Am hp25 h
     refine Bc rfl _ rfl ((nei hp25))<|Bo rfl<|Bj<|Ag rfl<|Ac rfl rfl<|Aa 0 rfl (Bd Lj rfl) gn rfl<|Aa 1 rfl (Au 0 Gw rfl rfl rfl) gn rfl<|Aa 2 rfl (Af rfl) gn rfl<|Ah 3 rfl ?_
     refine Bg [.string x1.text] rfl Tryd.func79 rfl (.tmp rfl (.nil)) fun wr hLr=>?_
     have hMr:=hLr.pk0 (.c 1 rfl .n)
     show Qq w F  r (.returned (Bz [.string x1.text])) wr
     rw [h]
     exact ⟨rfl,hMr⟩
 ·have h:=Am hp12 h
  refine Bi rfl _ rfl ((nt (bf hp12)))<|Ag rfl<|Ac rfl rfl<|Aa 0 rfl (Af rfl) gn rfl<|Ah 1 rfl ?_
  refine Bg [.string (⟨#[]⟩:ByteArray)] rfl Tryd.func79 rfl (.tmp rfl (.nil)) fun wr hLr=>?_
  have hMr:=hLr.pk0 (.c 1 rfl .n)
  show Qq w F  r (.returned (Bz [.string (⟨#[]⟩:ByteArray)])) wr
  rw [h]
  exact ⟨rfl,hMr⟩
abbrev Yd (w:World) (F:Nat→Prop) (r:Bool):Ending→World→Prop:=fun e w'=>e=.returned (.bool r)∧B.Loc w w' [] [St w []]
noncomputable abbrev Xid (w:World) (F:Nat→Prop) (r:Bool):Cx:=⟨Tryd.prog,77,Tryd.f77,11,Yd w F  r,w⟩
theorem Uw (w:World) (F:Nat→Prop) (x1:ByteArray) (hG:Tb Tryd.prog (St w [])) (hF:∀ b,F b→b < w.heap.size∧∀ o ∈ ([]:List (List Nat)),b ∉ o) (hL0:B.Loc w w [] [Sm w.heap.size F w [],St w []]) (r:Bool) (h:Rz x1 r):Calls Tryd.prog 77 #[.string x1] w (Yd w F  r):=by
 unfold Rz at h
 refine Bl (vs:=[.string x1]) 11 Tryd.func77 rfl Tryd.ntmps77 rfl hL0 ?_
 show G (Xid w F r) _ _ _ _
 refine Ag rfl<|Ac rfl rfl<|Aa 0 rfl (Af rfl) gn rfl<|Ah 1 rfl<|Ag rfl<|Ac rfl rfl<|Aa 0 rfl (Ae rfl) gn rfl<|Aa 1 rfl (Rt rfl rfl) gn rfl<|Aa 2 rfl (Ae rfl) gn rfl ?_
 by_cases hp2:x1=(⟨#[95]⟩:ByteArray)
 ·have h:=Ap hp2 h
  refine Bh 5 rfl ((nf (Ox hp2)))<|Ad 3 rfl (ps 5 rfl rfl rfl)<|Ad 4 rfl (ps 5 rfl rfl rfl)<|Ad 5 rfl (ps 5 rfl rfl rfl)<|Ad 6 rfl (ps 5 rfl rfl rfl)<|Aa 7 rfl (Aw (b:=false) rfl rfl) gn rfl<|Aa 8 rfl (Af rfl) gn rfl<|Ah 9 rfl ?_
  refine Bg [.bool false] rfl Tryd.func77 rfl (.tmp rfl (.nil)) fun wr hLr=>?_
  have hMr:=hLr.pk0 (.c 1 rfl .n)
  show Yd w F  r (.returned (Bz [.bool false])) wr
  rw [h]
  exact ⟨rfl,hMr⟩
 ·have h:=Am hp2 h
  refine Bh 5 rfl ((nt (Oo hp2)))<|Aa 3 rfl (Ae rfl) (gy 5 rfl rfl) rfl<|Aa 4 rfl (L6 #[.int .i64 1,.string x1,.int .i64 0,.int .i64 0] bd_84 rfl (by kernel_rfl)) (gy 5 rfl rfl) rfl ?_
  obtain ⟨r6,hv7,h⟩:=h
  refine Ci 5 rfl (D7 [.agg #[.int .i64 1,.string x1,.int .i64 0,.int .i64 0]] rfl Tryd.func79 rfl rfl rfl fun w3 hL4=>?_) (gy 5 rfl rfl)
  have hp5:=pmI hL4 .n .n (by kernel_rfl)
  refine Calls.mono (Xdz w3 (Fl ([]:List Cc)) (⟨1,x1,0,0⟩:Dw) (hL4.tb hp5 hG (me 1 rfl)) (hL4.hFl hp5 (Bf [] rfl)) (hL4.into hp5 _) r6 hv7) ?_
  rintro _ w8 ⟨rfl,hM9⟩
  have hL10:=hL4.call hp5 hM9
  refine ⟨_,_,_,rfl,hL10,?_⟩
  refine Aa 6 rfl (Rt rfl rfl) (gy 5 rfl rfl) rfl<|Aa 7 rfl (Aw (b:=true) rfl rfl) gn rfl<|Aa 8 rfl (Af rfl) gn rfl<|Ah 9 rfl ?_
  refine Bg [.bool (!(seq r6 (⟨#[]⟩:ByteArray)))] rfl Tryd.func77 rfl (.tmp rfl (.nil)) fun wr hLr=>?_
  have hMr:=hLr.pk0 (.c 1 rfl .n)
  show Yd w F  r (.returned (Bz [.bool (!(seq r6 (⟨#[]⟩:ByteArray)))])) wr
  rw [h]
  exact ⟨rfl,hMr⟩
noncomputable abbrev q55c4:=Code.snd (Code.snd (Df Tryd.f55))
noncomputable abbrev q55c6:=Code.snd (Code.fst (Code.snd (Df Tryd.f55)))
abbrev Oj (w:World) (F:Nat→Prop) (r:Bool):Ending→World→Prop:=fun e w'=>e=.returned (.bool r)∧B.Loc w w' [] [St w []]
noncomputable abbrev Xcd (w:World) (F:Nat→Prop) (r:Bool):Cx:=⟨Tryd.prog,55,Tryd.f55,49,Oj w F  r,w⟩
theorem Xdq (w:World) (F:Nat→Prop) (x1:Aj) (hG:Tb Tryd.prog (St w [])) (hF:∀ b,F b→b < w.heap.size∧∀ o ∈ ([]:List (List Nat)),b ∉ o) (hL0:B.Loc w w [] [Sm w.heap.size F w [],St w []]) (r:Bool) (h:Xv x1 r):Calls Tryd.prog 55 #[.agg #[.string x1.name,.bool x1.lit,.string x1.field,.string x1.capture,.int .i64 x1.kids]] w (Oj w F  r):=by
 unfold Xv at h
 refine Bl (vs:=[.agg #[.string x1.name,.bool x1.lit,.string x1.field,.string x1.capture,.int .i64 x1.kids]]) 49 Tryd.func55 rfl Tryd.ntmps55 rfl hL0 ?_
 show G (Xcd w F r) _ _ _ _
 refine Ag rfl<|Ac rfl rfl ?_
 refine Ci 0 rfl (O3 [.string x1.name,.bool x1.lit,.string x1.field,.string x1.capture,.int .i64 x1.kids] rfl rfl rfl fun gb2=>?_) gn
 refine Aa 1 rfl (Af rfl) gn rfl<|Ah 2 rfl<|Ag rfl<|Ag rfl ?_
 have j1:∀ (x17:Bool) (h:Jz x1 x17 r) ,G (Xcd w F r) [.code q55c6,.code q55c4] [(1,.pointer (some ⟨gb2,0,none⟩)),(30,.bool x17)] [.box gb2 45 [.string x1.name,.bool x1.lit,.string x1.field,.string x1.capture,.int .i64 x1.kids]] [Sm w.heap.size F w [],St w []]:=by
  intro x17 h
  unfold Jz at h
  by_cases hp18:x17=true
  ·have h:=Ap hp18 h
   refine Bi rfl _ rfl (hp18)<|Ag rfl<|Ac rfl rfl<|Aa 0 rfl (Af rfl) gn rfl<|Ah 1 rfl ?_
   refine Bg [.bool false] rfl Tryd.func55 rfl (.tmp rfl (.nil)) fun wr hLr=>?_
   have hMr:=hLr.pk0 (.c 1 rfl .n)
   show Oj w F  r (.returned (Bz [.bool false])) wr
   rw [h]
   exact ⟨rfl,hMr⟩
  ·have h:=Am hp18 h
   refine Bc rfl _ rfl ((bf hp18))<|Bo rfl<|Ag rfl<|Ac rfl rfl<|Aa 0 rfl (Bd Uo rfl) gn rfl<|Aa 1 rfl (Au 0 Gw rfl rfl rfl) gn rfl<|Aa 2 rfl (Yp rfl rfl) gn rfl<|Aa 3 rfl (Ae rfl) gn rfl ?_
   by_cases hp19:x1.field=(⟨#[]⟩:ByteArray)
   ·have h:=Ap hp19 h
    refine Bh 34 rfl ((Ox hp19))<|Ad 4 rfl (ps 34 rfl rfl rfl)<|Ad 5 rfl (ps 34 rfl rfl rfl)<|Ad 6 rfl (ps 34 rfl rfl rfl)<|Aa 7 rfl (Aw (b:=true) rfl rfl) gn rfl<|Aa 8 rfl (Ae rfl) gn rfl<|Aa 9 rfl (Bd Wl rfl) (gy 39 rfl rfl) rfl<|Aa 10 rfl (Au 0 Gw rfl rfl rfl) (gy 39 rfl rfl) rfl<|Aa 11 rfl (Yp rfl rfl) (gy 39 rfl rfl) rfl<|Aa 12 rfl (Ae rfl) (gy 39 rfl rfl) rfl ?_
    by_cases hp20:x1.capture=(⟨#[]⟩:ByteArray)
    ·have h:=Ap hp20 h
     refine Bh 43 rfl ((Ox hp20))<|Ad 13 rfl (ps 43 rfl rfl rfl)<|Ad 14 rfl (ps 43 rfl rfl rfl)<|Ad 15 rfl (ps 43 rfl rfl rfl)<|Aa 16 rfl (Aw (b:=true) rfl rfl) (gy 39 rfl rfl) rfl<|Aa 17 rfl (Aw (b:=true) rfl rfl) gn rfl<|Aa 18 rfl (Af rfl) gn rfl<|Ah 19 rfl ?_
     refine Bg [.bool true] rfl Tryd.func55 rfl (.tmp rfl (.nil)) fun wr hLr=>?_
     have hMr:=hLr.pk0 (.c 1 rfl .n)
     show Oj w F  r (.returned (Bz [.bool true])) wr
     rw [h]
     exact ⟨rfl,hMr⟩
    ·have h:=Am hp20 h
     refine Bh 43 rfl ((Oo hp20))<|Aa 13 rfl (Bd Wl rfl) (gy 43 rfl rfl) rfl<|Aa 14 rfl (Au 0 Gw rfl rfl rfl) (gy 43 rfl rfl) rfl ?_
     obtain ⟨r24,hv25,h⟩:=h
     refine Ci 15 rfl (D7 [.string x1.capture] rfl Tryd.func77 rfl rfl rfl fun w21 hL22=>?_) (gy 43 rfl rfl)
     have hp23:=pmI hL22 .n (.c 0 rfl .n) (by kernel_rfl)
     refine Calls.mono (Uw w21 (Fl ([]:List Cc)) x1.capture (hL22.tb hp23 hG (me 1 rfl)) (hL22.hFl hp23 (Bf [] rfl)) (hL22.into hp23 _) r24 hv25) ?_
     rintro _ w26 ⟨rfl,hM27⟩
     have hL28:=hL22.call hp23 hM27
     refine ⟨_,_,_,rfl,hL28,?_⟩
     refine Aa 16 rfl (Aw (b:=false) rfl rfl) (gy 39 rfl rfl) rfl<|Aa 17 rfl (Aw (b:=true) rfl rfl) gn rfl<|Aa 18 rfl (Af rfl) gn rfl<|Ah 19 rfl ?_
     refine Bg [.bool r24] rfl Tryd.func55 rfl (.tmp rfl (.nil)) fun wr hLr=>?_
     have hMr:=hLr.pk0 (.c 1 rfl .n)
     show Oj w F  r (.returned (Bz [.bool r24])) wr
     rw [h]
     exact ⟨rfl,hMr⟩
   ·have h:=Am hp19 h
    refine Bh 34 rfl ((Oo hp19))<|Aa 4 rfl (Bd Uo rfl) (gy 34 rfl rfl) rfl<|Aa 5 rfl (Au 0 Gw rfl rfl rfl) (gy 34 rfl rfl) rfl ?_
    obtain ⟨r32,hv33,h⟩:=h
    refine Ci 6 rfl (D7 [.string x1.field] rfl Tryd.func77 rfl rfl rfl fun w29 hL30=>?_) (gy 34 rfl rfl)
    have hp31:=pmI hL30 .n (.c 0 rfl .n) (by kernel_rfl)
    refine Calls.mono (Uw w29 (Fl ([]:List Cc)) x1.field (hL30.tb hp31 hG (me 1 rfl)) (hL30.hFl hp31 (Bf [] rfl)) (hL30.into hp31 _) r32 hv33) ?_
    rintro _ w34 ⟨rfl,hM35⟩
    have hL36:=hL30.call hp31 hM35
    refine ⟨_,_,_,rfl,hL36,?_⟩
    refine Aa 7 rfl (Aw (b:=false) rfl rfl) gn rfl<|Aa 8 rfl (Ae rfl) gn rfl ?_
    by_cases hp37:r32=true
    ·have h:=Ap hp37 h
     refine Bh 39 rfl (hp37)<|Aa 9 rfl (Bd Wl rfl) (gy 39 rfl rfl) rfl<|Aa 10 rfl (Au 0 Gw rfl rfl rfl) (gy 39 rfl rfl) rfl<|Aa 11 rfl (Yp rfl rfl) (gy 39 rfl rfl) rfl<|Aa 12 rfl (Ae rfl) (gy 39 rfl rfl) rfl ?_
     by_cases hp38:x1.capture=(⟨#[]⟩:ByteArray)
     ·have h:=Ap hp38 h
      refine Bh 43 rfl ((Ox hp38))<|Ad 13 rfl (ps 43 rfl rfl rfl)<|Ad 14 rfl (ps 43 rfl rfl rfl)<|Ad 15 rfl (ps 43 rfl rfl rfl)<|Aa 16 rfl (Aw (b:=true) rfl rfl) (gy 39 rfl rfl) rfl<|Aa 17 rfl (Aw (b:=true) rfl rfl) gn rfl<|Aa 18 rfl (Af rfl) gn rfl<|Ah 19 rfl ?_
      refine Bg [.bool true] rfl Tryd.func55 rfl (.tmp rfl (.nil)) fun wr hLr=>?_
      have hMr:=hLr.pk0 (.c 1 rfl .n)
      show Oj w F  r (.returned (Bz [.bool true])) wr
      rw [h]
      exact ⟨rfl,hMr⟩
     ·have h:=Am hp38 h
      refine Bh 43 rfl ((Oo hp38))<|Aa 13 rfl (Bd Wl rfl) (gy 43 rfl rfl) rfl<|Aa 14 rfl (Au 0 Gw rfl rfl rfl) (gy 43 rfl rfl) rfl ?_
      obtain ⟨r42,hv43,h⟩:=h
      refine Ci 15 rfl (D7 [.string x1.capture] rfl Tryd.func77 rfl rfl rfl fun w39 hL40=>?_) (gy 43 rfl rfl)
      have hp41:=pmI hL40 .n (.c 0 rfl .n) (by kernel_rfl)
      refine Calls.mono (Uw w39 (Fl ([]:List Cc)) x1.capture (hL40.tb hp41 hG (me 1 rfl)) (hL40.hFl hp41 (Bf [] rfl)) (hL40.into hp41 _) r42 hv43) ?_
      rintro _ w44 ⟨rfl,hM45⟩
      have hL46:=hL40.call hp41 hM45
      refine ⟨_,_,_,rfl,hL46,?_⟩
      refine Aa 16 rfl (Aw (b:=false) rfl rfl) (gy 39 rfl rfl) rfl<|Aa 17 rfl (Aw (b:=true) rfl rfl) gn rfl<|Aa 18 rfl (Af rfl) gn rfl<|Ah 19 rfl ?_
      refine Bg [.bool r42] rfl Tryd.func55 rfl (.tmp rfl (.nil)) fun wr hLr=>?_
      have hMr:=hLr.pk0 (.c 1 rfl .n)
      show Oj w F  r (.returned (Bz [.bool r42])) wr
      rw [h]
      exact ⟨rfl,hMr⟩
    ·have h:=Am hp37 h
     refine Bh 39 rfl ((bf hp37))<|Ad 9 rfl (ps 39 rfl rfl rfl)<|Ad 10 rfl (ps 39 rfl rfl rfl)<|Ad 11 rfl (ps 39 rfl rfl rfl)<|Ad 12 rfl (ps 39 rfl rfl rfl)<|Ad 13 rfl (pu 43 rfl rfl)<|Ad 14 rfl (pu 43 rfl rfl)<|Ad 15 rfl (pu 43 rfl rfl)<|Ad 16 rfl (ps 39 rfl rfl rfl)<|Aa 17 rfl (Aw (b:=false) rfl rfl) gn rfl<|Aa 18 rfl (Af rfl) gn rfl<|Ah 19 rfl ?_
     refine Bg [.bool false] rfl Tryd.func55 rfl (.tmp rfl (.nil)) fun wr hLr=>?_
     have hMr:=hLr.pk0 (.c 1 rfl .n)
     show Oj w F  r (.returned (Bz [.bool false])) wr
     rw [h]
     exact ⟨rfl,hMr⟩
 refine Ac rfl rfl<|Aa 0 rfl (Bd Ye rfl) gn rfl<|Aa 1 rfl (Au 0 Xao rfl rfl rfl) gn rfl<|Aa 2 rfl (Ae rfl) gn rfl ?_
 by_cases hp47:x1.lit=true
 ·have h:=Ap hp47 h
  refine Bh 5 rfl (hp47)<|Aa 3 rfl (Bd U1 rfl) (gy 5 rfl rfl) rfl<|Aa 4 rfl (Au 0 Gw rfl rfl rfl) (gy 5 rfl rfl) rfl<|Aa 5 rfl (Yp rfl rfl) (gy 5 rfl rfl) rfl<|Aa 6 rfl (Ae rfl) (gy 5 rfl rfl) rfl ?_
  by_cases hp48:x1.name=(⟨#[]⟩:ByteArray)
  ·have h:=Ap hp48 h
   refine Bh 9 rfl ((Ox hp48))<|Ad 7 rfl (ps 9 rfl rfl rfl)<|Ad 8 rfl (ps 9 rfl rfl rfl)<|Ad 9 rfl (ps 9 rfl rfl rfl)<|Aa 10 rfl (Aw (b:=true) rfl rfl) (gy 5 rfl rfl) rfl<|Aa 11 rfl (Aw (b:=true) rfl rfl) gn rfl<|Aa 12 rfl (Ae rfl) gn rfl<|Ad 13 rfl (ps 15 rfl rfl rfl)<|Ad 14 rfl (ps 15 rfl rfl rfl)<|Ad 15 rfl (ps 15 rfl rfl rfl)<|Ad 16 rfl (ps 15 rfl rfl rfl)<|Ad 17 rfl (pu 19 rfl rfl) ?_
   refine Ad 18 rfl (pu 19 rfl rfl)<|Ad 19 rfl (pu 19 rfl rfl)<|Ad 20 rfl (ps 15 rfl rfl rfl)<|Ad 21 rfl (ps 15 rfl rfl rfl)<|Ad 22 rfl (pu 24 rfl rfl)<|Ad 23 rfl (pu 24 rfl rfl)<|Ad 24 rfl (pu 24 rfl rfl)<|Ad 25 rfl (pu 24 rfl rfl)<|Ad 26 rfl (ps 15 rfl rfl rfl)<|Aa 27 rfl (Aw (b:=true) rfl rfl) gn rfl<|Ah 28 rfl ?_
   exact D6 [0,1] (j1 true h) ⟨rfl,rfl,trivial⟩ (.cons_cons _ (.slnil)) rfl
  ·have h:=Am hp48 h
   refine Bh 9 rfl ((Oo hp48))<|Aa 7 rfl (Bd Vz rfl) (gy 9 rfl rfl) rfl<|Aa 8 rfl (Au 0 O9 rfl rfl rfl) (gy 9 rfl rfl) rfl<|Aa 9 rfl (Ba rfl rfl rfl) (gy 9 rfl rfl) rfl<|Aa 10 rfl (Aw (b:=false) rfl rfl) (gy 5 rfl rfl) rfl<|Aa 11 rfl (Aw (b:=true) rfl rfl) gn rfl<|Aa 12 rfl (Ae rfl) gn rfl ?_
   by_cases hp49:x1.kids=0
   ·have h:=Ap hp49 h
    refine Bh 15 rfl ((eqib hp49))<|Aa 13 rfl (Bd Ye rfl) (gy 15 rfl rfl) rfl<|Aa 14 rfl (Au 0 Xao rfl rfl rfl) (gy 15 rfl rfl) rfl<|Aa 15 rfl (Oi rfl) (gy 15 rfl rfl) rfl<|Aa 16 rfl (Ae rfl) (gy 15 rfl rfl) rfl<|Bh 19 rfl ((nf hp47))<|Ad 17 rfl (ps 19 rfl rfl rfl)<|Ad 18 rfl (ps 19 rfl rfl rfl)<|Ad 19 rfl (ps 19 rfl rfl rfl)<|Aa 20 rfl (Aw (b:=false) rfl rfl) (gy 15 rfl rfl) rfl<|Aa 21 rfl (Ae rfl) (gy 15 rfl rfl) rfl<|Ad 22 rfl (ps 24 rfl rfl rfl) ?_
    refine Ad 23 rfl (ps 24 rfl rfl rfl)<|Ad 24 rfl (ps 24 rfl rfl rfl)<|Ad 25 rfl (ps 24 rfl rfl rfl)<|Aa 26 rfl (Aw (b:=false) rfl rfl) (gy 15 rfl rfl) rfl<|Aa 27 rfl (Aw (b:=false) rfl rfl) gn rfl<|Ah 28 rfl ?_
    exact D6 [0,1] (j1 false h) ⟨rfl,rfl,trivial⟩ (.cons_cons _ (.slnil)) rfl
   ·have h:=Am hp49 h
    refine Bh 15 rfl ((neib hp49))<|Ad 13 rfl (ps 15 rfl rfl rfl)<|Ad 14 rfl (ps 15 rfl rfl rfl)<|Ad 15 rfl (ps 15 rfl rfl rfl)<|Ad 16 rfl (ps 15 rfl rfl rfl)<|Ad 17 rfl (pu 19 rfl rfl)<|Ad 18 rfl (pu 19 rfl rfl)<|Ad 19 rfl (pu 19 rfl rfl)<|Ad 20 rfl (ps 15 rfl rfl rfl)<|Ad 21 rfl (ps 15 rfl rfl rfl)<|Ad 22 rfl (pu 24 rfl rfl)<|Ad 23 rfl (pu 24 rfl rfl) ?_
    refine Ad 24 rfl (pu 24 rfl rfl)<|Ad 25 rfl (pu 24 rfl rfl)<|Ad 26 rfl (ps 15 rfl rfl rfl)<|Aa 27 rfl (Aw (b:=true) rfl rfl) gn rfl<|Ah 28 rfl ?_
    exact D6 [0,1] (j1 true h) ⟨rfl,rfl,trivial⟩ (.cons_cons _ (.slnil)) rfl
 ·have h:=Am hp47 h
  refine Bh 5 rfl ((bf hp47))<|Ad 3 rfl (ps 5 rfl rfl rfl)<|Ad 4 rfl (ps 5 rfl rfl rfl)<|Ad 5 rfl (ps 5 rfl rfl rfl)<|Ad 6 rfl (ps 5 rfl rfl rfl)<|Ad 7 rfl (pu 9 rfl rfl)<|Ad 8 rfl (pu 9 rfl rfl)<|Ad 9 rfl (pu 9 rfl rfl)<|Ad 10 rfl (ps 5 rfl rfl rfl)<|Aa 11 rfl (Aw (b:=false) rfl rfl) gn rfl<|Aa 12 rfl (Ae rfl) gn rfl<|Aa 13 rfl (Bd Ye rfl) (gy 15 rfl rfl) rfl ?_
  refine Aa 14 rfl (Au 0 Xao rfl rfl rfl) (gy 15 rfl rfl) rfl<|Aa 15 rfl (Oi rfl) (gy 15 rfl rfl) rfl<|Aa 16 rfl (Ae rfl) (gy 15 rfl rfl) rfl<|Bh 19 rfl ((nt (bf hp47)))<|Aa 17 rfl (Bd U1 rfl) (gy 19 rfl rfl) rfl<|Aa 18 rfl (Au 0 Gw rfl rfl rfl) (gy 19 rfl rfl) rfl<|Aa 19 rfl (Rt rfl rfl) (gy 19 rfl rfl) rfl<|Aa 20 rfl (Aw (b:=true) rfl rfl) (gy 15 rfl rfl) rfl<|Aa 21 rfl (Ae rfl) (gy 15 rfl rfl) rfl ?_
  by_cases hp50:x1.name=(⟨#[]⟩:ByteArray)
  ·have h:=Ap hp50 h
   refine Bh 24 rfl ((nf (Ox hp50)))<|Ad 22 rfl (ps 24 rfl rfl rfl)<|Ad 23 rfl (ps 24 rfl rfl rfl)<|Ad 24 rfl (ps 24 rfl rfl rfl)<|Ad 25 rfl (ps 24 rfl rfl rfl)<|Aa 26 rfl (Aw (b:=false) rfl rfl) (gy 15 rfl rfl) rfl<|Aa 27 rfl (Aw (b:=false) rfl rfl) gn rfl<|Ah 28 rfl ?_
   exact D6 [0,1] (j1 false h) ⟨rfl,rfl,trivial⟩ (.cons_cons _ (.slnil)) rfl
  ·have h:=Am hp50 h
   refine Bh 24 rfl ((nt (Oo hp50)))<|Aa 22 rfl (Bd U1 rfl) (gy 24 rfl rfl) rfl<|Aa 23 rfl (Au 0 Gw rfl rfl rfl) (gy 24 rfl rfl) rfl ?_
   obtain ⟨r54,hv55,h⟩:=h
   refine Ci 24 rfl (D7 [.string x1.name] rfl Tryd.func77 rfl rfl rfl fun w51 hL52=>?_) (gy 24 rfl rfl)
   have hp53:=pmI hL52 .n (.c 0 rfl .n) (by kernel_rfl)
   refine Calls.mono (Uw w51 (Fl ([]:List Cc)) x1.name (hL52.tb hp53 hG (me 1 rfl)) (hL52.hFl hp53 (Bf [] rfl)) (hL52.into hp53 _) r54 hv55) ?_
   rintro _ w56 ⟨rfl,hM57⟩
   have hL58:=hL52.call hp53 hM57
   refine ⟨_,_,_,rfl,hL58,?_⟩
   refine Aa 25 rfl (Oi rfl) (gy 24 rfl rfl) rfl<|Aa 26 rfl (Aw (b:=true) rfl rfl) (gy 15 rfl rfl) rfl<|Aa 27 rfl (Aw (b:=false) rfl rfl) gn rfl<|Ah 28 rfl ?_
   exact D6 [0,1] (j1 (!r54) h) ⟨rfl,rfl,trivial⟩ (.cons_cons _ (.slnil)) rfl
abbrev Vm (w:World) (F:Nat→Prop) (g3:Nat) (Tb4:Nat) (r:Bool × ByteArray):Ending→World→Prop:=fun e w'=>e=.returned (.bool r.1)∧B.Loc w w' [.box g3 Tb4 [.string r.2]] [St w [[g3]]]
noncomputable abbrev Xch (w:World) (F:Nat→Prop) (g3:Nat) (Tb4:Nat) (r:Bool × ByteArray):Cx:=⟨Tryd.prog,73,Tryd.f73,8,Vm w F g3 Tb4 r,w⟩
theorem Xaq (w:World) (F:Nat→Prop) (x1:Aj) (x2:ByteArray) (g3:Nat) (Tb4:Nat) (hF:∀ b,F b→b < w.heap.size∧∀ o ∈ ([[g3]]:List (List Nat)),b ∉ o) (hL0:B.Loc w w [.box g3 Tb4 [.string x2]] [Sm w.heap.size F w [[g3]],St w [[g3]]]) (r:Bool × ByteArray) (h:X6 x1 x2 r):Calls Tryd.prog 73 #[.agg #[.string x1.name,.bool x1.lit,.string x1.field,.string x1.capture,.int .i64 x1.kids],.pointer (some ⟨g3,0,none⟩)] w (Vm w F g3 Tb4 r):=by
 unfold X6 at h
 refine Bl (vs:=[.agg #[.string x1.name,.bool x1.lit,.string x1.field,.string x1.capture,.int .i64 x1.kids],.pointer (some ⟨g3,0,none⟩)]) 8 Tryd.func73 rfl Tryd.ntmps73 rfl hL0 ?_
 show G (Xch w F g3 Tb4 r) _ _ _ _
 refine Ag rfl<|Ac rfl rfl ?_
 refine Ci 0 rfl (O3 [.string x1.name,.bool x1.lit,.string x1.field,.string x1.capture,.int .i64 x1.kids] rfl rfl rfl fun gb5=>?_) gn
 refine Aa 1 rfl (Af rfl) gn rfl<|Ah 2 rfl<|Ag rfl<|Ac rfl rfl<|Aa 0 rfl (Bd Wl rfl) gn rfl<|Aa 1 rfl (Au 0 Gw rfl rfl rfl) gn rfl<|Aa 2 rfl (Au 1 Gw rfl rfl rfl) gn rfl<|Aa 3 rfl (Yp rfl rfl) gn rfl<|Aa 4 rfl (Af rfl) gn rfl<|Ah 5 rfl ?_
 refine Bg [.bool (seq x1.capture x2)] rfl Tryd.func73 rfl (.tmp rfl (.nil)) fun wr hLr=>?_
 have hMr:=hLr.pkI (.c 1 rfl .n) (.c 0 rfl .n) (by kernel_rfl) (.c 1 rfl .n)
 show Vm w F g3 Tb4 r (.returned (Bz [.bool (seq x1.capture x2)])) wr
 rw [h]
 exact ⟨rfl,hMr⟩
noncomputable abbrev q72c4:=Code.snd (Code.snd (Df Tryd.f72))
noncomputable abbrev Xhf:=Code.fst (Code.fst (Code.snd (Code.fst (Code.snd (Df Tryd.f72)))))
abbrev Ff (w:World) (F:Nat→Prop) (g7:Nat) (Tb8:Nat) (r:Int × ByteArray):Ending→World→Prop:=fun e w'=>e=.returned (.int .i64 r.1)∧B.Loc w w' [.box g7 Tb8 [.string r.2]] [St w [[g7]]]
noncomputable abbrev Fe (w:World) (F:Nat→Prop) (g7:Nat) (Tb8:Nat) (r:Int × ByteArray):Cx:=⟨Tryd.prog,72,Tryd.f72,19,Ff w F g7 Tb8 r,w⟩
theorem Qp (w:World) (F:Nat→Prop) (x1:List Aj) (x6:ByteArray) (A2:Option Addr) (n3:Nat) (c4:Nat) (g7:Nat) (Tb8:Nat) (h5:Rw Cb w (St w [[g7]]).av A2 n3 c4 x1) (hF:∀ b,F b→b < w.heap.size∧∀ o ∈ ([[g7]]:List (List Nat)),b ∉ o) (hL0:B.Loc w w [.box g7 Tb8 [.string x6]] [Sm w.heap.size F w [[g7]],St w [[g7]]]) (r:Int × ByteArray) (h:G5 x1 x6 r):Calls Tryd.prog 72 #[.slice A2 n3 c4,.func (.func 73) #[] #[.pointer (some ⟨g7,0,none⟩)]] w (Ff w F g7 Tb8 r):=by
 unfold G5 at h
 refine Bl (vs:=[.slice A2 n3 c4,.func (.func 73) #[] #[.pointer (some ⟨g7,0,none⟩)]]) 19 Tryd.func72 rfl Tryd.ntmps72 rfl hL0 ?_
 show G (Fe w F g7 Tb8 r) _ _ _ _
 refine Ag rfl<|Ac rfl rfl<|Aa 0 rfl (Af rfl) gn rfl<|Ah 1 rfl<|Ag rfl<|Ag rfl<|Ac rfl rfl<|Aa 0 rfl (Ae rfl) gn rfl<|Aa 1 rfl (D5 Tm rfl h5.hq) gn rfl<|Aa 2 rfl (Ae rfl) gn rfl<|Ah 3 rfl<|Bv rfl ?_
 refine Ei rfl ?_
 have key1:∀ s,Ar (fun (s:Int × ByteArray) o=>Dj x1 s.1 s.2 o) s r→(fun (s:Int × ByteArray)=>∀ (_:Unit),G (Fe w F g7 Tb8 r) [.code Xhf,.inLoop Xhf,.inBlock 0,.code q72c4] [(0,.slice A2 n3 c4),(1,.func (.func 73) #[] #[.pointer (some ⟨g7,0,none⟩)]),(7,.int .i64 (x1.length:Int)),(8,.int .i64 s.1)] [.box g7 Tb8 [.string s.2]] [Sm w.heap.size F w [[g7]],St w [[g7]]]) s:=by
  intro s hs
  refine Ar.ind (mot:=(fun (s:Int × ByteArray)=>∀ (_:Unit),G (Fe w F g7 Tb8 r) [.code Xhf,.inLoop Xhf,.inBlock 0,.code q72c4] [(0,.slice A2 n3 c4),(1,.func (.func 73) #[] #[.pointer (some ⟨g7,0,none⟩)]),(7,.int .i64 (x1.length:Int)),(8,.int .i64 s.1)] [.box g7 Tb8 [.string s.2]] [Sm w.heap.size F w [[g7]],St w [[g7]]])) ?_ hs
  clear hs s
  intro s o1 h hO1
  obtain ⟨x22,x23⟩:=s
  show ∀ (_:Unit),G (Fe w F g7 Tb8 r) [.code Xhf,.inLoop Xhf,.inBlock 0,.code q72c4] [(0,.slice A2 n3 c4),(1,.func (.func 73) #[] #[.pointer (some ⟨g7,0,none⟩)]),(7,.int .i64 (x1.length:Int)),(8,.int .i64 x22)] [.box g7 Tb8 [.string x23]] [Sm w.heap.size F w [[g7]],St w [[g7]]]
  intro _
  have h:Dj x1 x22 x23 o1:=h
  unfold Dj at h
  refine Ag rfl<|Ac rfl rfl<|Aa 0 rfl (Ba rfl rfl rfl) gn rfl<|Ah 1 rfl<|Ag rfl ?_
  by_cases hp36:x22 < (x1.length:Int)
  ·have h:=Ap hp36 h
   refine Bi rfl _ rfl ((decide_eq_true hp36))<|Bo rfl<|Ag rfl<|Bv rfl<|Ag rfl<|Ac rfl rfl<|Aa 0 rfl (Ae rfl) gn rfl<|Aa 1 rfl (Af rfl) gn rfl<|Ah 2 rfl<|Ag rfl<|Ac rfl rfl<|Aa 0 rfl (Ae rfl) gn rfl ?_
   refine Aa 1 rfl (Ae rfl) gn rfl<|Aa 2 rfl (Ae rfl) gn rfl ?_
   obtain ⟨hb37,h⟩:=h
   have hr38:=Rw.readF (s:=St w [[g7]]) (hl:=Dp) (h1:=Du) h5 hb37
   refine Aa 3 rfl (Ef (s:=St w [[g7]]) Oq rfl rfl h5 hb37) gn rfl<|Aa 4 rfl (Q8 (St w [[g7]]) Xc5 rfl hr38 rfl (me 1 rfl)) gn rfl ?_
   obtain ⟨r42,hv43,h⟩:=h
   refine Ci 5 rfl (Xal [.agg #[.string ((ix x1 x22).name),.bool ((ix x1 x22).lit),.string ((ix x1 x22).field),.string ((ix x1 x22).capture),.int .i64 ((ix x1 x22).kids)]] [.pointer (some ⟨g7,0,none⟩)] rfl rfl Tryd.func73 rfl rfl rfl fun w39 hL40=>?_) gn
   have hp41:=pmI hL40 (.c 0 rfl .n) .n (by kernel_rfl)
   refine Calls.mono (Xaq w39 (Fl ([]:List Cc)) (ix x1 x22) x23 g7 Tb8 (hL40.hFl hp41 (Bf [] rfl)) (hL40.into hp41 _) r42 hv43) ?_
   rintro _ w44 ⟨rfl,hM45⟩
   have hL46:=hL40.call hp41 hM45
   refine ⟨_,_,_,rfl,hL46,?_⟩
   refine Ah 6 rfl ?_
   by_cases hp47:r42.1=true
   ·have h:=Ap hp47 h
    refine Bi rfl _ rfl (hp47)<|Ag rfl<|Ac rfl rfl<|Aa 0 rfl (Ae rfl) gn rfl<|Aa 1 rfl (Af rfl) gn rfl<|Ah 2 rfl ?_
    have h:=Out.inr hO1 h
    refine Bg [.int .i64 x22] rfl Tryd.func72 rfl (.tmp rfl (.nil)) fun wr hLr=>?_
    have hMr:=hLr.pkI (.c 0 rfl .n) .n (by kernel_rfl) (.c 1 rfl .n)
    show Ff w F g7 Tb8 r (.returned (Bz [.int .i64 x22])) wr
    rw [h]
    exact ⟨rfl,hMr⟩
   ·have h:=Am hp47 h
    refine Bc rfl _ rfl ((bf hp47))<|Bo rfl<|Bj<|Ac rfl rfl<|Aa 0 rfl (Ba rfl rfl rfl) gn rfl<|Aa 1 rfl (Ae rfl) gn rfl<|Ah 2 rfl<|Cm ?_
    have ih:=Out.inl hO1 h
    exact D6 [0,1] (ih ()) ⟨rfl,rfl,rfl,rfl,trivial⟩ (.cons_cons _ (.slnil)) rfl
  ·have h:=Am hp36 h
   refine Bc rfl _ rfl ((decide_eq_false hp36))<|E8 [.code q72c4] rfl rfl<|Ag rfl<|Ac rfl rfl<|Aa 0 rfl (Af rfl) gn rfl<|Ah 1 rfl ?_
   have h:=Out.inr hO1 h
   refine Bg [.int .i64 (-1)] rfl Tryd.func72 rfl (.tmp rfl (.nil)) fun wr hLr=>?_
   have hMr:=hLr.pkI (.c 0 rfl .n) .n (by kernel_rfl) (.c 1 rfl .n)
   show Ff w F g7 Tb8 r (.returned (Bz [.int .i64 (-1)])) wr
   rw [h]
   exact ⟨rfl,hMr⟩
 exact D6 [0,1] (key1 _ h ()) ⟨rfl,rfl,rfl,rfl,trivial⟩ (.cons_cons _ (.slnil)) rfl
abbrev Us (w:World) (F:Nat→Prop) (r:Int):Ending→World→Prop:=fun e w'=>e=.returned (.int .i64 r)∧B.Loc w w' [] [St w []]
noncomputable abbrev Xe2 (w:World) (F:Nat→Prop) (r:Int):Cx:=⟨Tryd.prog,43,Tryd.f43,11,Us w F  r,w⟩
theorem Q7 (w:World) (F:Nat→Prop) (x1:Aq) (x10:ByteArray) (A2:Option Addr) (n3:Nat) (c4:Nat) (A6:Option Addr) (n7:Nat) (c8:Nat) (h5:Rw Cb w (St w []).av A2 n3 c4 x1.nodes) (h9:Rw Dq w (St w []).av A6 n7 c8 x1.conds) (hF:∀ b,F b→b < w.heap.size∧∀ o ∈ ([]:List (List Nat)),b ∉ o) (hL0:B.Loc w w [] [Sm w.heap.size F w [],St w []]) (r:Int) (h:Jt x1 x10 r):Calls Tryd.prog 43 #[.agg #[.slice A2 n3 c4,.slice A6 n7 c8],.string x10] w (Us w F  r):=by
 unfold Jt at h
 refine Bl (vs:=[.agg #[.slice A2 n3 c4,.slice A6 n7 c8],.string x10]) 11 Tryd.func43 rfl Tryd.ntmps43 rfl hL0 ?_
 show G (Xe2 w F r) _ _ _ _
 refine Ag rfl<|Ac rfl rfl ?_
 refine Ci 0 rfl (O3 [.slice A2 n3 c4,.slice A6 n7 c8] rfl rfl rfl fun gb11=>?_) gn
 refine Ci 1 rfl (O3 [.string x10] rfl rfl rfl fun gb13=>?_) gn
 refine Aa 2 rfl (Af rfl) gn rfl<|Ah 3 rfl<|Ag rfl<|Ag rfl<|Ac rfl rfl<|Aa 0 rfl (Au 0 Gw rfl rfl rfl) gn rfl<|Aa 1 rfl (Yp rfl rfl) gn rfl<|Ah 2 rfl ?_
 by_cases hp15:x10=(⟨#[]⟩:ByteArray)
 ·have h:=Ap hp15 h
  refine Bi rfl _ rfl ((Ox hp15))<|Ag rfl<|Ac rfl rfl<|Aa 0 rfl (Af rfl) gn rfl<|Ah 1 rfl ?_
  refine Bg [.int .i64 (-1)] rfl Tryd.func43 rfl (.tmp rfl (.nil)) fun wr hLr=>?_
  have hMr:=hLr.pk0 (.c 1 rfl .n)
  show Us w F  r (.returned (Bz [.int .i64 (-1)])) wr
  rw [h]
  exact ⟨rfl,hMr⟩
 ·have h:=Am hp15 h
  refine Bc rfl _ rfl ((Oo hp15))<|Bo rfl<|Ag rfl<|Ac rfl rfl<|Aa 0 rfl (Bd Ew rfl) gn rfl<|Aa 1 rfl (Au 1 Kr rfl rfl rfl) gn rfl<|Aa 2 rfl (Xak [.pointer (some ⟨gb13,0,none⟩)] rfl) gn rfl ?_
  obtain ⟨r19,hv20,h⟩:=h
  refine Ci 3 rfl (D7 [.slice A2 n3 c4,.func (.func 73) #[] #[.pointer (some ⟨gb13,0,none⟩)]] rfl Tryd.func72 rfl rfl rfl fun w16 hL17=>?_) gn
  have hp18:=pmI hL17 (.c 0 rfl .n) (.c 1 rfl .n) (by kernel_rfl)
  refine Calls.mono (Qp w16 (Fl ([]:List Cc)) x1.nodes x10 A2 n3 c4 gb13 9 (Rw.mono h5 (hL17.toSt hp18 (me 1 rfl))) (hL17.hFl hp18 (Bf [] rfl)) (hL17.into hp18 _) r19 hv20) ?_
  rintro _ w21 ⟨rfl,hM22⟩
  have hL23:=hL17.call hp18 hM22
  refine ⟨_,_,_,rfl,hL23,?_⟩
  refine Aa 4 rfl (Af rfl) gn rfl<|Ah 5 rfl ?_
  refine Bg [.int .i64 r19.1] rfl Tryd.func43 rfl (.tmp rfl (.nil)) fun wr hLr=>?_
  have hMr:=hLr.pk0 (.c 1 rfl .n)
  show Us w F  r (.returned (Bz [.int .i64 r19.1])) wr
  rw [h]
  exact ⟨rfl,hMr⟩
noncomputable abbrev q24c4:=Code.snd (Code.snd (Df Tryd.f24))
noncomputable abbrev q24c5:=Code.fst (Code.fst (Code.snd (Df Tryd.f24)))
noncomputable abbrev q24c6:=Code.snd (Code.fst (Code.snd (Df Tryd.f24)))
noncomputable abbrev Xe7:=Code.snd q24c4
noncomputable abbrev Xe6:=Code.fst (Code.fst (Code.snd (Code.fst q24c4)))
noncomputable abbrev Xis:=Code.snd Xe7
noncomputable abbrev Xet:=Code.fst (Code.fst (Code.snd (Code.fst Xe7)))
abbrev Ju (w:World) (F:Nat→Prop) (r:Bool):Ending→World→Prop:=fun e w'=>e=.returned (.bool r)∧B.Loc w w' [] [St w []]
noncomputable abbrev N7 (w:World) (F:Nat→Prop) (r:Bool):Cx:=⟨Tryd.prog,24,Tryd.f24,81,Ju w F  r,w⟩
theorem Xcf (w:World) (F:Nat→Prop) (x1:Aq) (A2:Option Addr) (n3:Nat) (c4:Nat) (A6:Option Addr) (n7:Nat) (c8:Nat) (h5:Rw Cb w (St w []).av A2 n3 c4 x1.nodes) (h9:Rw Dq w (St w []).av A6 n7 c8 x1.conds) (hG:Tb Tryd.prog (St w [])) (hF:∀ b,F b→b < w.heap.size∧∀ o ∈ ([]:List (List Nat)),b ∉ o) (hL0:B.Loc w w [] [Sm w.heap.size F w [],St w []]) (r:Bool) (h:W9 x1 r):Calls Tryd.prog 24 #[.agg #[.slice A2 n3 c4,.slice A6 n7 c8]] w (Ju w F  r):=by
 unfold W9 at h
 refine Bl (vs:=[.agg #[.slice A2 n3 c4,.slice A6 n7 c8]]) 81 Tryd.func24 rfl Tryd.ntmps24 rfl hL0 ?_
 show G (N7 w F r) _ _ _ _
 refine Ag rfl<|Ac rfl rfl ?_
 refine Ci 0 rfl (O3 [.slice A2 n3 c4,.slice A6 n7 c8] rfl rfl rfl fun gb10=>?_) gn
 refine Aa 1 rfl (Af rfl) gn rfl<|Ah 2 rfl<|Ag rfl<|Ag rfl ?_
 have j1:∀ (x84:Bool) (h:Jh x1 x84 r) ,G (N7 w F r) [.code q24c6,.code q24c4] [(1,.pointer (some ⟨gb10,0,none⟩)),(25,.bool x84)] [.box gb10 25 [.slice A2 n3 c4,.slice A6 n7 c8]] [Sm w.heap.size F w [],St w []]:=by
  intro x84 h
  unfold Jh at h
  by_cases hp85:x84=true
  ·have h:=Ap hp85 h
   refine Bi rfl _ rfl (hp85)<|Ag rfl<|Ac rfl rfl<|Aa 0 rfl (Af rfl) gn rfl<|Ah 1 rfl ?_
   refine Bg [.bool false] rfl Tryd.func24 rfl (.tmp rfl (.nil)) fun wr hLr=>?_
   have hMr:=hLr.pk0 (.c 1 rfl .n)
   show Ju w F  r (.returned (Bz [.bool false])) wr
   rw [h]
   exact ⟨rfl,hMr⟩
  ·have h:=Am hp85 h
   refine Bc rfl _ rfl ((bf hp85))<|Bo rfl<|Ag rfl<|Ag rfl<|Ac rfl rfl<|Aa 0 rfl (Bd Ew rfl) gn rfl<|Aa 1 rfl (Au 0 Kr rfl rfl rfl) gn rfl<|Aa 2 rfl (D5 Tm rfl h5.hq) gn rfl<|Aa 3 rfl (Ae rfl) gn rfl<|Ah 4 rfl<|Bv rfl<|Ei rfl ?_
   have key2:∀ s,Ar (fun (s:Int) o=>Ky x1 s o) s r→(fun (s:Int)=>∀ (_:Unit),G (N7 w F r) [.code Xe6,.inLoop Xe6,.inBlock 0,.code Xe7] [(1,.pointer (some ⟨gb10,0,none⟩)),(27,.slice A2 n3 c4),(28,.int .i64 (x1.nodes.length:Int)),(29,.int .i64 s)] [.box gb10 25 [.slice A2 n3 c4,.slice A6 n7 c8]] [Sm w.heap.size F w [],St w []]) s:=by
    intro s hs
    refine Ar.ind (mot:=(fun (s:Int)=>∀ (_:Unit),G (N7 w F r) [.code Xe6,.inLoop Xe6,.inBlock 0,.code Xe7] [(1,.pointer (some ⟨gb10,0,none⟩)),(27,.slice A2 n3 c4),(28,.int .i64 (x1.nodes.length:Int)),(29,.int .i64 s)] [.box gb10 25 [.slice A2 n3 c4,.slice A6 n7 c8]] [Sm w.heap.size F w [],St w []])) ?_ hs
    clear hs s
    intro x188 o1 h hO1
    show ∀ (_:Unit),G (N7 w F r) [.code Xe6,.inLoop Xe6,.inBlock 0,.code Xe7] [(1,.pointer (some ⟨gb10,0,none⟩)),(27,.slice A2 n3 c4),(28,.int .i64 (x1.nodes.length:Int)),(29,.int .i64 x188)] [.box gb10 25 [.slice A2 n3 c4,.slice A6 n7 c8]] [Sm w.heap.size F w [],St w []]
    intro _
    have h:Ky x1 x188 o1:=h
    unfold Ky at h
    refine Ag rfl<|Ac rfl rfl<|Aa 0 rfl (Ba rfl rfl rfl) gn rfl<|Ah 1 rfl<|Ag rfl ?_
    by_cases hp290:x188 < (x1.nodes.length:Int)
    ·have h:=Ap hp290 h
     refine Bi rfl _ rfl ((decide_eq_true hp290))<|Bo rfl<|Ag rfl<|Bv rfl<|Ag rfl<|Ac rfl rfl<|Aa 0 rfl (Ae rfl) gn rfl ?_
     obtain ⟨hb291,h⟩:=h
     have hr292:=Rw.readF (s:=St w []) (hl:=Dp) (h1:=Du) h5 hb291
     refine Aa 1 rfl (Ef (s:=St w []) Oq rfl rfl h5 hb291) gn rfl<|Aa 2 rfl (Q8 (St w []) Xc5 rfl hr292 rfl (me 1 rfl)) gn rfl ?_
     refine Ci 3 rfl (G9 [.string (⟨#[]⟩:ByteArray),.bool false,.string (⟨#[]⟩:ByteArray),.string (⟨#[]⟩:ByteArray),.int .i64 0] zr_45 rfl fun gb293=>?_) gn
     refine Aa 4 rfl (Af rfl) gn rfl ?_
     refine Ci 5 rfl (I9 (vs:=[.string ((ix x1.nodes x188).name),.bool ((ix x1.nodes x188).lit),.string ((ix x1.nodes x188).field),.string ((ix x1.nodes x188).capture),.int .i64 ((ix x1.nodes x188).kids)]) (cs':=[.string ((ix x1.nodes x188).name),.bool ((ix x1.nodes x188).lit),.string ((ix x1.nodes x188).field),.string ((ix x1.nodes x188).capture),.int .i64 ((ix x1.nodes x188).kids)]) (M':=[.box gb293 45 [.string ((ix x1.nodes x188).name),.bool ((ix x1.nodes x188).lit),.string ((ix x1.nodes x188).field),.string ((ix x1.nodes x188).capture),.int .i64 ((ix x1.nodes x188).kids)],.box gb10 25 [.slice A2 n3 c4,.slice A6 n7 c8]]) 0 sz_45 rfl rfl rfl rfl rfl rfl rfl rfl rfl ?_) gn
     refine Ah 6 rfl<|Ag rfl<|Ac rfl rfl<|Aa 0 rfl (Ji [.string ((ix x1.nodes x188).name),.bool ((ix x1.nodes x188).lit),.string ((ix x1.nodes x188).field),.string ((ix x1.nodes x188).capture),.int .i64 ((ix x1.nodes x188).kids)] 0 Xc5 rfl rfl rfl rfl) gn rfl ?_
     obtain ⟨r298,hv299,h⟩:=h
     refine Ci 1 rfl (D7 [.agg #[.string ((ix x1.nodes x188).name),.bool ((ix x1.nodes x188).lit),.string ((ix x1.nodes x188).field),.string ((ix x1.nodes x188).capture),.int .i64 ((ix x1.nodes x188).kids)]] rfl Tryd.func55 rfl rfl rfl fun w295 hL296=>?_) gn
     have hp297:=pmI hL296 .n (.c 0 rfl (.c 1 rfl .n)) (by kernel_rfl)
     refine Calls.mono (Xdq w295 (Fl ([]:List Cc)) (ix x1.nodes x188) (hL296.tb hp297 hG (me 1 rfl)) (hL296.hFl hp297 (Bf [] rfl)) (hL296.into hp297 _) r298 hv299) ?_
     rintro _ w300 ⟨rfl,hM301⟩
     have hL302:=hL296.call hp297 hM301
     refine ⟨_,_,_,rfl,hL302,?_⟩
     refine Aa 2 rfl (Oi rfl) gn rfl<|Aa 3 rfl (Ae rfl) gn rfl ?_
     by_cases hp303:r298=true
     ·have h:=Ap hp303 h
      refine Bh 37 rfl ((nf hp303))<|Aa 4 rfl (Bd Wl rfl) (gy 37 rfl rfl) rfl<|Aa 5 rfl (Au 0 Gw rfl rfl rfl) (gy 37 rfl rfl) rfl<|Aa 6 rfl (Rt rfl rfl) (gy 37 rfl rfl) rfl<|Aa 7 rfl (Ae rfl) (gy 37 rfl rfl) rfl ?_
      by_cases hp304:(ix x1.nodes x188).capture=(⟨#[]⟩:ByteArray)
      ·have h:=Ap hp304 h
       refine Bh 41 rfl ((nf (Ox hp304)))<|Ad 8 rfl (ps 41 rfl rfl rfl)<|Ad 9 rfl (ps 41 rfl rfl rfl)<|Ad 10 rfl (ps 41 rfl rfl rfl)<|Ad 11 rfl (ps 41 rfl rfl rfl)<|Ad 12 rfl (ps 41 rfl rfl rfl)<|Ad 13 rfl (ps 41 rfl rfl rfl)<|Aa 14 rfl (Aw (b:=false) rfl rfl) (gy 37 rfl rfl) rfl<|Aa 15 rfl (Aw (b:=false) rfl rfl) gn rfl<|Ah 16 rfl<|Bc rfl _ rfl (rfl)<|Bo rfl ?_
       refine Bj<|Ac rfl rfl<|Aa 0 rfl (Ba rfl rfl rfl) gn rfl<|Aa 1 rfl (Ae rfl) gn rfl<|Ah 2 rfl<|Cm ?_
       have ih:=Out.inl hO1 h
       exact D6 [0,1] (ih ()) ⟨rfl,rfl,rfl,rfl,trivial⟩ (.cons _ (.cons_cons _ (.slnil))) rfl
      ·have h:=Am hp304 h
       refine Bh 41 rfl ((nt (Oo hp304)))<|Aa 8 rfl (Ji [.slice A2 n3 c4,.slice A6 n7 c8] 1 O5 rfl rfl rfl rfl) (gy 41 rfl rfl) rfl<|Aa 9 rfl (Bd Wl rfl) (gy 41 rfl rfl) rfl<|Aa 10 rfl (Au 0 Gw rfl rfl rfl) (gy 41 rfl rfl) rfl ?_
       obtain ⟨r308,hv309,h⟩:=h
       refine Ci 11 rfl (D7 [.agg #[.slice A2 n3 c4,.slice A6 n7 c8],.string ((ix x1.nodes x188).capture)] rfl Tryd.func43 rfl rfl rfl fun w305 hL306=>?_) (gy 41 rfl rfl)
       have hp307:=pmI hL306 .n (.c 0 rfl (.c 1 rfl .n)) (by kernel_rfl)
       refine Calls.mono (Q7 w305 (Fl ([]:List Cc)) x1 ((ix x1.nodes x188).capture) A2 n3 c4 A6 n7 c8 (Rw.mono h5 (hL306.toSt hp307 (me 1 rfl))) (Rw.mono h9 (hL306.toSt hp307 (me 1 rfl))) (hL306.hFl hp307 (Bf [] rfl)) (hL306.into hp307 _) r308 hv309) ?_
       rintro _ w310 ⟨rfl,hM311⟩
       have hL312:=hL306.call hp307 hM311
       refine ⟨_,_,_,rfl,hL312,?_⟩
       refine Aa 12 rfl (Ae rfl) (gy 41 rfl rfl) rfl<|Aa 13 rfl (Ba rfl rfl rfl) (gy 41 rfl rfl) rfl<|Aa 14 rfl (Aw (b:=true) rfl rfl) (gy 37 rfl rfl) rfl<|Aa 15 rfl (Aw (b:=false) rfl rfl) gn rfl<|Ah 16 rfl ?_
       by_cases hp313:r308=x188
       ·have h:=Ap hp313 h
        refine Bc rfl _ rfl ((eqib hp313))<|Bo rfl<|Bj<|Ac rfl rfl<|Aa 0 rfl (Ba rfl rfl rfl) gn rfl<|Aa 1 rfl (Ae rfl) gn rfl<|Ah 2 rfl<|Cm ?_
        have ih:=Out.inl hO1 h
        exact D6 [0,1] (ih ()) ⟨rfl,rfl,rfl,rfl,trivial⟩ (.cons _ (.cons_cons _ (.slnil))) rfl
       ·have h:=Am hp313 h
        refine Bi rfl _ rfl ((neib hp313))<|Ag rfl<|Ac rfl rfl<|Aa 0 rfl (Af rfl) gn rfl<|Ah 1 rfl ?_
        have h:=Out.inr hO1 h
        refine Bg [.bool false] rfl Tryd.func24 rfl (.tmp rfl (.nil)) fun wr hLr=>?_
        have hMr:=hLr.pk0 (.c 1 rfl .n)
        show Ju w F  r (.returned (Bz [.bool false])) wr
        rw [h]
        exact ⟨rfl,hMr⟩
     ·have h:=Am hp303 h
      refine Bh 37 rfl ((nt (bf hp303)))<|Ad 4 rfl (ps 37 rfl rfl rfl)<|Ad 5 rfl (ps 37 rfl rfl rfl)<|Ad 6 rfl (ps 37 rfl rfl rfl)<|Ad 7 rfl (ps 37 rfl rfl rfl)<|Ad 8 rfl (pu 41 rfl rfl)<|Ad 9 rfl (pu 41 rfl rfl)<|Ad 10 rfl (pu 41 rfl rfl)<|Ad 11 rfl (pu 41 rfl rfl)<|Ad 12 rfl (pu 41 rfl rfl)<|Ad 13 rfl (pu 41 rfl rfl)<|Ad 14 rfl (ps 37 rfl rfl rfl) ?_
      refine Aa 15 rfl (Aw (b:=true) rfl rfl) gn rfl<|Ah 16 rfl<|Bi rfl _ rfl (rfl)<|Ag rfl<|Ac rfl rfl<|Aa 0 rfl (Af rfl) gn rfl<|Ah 1 rfl ?_
      have h:=Out.inr hO1 h
      refine Bg [.bool false] rfl Tryd.func24 rfl (.tmp rfl (.nil)) fun wr hLr=>?_
      have hMr:=hLr.pk0 (.c 1 rfl .n)
      show Ju w F  r (.returned (Bz [.bool false])) wr
      rw [h]
      exact ⟨rfl,hMr⟩
    ·have h:=Am hp290 h
     refine Bc rfl _ rfl ((decide_eq_false hp290))<|E8 [.code Xe7] rfl rfl<|Ag rfl<|Ag rfl<|Ac rfl rfl<|Aa 0 rfl (Bd Ik rfl) gn rfl<|Aa 1 rfl (Au 0 U8 rfl rfl rfl) gn rfl<|Aa 2 rfl (D5 Yu rfl h9.hq) gn rfl<|Aa 3 rfl (Ae rfl) gn rfl<|Ah 4 rfl<|Bv rfl<|Ei rfl ?_
     have key3:∀ s,Ar (fun (s:Int) o=>Kz x1 s o) s o1→(fun (s:Int)=>∀ (_:Unit),G (N7 w F r) [.code Xet,.inLoop Xet,.inBlock 2,.code Xis] [(1,.pointer (some ⟨gb10,0,none⟩)),(52,.slice A6 n7 c8),(53,.int .i64 (x1.conds.length:Int)),(54,.int .i64 s)] [.box gb10 25 [.slice A2 n3 c4,.slice A6 n7 c8]] [Sm w.heap.size F w [],St w []]) s:=by
      intro s hs
      refine Ar.ind (mot:=(fun (s:Int)=>∀ (_:Unit),G (N7 w F r) [.code Xet,.inLoop Xet,.inBlock 2,.code Xis] [(1,.pointer (some ⟨gb10,0,none⟩)),(52,.slice A6 n7 c8),(53,.int .i64 (x1.conds.length:Int)),(54,.int .i64 s)] [.box gb10 25 [.slice A2 n3 c4,.slice A6 n7 c8]] [Sm w.heap.size F w [],St w []])) ?_ hs
      clear hs s
      intro x340 o2 h hO2
      show ∀ (_:Unit),G (N7 w F r) [.code Xet,.inLoop Xet,.inBlock 2,.code Xis] [(1,.pointer (some ⟨gb10,0,none⟩)),(52,.slice A6 n7 c8),(53,.int .i64 (x1.conds.length:Int)),(54,.int .i64 x340)] [.box gb10 25 [.slice A2 n3 c4,.slice A6 n7 c8]] [Sm w.heap.size F w [],St w []]
      intro _
      have h:Kz x1 x340 o2:=h
      unfold Kz at h
      refine Ag rfl<|Ac rfl rfl<|Aa 0 rfl (Ba rfl rfl rfl) gn rfl<|Ah 1 rfl<|Ag rfl ?_
      by_cases hp366:x340 < (x1.conds.length:Int)
      ·have h:=Ap hp366 h
       refine Bi rfl _ rfl ((decide_eq_true hp366))<|Bo rfl<|Ag rfl<|Bv rfl<|Ag rfl<|Ac rfl rfl ?_
       obtain ⟨hb367,h⟩:=h
       have hr368:=Rw.readF (s:=St w []) (hl:=Nh) (h1:=Nc) h9 hb367
       refine Aa 0 rfl (Ef (s:=St w []) Zl rfl rfl h9 hb367) gn rfl<|Aa 1 rfl (Q8 (St w []) Xf3 rfl hr368 rfl (me 1 rfl)) gn rfl ?_
       refine Ci 2 rfl (G9 [.bool false,.string (⟨#[]⟩:ByteArray),.string (⟨#[]⟩:ByteArray),.string (⟨#[]⟩:ByteArray)] zr_47 rfl fun gb369=>?_) gn
       refine Ci 3 rfl (I9 (vs:=[.bool ((ix x1.conds x340).not),.string ((ix x1.conds x340).a),.string ((ix x1.conds x340).b),.string ((ix x1.conds x340).text)]) (cs':=[.bool ((ix x1.conds x340).not),.string ((ix x1.conds x340).a),.string ((ix x1.conds x340).b),.string ((ix x1.conds x340).text)]) (M':=[.box gb369 47 [.bool ((ix x1.conds x340).not),.string ((ix x1.conds x340).a),.string ((ix x1.conds x340).b),.string ((ix x1.conds x340).text)],.box gb10 25 [.slice A2 n3 c4,.slice A6 n7 c8]]) 0 sz_47 rfl rfl rfl rfl rfl rfl rfl rfl rfl ?_) gn
       refine Ah 4 rfl<|Ag rfl<|Ac rfl rfl<|Aa 0 rfl (Ji [.slice A2 n3 c4,.slice A6 n7 c8] 1 O5 rfl rfl rfl rfl) gn rfl<|Aa 1 rfl (Bd Xdh rfl) gn rfl<|Aa 2 rfl (Au 0 Gw rfl rfl rfl) gn rfl ?_
       obtain ⟨r374,hv375,h⟩:=h
       refine Ci 3 rfl (D7 [.agg #[.slice A2 n3 c4,.slice A6 n7 c8],.string ((ix x1.conds x340).a)] rfl Tryd.func43 rfl rfl rfl fun w371 hL372=>?_) gn
       have hp373:=pmI hL372 .n (.c 0 rfl (.c 1 rfl .n)) (by kernel_rfl)
       refine Calls.mono (Q7 w371 (Fl ([]:List Cc)) x1 ((ix x1.conds x340).a) A2 n3 c4 A6 n7 c8 (Rw.mono h5 (hL372.toSt hp373 (me 1 rfl))) (Rw.mono h9 (hL372.toSt hp373 (me 1 rfl))) (hL372.hFl hp373 (Bf [] rfl)) (hL372.into hp373 _) r374 hv375) ?_
       rintro _ w376 ⟨rfl,hM377⟩
       have hL378:=hL372.call hp373 hM377
       refine ⟨_,_,_,rfl,hL378,?_⟩
       refine Aa 4 rfl (Ba rfl rfl rfl) gn rfl<|Aa 5 rfl (Ae rfl) gn rfl ?_
       by_cases hp379:r374 < 0
       ·have h:=Ap hp379 h
        refine Bh 63 rfl ((decide_eq_true hp379))<|Ad 6 rfl (ps 63 rfl rfl rfl)<|Ad 7 rfl (ps 63 rfl rfl rfl)<|Ad 8 rfl (ps 63 rfl rfl rfl)<|Ad 9 rfl (ps 63 rfl rfl rfl)<|Ad 10 rfl (pu 67 rfl rfl)<|Ad 11 rfl (pu 67 rfl rfl)<|Ad 12 rfl (pu 67 rfl rfl)<|Ad 13 rfl (pu 67 rfl rfl)<|Ad 14 rfl (pu 67 rfl rfl)<|Ad 15 rfl (pu 67 rfl rfl)<|Ad 16 rfl (pu 73 rfl rfl) ?_
        refine Ad 17 rfl (pu 73 rfl rfl)<|Ad 18 rfl (pu 73 rfl rfl)<|Ad 19 rfl (pu 67 rfl rfl)<|Ad 20 rfl (ps 63 rfl rfl rfl)<|Aa 21 rfl (Aw (b:=true) rfl rfl) gn rfl<|Ah 22 rfl<|Bi rfl _ rfl (rfl)<|Ag rfl<|Ac rfl rfl<|Aa 0 rfl (Af rfl) gn rfl<|Ah 1 rfl ?_
        have h:=Out.inr hO2 h
        have h:=Out.inr hO1 h
        refine Bg [.bool false] rfl Tryd.func24 rfl (.tmp rfl (.nil)) fun wr hLr=>?_
        have hMr:=hLr.pk0 (.c 1 rfl .n)
        show Ju w F  r (.returned (Bz [.bool false])) wr
        rw [h]
        exact ⟨rfl,hMr⟩
       ·have h:=Am hp379 h
        refine Bh 63 rfl ((decide_eq_false hp379))<|Aa 6 rfl (Bd Z9 rfl) (gy 63 rfl rfl) rfl<|Aa 7 rfl (Au 0 Gw rfl rfl rfl) (gy 63 rfl rfl) rfl<|Aa 8 rfl (Rt rfl rfl) (gy 63 rfl rfl) rfl<|Aa 9 rfl (Ae rfl) (gy 63 rfl rfl) rfl ?_
        by_cases hp380:(ix x1.conds x340).b=(⟨#[]⟩:ByteArray)
        ·have h:=Ap hp380 h
         refine Bh 67 rfl ((nf (Ox hp380)))<|Ad 10 rfl (ps 67 rfl rfl rfl)<|Ad 11 rfl (ps 67 rfl rfl rfl)<|Ad 12 rfl (ps 67 rfl rfl rfl)<|Ad 13 rfl (ps 67 rfl rfl rfl)<|Ad 14 rfl (ps 67 rfl rfl rfl)<|Ad 15 rfl (ps 67 rfl rfl rfl)<|Ad 16 rfl (pu 73 rfl rfl)<|Ad 17 rfl (pu 73 rfl rfl)<|Ad 18 rfl (pu 73 rfl rfl)<|Ad 19 rfl (ps 67 rfl rfl rfl)<|Aa 20 rfl (Aw (b:=false) rfl rfl) (gy 63 rfl rfl) rfl ?_
         refine Aa 21 rfl (Aw (b:=false) rfl rfl) gn rfl<|Ah 22 rfl<|Bc rfl _ rfl (rfl)<|Bo rfl<|Bj<|Ac rfl rfl<|Aa 0 rfl (Ba rfl rfl rfl) gn rfl<|Aa 1 rfl (Ae rfl) gn rfl<|Ah 2 rfl<|Cm ?_
         have ih:=Out.inl hO2 h
         exact D6 [0,1] (ih ()) ⟨rfl,rfl,rfl,rfl,trivial⟩ (.cons _ (.cons_cons _ (.slnil))) rfl
        ·have h:=Am hp380 h
         refine Bh 67 rfl ((nt (Oo hp380)))<|Aa 10 rfl (Ji [.slice A2 n3 c4,.slice A6 n7 c8] 1 O5 rfl rfl rfl rfl) (gy 67 rfl rfl) rfl<|Aa 11 rfl (Bd Z9 rfl) (gy 67 rfl rfl) rfl<|Aa 12 rfl (Au 0 Gw rfl rfl rfl) (gy 67 rfl rfl) rfl ?_
         obtain ⟨r384,hv385,h⟩:=h
         refine Ci 13 rfl (D7 [.agg #[.slice A2 n3 c4,.slice A6 n7 c8],.string ((ix x1.conds x340).b)] rfl Tryd.func43 rfl rfl rfl fun w381 hL382=>?_) (gy 67 rfl rfl)
         have hp383:=pmI hL382 .n (.c 0 rfl (.c 1 rfl .n)) (by kernel_rfl)
         refine Calls.mono (Q7 w381 (Fl ([]:List Cc)) x1 ((ix x1.conds x340).b) A2 n3 c4 A6 n7 c8 (Rw.mono h5 (hL382.toSt hp383 (me 1 rfl))) (Rw.mono h9 (hL382.toSt hp383 (me 1 rfl))) (hL382.hFl hp383 (Bf [] rfl)) (hL382.into hp383 _) r384 hv385) ?_
         rintro _ w386 ⟨rfl,hM387⟩
         have hL388:=hL382.call hp383 hM387
         refine ⟨_,_,_,rfl,hL388,?_⟩
         refine Aa 14 rfl (Ba rfl rfl rfl) (gy 67 rfl rfl) rfl<|Aa 15 rfl (Ae rfl) (gy 67 rfl rfl) rfl ?_
         by_cases hp389:r384 < 0
         ·have h:=Ap hp389 h
          refine Bh 73 rfl ((decide_eq_true hp389))<|Ad 16 rfl (ps 73 rfl rfl rfl)<|Ad 17 rfl (ps 73 rfl rfl rfl)<|Ad 18 rfl (ps 73 rfl rfl rfl)<|Aa 19 rfl (Aw (b:=true) rfl rfl) (gy 67 rfl rfl) rfl<|Aa 20 rfl (Aw (b:=true) rfl rfl) (gy 63 rfl rfl) rfl<|Aa 21 rfl (Aw (b:=false) rfl rfl) gn rfl<|Ah 22 rfl<|Bi rfl _ rfl (rfl)<|Ag rfl<|Ac rfl rfl<|Aa 0 rfl (Af rfl) gn rfl ?_
          refine Ah 1 rfl ?_
          have h:=Out.inr hO2 h
          have h:=Out.inr hO1 h
          refine Bg [.bool false] rfl Tryd.func24 rfl (.tmp rfl (.nil)) fun wr hLr=>?_
          have hMr:=hLr.pk0 (.c 1 rfl .n)
          show Ju w F  r (.returned (Bz [.bool false])) wr
          rw [h]
          exact ⟨rfl,hMr⟩
         ·have h:=Am hp389 h
          refine Bh 73 rfl ((decide_eq_false hp389))<|Aa 16 rfl (Bd Xfl rfl) (gy 73 rfl rfl) rfl<|Aa 17 rfl (Au 0 Gw rfl rfl rfl) (gy 73 rfl rfl) rfl<|Aa 18 rfl (Rt rfl rfl) (gy 73 rfl rfl) rfl<|Aa 19 rfl (Aw (b:=false) rfl rfl) (gy 67 rfl rfl) rfl<|Aa 20 rfl (Aw (b:=true) rfl rfl) (gy 63 rfl rfl) rfl<|Aa 21 rfl (Aw (b:=false) rfl rfl) gn rfl<|Ah 22 rfl ?_
          by_cases hp390:(ix x1.conds x340).text=(⟨#[]⟩:ByteArray)
          ·have h:=Ap hp390 h
           refine Bc rfl _ rfl ((nf (Ox hp390)))<|Bo rfl<|Bj<|Ac rfl rfl<|Aa 0 rfl (Ba rfl rfl rfl) gn rfl<|Aa 1 rfl (Ae rfl) gn rfl<|Ah 2 rfl<|Cm ?_
           have ih:=Out.inl hO2 h
           exact D6 [0,1] (ih ()) ⟨rfl,rfl,rfl,rfl,trivial⟩ (.cons _ (.cons_cons _ (.slnil))) rfl
          ·have h:=Am hp390 h
           refine Bi rfl _ rfl ((nt (Oo hp390)))<|Ag rfl<|Ac rfl rfl<|Aa 0 rfl (Af rfl) gn rfl<|Ah 1 rfl ?_
           have h:=Out.inr hO2 h
           have h:=Out.inr hO1 h
           refine Bg [.bool false] rfl Tryd.func24 rfl (.tmp rfl (.nil)) fun wr hLr=>?_
           have hMr:=hLr.pk0 (.c 1 rfl .n)
           show Ju w F  r (.returned (Bz [.bool false])) wr
           rw [h]
           exact ⟨rfl,hMr⟩
      ·have h:=Am hp366 h
       refine Bc rfl _ rfl ((decide_eq_false hp366))<|E8 [.code Xis] rfl rfl<|Ag rfl<|Ac rfl rfl<|Aa 0 rfl (Af rfl) gn rfl<|Ah 1 rfl ?_
       have h:=Out.inr hO2 h
       have h:=Out.inr hO1 h
       refine Bg [.bool true] rfl Tryd.func24 rfl (.tmp rfl (.nil)) fun wr hLr=>?_
       have hMr:=hLr.pk0 (.c 1 rfl .n)
       show Ju w F  r (.returned (Bz [.bool true])) wr
       rw [h]
       exact ⟨rfl,hMr⟩
     exact D6 [0,1] (key3 _ h ()) ⟨rfl,rfl,rfl,rfl,trivial⟩ (.cons_cons _ (.slnil)) rfl
   exact D6 [0,1] (key2 _ h ()) ⟨rfl,rfl,rfl,rfl,trivial⟩ (.cons_cons _ (.slnil)) rfl
 by_cases hp391:(x1.nodes.length:Int) > 32
 ·have h:=Ap hp391 h
  have hns:Region.noSelect (Code.ops q24c5)=true:=by kernel_rfl
  refine J7 [] 19 rfl rfl mix rfl (.c 0 rfl (.c 1 rfl .n))<|wfv 0 rfl (Bd Ew rfl) gn hns rfl<|wfv 1 rfl (Au 0 Kr rfl rfl rfl) gn hns rfl<|wfv 2 rfl (D5 Tm rfl h5.hq) gn hns rfl<|wfv 3 rfl (Ba rfl rfl rfl) gn hns rfl<|wfv 4 rfl (Ae rfl) gn hns rfl<|Xk 11 rfl ((decide_eq_true hp391))<|wfp 5 rfl (ps 11 rfl rfl rfl) hns rfl<|wfp 6 rfl (ps 11 rfl rfl rfl) hns rfl<|wfp 7 rfl (ps 11 rfl rfl rfl) hns rfl<|wfp 8 rfl (ps 11 rfl rfl rfl) hns rfl<|wfv 9 rfl (Aw (b:=true) rfl rfl) gn hns rfl ?_
  refine wfv 10 rfl (Ae rfl) gn hns rfl<|wfp 11 rfl (ps 17 rfl rfl rfl) hns rfl<|wfp 12 rfl (ps 17 rfl rfl rfl) hns rfl<|wfp 13 rfl (ps 17 rfl rfl rfl) hns rfl<|wfp 14 rfl (ps 17 rfl rfl rfl) hns rfl<|wfp 15 rfl (ps 17 rfl rfl rfl) hns rfl<|wfp 16 rfl (ps 17 rfl rfl rfl) hns rfl<|wfp 17 rfl (ps 17 rfl rfl rfl) hns rfl<|wfv 18 rfl (Aw (b:=true) rfl rfl) gn hns rfl<|Et (by kernel_rfl) ?_
  exact D6 [0,1] (j1 true h) ⟨rfl,rfl,trivial⟩ (.cons_cons _ (.slnil)) rfl
 ·have h:=Am hp391 h
  by_cases hp392:(x1.conds.length:Int) > 16
  ·have h:=Ap hp392 h
   have hns:Region.noSelect (Code.ops q24c5)=true:=by kernel_rfl
   refine J7 [] 19 rfl rfl mix rfl (.c 0 rfl (.c 1 rfl .n))<|wfv 0 rfl (Bd Ew rfl) gn hns rfl<|wfv 1 rfl (Au 0 Kr rfl rfl rfl) gn hns rfl<|wfv 2 rfl (D5 Tm rfl h5.hq) gn hns rfl<|wfv 3 rfl (Ba rfl rfl rfl) gn hns rfl<|wfv 4 rfl (Ae rfl) gn hns rfl<|Xk 11 rfl ((decide_eq_false hp391))<|wfv 5 rfl (Bd Ik rfl) (gy 11 rfl rfl) hns rfl<|wfv 6 rfl (Au 0 U8 rfl rfl rfl) (gy 11 rfl rfl) hns rfl<|wfv 7 rfl (D5 Yu rfl h9.hq) (gy 11 rfl rfl) hns rfl<|wfv 8 rfl (Ba rfl rfl rfl) (gy 11 rfl rfl) hns rfl<|wfv 9 rfl (Aw (b:=false) rfl rfl) gn hns rfl ?_
   refine wfv 10 rfl (Ae rfl) gn hns rfl<|Xk 17 rfl ((decide_eq_true hp392))<|wfp 11 rfl (ps 17 rfl rfl rfl) hns rfl<|wfp 12 rfl (ps 17 rfl rfl rfl) hns rfl<|wfp 13 rfl (ps 17 rfl rfl rfl) hns rfl<|wfp 14 rfl (ps 17 rfl rfl rfl) hns rfl<|wfp 15 rfl (ps 17 rfl rfl rfl) hns rfl<|wfp 16 rfl (ps 17 rfl rfl rfl) hns rfl<|wfp 17 rfl (ps 17 rfl rfl rfl) hns rfl<|wfv 18 rfl (Aw (b:=true) rfl rfl) gn hns rfl<|Et (by kernel_rfl) ?_
   exact D6 [0,1] (j1 true h) ⟨rfl,rfl,trivial⟩ (.cons_cons _ (.slnil)) rfl
  ·have h:=Am hp392 h
   obtain ⟨r396,hv397,h⟩:=h
   have hns:Region.noSelect (Code.ops q24c5)=true:=by kernel_rfl
   refine J7 [] 19 rfl rfl mix rfl (.c 0 rfl (.c 1 rfl .n))<|wfv 0 rfl (Bd Ew rfl) gn hns rfl<|wfv 1 rfl (Au 0 Kr rfl rfl rfl) gn hns rfl<|wfv 2 rfl (D5 Tm rfl h5.hq) gn hns rfl<|wfv 3 rfl (Ba rfl rfl rfl) gn hns rfl<|wfv 4 rfl (Ae rfl) gn hns rfl<|Xk 11 rfl ((decide_eq_false hp391))<|wfv 5 rfl (Bd Ik rfl) (gy 11 rfl rfl) hns rfl<|wfv 6 rfl (Au 0 U8 rfl rfl rfl) (gy 11 rfl rfl) hns rfl<|wfv 7 rfl (D5 Yu rfl h9.hq) (gy 11 rfl rfl) hns rfl<|wfv 8 rfl (Ba rfl rfl rfl) (gy 11 rfl rfl) hns rfl<|wfv 9 rfl (Aw (b:=false) rfl rfl) gn hns rfl ?_
   refine wfv 10 rfl (Ae rfl) gn hns rfl<|Xk 17 rfl ((decide_eq_false hp392))<|wfv 11 rfl (Bd Ew rfl) (gy 17 rfl rfl) hns rfl<|wfv 12 rfl (Au 0 Kr rfl rfl rfl) (gy 17 rfl rfl) hns rfl<|wfv 14 rfl (Bd Ew rfl) (gy 17 rfl rfl) hns rfl<|wfv 15 rfl (Au 0 Kr rfl rfl rfl) (gy 17 rfl rfl) hns rfl<|wfv 16 rfl (D5 Tm rfl h5.hq) (gy 17 rfl rfl) hns rfl ?_
   refine Cf [13] (by kernel_rfl) rfl ⟨Ej 13 rfl (gy 17 rfl rfl) rfl (D7 [.slice A2 n3 c4,.int .i64 0] rfl Tryd.func54 rfl rfl rfl fun w455 hL456=>?_),trivial⟩
   have hp457:=pmI hL456 .n (.c 0 rfl .n) (by kernel_rfl)
   refine Calls.mono (Xc2 w455 (Fl ([]:List Cc)) x1.nodes 0 A2 n3 c4 (Rw.mono h5 (hL456.toSt hp457 (me 1 rfl))) (hL456.hFl hp457 (Bf [] rfl)) (hL456.into hp457 _) r396 hv397) ?_
   rintro _ w458 ⟨rfl,hM459⟩
   have hL460:=hL456.call hp457 hM459
   refine ⟨_,_,_,rfl,hL460,?_⟩
   refine ⟨Bf [0] rfl,Bf [0,1] rfl,?_⟩
   refine wfv 17 rfl (Ba rfl rfl rfl) (gy 17 rfl rfl) hns rfl<|wfv 18 rfl (Aw (b:=false) rfl rfl) gn hns rfl<|Et (by kernel_rfl) ?_
   exact D6 [0,1] (j1 (r396 != (x1.nodes.length:Int)) h) ⟨rfl,rfl,trivial⟩ (.cons_cons _ (.slnil)) rfl
noncomputable abbrev q62c3:=Code.fst (Code.snd (Df Tryd.f62))
noncomputable abbrev q62c4:=Code.snd (Code.snd (Df Tryd.f62))
noncomputable abbrev Xbi:=Code.snd (Code.snd q62c4)
noncomputable abbrev Va:=Code.fst (Code.fst (Code.snd (Code.fst (Code.snd q62c4))))
noncomputable abbrev Xcv:=Code.snd (Code.snd (Code.snd Va))
noncomputable abbrev Xkb:=Code.snd (Code.snd (Code.snd (Code.fst (Code.fst (Code.snd (Code.snd Va))))))
noncomputable abbrev q62c40:=Code.fst (Code.snd Xkb)
noncomputable abbrev q62c41:=Code.snd (Code.snd Xkb)
noncomputable abbrev Xba:=Code.fst (Code.fst q62c41)
noncomputable abbrev q62c51:=Code.fst (Code.fst (Code.snd Xba))
noncomputable abbrev q62c52:=Code.snd (Code.fst (Code.snd Xba))
noncomputable abbrev q62c57:=Code.fst (Code.fst (Code.snd (Code.fst (Code.snd (Code.snd (Code.fst (Code.fst (Code.snd (Code.snd Va)))))))))
abbrev Y9 (w:World) (F:Nat→Prop) (r:Fj):Ending→World→Prop:=fun e w'=>∃ A1:Option Addr,∃ n1:Nat,∃ c1:Nat,∃ A2:Option Addr,∃ n2:Nat,∃ c2:Nat,∃ A0:Option Addr,∃ n0:Nat,∃ c0:Nat,e=.returned (.agg #[.slice A0 n0 c0,.slice A1 n1 c1,.slice A2 n2 c2,.bool r.ok])∧B.Loc w w' [.own (.slice A1 n1 c1) 3 1 n1 (r.parent.flatMap (eI .i64)),.own (.slice A2 n2 c2) 3 1 n2 (r.end_.flatMap (eI .i64))] [St w []]∧Ow w.heap.size A1 n1 c1 r.parent∧Ow w.heap.size A2 n2 c2 r.end_∧Rw D9 w' (Nw w w' F [.own (.slice A1 n1 c1) 3 1 n1 (r.parent.flatMap (eI .i64)),.own (.slice A2 n2 c2) 3 1 n2 (r.end_.flatMap (eI .i64))]) A0 n0 c0 r.nodes
noncomputable abbrev Lr (w:World) (F:Nat→Prop) (r:Fj):Cx:=⟨Tryd.prog,62,Tryd.f62,100,Y9 w F  r,w⟩
theorem X8 (w:World) (F:Nat→Prop) (x1:List Ai) (A2:Option Addr) (n3:Nat) (c4:Nat) (h5:Rw D9 w F A2 n3 c4 x1) (hF:∀ b,F b→b < w.heap.size∧∀ o ∈ ([]:List (List Nat)),b ∉ o) (hL0:B.Loc w w [] [Sm w.heap.size F w [],St w []]) (r:Fj) (h:Vo x1 r):Calls Tryd.prog 62 #[.slice A2 n3 c4] w (Y9 w F  r):=by
 unfold Vo at h
 have h5:=Rw.into (bs:=[]) hF h5
 refine Bl (vs:=[.slice A2 n3 c4]) 100 Tryd.func62 rfl Tryd.ntmps62 rfl hL0 ?_
 show G (Lr w F r) _ _ _ _
 refine Ag rfl<|Ac rfl rfl ?_
 refine Ci 0 rfl (G9 [.slice none 0 0,.slice none 0 0,.slice none 0 0,.bool false] Xez rfl fun gb6=>?_) gn
 refine Ah 1 rfl<|Ag rfl ?_
 obtain ⟨hb8,h⟩:=h
 obtain ⟨x12,hv13,h⟩:=h
 obtain ⟨x17,hv18,h⟩:=h
 have d1:∀ (gb76:Nat) (A77:Option Addr) (n78:Nat) (c79:Nat) (h80:Ow w.heap.size A77 n78 c79 x12) (A81:Option Addr) (n82:Nat) (c83:Nat) (h84:Ow w.heap.size A81 n82 c83 x17),G (Lr w F r) [.code q62c4] [(0,.slice A2 n3 c4),(2,.pointer (some ⟨gb6,0,none⟩)),(3,.pointer (some ⟨gb76,0,none⟩))] [.box gb76 92 [.slice A2 n3 c4,.slice A77 n78 c79,.slice A81 n82 c83,.bool false],.own (.slice A81 n82 c83) 3 1 n82 (x17.flatMap (eI .i64)),.own (.slice A77 n78 c79) 3 1 n78 (x12.flatMap (eI .i64)),.box gb6 92 [.slice none 0 0,.slice none 0 0,.slice none 0 0,.bool false]] [Sm w.heap.size F w [],St w []]:=by
  intro gb76 A77 n78 c79 h80 A81 n82 c83 h84
  refine Ag rfl<|Ac rfl rfl<|Aa 0 rfl (Af rfl) gn rfl<|Aa 1 rfl (Af rfl) gn rfl<|Ah 2 rfl<|Ag rfl<|Ag rfl<|Ac rfl rfl<|Aa 0 rfl (Ae rfl) gn rfl<|Aa 1 rfl (D5 V3 rfl h5.hq) gn rfl<|Aa 2 rfl (Ae rfl) gn rfl<|Ah 3 rfl ?_
  refine Bv rfl<|Ei rfl ?_
  have key1:∀ s,Ar (fun (s:(List Int) × (List Int) × Int × (List Int) × (List Int)) o=>Jr x1 s.1 s.2.1 s.2.2.1 s.2.2.2.1 s.2.2.2.2 o) s r→(fun (s:(List Int) × (List Int) × Int × (List Int) × (List Int))=>∀ (A346:Option Addr) (n347:Nat) (c348:Nat) (h349:Ow w.heap.size A346 n347 c348 s.1) (A351:Option Addr) (n352:Nat) (c353:Nat) (h354:Ow w.heap.size A351 n352 c353 s.2.1) (h357:Ow w.heap.size A77 n78 c79 s.2.2.2.1) (h359:Ow w.heap.size A81 n82 c83 s.2.2.2.2),G (Lr w F r) [.code Va,.inLoop Va,.inBlock 0,.code Xbi] [(2,.pointer (some ⟨gb6,0,none⟩)),(3,.pointer (some ⟨gb76,0,none⟩)),(4,.slice A346 n347 c348),(5,.slice A351 n352 c353),(16,.slice A2 n3 c4),(17,.int .i64 (x1.length:Int)),(18,.int .i64 s.2.2.1)] [.own (.slice A346 n347 c348) 3 1 n347 (s.1.flatMap (eI .i64)),.own (.slice A351 n352 c353) 3 1 n352 (s.2.1.flatMap (eI .i64)),.box gb76 92 [.slice A2 n3 c4,.slice A77 n78 c79,.slice A81 n82 c83,.bool false],.own (.slice A81 n82 c83) 3 1 n82 (s.2.2.2.2.flatMap (eI .i64)),.own (.slice A77 n78 c79) 3 1 n78 (s.2.2.2.1.flatMap (eI .i64)),.box gb6 92 [.slice none 0 0,.slice none 0 0,.slice none 0 0,.bool false]] [Sm w.heap.size F w [],St w []]) s:=by
   intro s hs
   refine Ar.ind (mot:=(fun (s:(List Int) × (List Int) × Int × (List Int) × (List Int))=>∀ (A346:Option Addr) (n347:Nat) (c348:Nat) (h349:Ow w.heap.size A346 n347 c348 s.1) (A351:Option Addr) (n352:Nat) (c353:Nat) (h354:Ow w.heap.size A351 n352 c353 s.2.1) (h357:Ow w.heap.size A77 n78 c79 s.2.2.2.1) (h359:Ow w.heap.size A81 n82 c83 s.2.2.2.2),G (Lr w F r) [.code Va,.inLoop Va,.inBlock 0,.code Xbi] [(2,.pointer (some ⟨gb6,0,none⟩)),(3,.pointer (some ⟨gb76,0,none⟩)),(4,.slice A346 n347 c348),(5,.slice A351 n352 c353),(16,.slice A2 n3 c4),(17,.int .i64 (x1.length:Int)),(18,.int .i64 s.2.2.1)] [.own (.slice A346 n347 c348) 3 1 n347 (s.1.flatMap (eI .i64)),.own (.slice A351 n352 c353) 3 1 n352 (s.2.1.flatMap (eI .i64)),.box gb76 92 [.slice A2 n3 c4,.slice A77 n78 c79,.slice A81 n82 c83,.bool false],.own (.slice A81 n82 c83) 3 1 n82 (s.2.2.2.2.flatMap (eI .i64)),.own (.slice A77 n78 c79) 3 1 n78 (s.2.2.2.1.flatMap (eI .i64)),.box gb6 92 [.slice none 0 0,.slice none 0 0,.slice none 0 0,.bool false]] [Sm w.heap.size F w [],St w []])) ?_ hs
   clear hs s
   intro s o1 h hO1
   obtain ⟨x345,x350,x355,x356,x358⟩:=s
   show ∀ (A346:Option Addr) (n347:Nat) (c348:Nat) (h349:Ow w.heap.size A346 n347 c348 x345) (A351:Option Addr) (n352:Nat) (c353:Nat) (h354:Ow w.heap.size A351 n352 c353 x350) (h357:Ow w.heap.size A77 n78 c79 x356) (h359:Ow w.heap.size A81 n82 c83 x358),G (Lr w F r) [.code Va,.inLoop Va,.inBlock 0,.code Xbi] [(2,.pointer (some ⟨gb6,0,none⟩)),(3,.pointer (some ⟨gb76,0,none⟩)),(4,.slice A346 n347 c348),(5,.slice A351 n352 c353),(16,.slice A2 n3 c4),(17,.int .i64 (x1.length:Int)),(18,.int .i64 x355)] [.own (.slice A346 n347 c348) 3 1 n347 (x345.flatMap (eI .i64)),.own (.slice A351 n352 c353) 3 1 n352 (x350.flatMap (eI .i64)),.box gb76 92 [.slice A2 n3 c4,.slice A77 n78 c79,.slice A81 n82 c83,.bool false],.own (.slice A81 n82 c83) 3 1 n82 (x358.flatMap (eI .i64)),.own (.slice A77 n78 c79) 3 1 n78 (x356.flatMap (eI .i64)),.box gb6 92 [.slice none 0 0,.slice none 0 0,.slice none 0 0,.bool false]] [Sm w.heap.size F w [],St w []]
   intro A346 n347 c348 h349 A351 n352 c353 h354 h357 h359
   have h:Jr x1 x345 x350 x355 x356 x358 o1:=h
   unfold Jr at h
   refine Ag rfl<|Ac rfl rfl<|Aa 0 rfl (Ba rfl rfl rfl) gn rfl<|Ah 1 rfl<|Ag rfl ?_
   by_cases hp630:x355 < (x1.length:Int)
   ·have h:=Ap hp630 h
    refine Bi rfl _ rfl ((decide_eq_true hp630))<|Bo rfl<|Ag rfl<|Bv rfl<|Ag rfl<|Ac rfl rfl<|Aa 0 rfl (Ae rfl) gn rfl ?_
    obtain ⟨hb631,h⟩:=h
    have hr632:=Rw.readF (s:=Sm w.heap.size F w []) (hl:=Fh) (h1:=Gg) h5 hb631
    refine Aa 1 rfl (Ef (s:=Sm w.heap.size F w []) Ro rfl rfl h5 hb631) gn rfl<|Aa 2 rfl (Q8 (Sm w.heap.size F w []) Xb5 rfl hr632 rfl (me 0 rfl)) gn rfl ?_
    refine Ci 3 rfl (G9 [.string (⟨#[]⟩:ByteArray),.bool false,.string (⟨#[]⟩:ByteArray),.int .i64 0,.int .i64 0,.int .i64 0,.int .i64 0] zr_56 rfl fun gb633=>?_) gn
    refine Aa 4 rfl (Af rfl) gn rfl ?_
    refine Ci 5 rfl (I9 (vs:=[.string ((ix x1 x355).name),.bool ((ix x1 x355).named),.string ((ix x1 x355).field),.int .i64 ((ix x1 x355).from_),.int .i64 ((ix x1 x355).to),.int .i64 ((ix x1 x355).kids),.int .i64 ((ix x1 x355).leaf)]) (cs':=[.string ((ix x1 x355).name),.bool ((ix x1 x355).named),.string ((ix x1 x355).field),.int .i64 ((ix x1 x355).from_),.int .i64 ((ix x1 x355).to),.int .i64 ((ix x1 x355).kids),.int .i64 ((ix x1 x355).leaf)]) (M':=[.box gb633 56 [.string ((ix x1 x355).name),.bool ((ix x1 x355).named),.string ((ix x1 x355).field),.int .i64 ((ix x1 x355).from_),.int .i64 ((ix x1 x355).to),.int .i64 ((ix x1 x355).kids),.int .i64 ((ix x1 x355).leaf)],.own (.slice A346 n347 c348) 3 1 n347 (x345.flatMap (eI .i64)),.own (.slice A351 n352 c353) 3 1 n352 (x350.flatMap (eI .i64)),.box gb76 92 [.slice A2 n3 c4,.slice A77 n78 c79,.slice A81 n82 c83,.bool false],.own (.slice A81 n82 c83) 3 1 n82 (x358.flatMap (eI .i64)),.own (.slice A77 n78 c79) 3 1 n78 (x356.flatMap (eI .i64)),.box gb6 92 [.slice none 0 0,.slice none 0 0,.slice none 0 0,.bool false]]) 0 sz_56 rfl rfl rfl rfl rfl rfl rfl rfl rfl ?_) gn
    refine Ah 6 rfl<|Ag rfl<|Ac rfl rfl<|Aa 0 rfl (Bd Xlf rfl) gn rfl<|Aa 1 rfl (Au 3 Xm rfl rfl rfl) gn rfl<|Aa 2 rfl (Ae rfl) gn rfl ?_
    obtain ⟨hb635,h⟩:=h
    refine Aa 3 rfl (Ec Jb rfl rfl h357 hb635) gn rfl ?_
    obtain ⟨x636,hv637,h⟩:=h
    refine Ci 4 rfl (Uy (enc:=(eI .i64)) (o:=0) (z:=(-1)) (vs:=[.int .i64 (-1)]) (i:=x355) 5 (hlI .i64) sz_3 rfl rfl rfl rfl rfl h357 hb635 rfl rfl rfl hv637 fun h638=>?_) gn
    refine Ah 5 rfl<|Ag rfl<|Ag rfl<|Ac rfl rfl<|Aa 0 rfl (Ae rfl) gn rfl<|Aa 1 rfl (D5 Iy rfl h349.hq) gn rfl<|Aa 2 rfl (Ba rfl rfl rfl) gn rfl<|Ah 3 rfl ?_
    have j2:∀ (x652:List Int) (x654:List Int) (h:Jd x1 x355 x358 x345 x652 x654 o1) (h653:Ow w.heap.size A351 n352 c353 x652) (h655:Ow w.heap.size A77 n78 c79 x654),G (Lr w F r) [.code Xkb,.inBlock 1,.code Xcv,.inLoop Va,.inBlock 0,.code Xbi] [(2,.pointer (some ⟨gb6,0,none⟩)),(3,.pointer (some ⟨gb76,0,none⟩)),(4,.slice A346 n347 c348),(5,.slice A351 n352 c353),(6,.int .i64 x355),(7,.pointer (some ⟨gb633,0,none⟩)),(16,.slice A2 n3 c4),(17,.int .i64 (x1.length:Int)),(18,.int .i64 x355)] [.box gb633 56 [.string ((ix x1 x355).name),.bool ((ix x1 x355).named),.string ((ix x1 x355).field),.int .i64 ((ix x1 x355).from_),.int .i64 ((ix x1 x355).to),.int .i64 ((ix x1 x355).kids),.int .i64 ((ix x1 x355).leaf)],.own (.slice A346 n347 c348) 3 1 n347 (x345.flatMap (eI .i64)),.own (.slice A351 n352 c353) 3 1 n352 (x652.flatMap (eI .i64)),.box gb76 92 [.slice A2 n3 c4,.slice A77 n78 c79,.slice A81 n82 c83,.bool false],.own (.slice A81 n82 c83) 3 1 n82 (x358.flatMap (eI .i64)),.own (.slice A77 n78 c79) 3 1 n78 (x654.flatMap (eI .i64)),.box gb6 92 [.slice none 0 0,.slice none 0 0,.slice none 0 0,.bool false]] [Sm w.heap.size F w [],St w []]:=by
     intro x652 x654 h h653 h655
     unfold Jd at h
     refine Ag rfl<|Ag rfl<|Ac rfl rfl<|Aa 0 rfl (Bd Xas rfl) gn rfl<|Aa 1 rfl (Au 0 O9 rfl rfl rfl) gn rfl<|Aa 2 rfl (Ba rfl rfl rfl) gn rfl<|Ah 3 rfl ?_
     by_cases hp656:(ix x1 x355).kids < 0
     ·have h:=Ap hp656 h
      refine Bi rfl _ rfl ((decide_eq_true hp656))<|Ag rfl<|Ac rfl rfl<|Aa 0 rfl (Ji [.slice A2 n3 c4,.slice A77 n78 c79,.slice A81 n82 c83,.bool false] 3 Xg7 rfl rfl rfl rfl) gn rfl ?_
      refine Ci 1 rfl (I9 (vs:=[.slice A2 n3 c4,.slice A77 n78 c79,.slice A81 n82 c83,.bool false]) (cs':=[.slice A2 n3 c4,.slice A77 n78 c79,.slice A81 n82 c83,.bool false]) (M':=[.box gb633 56 [.string ((ix x1 x355).name),.bool ((ix x1 x355).named),.string ((ix x1 x355).field),.int .i64 ((ix x1 x355).from_),.int .i64 ((ix x1 x355).to),.int .i64 ((ix x1 x355).kids),.int .i64 ((ix x1 x355).leaf)],.own (.slice A346 n347 c348) 3 1 n347 (x345.flatMap (eI .i64)),.own (.slice A351 n352 c353) 3 1 n352 (x652.flatMap (eI .i64)),.box gb76 92 [.slice A2 n3 c4,.slice A77 n78 c79,.slice A81 n82 c83,.bool false],.own (.slice A81 n82 c83) 3 1 n82 (x358.flatMap (eI .i64)),.own (.slice A77 n78 c79) 3 1 n78 (x654.flatMap (eI .i64)),.box gb6 92 [.slice A2 n3 c4,.slice A77 n78 c79,.slice A81 n82 c83,.bool false]]) 6 Xc9 rfl rfl rfl rfl rfl rfl rfl rfl rfl ?_) gn
      refine Ah 2 rfl ?_
      have h:=Out.inr hO1 h
      refine Bg [.agg #[.slice A2 n3 c4,.slice A77 n78 c79,.slice A81 n82 c83,.bool false]] rfl Tryd.func62 rfl (.cell (cs:=[.slice A2 n3 c4,.slice A77 n78 c79,.slice A81 n82 c83,.bool false]) (us:=[.slice A2 n3 c4,.slice A77 n78 c79,.slice A81 n82 c83,.bool false]) 6 rfl Xg7 rfl rfl rfl (.nil)) fun wr hLr=>?_
      have hMr:=hLr.pkI (.c 5 rfl (.c 4 rfl .n)) (.c 0 rfl (.c 1 rfl (.c 2 rfl (.c 3 rfl (.c 6 rfl .n))))) (by kernel_rfl) (.c 1 rfl .n)
      have hMi:=hLr.selI (.c 5 rfl (.c 4 rfl .n))
      show Y9 w F  r (.returned (Bz [.agg #[.slice A2 n3 c4,.slice A77 n78 c79,.slice A81 n82 c83,.bool false]])) wr
      rw [h]
      exact ⟨A77,n78,c79,A81,n82,c83,A2,n3,c4,rfl,hMr,h655,h359,(hLr.outR (s:=Sm w.heap.size F w []) hMi (me 0 rfl) Sm.ok h5)⟩
     ·have h:=Am hp656 h
      refine Bc rfl _ rfl ((decide_eq_false hp656))<|Bo rfl<|Ag rfl ?_
      obtain ⟨x663,hv664,h⟩:=h
      obtain ⟨hb665,h⟩:=h
      obtain ⟨x672,hv673,h⟩:=h
      obtain ⟨hb674,h⟩:=h
      have d4:∀ (A729:Option Addr) (n730:Nat) (c731:Nat) (h732:Ow w.heap.size A729 n730 c731 x663) (A733:Option Addr) (n734:Nat) (c735:Nat) (h736:Ow w.heap.size A733 n734 c735 x672),G (Lr w F r) [.code q62c41,.inBlock 1,.code Xcv,.inLoop Va,.inBlock 0,.code Xbi] [(2,.pointer (some ⟨gb6,0,none⟩)),(3,.pointer (some ⟨gb76,0,none⟩)),(4,.slice A729 n730 c731),(5,.slice A733 n734 c735),(6,.int .i64 x355),(16,.slice A2 n3 c4),(17,.int .i64 (x1.length:Int)),(18,.int .i64 x355)] [.own (.slice A729 n730 c731) 3 1 n730 (x663.flatMap (eI .i64)),.own (.slice A733 n734 c735) 3 1 n734 (x672.flatMap (eI .i64)),.box gb76 92 [.slice A2 n3 c4,.slice A77 n78 c79,.slice A81 n82 c83,.bool false],.own (.slice A81 n82 c83) 3 1 n82 (x358.flatMap (eI .i64)),.own (.slice A77 n78 c79) 3 1 n78 (x654.flatMap (eI .i64)),.box gb6 92 [.slice none 0 0,.slice none 0 0,.slice none 0 0,.bool false]] [Sm w.heap.size F w [],St w []]:=by
       intro A729 n730 c731 h732 A733 n734 c735 h736
       refine Bv rfl<|Ei rfl ?_
       have key3:∀ s,Ar (fun (s:(List Int) × (List Int) × (List Int)) o=>Je x355 x654 s.1 s.2.1 s.2.2 o) s o1→(fun (s:(List Int) × (List Int) × (List Int))=>∀ (A767:Option Addr) (n768:Nat) (c769:Nat) (h770:Ow w.heap.size A767 n768 c769 s.1) (A772:Option Addr) (n773:Nat) (c774:Nat) (h775:Ow w.heap.size A772 n773 c774 s.2.1) (h777:Ow w.heap.size A81 n82 c83 s.2.2),G (Lr w F r) [.code Xba,.inLoop Xba,.inBlock 2,.inBlock 1,.code Xcv,.inLoop Va,.inBlock 0,.code Xbi] [(2,.pointer (some ⟨gb6,0,none⟩)),(3,.pointer (some ⟨gb76,0,none⟩)),(4,.slice A767 n768 c769),(5,.slice A772 n773 c774),(6,.int .i64 x355),(16,.slice A2 n3 c4),(17,.int .i64 (x1.length:Int)),(18,.int .i64 x355)] [.own (.slice A767 n768 c769) 3 1 n768 (s.1.flatMap (eI .i64)),.own (.slice A772 n773 c774) 3 1 n773 (s.2.1.flatMap (eI .i64)),.box gb76 92 [.slice A2 n3 c4,.slice A77 n78 c79,.slice A81 n82 c83,.bool false],.own (.slice A81 n82 c83) 3 1 n82 (s.2.2.flatMap (eI .i64)),.own (.slice A77 n78 c79) 3 1 n78 (x654.flatMap (eI .i64)),.box gb6 92 [.slice none 0 0,.slice none 0 0,.slice none 0 0,.bool false]] [Sm w.heap.size F w [],St w []]) s:=by
        intro s hs
        refine Ar.ind (mot:=(fun (s:(List Int) × (List Int) × (List Int))=>∀ (A767:Option Addr) (n768:Nat) (c769:Nat) (h770:Ow w.heap.size A767 n768 c769 s.1) (A772:Option Addr) (n773:Nat) (c774:Nat) (h775:Ow w.heap.size A772 n773 c774 s.2.1) (h777:Ow w.heap.size A81 n82 c83 s.2.2),G (Lr w F r) [.code Xba,.inLoop Xba,.inBlock 2,.inBlock 1,.code Xcv,.inLoop Va,.inBlock 0,.code Xbi] [(2,.pointer (some ⟨gb6,0,none⟩)),(3,.pointer (some ⟨gb76,0,none⟩)),(4,.slice A767 n768 c769),(5,.slice A772 n773 c774),(6,.int .i64 x355),(16,.slice A2 n3 c4),(17,.int .i64 (x1.length:Int)),(18,.int .i64 x355)] [.own (.slice A767 n768 c769) 3 1 n768 (s.1.flatMap (eI .i64)),.own (.slice A772 n773 c774) 3 1 n773 (s.2.1.flatMap (eI .i64)),.box gb76 92 [.slice A2 n3 c4,.slice A77 n78 c79,.slice A81 n82 c83,.bool false],.own (.slice A81 n82 c83) 3 1 n82 (s.2.2.flatMap (eI .i64)),.own (.slice A77 n78 c79) 3 1 n78 (x654.flatMap (eI .i64)),.box gb6 92 [.slice none 0 0,.slice none 0 0,.slice none 0 0,.bool false]] [Sm w.heap.size F w [],St w []])) ?_ hs
        clear hs s
        intro s o2 h hO2
        obtain ⟨x766,x771,x776⟩:=s
        show ∀ (A767:Option Addr) (n768:Nat) (c769:Nat) (h770:Ow w.heap.size A767 n768 c769 x766) (A772:Option Addr) (n773:Nat) (c774:Nat) (h775:Ow w.heap.size A772 n773 c774 x771) (h777:Ow w.heap.size A81 n82 c83 x776),G (Lr w F r) [.code Xba,.inLoop Xba,.inBlock 2,.inBlock 1,.code Xcv,.inLoop Va,.inBlock 0,.code Xbi] [(2,.pointer (some ⟨gb6,0,none⟩)),(3,.pointer (some ⟨gb76,0,none⟩)),(4,.slice A767 n768 c769),(5,.slice A772 n773 c774),(6,.int .i64 x355),(16,.slice A2 n3 c4),(17,.int .i64 (x1.length:Int)),(18,.int .i64 x355)] [.own (.slice A767 n768 c769) 3 1 n768 (x766.flatMap (eI .i64)),.own (.slice A772 n773 c774) 3 1 n773 (x771.flatMap (eI .i64)),.box gb76 92 [.slice A2 n3 c4,.slice A77 n78 c79,.slice A81 n82 c83,.bool false],.own (.slice A81 n82 c83) 3 1 n82 (x776.flatMap (eI .i64)),.own (.slice A77 n78 c79) 3 1 n78 (x654.flatMap (eI .i64)),.box gb6 92 [.slice none 0 0,.slice none 0 0,.slice none 0 0,.bool false]] [Sm w.heap.size F w [],St w []]
        intro A767 n768 c769 h770 A772 n773 c774 h775 h777
        have h:Je x355 x654 x766 x771 x776 o2:=h
        unfold Je at h
        refine Ag rfl<|Ag rfl<|Ac rfl rfl<|Aa 0 rfl (Ae rfl) gn rfl<|Aa 1 rfl (D5 Iy rfl h770.hq) gn rfl<|Aa 2 rfl (Ba rfl rfl rfl) gn rfl<|Aa 3 rfl (Ae rfl) gn rfl ?_
        by_cases hp806:(x766.length:Int) > 0
        ·have h:=Ap hp806 h
         refine Bh 64 rfl ((decide_eq_true hp806))<|Aa 4 rfl (Ae rfl) (gy 64 rfl rfl) rfl<|Aa 5 rfl (Ae rfl) (gy 64 rfl rfl) rfl<|Aa 6 rfl (D5 Iy rfl h775.hq) (gy 64 rfl rfl) rfl<|Aa 7 rfl (Ba rfl rfl rfl) (gy 64 rfl rfl) rfl ?_
         obtain ⟨hb807,h⟩:=h
         refine Aa 8 rfl (Ec Jb rfl rfl h775 hb807) (gy 64 rfl rfl) rfl<|Aa 9 rfl (Py (.int .i64 (ix x771 (w64 ((x771.length:Int) - 1)))) 1 O9 rfl rfl (U6 (hlI .i64) hb807 rfl)) (gy 64 rfl rfl) rfl<|Aa 10 rfl (Ba rfl rfl rfl) (gy 64 rfl rfl) rfl<|Aa 11 rfl (Aw (b:=true) rfl rfl) gn rfl<|Ah 12 rfl ?_
         by_cases hp808:ix x771 (w64 ((x771.length:Int) - 1))=0
         ·have h:=Ap hp808 h
          refine Bi rfl _ rfl ((eqi hp808))<|Bo rfl<|Bv rfl<|Ag rfl ?_
          obtain ⟨hb809,h⟩:=h
          obtain ⟨hb810,h⟩:=h
          obtain ⟨x811,hv812,h⟩:=h
          have hns:Region.noSelect (Code.ops q62c51)=true:=by kernel_rfl
          refine J7 [11] 12 rfl rfl mix rfl (.c 0 rfl (.c 1 rfl .n))<|wfv 0 rfl (Bd Xib rfl) gn hns (by kernel_rfl)<|wfv 1 rfl (Au 2 Xm rfl rfl rfl) gn hns (by kernel_rfl)<|wfv 2 rfl (Ae rfl) gn hns (by kernel_rfl)<|wfv 3 rfl (Ae rfl) gn hns (by kernel_rfl)<|wfv 4 rfl (D5 Iy rfl h770.hq) gn hns (by kernel_rfl)<|wfv 5 rfl (Ba rfl rfl rfl) gn hns (by kernel_rfl)<|wfv 6 rfl (Ec Jb rfl rfl h770 hb809) gn hns (by kernel_rfl)<|wfv 7 rfl (Py (.int .i64 (ix x766 (w64 ((x766.length:Int) - 1)))) 0 O9 rfl rfl (U6 (hlI .i64) hb809 rfl)) gn hns (by kernel_rfl)<|wfv 8 rfl (Ae rfl) gn hns (by kernel_rfl)<|wfv 9 rfl (Ba rfl rfl rfl) gn hns (by kernel_rfl)<|wfv 10 rfl (Ec Jb rfl rfl h777 hb810) gn hns (by kernel_rfl) ?_
          refine Cf [11] (by kernel_rfl) rfl ⟨Ut 11 rfl gn rfl (Uy (enc:=(eI .i64)) (o:=0) (z:=(w64 (x355 + 1))) (vs:=[.int .i64 (w64 (x355 + 1))]) (i:=(ix x766 (w64 ((x766.length:Int) - 1)))) 3 (hlI .i64) sz_3 rfl rfl rfl rfl rfl h777 hb810 rfl rfl rfl hv812 fun h815=>?_),trivial⟩
          unfold NxL
          refine Et (by kernel_rfl) ?_
          obtain ⟨hb816,h⟩:=h
          obtain ⟨x818,hv819,h⟩:=h
          obtain ⟨hb821,h⟩:=h
          obtain ⟨x823,hv824,h⟩:=h
          have hns:Region.noSelect (Code.ops q62c52)=true:=by kernel_rfl
          refine J7 [] 12 rfl rfl mix rfl (.c 0 rfl (.c 1 rfl .n))<|wfv 0 rfl (Ae rfl) gn hns rfl<|wfv 1 rfl (Ae rfl) gn hns rfl<|wfv 2 rfl (D5 Iy rfl h770.hq) gn hns rfl<|wfv 3 rfl (Ba rfl rfl rfl) gn hns rfl ?_
          have hle830:(w64 ((x766.length:Int) - 1):Int).toNat≤n768:=by have q:=hb816; have q1:=h770.hq; omega
          have h831:Ow w.heap.size A767 (w64 ((x766.length:Int) - 1):Int).toNat c769 x818:=Ow.w (Ow.cut h770 hle830) (by rw [hv819])
          refine wfv 4 rfl (Xc (i:=w64 ((x766.length:Int) - 1)) Jb rfl rfl (by have q:=hb816; have q1:=h770.hq; have q2:=h770.hn; omega) h770.hn rfl) gn hns rfl<|wfv 5 rfl (Ae rfl) gn hns rfl<|wfv 6 rfl (Ae rfl) gn hns rfl<|wfv 7 rfl (D5 Iy rfl h775.hq) gn hns rfl<|wfv 8 rfl (Ba rfl rfl rfl) gn hns rfl ?_
          have hle832:(w64 ((x771.length:Int) - 1):Int).toNat≤n773:=by have q:=hb821; have q1:=h775.hq; omega
          have h833:Ow w.heap.size A772 (w64 ((x771.length:Int) - 1):Int).toNat c774 x823:=Ow.w (Ow.cut h775 hle832) (by rw [hv824])
          refine wfv 9 rfl (Xc (i:=w64 ((x771.length:Int) - 1)) Jb rfl rfl (by have q:=hb821; have q1:=h775.hq; have q2:=h775.hn; omega) h775.hn rfl) gn hns rfl<|wfv 10 rfl (Af rfl) gn hns rfl<|wfv 11 rfl (Af rfl) gn hns rfl<|Et (by kernel_rfl)<|Bj<|Cm ?_
          have h834:Ow w.heap.size A767 ((w64 ((x766.length:Int) - 1):Int).toNat) c769 x818:=(Ow.w (Ow.cut h770 hle830) (by rw [hv819]))
          refine Xfh (j:=0) (m:=((w64 ((x766.length:Int) - 1):Int).toNat)) (cells':=x818.flatMap (eI .i64)) rfl hle830 (by rw [Xbs (hlI .i64),hv819]) ?_
          have h835:Ow w.heap.size A772 ((w64 ((x771.length:Int) - 1):Int).toNat) c774 x823:=(Ow.w (Ow.cut h775 hle832) (by rw [hv824]))
          refine Xfh (j:=1) (m:=((w64 ((x771.length:Int) - 1):Int).toNat)) (cells':=x823.flatMap (eI .i64)) rfl hle832 (by rw [Xbs (hlI .i64),hv824]) ?_
          have ih:=Out.inl hO2 h
          exact D6 [0,1] (ih A767 ((w64 ((x766.length:Int) - 1):Int).toNat) c769 h834 A772 ((w64 ((x771.length:Int) - 1):Int).toNat) c774 h835 h815) ⟨rfl,rfl,rfl,rfl,rfl,rfl,rfl,rfl,trivial⟩ (.cons_cons _ (.cons_cons _ (.cons_cons _ (.cons_cons _ (.cons_cons _ (.cons_cons _ (.slnil))))))) rfl
         ·have h:=Am hp808 h
          refine Bc rfl _ rfl ((nei hp808))<|E8 [.inBlock 1,.code Xcv,.inLoop Va,.inBlock 0,.code Xbi] rfl rfl<|Bj<|Ac rfl rfl<|Aa 0 rfl (Ba rfl rfl rfl) gn rfl<|Aa 1 rfl (Ae rfl) gn rfl<|Ah 2 rfl<|Cm ?_
          have h:=Out.inr hO2 h
          have ih:=Out.inl hO1 h
          exact D6 [0,1] (ih A767 n768 c769 h770 A772 n773 c774 h775 h655 h777) ⟨rfl,rfl,rfl,rfl,rfl,rfl,rfl,trivial⟩ (.cons_cons _ (.cons_cons _ (.cons_cons _ (.cons_cons _ (.cons_cons _ (.cons_cons _ (.slnil))))))) rfl
        ·have h:=Am hp806 h
         refine Bh 64 rfl ((decide_eq_false hp806))<|Ad 4 rfl (ps 64 rfl rfl rfl)<|Ad 5 rfl (ps 64 rfl rfl rfl)<|Ad 6 rfl (ps 64 rfl rfl rfl)<|Ad 7 rfl (ps 64 rfl rfl rfl)<|Ad 8 rfl (ps 64 rfl rfl rfl)<|Ad 9 rfl (ps 64 rfl rfl rfl)<|Ad 10 rfl (ps 64 rfl rfl rfl)<|Aa 11 rfl (Aw (b:=false) rfl rfl) gn rfl<|Ah 12 rfl<|Bc rfl _ rfl (rfl)<|E8 [.inBlock 1,.code Xcv,.inLoop Va,.inBlock 0,.code Xbi] rfl rfl ?_
         refine Bj<|Ac rfl rfl<|Aa 0 rfl (Ba rfl rfl rfl) gn rfl<|Aa 1 rfl (Ae rfl) gn rfl<|Ah 2 rfl<|Cm ?_
         have h:=Out.inr hO2 h
         have ih:=Out.inl hO1 h
         exact D6 [0,1] (ih A767 n768 c769 h770 A772 n773 c774 h775 h655 h777) ⟨rfl,rfl,rfl,rfl,rfl,rfl,rfl,trivial⟩ (.cons_cons _ (.cons_cons _ (.cons_cons _ (.cons_cons _ (.cons_cons _ (.cons_cons _ (.slnil))))))) rfl
       exact D6 [0,1] (key3 _ h A729 n730 c731 h732 A733 n734 c735 h736 h359) ⟨rfl,rfl,rfl,rfl,rfl,rfl,rfl,rfl,trivial⟩ (.cons_cons _ (.cons_cons _ (.cons_cons _ (.cons_cons _ (.cons_cons _ (.cons_cons _ (.slnil))))))) rfl
      have hns:Region.noSelect (Code.ops q62c40)=true:=by kernel_rfl
      refine Xbt [.box gb633 56 [.string ((ix x1 x355).name),.bool ((ix x1 x355).named),.string ((ix x1 x355).field),.int .i64 ((ix x1 x355).from_),.int .i64 ((ix x1 x355).to),.int .i64 ((ix x1 x355).kids),.int .i64 ((ix x1 x355).leaf)],.own (.slice A351 n352 c353) 3 1 n352 (x652.flatMap (eI .i64)),.box gb76 92 [.slice A2 n3 c4,.slice A77 n78 c79,.slice A81 n82 c83,.bool false],.own (.slice A81 n82 c83) 3 1 n82 (x358.flatMap (eI .i64)),.own (.slice A77 n78 c79) 3 1 n78 (x654.flatMap (eI .i64)),.box gb6 92 [.slice none 0 0,.slice none 0 0,.slice none 0 0,.bool false]] [Sm w.heap.size F w [],St w []] [8,9,10] 11 rfl rfl mix rfl (.cons_cons _ (.cons _ (.cons_cons _ (.cons_cons _ (.cons_cons _ (.cons_cons _ (.cons_cons _ (.slnil)))))))) (Bf [0,1] rfl)<|wfv 0 rfl (Ae rfl) gn hns (by kernel_rfl)<|wfv 1 rfl (Ae rfl) gn hns (by kernel_rfl)<|wfv 4 rfl (Ae rfl) gn hns (by kernel_rfl)<|wfv 5 rfl (Bd Xas rfl) gn hns (by kernel_rfl)<|wfv 6 rfl (Au 0 O9 rfl rfl rfl) gn hns (by kernel_rfl) ?_
      refine Cf [2,7] (by kernel_rfl) rfl ⟨?_,?_,trivial⟩
      ·refine Ej 2 rfl gn rfl (Io (xs := ([x355] : List Int)) [.int .i64 x355] Qx rfl (by kernel_rfl) rfl rfl rfl rfl fun gb846 h847 => ?_)
       refine ⟨Bf [1,3,4,5,6,7] rfl,Bf [0,1] rfl,?_⟩
       refine Cf [3,7] (by kernel_rfl) rfl ⟨?_,?_,trivial⟩
       ·refine Ej 3 rfl gn rfl (Pn (zs := x663) (cells' := x663.flatMap (eI .i64)) 2 Y5 rfl rfl rfl h349 (Nat.le_refl _) (Src.ownF (hl := (hlI .i64)) (h1 := (F9 .i64)) 0 rfl h847) (by rw [hv664, List.flatMap_append] <;> rfl) (H9 hv664 h847.hq) hb665 rfl rfl fun A853 c854 h855 => ?_)
        refine ⟨Bf [1,3,4,5,6,7] rfl,Bf [0,1] rfl,?_⟩
        refine Cf [7] (by kernel_rfl) rfl ⟨Ej 7 rfl gn rfl (Io (xs:=([(ix x1 x355).kids]:List Int)) [.int .i64 ((ix x1 x355).kids)] Qx rfl (by kernel_rfl) rfl rfl rfl rfl fun gb858 h859=>?_),trivial⟩
        refine ⟨Bf [2,4,5,6,7,8] rfl,Bf [0,1] rfl,?_⟩
        refine Cf [8] (by kernel_rfl) rfl ⟨Ut 8 rfl gn rfl (Pn (zs:=x672) (cells':=x672.flatMap (eI .i64)) 4 Y5 rfl rfl rfl h653 (Nat.le_refl _) (Src.ownF (hl:=(hlI .i64)) (h1:=(F9 .i64)) 0 rfl h859) (by rw [hv673,List.flatMap_append] <;> rfl) (H9 hv673 h859.hq) hb674 rfl rfl fun A860 c861 h862=>?_),trivial⟩
        unfold NxL
        refine Cf [9] (by kernel_rfl) rfl ⟨Ut 9 rfl gn rfl (Ob (Af rfl) rfl ?_),trivial⟩
        unfold NxL
        refine Cf [10] (by kernel_rfl) rfl ⟨Ut 10 rfl gn rfl (Ob (Af rfl) rfl ?_),trivial⟩
        unfold NxL
        refine Et (by kernel_rfl) ?_
        exact D6 [0,1] (d4 A853 (n347 + 1) c854 h855 A860 (n352 + 1) c861 h862) ⟨rfl,rfl,rfl,rfl,rfl,rfl,rfl,rfl,trivial⟩ (.cons _ (.cons _ (.cons _ (.cons_cons _ (.cons_cons _ (.cons_cons _ (.cons_cons _ (.cons_cons _ (.cons_cons _ (.slnil)))))))))) rfl
       ·refine Ej 7 rfl gn rfl (Io (xs := ([(ix x1 x355).kids] : List Int)) [.int .i64 ((ix x1 x355).kids)] Qx rfl (by kernel_rfl) rfl rfl rfl rfl fun gb863 h864 => ?_)
        refine ⟨Bf [2,4,5,6,7,8] rfl,Bf [0,1] rfl,?_⟩
        refine Cf [3] (by kernel_rfl) rfl ⟨Ej 3 rfl gn rfl (Pn (zs:=x663) (cells':=x663.flatMap (eI .i64)) 3 Y5 rfl rfl rfl h349 (Nat.le_refl _) (Src.ownF (hl:=(hlI .i64)) (h1:=(F9 .i64)) 1 rfl h847) (by rw [hv664,List.flatMap_append] <;> rfl) (H9 hv664 h847.hq) hb665 rfl rfl fun A868 c869 h870=>?_),trivial⟩
        refine ⟨Bf [2,4,5,6,7,8] rfl,Bf [0,1] rfl,?_⟩
        refine Cf [8] (by kernel_rfl) rfl ⟨Ut 8 rfl gn rfl (Pn (zs:=x672) (cells':=x672.flatMap (eI .i64)) 4 Y5 rfl rfl rfl h653 (Nat.le_refl _) (Src.ownF (hl:=(hlI .i64)) (h1:=(F9 .i64)) 0 rfl h864) (by rw [hv673,List.flatMap_append] <;> rfl) (H9 hv673 h864.hq) hb674 rfl rfl fun A871 c872 h873=>?_),trivial⟩
        unfold NxL
        refine Cf [9] (by kernel_rfl) rfl ⟨Ut 9 rfl gn rfl (Ob (Af rfl) rfl ?_),trivial⟩
        unfold NxL
        refine Cf [10] (by kernel_rfl) rfl ⟨Ut 10 rfl gn rfl (Ob (Af rfl) rfl ?_),trivial⟩
        unfold NxL
        refine Et (by kernel_rfl) ?_
        exact D6 [0,1] (d4 A868 (n347 + 1) c869 h870 A871 (n352 + 1) c872 h873) ⟨rfl,rfl,rfl,rfl,rfl,rfl,rfl,rfl,trivial⟩ (.cons _ (.cons _ (.cons _ (.cons_cons _ (.cons_cons _ (.cons_cons _ (.cons_cons _ (.cons_cons _ (.cons_cons _ (.slnil)))))))))) rfl
      ·refine Ej 7 rfl gn rfl (Io (xs := ([(ix x1 x355).kids] : List Int)) [.int .i64 ((ix x1 x355).kids)] Qx rfl (by kernel_rfl) rfl rfl rfl rfl fun gb874 h875 => ?_)
       refine ⟨Bf [1,3,4,5,6,7] rfl,Bf [0,1] rfl,?_⟩
       refine Cf [2] (by kernel_rfl) rfl ⟨Ej 2 rfl gn rfl (Io (xs:=([x355]:List Int)) [.int .i64 x355] Qx rfl (by kernel_rfl) rfl rfl rfl rfl fun gb878 h879=>?_),trivial⟩
       refine ⟨Bf [2,4,5,6,7,8] rfl,Bf [0,1] rfl,?_⟩
       refine Cf [3] (by kernel_rfl) rfl ⟨Ej 3 rfl gn rfl (Pn (zs:=x663) (cells':=x663.flatMap (eI .i64)) 3 Y5 rfl rfl rfl h349 (Nat.le_refl _) (Src.ownF (hl:=(hlI .i64)) (h1:=(F9 .i64)) 0 rfl h879) (by rw [hv664,List.flatMap_append] <;> rfl) (H9 hv664 h879.hq) hb665 rfl rfl fun A883 c884 h885=>?_),trivial⟩
       refine ⟨Bf [2,4,5,6,7,8] rfl,Bf [0,1] rfl,?_⟩
       refine Cf [8] (by kernel_rfl) rfl ⟨Ut 8 rfl gn rfl (Pn (zs:=x672) (cells':=x672.flatMap (eI .i64)) 4 Y5 rfl rfl rfl h653 (Nat.le_refl _) (Src.ownF (hl:=(hlI .i64)) (h1:=(F9 .i64)) 1 rfl h875) (by rw [hv673,List.flatMap_append] <;> rfl) (H9 hv673 h875.hq) hb674 rfl rfl fun A886 c887 h888=>?_),trivial⟩
       unfold NxL
       refine Cf [9] (by kernel_rfl) rfl ⟨Ut 9 rfl gn rfl (Ob (Af rfl) rfl ?_),trivial⟩
       unfold NxL
       refine Cf [10] (by kernel_rfl) rfl ⟨Ut 10 rfl gn rfl (Ob (Af rfl) rfl ?_),trivial⟩
       unfold NxL
       refine Et (by kernel_rfl) ?_
       exact D6 [0,1] (d4 A883 (n347 + 1) c884 h885 A886 (n352 + 1) c887 h888) ⟨rfl,rfl,rfl,rfl,rfl,rfl,rfl,rfl,trivial⟩ (.cons _ (.cons _ (.cons _ (.cons_cons _ (.cons_cons _ (.cons_cons _ (.cons_cons _ (.cons_cons _ (.cons_cons _ (.slnil)))))))))) rfl
    by_cases hp639:(x345.length:Int) > 0
    ·have h:=Ap hp639 h
     refine Bi rfl _ rfl ((decide_eq_true hp639))<|Ag rfl ?_
     obtain ⟨hb889,h⟩:=h
     obtain ⟨hb890,h⟩:=h
     obtain ⟨x891,hv892,h⟩:=h
     have hns:Region.noSelect (Code.ops q62c57)=true:=by kernel_rfl
     refine J7 [10] 11 rfl rfl mix rfl (.c 0 rfl (.c 1 rfl .n))<|wfv 0 rfl (Bd Xlf rfl) gn hns (by kernel_rfl)<|wfv 1 rfl (Au 3 Xm rfl rfl rfl) gn hns (by kernel_rfl)<|wfv 2 rfl (Ae rfl) gn hns (by kernel_rfl)<|wfv 3 rfl (Ae rfl) gn hns (by kernel_rfl)<|wfv 4 rfl (Ae rfl) gn hns (by kernel_rfl)<|wfv 5 rfl (D5 Iy rfl h349.hq) gn hns (by kernel_rfl)<|wfv 6 rfl (Ba rfl rfl rfl) gn hns (by kernel_rfl)<|wfv 7 rfl (Ec Jb rfl rfl h349 hb889) gn hns (by kernel_rfl)<|wfv 8 rfl (Py (.int .i64 (ix x345 (w64 ((x345.length:Int) - 1)))) 1 O9 rfl rfl (U6 (hlI .i64) hb889 rfl)) gn hns (by kernel_rfl)<|wfv 9 rfl (Ec Jb rfl rfl h638 hb890) gn hns (by kernel_rfl) ?_
     refine Cf [10] (by kernel_rfl) rfl ⟨Ut 10 rfl gn rfl (Uy (enc:=(eI .i64)) (o:=0) (z:=(ix x345 (w64 ((x345.length:Int) - 1)))) (vs:=[.int .i64 (ix x345 (w64 ((x345.length:Int) - 1)))]) (i:=x355) 5 (hlI .i64) sz_3 rfl rfl rfl rfl rfl h638 hb890 rfl rfl rfl hv892 fun h895=>?_),trivial⟩
     unfold NxL
     refine Et (by kernel_rfl)<|Ac rfl rfl<|Aa 0 rfl (Ae rfl) gn rfl<|Aa 1 rfl (Ae rfl) gn rfl<|Aa 2 rfl (D5 Iy rfl h354.hq) gn rfl<|Aa 3 rfl (Ba rfl rfl rfl) gn rfl ?_
     obtain ⟨hb896,h⟩:=h
     refine Aa 4 rfl (Ec Jb rfl rfl h354 hb896) gn rfl<|Aa 5 rfl (Py (.int .i64 (ix x350 (w64 ((x350.length:Int) - 1)))) 2 O9 rfl rfl (U6 (hlI .i64) hb896 rfl)) gn rfl<|Aa 6 rfl (Ba rfl rfl rfl) gn rfl<|Aa 7 rfl (Ec Jb rfl rfl h354 hb896) gn rfl ?_
     obtain ⟨x897,hv898,h⟩:=h
     refine Ci 8 rfl (Uy (enc:=(eI .i64)) (o:=0) (z:=(w64 ((ix x350 (w64 ((x350.length:Int) - 1))) - 1))) (vs:=[.int .i64 (w64 ((ix x350 (w64 ((x350.length:Int) - 1))) - 1))]) (i:=(w64 ((x350.length:Int) - 1))) 2 (hlI .i64) sz_3 rfl rfl rfl rfl rfl h354 hb896 rfl rfl rfl hv898 fun h899=>?_) gn
     refine Ah 9 rfl ?_
     exact D6 [0,1] (j2 x897 x891 h h899 h895) ⟨rfl,rfl,rfl,rfl,rfl,rfl,rfl,rfl,rfl,trivial⟩ (.cons_cons _ (.cons_cons _ (.cons_cons _ (.cons_cons _ (.cons_cons _ (.cons_cons _ (.cons_cons _ (.slnil)))))))) rfl
    ·have h:=Am hp639 h
     refine Bc rfl _ rfl ((decide_eq_false hp639))<|Bo rfl ?_
     exact D6 [0,1] (j2 x350 x636 h h354 h638) ⟨rfl,rfl,rfl,rfl,rfl,rfl,rfl,rfl,rfl,trivial⟩ (.cons_cons _ (.cons_cons _ (.cons_cons _ (.cons_cons _ (.cons_cons _ (.cons_cons _ (.cons_cons _ (.slnil)))))))) rfl
   ·have h:=Am hp630 h
    refine Bc rfl _ rfl ((decide_eq_false hp630))<|E8 [.code Xbi] rfl rfl<|Ag rfl<|Ac rfl rfl<|Aa 0 rfl (Ae rfl) gn rfl<|Aa 1 rfl (D5 Iy rfl h349.hq) gn rfl<|Aa 2 rfl (Ba rfl rfl rfl) gn rfl<|Aa 3 rfl (Bd Xim rfl) gn rfl ?_
    refine Ci 4 rfl (I9 (vs:=[.bool ((x345.length:Int) == 0)]) (cs':=[.slice A2 n3 c4,.slice A77 n78 c79,.slice A81 n82 c83,.bool ((x345.length:Int) == 0)]) (M':=[.own (.slice A346 n347 c348) 3 1 n347 (x345.flatMap (eI .i64)),.own (.slice A351 n352 c353) 3 1 n352 (x350.flatMap (eI .i64)),.box gb76 92 [.slice A2 n3 c4,.slice A77 n78 c79,.slice A81 n82 c83,.bool ((x345.length:Int) == 0)],.own (.slice A81 n82 c83) 3 1 n82 (x358.flatMap (eI .i64)),.own (.slice A77 n78 c79) 3 1 n78 (x356.flatMap (eI .i64)),.box gb6 92 [.slice none 0 0,.slice none 0 0,.slice none 0 0,.bool false]]) 2 Xep rfl rfl rfl rfl rfl rfl rfl rfl rfl ?_) gn
    refine Ah 5 rfl<|Ag rfl<|Ac rfl rfl<|Aa 0 rfl (Ji [.slice A2 n3 c4,.slice A77 n78 c79,.slice A81 n82 c83,.bool ((x345.length:Int) == 0)] 2 Xg7 rfl rfl rfl rfl) gn rfl ?_
    refine Ci 1 rfl (I9 (vs:=[.slice A2 n3 c4,.slice A77 n78 c79,.slice A81 n82 c83,.bool ((x345.length:Int) == 0)]) (cs':=[.slice A2 n3 c4,.slice A77 n78 c79,.slice A81 n82 c83,.bool ((x345.length:Int) == 0)]) (M':=[.own (.slice A346 n347 c348) 3 1 n347 (x345.flatMap (eI .i64)),.own (.slice A351 n352 c353) 3 1 n352 (x350.flatMap (eI .i64)),.box gb76 92 [.slice A2 n3 c4,.slice A77 n78 c79,.slice A81 n82 c83,.bool ((x345.length:Int) == 0)],.own (.slice A81 n82 c83) 3 1 n82 (x358.flatMap (eI .i64)),.own (.slice A77 n78 c79) 3 1 n78 (x356.flatMap (eI .i64)),.box gb6 92 [.slice A2 n3 c4,.slice A77 n78 c79,.slice A81 n82 c83,.bool ((x345.length:Int) == 0)]]) 5 Xc9 rfl rfl rfl rfl rfl rfl rfl rfl rfl ?_) gn
    refine Ah 2 rfl ?_
    have h:=Out.inr hO1 h
    refine Bg [.agg #[.slice A2 n3 c4,.slice A77 n78 c79,.slice A81 n82 c83,.bool ((x345.length:Int) == 0)]] rfl Tryd.func62 rfl (.cell (cs:=[.slice A2 n3 c4,.slice A77 n78 c79,.slice A81 n82 c83,.bool ((x345.length:Int) == 0)]) (us:=[.slice A2 n3 c4,.slice A77 n78 c79,.slice A81 n82 c83,.bool ((x345.length:Int) == 0)]) 5 rfl Xg7 rfl rfl rfl (.nil)) fun wr hLr=>?_
    have hMr:=hLr.pkI (.c 4 rfl (.c 3 rfl .n)) (.c 0 rfl (.c 1 rfl (.c 2 rfl (.c 5 rfl .n)))) (by kernel_rfl) (.c 1 rfl .n)
    have hMi:=hLr.selI (.c 4 rfl (.c 3 rfl .n))
    show Y9 w F  r (.returned (Bz [.agg #[.slice A2 n3 c4,.slice A77 n78 c79,.slice A81 n82 c83,.bool ((x345.length:Int) == 0)]])) wr
    rw [h]
    exact ⟨A77,n78,c79,A81,n82,c83,A2,n3,c4,rfl,hMr,h357,h359,(hLr.outR (s:=Sm w.heap.size F w []) hMi (me 0 rfl) Sm.ok h5)⟩
  refine Td 3 1<|Td 3 1 ?_
  exact D6 [0,1] (key1 _ h none 0 0 (Ow.nil (z:=w.heap.size)) none 0 0 (Ow.nil (z:=w.heap.size)) h80 h84) ⟨rfl,rfl,rfl,rfl,rfl,rfl,rfl,trivial⟩ (.cons_cons _ (.cons_cons _ (.cons_cons _ (.cons_cons _ (.cons_cons _ (.cons_cons _ (.slnil))))))) rfl
 have hns:Region.noSelect (Code.ops q62c3)=true:=by kernel_rfl
 refine J7 [] 10 rfl rfl mix rfl (.c 0 rfl (.c 1 rfl .n))<|wfv 0 rfl (Ae rfl) gn hns rfl<|wfv 1 rfl (Ae rfl) gn hns rfl<|wfv 2 rfl (D5 V3 rfl h5.hq) gn hns rfl<|wfv 4 rfl (Ae rfl) gn hns rfl<|wfv 5 rfl (D5 V3 rfl h5.hq) gn hns rfl ?_
 refine Cf [3,6,8] (by kernel_rfl) rfl ⟨?_,?_,?_,trivial⟩
 ·refine Ej 3 rfl gn rfl (U0 (enc := (eI .i64)) (z := 0) Xc4 rfl (by decide) rfl rfl hb8.1 hb8.2 (by decide) hv13 rfl fun A909 h910 => ?_)
  refine ⟨Bf [1] rfl,Bf [0,1] rfl,?_⟩
  refine Cf [6,8] (by kernel_rfl) rfl ⟨?_,?_,trivial⟩
  ·refine Ej 6 rfl gn rfl (U0 (enc := (eI .i64)) (z := 0) Xc4 rfl (by decide) rfl rfl hb8.1 hb8.2 (by decide) hv18 rfl fun A914 h915 => ?_)
   refine ⟨Bf [2] rfl,Bf [0,1] rfl,?_⟩
   refine wfv 7 rfl (L6 #[.slice A2 n3 c4,.slice A909 (((x1.length:Int):Int).toNat) (((x1.length:Int):Int).toNat),.slice A914 (((x1.length:Int):Int).toNat) (((x1.length:Int):Int).toNat),.bool false] Xhd rfl (by kernel_rfl)) gn hns rfl ?_
   refine Cf [8] (by kernel_rfl) rfl ⟨Ej 8 rfl gn rfl (G9 [.slice none 0 0,.slice none 0 0,.slice none 0 0,.bool false] Xez rfl fun gb917=>?_),trivial⟩
   refine ⟨Bf [3] rfl,Bf [0,1] rfl,?_⟩
   refine Cf [9] (by kernel_rfl) rfl ⟨Ej 9 rfl gn rfl (I9 (vs:=[.slice A2 n3 c4,.slice A909 (((x1.length:Int):Int).toNat) (((x1.length:Int):Int).toNat),.slice A914 (((x1.length:Int):Int).toNat) (((x1.length:Int):Int).toNat),.bool false]) (cs':=[.slice A2 n3 c4,.slice A909 (((x1.length:Int):Int).toNat) (((x1.length:Int):Int).toNat),.slice A914 (((x1.length:Int):Int).toNat) (((x1.length:Int):Int).toNat),.bool false]) (M':=[.box gb917 92 [.slice A2 n3 c4,.slice A909 (((x1.length:Int):Int).toNat) (((x1.length:Int):Int).toNat),.slice A914 (((x1.length:Int):Int).toNat) (((x1.length:Int):Int).toNat),.bool false],.own (.slice A914 (((x1.length:Int):Int).toNat) (((x1.length:Int):Int).toNat)) 3 1 (((x1.length:Int):Int).toNat) (x17.flatMap (eI .i64)),.own (.slice A909 (((x1.length:Int):Int).toNat) (((x1.length:Int):Int).toNat)) 3 1 (((x1.length:Int):Int).toNat) (x12.flatMap (eI .i64)),.box gb6 92 [.slice none 0 0,.slice none 0 0,.slice none 0 0,.bool false]]) 0 Xc9 rfl rfl rfl rfl rfl rfl rfl rfl rfl ?_),trivial⟩
   refine ⟨Bf [3] rfl,Bf [0,1] rfl,?_⟩
   refine Et (by kernel_rfl) ?_
   exact D6 [0,1] (d1 gb917 A909 (((x1.length:Int):Int).toNat) (((x1.length:Int):Int).toNat) h910 A914 (((x1.length:Int):Int).toNat) (((x1.length:Int):Int).toNat) h915) ⟨rfl,rfl,rfl,trivial⟩ (.cons_cons _ (.cons_cons _ (.cons_cons _ (.cons_cons _ (.slnil))))) rfl
  ·refine Ej 8 rfl gn rfl (G9 [.slice none 0 0, .slice none 0 0, .slice none 0 0, .bool false] Xez rfl fun gb918 => ?_)
   refine ⟨Bf [2] rfl,Bf [0,1] rfl,?_⟩
   refine Cf [6] (by kernel_rfl) rfl ⟨Ej 6 rfl gn rfl (U0 (enc:=(eI .i64)) (z:=0) Xc4 rfl (by decide) rfl rfl hb8.1 hb8.2 (by decide) hv18 rfl fun A921 h922=>?_),trivial⟩
   refine ⟨Bf [3] rfl,Bf [0,1] rfl,?_⟩
   refine wfv 7 rfl (L6 #[.slice A2 n3 c4,.slice A909 (((x1.length:Int):Int).toNat) (((x1.length:Int):Int).toNat),.slice A921 (((x1.length:Int):Int).toNat) (((x1.length:Int):Int).toNat),.bool false] Xhd rfl (by kernel_rfl)) gn hns rfl ?_
   refine Cf [9] (by kernel_rfl) rfl ⟨Ej 9 rfl gn rfl (I9 (vs:=[.slice A2 n3 c4,.slice A909 (((x1.length:Int):Int).toNat) (((x1.length:Int):Int).toNat),.slice A921 (((x1.length:Int):Int).toNat) (((x1.length:Int):Int).toNat),.bool false]) (cs':=[.slice A2 n3 c4,.slice A909 (((x1.length:Int):Int).toNat) (((x1.length:Int):Int).toNat),.slice A921 (((x1.length:Int):Int).toNat) (((x1.length:Int):Int).toNat),.bool false]) (M':=[.own (.slice A921 (((x1.length:Int):Int).toNat) (((x1.length:Int):Int).toNat)) 3 1 (((x1.length:Int):Int).toNat) (x17.flatMap (eI .i64)),.box gb918 92 [.slice A2 n3 c4,.slice A909 (((x1.length:Int):Int).toNat) (((x1.length:Int):Int).toNat),.slice A921 (((x1.length:Int):Int).toNat) (((x1.length:Int):Int).toNat),.bool false],.own (.slice A909 (((x1.length:Int):Int).toNat) (((x1.length:Int):Int).toNat)) 3 1 (((x1.length:Int):Int).toNat) (x12.flatMap (eI .i64)),.box gb6 92 [.slice none 0 0,.slice none 0 0,.slice none 0 0,.bool false]]) 1 Xc9 rfl rfl rfl rfl rfl rfl rfl rfl rfl ?_),trivial⟩
   refine ⟨Bf [3] rfl,Bf [0,1] rfl,?_⟩
   refine Et (by kernel_rfl)<|Cj 3 rfl<|Cj 3 rfl<|Cj 2 rfl<|Cj 3 rfl ?_
   exact D6 [0,1] (d1 gb918 A909 (((x1.length:Int):Int).toNat) (((x1.length:Int):Int).toNat) h910 A921 (((x1.length:Int):Int).toNat) (((x1.length:Int):Int).toNat) h922) ⟨rfl,rfl,rfl,trivial⟩ (.cons_cons _ (.cons_cons _ (.cons_cons _ (.cons_cons _ (.slnil))))) rfl
 ·refine Ej 6 rfl gn rfl (U0 (enc := (eI .i64)) (z := 0) Xc4 rfl (by decide) rfl rfl hb8.1 hb8.2 (by decide) hv18 rfl fun A923 h924 => ?_)
  refine ⟨Bf [1] rfl,Bf [0,1] rfl,?_⟩
  refine Cf [3,8] (by kernel_rfl) rfl ⟨?_,?_,trivial⟩
  ·refine Ej 3 rfl gn rfl (U0 (enc := (eI .i64)) (z := 0) Xc4 rfl (by decide) rfl rfl hb8.1 hb8.2 (by decide) hv13 rfl fun A928 h929 => ?_)
   refine ⟨Bf [2] rfl,Bf [0,1] rfl,?_⟩
   refine wfv 7 rfl (L6 #[.slice A2 n3 c4,.slice A928 (((x1.length:Int):Int).toNat) (((x1.length:Int):Int).toNat),.slice A923 (((x1.length:Int):Int).toNat) (((x1.length:Int):Int).toNat),.bool false] Xhd rfl (by kernel_rfl)) gn hns rfl ?_
   refine Cf [8] (by kernel_rfl) rfl ⟨Ej 8 rfl gn rfl (G9 [.slice none 0 0,.slice none 0 0,.slice none 0 0,.bool false] Xez rfl fun gb931=>?_),trivial⟩
   refine ⟨Bf [3] rfl,Bf [0,1] rfl,?_⟩
   refine Cf [9] (by kernel_rfl) rfl ⟨Ej 9 rfl gn rfl (I9 (vs:=[.slice A2 n3 c4,.slice A928 (((x1.length:Int):Int).toNat) (((x1.length:Int):Int).toNat),.slice A923 (((x1.length:Int):Int).toNat) (((x1.length:Int):Int).toNat),.bool false]) (cs':=[.slice A2 n3 c4,.slice A928 (((x1.length:Int):Int).toNat) (((x1.length:Int):Int).toNat),.slice A923 (((x1.length:Int):Int).toNat) (((x1.length:Int):Int).toNat),.bool false]) (M':=[.box gb931 92 [.slice A2 n3 c4,.slice A928 (((x1.length:Int):Int).toNat) (((x1.length:Int):Int).toNat),.slice A923 (((x1.length:Int):Int).toNat) (((x1.length:Int):Int).toNat),.bool false],.own (.slice A928 (((x1.length:Int):Int).toNat) (((x1.length:Int):Int).toNat)) 3 1 (((x1.length:Int):Int).toNat) (x12.flatMap (eI .i64)),.own (.slice A923 (((x1.length:Int):Int).toNat) (((x1.length:Int):Int).toNat)) 3 1 (((x1.length:Int):Int).toNat) (x17.flatMap (eI .i64)),.box gb6 92 [.slice none 0 0,.slice none 0 0,.slice none 0 0,.bool false]]) 0 Xc9 rfl rfl rfl rfl rfl rfl rfl rfl rfl ?_),trivial⟩
   refine ⟨Bf [3] rfl,Bf [0,1] rfl,?_⟩
   refine Et (by kernel_rfl)<|Cj 3 rfl<|Cj 2 rfl<|Cj 3 rfl<|Cj 3 rfl ?_
   exact D6 [0,1] (d1 gb931 A928 (((x1.length:Int):Int).toNat) (((x1.length:Int):Int).toNat) h929 A923 (((x1.length:Int):Int).toNat) (((x1.length:Int):Int).toNat) h924) ⟨rfl,rfl,rfl,trivial⟩ (.cons_cons _ (.cons_cons _ (.cons_cons _ (.cons_cons _ (.slnil))))) rfl
  ·refine Ej 8 rfl gn rfl (G9 [.slice none 0 0, .slice none 0 0, .slice none 0 0, .bool false] Xez rfl fun gb932 => ?_)
   refine ⟨Bf [2] rfl,Bf [0,1] rfl,?_⟩
   refine Cf [3] (by kernel_rfl) rfl ⟨Ej 3 rfl gn rfl (U0 (enc:=(eI .i64)) (z:=0) Xc4 rfl (by decide) rfl rfl hb8.1 hb8.2 (by decide) hv13 rfl fun A935 h936=>?_),trivial⟩
   refine ⟨Bf [3] rfl,Bf [0,1] rfl,?_⟩
   refine wfv 7 rfl (L6 #[.slice A2 n3 c4,.slice A935 (((x1.length:Int):Int).toNat) (((x1.length:Int):Int).toNat),.slice A923 (((x1.length:Int):Int).toNat) (((x1.length:Int):Int).toNat),.bool false] Xhd rfl (by kernel_rfl)) gn hns rfl ?_
   refine Cf [9] (by kernel_rfl) rfl ⟨Ej 9 rfl gn rfl (I9 (vs:=[.slice A2 n3 c4,.slice A935 (((x1.length:Int):Int).toNat) (((x1.length:Int):Int).toNat),.slice A923 (((x1.length:Int):Int).toNat) (((x1.length:Int):Int).toNat),.bool false]) (cs':=[.slice A2 n3 c4,.slice A935 (((x1.length:Int):Int).toNat) (((x1.length:Int):Int).toNat),.slice A923 (((x1.length:Int):Int).toNat) (((x1.length:Int):Int).toNat),.bool false]) (M':=[.own (.slice A935 (((x1.length:Int):Int).toNat) (((x1.length:Int):Int).toNat)) 3 1 (((x1.length:Int):Int).toNat) (x12.flatMap (eI .i64)),.box gb932 92 [.slice A2 n3 c4,.slice A935 (((x1.length:Int):Int).toNat) (((x1.length:Int):Int).toNat),.slice A923 (((x1.length:Int):Int).toNat) (((x1.length:Int):Int).toNat),.bool false],.own (.slice A923 (((x1.length:Int):Int).toNat) (((x1.length:Int):Int).toNat)) 3 1 (((x1.length:Int):Int).toNat) (x17.flatMap (eI .i64)),.box gb6 92 [.slice none 0 0,.slice none 0 0,.slice none 0 0,.bool false]]) 1 Xc9 rfl rfl rfl rfl rfl rfl rfl rfl rfl ?_),trivial⟩
   refine ⟨Bf [3] rfl,Bf [0,1] rfl,?_⟩
   refine Et (by kernel_rfl)<|Cj 3 rfl<|Cj 1 rfl<|Cj 3 rfl<|Cj 3 rfl ?_
   exact D6 [0,1] (d1 gb932 A935 (((x1.length:Int):Int).toNat) (((x1.length:Int):Int).toNat) h936 A923 (((x1.length:Int):Int).toNat) (((x1.length:Int):Int).toNat) h924) ⟨rfl,rfl,rfl,trivial⟩ (.cons_cons _ (.cons_cons _ (.cons_cons _ (.cons_cons _ (.slnil))))) rfl
 ·refine Ej 8 rfl gn rfl (G9 [.slice none 0 0, .slice none 0 0, .slice none 0 0, .bool false] Xez rfl fun gb937 => ?_)
  refine ⟨Bf [1] rfl,Bf [0,1] rfl,?_⟩
  refine Cf [3,6] (by kernel_rfl) rfl ⟨?_,?_,trivial⟩
  ·refine Ej 3 rfl gn rfl (U0 (enc := (eI .i64)) (z := 0) Xc4 rfl (by decide) rfl rfl hb8.1 hb8.2 (by decide) hv13 rfl fun A942 h943 => ?_)
   refine ⟨Bf [2] rfl,Bf [0,1] rfl,?_⟩
   refine Cf [6] (by kernel_rfl) rfl ⟨Ej 6 rfl gn rfl (U0 (enc:=(eI .i64)) (z:=0) Xc4 rfl (by decide) rfl rfl hb8.1 hb8.2 (by decide) hv18 rfl fun A946 h947=>?_),trivial⟩
   refine ⟨Bf [3] rfl,Bf [0,1] rfl,?_⟩
   refine wfv 7 rfl (L6 #[.slice A2 n3 c4,.slice A942 (((x1.length:Int):Int).toNat) (((x1.length:Int):Int).toNat),.slice A946 (((x1.length:Int):Int).toNat) (((x1.length:Int):Int).toNat),.bool false] Xhd rfl (by kernel_rfl)) gn hns rfl ?_
   refine Cf [9] (by kernel_rfl) rfl ⟨Ej 9 rfl gn rfl (I9 (vs:=[.slice A2 n3 c4,.slice A942 (((x1.length:Int):Int).toNat) (((x1.length:Int):Int).toNat),.slice A946 (((x1.length:Int):Int).toNat) (((x1.length:Int):Int).toNat),.bool false]) (cs':=[.slice A2 n3 c4,.slice A942 (((x1.length:Int):Int).toNat) (((x1.length:Int):Int).toNat),.slice A946 (((x1.length:Int):Int).toNat) (((x1.length:Int):Int).toNat),.bool false]) (M':=[.own (.slice A946 (((x1.length:Int):Int).toNat) (((x1.length:Int):Int).toNat)) 3 1 (((x1.length:Int):Int).toNat) (x17.flatMap (eI .i64)),.own (.slice A942 (((x1.length:Int):Int).toNat) (((x1.length:Int):Int).toNat)) 3 1 (((x1.length:Int):Int).toNat) (x12.flatMap (eI .i64)),.box gb937 92 [.slice A2 n3 c4,.slice A942 (((x1.length:Int):Int).toNat) (((x1.length:Int):Int).toNat),.slice A946 (((x1.length:Int):Int).toNat) (((x1.length:Int):Int).toNat),.bool false],.box gb6 92 [.slice none 0 0,.slice none 0 0,.slice none 0 0,.bool false]]) 2 Xc9 rfl rfl rfl rfl rfl rfl rfl rfl rfl ?_),trivial⟩
   refine ⟨Bf [3] rfl,Bf [0,1] rfl,?_⟩
   refine Et (by kernel_rfl)<|Cj 3 rfl<|Cj 2 rfl<|Cj 2 rfl<|Cj 3 rfl ?_
   exact D6 [0,1] (d1 gb937 A942 (((x1.length:Int):Int).toNat) (((x1.length:Int):Int).toNat) h943 A946 (((x1.length:Int):Int).toNat) (((x1.length:Int):Int).toNat) h947) ⟨rfl,rfl,rfl,trivial⟩ (.cons_cons _ (.cons_cons _ (.cons_cons _ (.cons_cons _ (.slnil))))) rfl
  ·refine Ej 6 rfl gn rfl (U0 (enc := (eI .i64)) (z := 0) Xc4 rfl (by decide) rfl rfl hb8.1 hb8.2 (by decide) hv18 rfl fun A948 h949 => ?_)
   refine ⟨Bf [2] rfl,Bf [0,1] rfl,?_⟩
   refine Cf [3] (by kernel_rfl) rfl ⟨Ej 3 rfl gn rfl (U0 (enc:=(eI .i64)) (z:=0) Xc4 rfl (by decide) rfl rfl hb8.1 hb8.2 (by decide) hv13 rfl fun A952 h953=>?_),trivial⟩
   refine ⟨Bf [3] rfl,Bf [0,1] rfl,?_⟩
   refine wfv 7 rfl (L6 #[.slice A2 n3 c4,.slice A952 (((x1.length:Int):Int).toNat) (((x1.length:Int):Int).toNat),.slice A948 (((x1.length:Int):Int).toNat) (((x1.length:Int):Int).toNat),.bool false] Xhd rfl (by kernel_rfl)) gn hns rfl ?_
   refine Cf [9] (by kernel_rfl) rfl ⟨Ej 9 rfl gn rfl (I9 (vs:=[.slice A2 n3 c4,.slice A952 (((x1.length:Int):Int).toNat) (((x1.length:Int):Int).toNat),.slice A948 (((x1.length:Int):Int).toNat) (((x1.length:Int):Int).toNat),.bool false]) (cs':=[.slice A2 n3 c4,.slice A952 (((x1.length:Int):Int).toNat) (((x1.length:Int):Int).toNat),.slice A948 (((x1.length:Int):Int).toNat) (((x1.length:Int):Int).toNat),.bool false]) (M':=[.own (.slice A952 (((x1.length:Int):Int).toNat) (((x1.length:Int):Int).toNat)) 3 1 (((x1.length:Int):Int).toNat) (x12.flatMap (eI .i64)),.own (.slice A948 (((x1.length:Int):Int).toNat) (((x1.length:Int):Int).toNat)) 3 1 (((x1.length:Int):Int).toNat) (x17.flatMap (eI .i64)),.box gb937 92 [.slice A2 n3 c4,.slice A952 (((x1.length:Int):Int).toNat) (((x1.length:Int):Int).toNat),.slice A948 (((x1.length:Int):Int).toNat) (((x1.length:Int):Int).toNat),.bool false],.box gb6 92 [.slice none 0 0,.slice none 0 0,.slice none 0 0,.bool false]]) 2 Xc9 rfl rfl rfl rfl rfl rfl rfl rfl rfl ?_),trivial⟩
   refine ⟨Bf [3] rfl,Bf [0,1] rfl,?_⟩
   refine Et (by kernel_rfl)<|Cj 3 rfl<|Cj 1 rfl<|Cj 2 rfl<|Cj 3 rfl ?_
   exact D6 [0,1] (d1 gb937 A952 (((x1.length:Int):Int).toNat) (((x1.length:Int):Int).toNat) h953 A948 (((x1.length:Int):Int).toNat) (((x1.length:Int):Int).toNat) h949) ⟨rfl,rfl,rfl,trivial⟩ (.cons_cons _ (.cons_cons _ (.cons_cons _ (.cons_cons _ (.slnil))))) rfl
noncomputable abbrev q65c6:=Code.snd (Code.snd (Code.snd (Df Tryd.f65)))
noncomputable abbrev Xhg:=Code.fst (Code.fst (Code.fst (Code.snd (Code.snd (Df Tryd.f65)))))
abbrev Uc (w:World) (F:Nat→Prop) (r:List Int):Ending→World→Prop:=fun e w'=>∃ A0:Option Addr,∃ n0:Nat,∃ c0:Nat,e=.returned (.slice A0 n0 c0)∧B.Loc w w' [.own (.slice A0 n0 c0) 3 1 n0 (r.flatMap (eI .i64))] [St w []]∧Ow w.heap.size A0 n0 c0 r
noncomputable abbrev Qn (w:World) (F:Nat→Prop) (r:List Int):Cx:=⟨Tryd.prog,65,Tryd.f65,21,Uc w F  r,w⟩
theorem Vg (w:World) (F:Nat→Prop) (x1:Fj) (x14:Int) (x15:Int) (A2:Option Addr) (n3:Nat) (c4:Nat) (A6:Option Addr) (n7:Nat) (c8:Nat) (A10:Option Addr) (n11:Nat) (c12:Nat) (h5:Rw D9 w (St w []).av A2 n3 c4 x1.nodes) (h9:Rw (Gs .i64) w (St w []).av A6 n7 c8 x1.parent) (h13:Rw (Gs .i64) w (St w []).av A10 n11 c12 x1.end_) (hF:∀ b,F b→b < w.heap.size∧∀ o ∈ ([]:List (List Nat)),b ∉ o) (hL0:B.Loc w w [] [Sm w.heap.size F w [],St w []]) (r:List Int) (h:Lh x1 x14 x15 r):Calls Tryd.prog 65 #[.agg #[.slice A2 n3 c4,.slice A6 n7 c8,.slice A10 n11 c12,.bool x1.ok],.int .i64 x14,.int .i64 x15] w (Uc w F  r):=by
 unfold Lh at h
 refine Bl (vs:=[.agg #[.slice A2 n3 c4,.slice A6 n7 c8,.slice A10 n11 c12,.bool x1.ok],.int .i64 x14,.int .i64 x15]) 21 Tryd.func65 rfl Tryd.ntmps65 rfl hL0 ?_
 show G (Qn w F r) _ _ _ _
 refine Ag rfl<|Ac rfl rfl ?_
 refine Ci 0 rfl (O3 [.slice A2 n3 c4,.slice A6 n7 c8,.slice A10 n11 c12,.bool x1.ok] rfl rfl rfl fun gb16=>?_) gn
 refine Aa 1 rfl (Af rfl) gn rfl<|Ah 2 rfl<|Ag rfl<|Ac rfl rfl<|Aa 0 rfl (Af rfl) gn rfl<|Ah 1 rfl<|Ag rfl<|Bv rfl<|Ei rfl ?_
 have key1:∀ s,Ar (fun (s:Int × (List Int)) o=>G6 x15 x1 s.1 s.2 o) s r→(fun (s:Int × (List Int))=>∀ (A34:Option Addr) (n35:Nat) (c36:Nat) (h37:Ow w.heap.size A34 n35 c36 s.2),G (Qn w F r) [.code Xhg,.inLoop Xhg,.inBlock 0,.code q65c6] [(1,.int .i64 s.1),(2,.int .i64 x15),(3,.pointer (some ⟨gb16,0,none⟩)),(7,.slice A34 n35 c36)] [.own (.slice A34 n35 c36) 3 1 n35 (s.2.flatMap (eI .i64)),.box gb16 92 [.slice A2 n3 c4,.slice A6 n7 c8,.slice A10 n11 c12,.bool x1.ok]] [Sm w.heap.size F w [],St w []]) s:=by
  intro s hs
  refine Ar.ind (mot:=(fun (s:Int × (List Int))=>∀ (A34:Option Addr) (n35:Nat) (c36:Nat) (h37:Ow w.heap.size A34 n35 c36 s.2),G (Qn w F r) [.code Xhg,.inLoop Xhg,.inBlock 0,.code q65c6] [(1,.int .i64 s.1),(2,.int .i64 x15),(3,.pointer (some ⟨gb16,0,none⟩)),(7,.slice A34 n35 c36)] [.own (.slice A34 n35 c36) 3 1 n35 (s.2.flatMap (eI .i64)),.box gb16 92 [.slice A2 n3 c4,.slice A6 n7 c8,.slice A10 n11 c12,.bool x1.ok]] [Sm w.heap.size F w [],St w []])) ?_ hs
  clear hs s
  intro s o1 h hO1
  obtain ⟨x32,x33⟩:=s
  show ∀ (A34:Option Addr) (n35:Nat) (c36:Nat) (h37:Ow w.heap.size A34 n35 c36 x33),G (Qn w F r) [.code Xhg,.inLoop Xhg,.inBlock 0,.code q65c6] [(1,.int .i64 x32),(2,.int .i64 x15),(3,.pointer (some ⟨gb16,0,none⟩)),(7,.slice A34 n35 c36)] [.own (.slice A34 n35 c36) 3 1 n35 (x33.flatMap (eI .i64)),.box gb16 92 [.slice A2 n3 c4,.slice A6 n7 c8,.slice A10 n11 c12,.bool x1.ok]] [Sm w.heap.size F w [],St w []]
  intro A34 n35 c36 h37
  have h:G6 x15 x1 x32 x33 o1:=h
  unfold G6 at h
  refine Ag rfl<|Ag rfl<|Ac rfl rfl<|Aa 0 rfl (Ae rfl) gn rfl<|Aa 1 rfl (Ae rfl) gn rfl<|Aa 2 rfl (Ba rfl rfl rfl) gn rfl<|Ah 3 rfl ?_
  by_cases hp50:x32 < x15
  ·have h:=Ap hp50 h
   refine Bi rfl _ rfl ((decide_eq_true hp50))<|Bo rfl<|Ag rfl<|Bv rfl<|Ac rfl rfl<|Aa 0 rfl (Ae rfl) gn rfl<|Aa 1 rfl (Ae rfl) gn rfl ?_
   refine Ci 2 rfl (Io (xs:=([x32]:List Int)) [.int .i64 x32] Qx rfl (by kernel_rfl) rfl rfl rfl rfl fun gb52 h53=>?_) gn
   obtain ⟨x57,hv58,h⟩:=h
   obtain ⟨hb59,h⟩:=h
   refine Ci 3 rfl (Pn (zs:=x57) (cells':=x57.flatMap (eI .i64)) 1 Y5 rfl rfl rfl h37 (Nat.le_refl _) (Src.ownF (hl:=(hlI .i64)) (h1:=(F9 .i64)) 0 rfl h53) (by rw [hv58,List.flatMap_append] <;> rfl) (H9 hv58 h53.hq) hb59 rfl rfl fun A54 c55 h56=>?_) gn
   refine Aa 4 rfl (Af rfl) gn rfl<|Ah 5 rfl<|Bj<|Ac rfl rfl<|Aa 0 rfl (Bd Xib rfl) gn rfl<|Aa 1 rfl (Au 2 Xm rfl rfl rfl) gn rfl<|Aa 2 rfl (Ae rfl) gn rfl ?_
   obtain ⟨hb60,h⟩:=h
   have hr61:=Rw.readF (s:=St w []) (hl:=(hlI .i64)) (h1:=(F9 .i64)) h13 hb60
   refine Aa 3 rfl (Ef (s:=St w []) Jb rfl rfl h13 hb60) gn rfl<|Aa 4 rfl (Le (kk:=(x32:Int).toNat * 1) (j:=0) (St w []) O9 rfl hr61 rfl (me 1 rfl)) gn rfl<|Aa 5 rfl (Af rfl) gn rfl<|Ah 6 rfl<|Cm ?_
   have ih:=Out.inl hO1 h
   exact D6 [0,1] (ih A54 (n35 + 1) c55 h56) ⟨rfl,rfl,rfl,rfl,trivial⟩ (.cons _ (.cons_cons _ (.cons_cons _ (.slnil)))) rfl
  ·have h:=Am hp50 h
   refine Bc rfl _ rfl ((decide_eq_false hp50))<|E8 [.code q65c6] rfl rfl<|Ag rfl<|Ac rfl rfl<|Aa 0 rfl (Ae rfl) gn rfl<|Aa 1 rfl (Af rfl) gn rfl<|Ah 2 rfl ?_
   have h:=Out.inr hO1 h
   refine Bg [.slice A34 n35 c36] rfl Tryd.func65 rfl (.tmp rfl (.nil)) fun wr hLr=>?_
   have hMr:=hLr.pkI (.c 0 rfl .n) (.c 1 rfl .n) (by kernel_rfl) (.c 1 rfl .n)
   show Uc w F  r (.returned (Bz [.slice A34 n35 c36])) wr
   rw [h]
   exact ⟨A34,n35,c36,rfl,hMr,h37⟩
 refine Td 3 1 ?_
 exact D6 [0,1] (key1 _ h none 0 0 (Ow.nil (z:=w.heap.size))) ⟨rfl,rfl,rfl,rfl,trivial⟩ (.cons_cons _ (.cons_cons _ (.slnil))) rfl
end Go.Proofs.YtjookebbmfiidaaDoor.K
