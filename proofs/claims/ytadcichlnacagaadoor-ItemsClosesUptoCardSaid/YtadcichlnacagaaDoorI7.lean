/- The program's closing, its steps. No condition but the size. -/
import Derived.Test.YtadcichlnacagaaDoorI6
set_option linter.unusedVariables false
namespace Go.Proofs.YtadcichlnacagaaDoor.L
open Go.Proofs.YtadcichlnacagaaDoor.B Go.Proofs.YtadcichlnacagaaDoor.R
abbrev RC:=Sum (Int × (List Int) × (List Int)) ((List Int) × Yuv)
theorem Zpx {α:Type} [Inhabited α] {A B:List α} {i:Nat} (h:i < B.length) {z:Int} (hz:z=((A.length + i:Nat):Int)):ix (A++B) z=B[i]:=by
 subst hz
 rw [Yvv (by rw [List.length_append]; omega),List.getElem_append_right (by omega)]
 simp
theorem Zje (g:Yu5) (s:Yu8):(Yw2 g s).spots.length=nN g:=Zeg g s _
theorem Zfc {α:Type} {l:List α} {k:Nat} (h:k < l.length):l.take (k + 1)=l.take k++[l[k]]:=List.take_succ_eq_append_getElem h
theorem adL_snoc (L:Int) (a:List Int × List Int) (l:List Int) (z:Int):adL L a (l++[z])=ad (adL L a l) z.toNat L:=by unfold adL; rw [List.foldl_append]; rfl
theorem mv_n {g:Yu5} {a b:List Int × List Int} (h:Mv g a b) {n:Nat} (k:a.2.length + Zbp a.1≤n):b.2.length + Zbp b.1≤n:=Nat.le_trans h.n k
theorem pop_rel {g:Yu5} (hb:Big g) (hr:Yxx g=true) {s:Yu8} (hs:Ok s) {v0 v st:List Int} {p d:Nat} (hp:p < g.prods.length) (hd:d≤(Yvk g p).length) (h:Wl g s v0 (v,st++[((atN g p + d:Nat):Int)])) {b:List Int × List Int} (hbe:b=if (g.terms.length:Int)≤Yw5 g p d then adL (ofV s (behind g p d) (vx v (atN g p + d))) (v,st) (ofL g (Yw5 g p d - (g.terms.length:Int)) g.prods.length) else (v,st)) :
  Yx8 (Yw2 g s) (st++[((atN g p + d:Nat):Int)]) v (.inl (b.2,b.1):Sum ((List Int) × (List Int)) RC):=by
 have hN:=hb.n
 have hP:=hb.lg.p
 have hin:=Zcz hp hd
 obtain ⟨t1,t2,t3,t4⟩:=Zi6 hr
 have hn:=h.n
 have hn:(st++[((atN g p + d:Nat):Int)]).length + Zbp v≤64 * nN g:=hn
 rw [List.length_append,List.length_singleton] at hn
 have hlen:(st++[((atN g p + d:Nat):Int)]).length=st.length + 1:=by simp
 have ew:w64 (((st++[((atN g p + d:Nat):Int)]).length:Int) - 1)=((st.length:Nat):Int):=by rw [hlen,Yyq (by omega)]; omega
 have ei:ix (st++[((atN g p + d:Nat):Int)]) ((st.length:Nat):Int)=((atN g p + d:Nat):Int):=by
  rw [Zpx (i:=0) (by simp) (by simp)]; rfl
 have esp:ix (Yw2 g s).spots ((atN g p + d:Nat):Int)=Zcn g s p d:=Zg9 hp hd
 have eT:(Yw2 g s).g.terms=g.terms:=rfl
 unfold Yx8
 rw [ew,if_pos (by omega),ei,esp,eT]
 refine ⟨by omega,by omega,st,by rw [Int.toNat_natCast,List.take_left],by rw [Zje]; omega,?_⟩
 show if Yw5 g p d < (g.terms.length:Int) then _ else if (ofS s (behind g p d) 0).2=true then _∧Yxz _ _ _ _ (OR (ofS s (behind g p d) 0).1 (vx v (atN g p + d))) _ else Yxz _ _ _ _ (ofS s (behind g p d) 0).1 _
 by_cases hT:Yw5 g p d < (g.terms.length:Int)
 ·rw [if_neg (by omega)] at hbe
  rw [if_pos hT,hbe]
 ·rw [if_pos (by omega)] at hbe
  rw [if_neg hT]
  have hd2:d < (Yvk g p).length:=by
   rcases Nat.lt_or_ge d (Yvk g p).length with h | h
   ·exact h
   ·unfold Yw5 at hT
    rw [if_neg (by omega)] at hT
    omega
  have hsy:=Zlb hr hp hd2
  rw [Zhg hd2] at hsy
  have hne:vx v (atN g p + d)≠0:=by
   have:=h.st.nz ((atN g p + d:Nat):Int) (List.mem_append_right _ (List.mem_singleton.2 rfl))
   rwa [Int.toNat_natCast] at this
  have hst:Stk g (v,st):=⟨h.st.len,h.st.ok,fun z hz=>h.st.pl z (List.mem_append_left _ hz),fun z hz=>h.st.nz z (List.mem_append_left _ hz)⟩
  have key:Yxz (Yw2 g s) (st++[((atN g p + d:Nat):Int)]) st v (ofV s (behind g p d) (vx v (atN g p + d))) (.inl (b.2,b.1):Sum ((List Int) × (List Int)) RC):=by
   have hU:U (ofV s (behind g p d) (vx v (atN g p + d))):=ofV_U hs (h.st.ok _)
   revert hbe hU
   generalize ofV s (behind g p d) (vx v (atN g p + d))=L
   intro hbe hU
   have exw:w64 (Yw5 g p d - (g.terms.length:Int))=Yw5 g p d - (g.terms.length:Int):=Yyq (by omega)
   have exz:(((Yw5 g p d - (g.terms.length:Int)).toNat:Nat):Int)=Yw5 g p d - (g.terms.length:Int):=Int.toNat_of_nonneg (by omega)
   have exl:(Yw5 g p d - (g.terms.length:Int)).toNat < g.syms.length:=by omega
   have eof:ix (Yw2 g s).of (Yw5 g p d - (g.terms.length:Int))=ofL g (Yw5 g p d - (g.terms.length:Int)) g.prods.length:=by
    rw [← exz]
    show ix (Zfg g g.prods.length) _=_
    rw [Yvv (by unfold Zfg; rw [List.length_map,List.length_range]; exact exl)]
    simp [Zfg]
   have esy:(Zcn g s p d).sym=Yw5 g p d:=rfl
   have hpl:∀ z ∈ ofL g (Yw5 g p d - (g.terms.length:Int)) g.prods.length,Zla g z:=fun z hz=>Zlf hz
   have hll:=Zpu g (Yw5 g p d - (g.terms.length:Int)) g.prods.length
   unfold Yxz
   rw [ew,ei,esp,eT,esy,exw]
   refine ⟨⟨by omega,?_⟩,?_⟩
   ·show _ < ((Zfg g g.prods.length).length:Int)
    rw [show (Zfg g g.prods.length).length=g.syms.length by simp [Zfg]]
    omega
   have kk:=Yui.upto (B:=fun (q:Int × (List Int) × (List Int)) o=>Yxf (Yw2 g s) (st++[((atN g p + d:Nat):Int)]) L q.1 q.2.1 q.2.2 o) (r:=(.inl (b.2,b.1):Sum ((List Int) × (List Int)) RC)) (fun k=>((k:Int),(adL L (v,st) ((ofL g (Yw5 g p d - (g.terms.length:Int)) g.prods.length).take k)).2,(adL L (v,st) ((ofL g (Yw5 g p d - (g.terms.length:Int)) g.prods.length).take k)).1)) (ofL g (Yw5 g p d - (g.terms.length:Int)) g.prods.length).length (fun k hk=>?_) ?_
   ·exact kk
   ·show Yxf (Yw2 g s) (st++[((atN g p + d:Nat):Int)]) L (k:Int) _ _ _
    have hm:=(Zq8 hU ((ofL g (Yw5 g p d - (g.terms.length:Int)) g.prods.length).take k) (fun z hz=>hpl z (List.mem_of_mem_take hz)) (v,st) hst).1
    have hz:=hpl _ (List.getElem_mem hk)
    unfold Yxf
    rw [ew,ei,esp,eT,esy,exw,eof,if_pos (by omega),Yvv hk,Yw3 (by omega)]
    refine ⟨by omega,ad (adL L (v,st) ((ofL g (Yw5 g p d - (g.terms.length:Int)) g.prods.length).take k)) ((ofL g (Yw5 g p d - (g.terms.length:Int)) g.prods.length)[k]).toNat L,?_,?_⟩
    ·have := ad_rel hb hm.st (i := ((ofL g (Yw5 g p d - (g.terms.length : Int)) g.prods.length)[k]).toNat) (by rw [hz.nn]; exact hz) hU (mv_n hm (by show st.length + Zbp v ≤ _; omega))
     rw [hz.nn] at this
     exact this
    ·rw [Zfc hk,adL_snoc]
     rfl
   ·show Yxf (Yw2 g s) (st++[((atN g p + d:Nat):Int)]) L (((ofL g (Yw5 g p d - (g.terms.length:Int)) g.prods.length).length:Nat):Int) _ _ _
    unfold Yxf
    rw [ew,ei,esp,eT,esy,exw,eof,if_neg (by omega),List.take_length,hbe]
  have eo:ofV s (behind g p d) (vx v (atN g p + d))=if (ofS s (behind g p d) 0).2=true then OR (ofS s (behind g p d) 0).1 (vx v (atN g p + d)) else (ofS s (behind g p d) 0).1:=rfl
  rw [eo] at key
  by_cases ho:(ofS s (behind g p d) 0).2=true
  ·rw [if_pos ho] at key ⊢
   exact ⟨⟨by omega,by rw [show v.length=nN g from h.st.len]; omega⟩,key⟩
  ·rw [if_neg ho] at key ⊢
   exact key
theorem Zsd {g:Yu5} (hb:Big g) (hr:Yxx g=true) {s:Yu8} (hs:Ok s) {ms:List Yus} (hl:ms.length < 2 ^ 60) (hm:∀ m ∈ ms,MkOk g m):∃ v,Yy9 (Yw2 g s) ms (v,Yw2 g s)∧Zju g s (Yxw g ms) v:=by
 have hN:=hb.n
 have e0:∀ ms:List Yus,(ms.foldl adM (a0 g)).1=Yxw g ms:=fun ms=>Zqe ms _
 have hmx:(a0 g).2.length + Zbp (a0 g).1≤64 * nN g:=by
  have:=meas_max (a0 g).1
  rw [(a0_st g).len] at this
  show 0 + _≤_
  omega
 have wl:∃ r,Yui (fun (q:(List Int) × (List Int)) o=>Yx8 (Yw2 g s) q.1 q.2 o) ((ms.foldl adM (a0 g)).2,(ms.foldl adM (a0 g)).1) r∧∃ v,r=(.inr (v,Yw2 g s):RC)∧Zju g s (Yxw g ms) v:=by
  refine Yui.some (fun q=>Wl g s (Yxw g ms) (q.2,q.1)) (fun q=>q.1.length + 2 * Zbp q.2) (fun q hq=>?_) ?_
  ·obtain ⟨st,v⟩:=q
   have hq:Wl g s (Yxw g ms) (v,st):=hq
   rcases List.eq_nil_or_concat st with rfl | ⟨st',z,rfl⟩
   ·left
    refine ⟨.inr (v,Yw2 g s),?_,v,rfl,⟨hq.st.len,hq.st.ok,hq.le,fun p hp d hd hv=>?_,hq.low⟩⟩
    ·show Yx8 (Yw2 g s) [] v _
     unfold Yx8
     rw [if_neg (by simp)]
    ·rcases hq.rule p d hp hd hv with k | k
     ·cases k
     ·exact k hv
   ·right
    rw [List.concat_eq_append] at hq
    rw [List.concat_eq_append]
    obtain ⟨p,d,hp,hd,rfl⟩:=hq.st.pl z (List.mem_append_right _ (List.mem_singleton.2 rfl))
    have hst:Stk g (v,st'):=⟨hq.st.len,hq.st.ok,fun z hz=>hq.st.pl z (List.mem_append_left _ hz),fun z hz=>hq.st.nz z (List.mem_append_left _ hz)⟩
    refine ⟨_,pop_rel hb hr hs hp hd hq rfl,wl_pop hs hp hd hq,?_⟩
    show (if (g.terms.length:Int)≤Yw5 g p d then adL (ofV s (behind g p d) (vx v (atN g p + d))) (v,st') (ofL g (Yw5 g p d - (g.terms.length:Int)) g.prods.length) else (v,st')).2.length + 2 * Zbp (if (g.terms.length:Int)≤Yw5 g p d then adL (ofV s (behind g p d) (vx v (atN g p + d))) (v,st') (ofL g (Yw5 g p d - (g.terms.length:Int)) g.prods.length) else (v,st')).1 < (st'++[((atN g p + d:Nat):Int)]).length + 2 * Zbp v
    rw [List.length_append,List.length_singleton]
    split
    ·have := (Zq8 (ofV_U hs (row := behind g p d) (show U (vx v (atN g p + d)) from hq.st.ok (atN g p + d))) (ofL g (Yw5 g p d - (g.terms.length : Int)) g.prods.length) (fun z hz => Zlf hz) (v, st') hst).1.n2
     have:_≤st'.length + 2 * Zbp v:=this
     omega
    ·show st'.length + 2 * Zbp v < _
     omega
  ·have hmv:=Zq5 ms hm (a0 g) (a0_st g)
   refine ⟨hmv.st,?_,fun u h1 h2 h3=>?_,mv_n hmv hmx,fun p d hp hd hv=>.inl ?_⟩
   ·show LeV _ (ms.foldl adM (a0 g)).1
    rw [e0]; exact LeV.refl _
   ·show LeV (ms.foldl adM (a0 g)).1 u
    rw [e0]; exact h3
   ·refine hmv.new _ ?_
    show vx _ _≠vx (List.replicate (nN g) 0) _
    rw [Zl4]
    exact hv
 obtain ⟨r,h1,v,rfl,h2⟩:=wl
 refine ⟨v,?_,h2⟩
 unfold Yy9
 rw [Zje]
 refine ⟨by omega,List.replicate (nN g) 0,by rw [Int.toNat_natCast],?_⟩
 have key:=Yui.upto (B:=fun (q:Int × (List Int) × (List Int)) o=>Yxc ms (Yw2 g s) q.1 q.2.1 q.2.2 o) (r:=(v,Yw2 g s)) (fun k=>((k:Int),((ms.take k).foldl adM (a0 g)).2,((ms.take k).foldl adM (a0 g)).1)) ms.length (fun k hk=>?_) ?_
 ·exact key
 ·show Yxc ms (Yw2 g s) (k:Int) _ _ _
  have hmv:=Zq5 (ms.take k) (fun m h=>hm m (List.mem_of_mem_take h)) (a0 g) (a0_st g)
  have hk1:=hm _ (List.getElem_mem hk)
  unfold Yxc
  rw [if_pos (by omega),Yvv hk,Yw3 (by omega)]
  refine ⟨by omega,adM ((ms.take k).foldl adM (a0 g)) ms[k],?_,?_⟩
  ·have := ad_rel hb hmv.st (i := ms[k].spot.toNat) (by rw [hk1.pl.nn]; exact hk1.pl) hk1.u (mv_n hmv hmx)
   rw [hk1.pl.nn] at this
   exact this
  ·rw [Zfc hk,List.foldl_append]
   rfl
 ·show Yxc ms (Yw2 g s) (ms.length:Int) _ _ _
  unfold Yxc
  rw [if_neg (by omega),List.take_length]
  exact h1
end Go.Proofs.YtadcichlnacagaaDoor.L
