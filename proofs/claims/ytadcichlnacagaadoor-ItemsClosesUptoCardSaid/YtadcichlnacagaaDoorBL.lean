/- Lemmas of my own on the machine: families whose rows are told further than their headers say (lent rows). No condition. -/
import Derived.Test.YtadcichlnacagaaDoorBT
set_option linter.unusedVariables false
set_option linter.unusedSimpArgs false
set_option linter.unusedSectionVars false
namespace Go.Proofs.YtadcichlnacagaaDoor.B
open Go.RowKit
theorem Ow.atn {α:Type} {z n c v:Nat} {A:Option Addr} {xs:List α} (h:Ow z A n c xs) (hv:v=xs.length):Ow z A v c xs:=by
 have e:v=n:=by rw [hv,← h.hq]
 subst e
 exact h
theorem Rw.vis {τ σ:Type} {dk:Kd τ} {dk2:Kd σ} {w:World} {F:Nat→Prop} {A:Option Addr} {n c:Nat} {xs:List τ} (vis:τ→σ) (hsz:dk2.sz=dk.sz) (hK:∀ x cs,dk.K w F x cs→dk2.K w F (vis x) cs) (h:Rw dk w F A n c xs):Rw dk2 w F A n c (xs.map vis):=by
 refine ⟨h.hq.trans (List.length_map _).symm,h.hn,h.hm,fun h0=>h.row.1 (by rwa [List.length_map] at h0),fun j y hj=>?_⟩
 rw [List.getElem?_map] at hj
 cases hx:xs[j]? with
 | none=>rw [hx] at hj; cases hj
 | some x =>
  rw [hx] at hj
  obtain rfl:=Option.some.inj hj
  obtain ⟨cs,h1,h2⟩:=h.row.2 j x hx
  exact ⟨cs,hK x cs h1,by rw [hsz]; exact h2⟩
section fam
variable {τ σ:Type} {fk:Fk τ} {fk2:Fk σ} {M:List Ent} {S:List Yva} {w0 w:World}
theorem Zqn (φ:τ→σ):∀ (xs:List τ) (D:List Sl),D.length=xs.length→(∀ (i:Nat) d x,D[i]? = some d→xs[i]? = some x→fk2.cl (φ x) d=fk.cl x d)→Zbs fk2 (xs.map φ) D=Zbs fk xs D
 | [],[],_,_=>rfl
 | x :: xs,d :: D,h,hc=>by
  show fk2.cl (φ x) d++Zbs fk2 (xs.map φ) D=fk.cl x d++Zbs fk xs D
  rw [hc 0 d x rfl rfl,Zqn φ xs D (by simpa using h) fun i d' x' h1 h2=>hc (i + 1) d' x' (by simpa using h1) (by simpa using h2)]
theorem Loc.widen {z:Nat} (hL:Loc w0 w M S) {j:Nat} {xs:List τ} {cs:List Value} {bs:List Nat} (φ:τ→σ) (h1:∀ x,(fk2.inn (φ x)).length=(fk.inn x).length) (h2:∀ x,(fk2.inn (φ x)).flatMap fk2.enc=(fk.inn x).flatMap fk.enc) (h3:∀ x d,d.n=(fk.inn x).length→fk2.cl (φ x) d=fk.cl x d) (h4:∀ x,fk2.ok (φ x)) (he:fk2.e=fk.e) (hsz:fk2.sz=fk.sz) (hj:M[j]? = some (Ywj fk z none xs cs bs)):Loc w0 w (M.set j (Ywj fk2 z none (xs.map φ) cs bs)) S:=by
 obtain ⟨D,f1,rfl,rfl,f4⟩:=Zdl (hL.get hj)
 have get:∀ (i:Nat) y,(xs.map φ)[i]? = some y→∃ x,xs[i]? = some x∧y=φ x:=fun i y h=>by
  rw [List.getElem?_map] at h
  cases hx:xs[i]? with
  | none=>rw [hx] at h; cases h
  | some x=>rw [hx] at h; exact ⟨x,rfl,(Option.some.inj h).symm⟩
 have hok:=Zfn (fk:=fk2) (h:=none) (D:=D) (xs:=xs.map φ) (w:=w) (z:=z) ⟨by rw [f1.hx,List.length_map],fun i d y g1 g2=>by
   obtain ⟨x,hx,rfl⟩:=get i y g2
   exact (f1.ow i d x g1 hx).w (h1 x),f1.far,fun y hy=>by
   obtain ⟨x,_,rfl⟩:=List.mem_map.1 hy
   exact h4 x⟩ (fun i d y _ g1 g2=>by
   obtain ⟨x,hx,rfl⟩:=get i y g2
   rw [he,hsz,h2 x]
   exact f4 i d x (by simp) g1 hx)
 rw [Zqn φ xs D f1.hx fun i d x g1 g2=>h3 x d (f1.ow i d x g1 g2).hq] at hok
 exact hL.upd hj (Chg.refl _ w) hok (fun b hb=>.inl hb)
theorem Loc.famnils {z:Nat} (hL:Loc w0 w M S) (xs:List τ) (hx:∀ x ∈ xs,fk.inn x=[]∧fk.ok x):Loc w0 w (Ywj fk z none xs (xs.flatMap fun x=>fk.cl x ⟨none,0,0⟩) [] :: M) S:=by
 have hbl:Sl.bl ⟨none,0,0⟩=[]:=rfl
 have hB:Zgj none (List.replicate xs.length (⟨none,0,0⟩:Sl))=[]:=by
  unfold Zgj
  rw [List.flatMap_eq_nil_iff]
  intro d hd
  rw [List.eq_of_mem_replicate hd,hbl]
 have hC:∀ ys:List τ,Zbs fk ys (List.replicate ys.length ⟨none,0,0⟩)=ys.flatMap fun x=>fk.cl x ⟨none,0,0⟩:=fun ys=>by
  induction ys with
  | nil=>rfl
  | cons y ys ih=>rw [List.length_cons,List.replicate_succ,Zbs,ih,List.flatMap_cons]
 have hat:∀ (q:Nat) (d:Sl),(List.replicate xs.length (⟨none,0,0⟩:Sl))[q]? = some d→d=⟨none,0,0⟩:=fun q d h1=>List.eq_of_mem_replicate (List.mem_of_getElem? h1)
 have hok:=Zfn (fk:=fk) (h:=none) (D:=List.replicate xs.length ⟨none,0,0⟩) (xs:=xs) (w:=w) (z:=z) ⟨List.length_replicate,fun q d y h1 h2=>by
   obtain rfl:=hat q d h1
   rw [(hx y (List.mem_of_getElem? h2)).1]; exact Ow.nil,List.pairwise_iff_getElem.2 fun a b ha hb _=>(by
    rw [List.getElem_replicate,hbl]; intro q hq; cases hq),fun y hy=>(hx y hy).2⟩ (fun q d y _ h1 h2=>by
   obtain rfl:=hat q d h1
   rw [(hx y (List.mem_of_getElem? h2)).1]; exact Yzb.nil _ _ _)
 rw [hC xs,hB] at hok
 exact hL.add (Chg.refl _ w) _ hok (fun b hb=>by cases hb)
end fam
section rules
variable {τ σ:Type} {fk:Fk τ} {fk2:Fk σ} {C:Cx} {ops:Array Oper} {k:List Item} {l:Fm} {M:List Ent} {S:List Yva} {Mi:List Ent} {Si:List Yva} {L:List Nat} {fuel:Nat} {lst:Array Bool} {ty:TypeId} {pos:String} {after:Ed} {g:Gu} {d:Nat} {z:Nat}
theorem w_widen {i j:Nat} {xs:List τ} {cs:List Value} {bs:List Nat} (fk2:Fk σ) (φ:τ→σ) (h1:∀ x,(fk2.inn (φ x)).length=(fk.inn x).length) (h2:∀ x,(fk2.inn (φ x)).flatMap fk2.enc=(fk.inn x).flatMap fk.enc) (h3:∀ x d,d.n=(fk.inn x).length→fk2.cl (φ x) d=fk.cl x d) (h4:∀ x,fk2.ok (φ x)) (he:fk2.e=fk.e) (hsz:fk2.sz=fk.sz) (hj:M[j]? = some (Ywj fk z none xs cs bs)) (h:WL C ops i k l (M.set j (Ywj fk2 z none (xs.map φ) cs bs)) S):WL C ops i k l M S:=fun a w hF hL=>h a w hF (hL.widen φ h1 h2 h3 h4 he hsz hj)
theorem wf_widen {hd:Bool} {j:Nat} {xs:List τ} {cs:List Value} {bs:List Nat} (fk2:Fk σ) (φ:τ→σ) (h1:∀ x,(fk2.inn (φ x)).length=(fk.inn x).length) (h2:∀ x,(fk2.inn (φ x)).flatMap fk2.enc=(fk.inn x).flatMap fk.enc) (h3:∀ x d,d.n=(fk.inn x).length→fk2.cl (φ x) d=fk.cl x d) (h4:∀ x,fk2.ok (φ x)) (he:fk2.e=fk.e) (hsz:fk2.sz=fk.sz) (hj:M[j]? = some (Ywj fk z none xs cs bs)) (h:WF C ops Mi Si L hd fuel lst k l (M.set j (Ywj fk2 z none (xs.map φ) cs bs)) S):WF C ops Mi Si L hd fuel lst k l M S:=fun a w hF hL hH=>h a w hF (hL.widen φ h1 h2 h3 h4 he hsz hj) hH
variable [Inhabited τ]
theorem wf_takeV {hd:Bool} {j v:Nat} {xs:List τ} {cs:List Value} {bs:List Nat} (hj:M[j]? = some (Ywj fk z none xs cs bs)) {q:Int} (hi:0≤q∧q < (xs.length:Int)) {A:Option Addr} {n c:Nat} (hc:Hdr fk xs cs q A n c) (hv:v=(fk.inn (ix xs q)).length) (h:∀ bs',WF C ops Mi Si L hd fuel lst k l (.own (.slice A v c) fk.e fk.sz v ((fk.inn (ix xs q)).flatMap fk.enc) :: M.set j (Ywj fk z (some q.toNat) xs cs bs')) S):WF C ops Mi Si L hd fuel lst k l M S:=fun a w hF hL hH=>by
 have e:v=n:=hv.trans hc.2.1.symm
 subst e
 obtain ⟨bs',h1⟩:=hL.take hj hi hc
 exact h bs' a w hF h1 hH
theorem Zs4 {hd:Bool} (fk:Fk τ) (xs:List τ) (cs:List Value) (hx:∀ x ∈ xs,fk.inn x=[]∧fk.ok x) (hc:(xs.flatMap fun x=>fk.cl x ⟨none,0,0⟩)=cs) (h:WF C ops Mi Si L hd fuel lst k l (Ywj fk z none xs cs [] :: M) S):WF C ops Mi Si L hd fuel lst k l M S:=fun a w hF hL hH=>by
 subst hc
 exact h a w hF (hL.famnils xs hx) hH
theorem Zti {hd:Bool} {j1 j:Nat} {xs ys zs:List τ} {cs ds es:List Value} {bs bs2:List Nat} (hij:j1≠j) (hi:M[j1]? = some (Ywj fk z none ys ds bs2)) (hj:M[j]? = some (Ywj fk z none xs cs bs)) (hz:zs=xs++ys) (he:es=cs++ds) (h:∀ bs',WF C ops Mi Si L hd fuel lst k l ((M.set j (Ywj fk z none zs es bs')).eraseIdx j1) S):WF C ops Mi Si L hd fuel lst k l M S:=fun a w hF hL hH=>by
 subst hz he
 exact h _ a w hF (hL.famcat hij hi hj) hH
theorem Hdr.set {xs zs:List τ} {cs:List Value} {q:Int} {A:Option Addr} {n c:Nat} {x':τ} (h:Hdr fk xs cs q A n c) (hq:0≤q∧q < (xs.length:Int)) (hz:zs=xs.set q.toNat x') (hcl:fk.cl x' ⟨A,n,c⟩=fk.cl (ix xs q) ⟨A,n,c⟩) (hn:(fk.inn x').length=(fk.inn (ix xs q)).length) (hk:fk.ok x'):Hdr fk zs cs q A n c∧ix zs q=x'∧0≤q∧q < (zs.length:Int):=by
 obtain ⟨h1,h2,h3⟩:=h
 have hlt:q.toNat < xs.length:=by omega
 have e:ix zs q=x':=by
  have:=Zfh (xs:=zs) (i:=q) (by rw [hz,List.length_set]; exact hq)
  rw [hz,List.getElem?_set_self hlt] at this
  rw [hz]
  exact (Option.some.inj this).symm
 refine ⟨⟨?_,?_,?_⟩,e,hq.1,by rw [hz,List.length_set]; exact hq.2⟩
 ·rw [e,hcl]; exact h1
 ·rw [e,hn]; exact h2
 ·rw [e]; exact hk
theorem Src.famF {A:Option Addr} {n c m:Nat} {xs:List τ} {cs:List Value} {bs:List Nat} {ys:List fk.α} (j:Nat) (hM:M[j]? = some (Ywj fk z none xs cs bs)) {q:Int} (hi:0≤q∧q < (xs.length:Int)) (hc:Hdr fk xs cs q A n c) (ho:Ow z A n c (fk.inn (ix xs q))) (hm:m≤n) (hys:ys=(fk.inn (ix xs q)).take m):Src C M S A m fk.sz (ys.flatMap fk.enc):=by
 subst hys
 refine ⟨by rw [Zln fk.hl,List.length_take,← ho.hq,Nat.min_eq_left hm],fun u hu=>?_,fun h0=>ho.hA (by omega),fun w hL q' u hu=>?_⟩
 ·obtain ⟨x,_,hx⟩:=List.mem_flatMap.1 hu
  exact fk.h1 x u hx
 ·rw [← Zkx fk.hl,List.getElem?_take] at hu
  split at hu
  ·exact Zhn (hL.famrow hM hi hc).1 hu
  ·cases hu
end rules
end Go.Proofs.YtadcichlnacagaaDoor.B
