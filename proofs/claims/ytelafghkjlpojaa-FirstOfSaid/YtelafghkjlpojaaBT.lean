/- Lemmas of my own on the machine: a row that is kept while it is appended to under another name. No condition. -/
import Derived.Test.YtelafghkjlpojaaBF
set_option linter.unusedVariables false
set_option linter.unusedSimpArgs false
set_option linter.unusedSectionVars false
namespace Go.Proofs.Ytelafghkjlpojaa.B
open Go.RowKit
section tw
variable {α:Type} (enc:α→List Value)
variable {enc} {M M0 rest:List Ent} {S:List Ygl} {w0 w:World} {e sz:Nat} {A0 A:Option Addr} {n0 c0 n c:Nat} {xs0 zs:List α}
variable {C:Cx} {ops:Array Oper} {k:List Item} {l:Fm} {ty:TypeId} {pos:String} {after:Ed} {g:Gu} {d:Nat} {Nx:Fm→List Ent→List Ygl→Prop}
end tw
section fam
variable {τ:Type} {fk:Fk τ} {M:List Ent} {S:List Ygl} {w0 w:World}
theorem Yra:∀ (xs:List τ) (D:List Sl) (k:Nat) (x x':τ) (d d':Sl) (off:Nat) (vs:List Value),D.length=xs.length→xs[k]? = some x→D[k]? = some d→off + vs.length≤fk.so→Yjv (fk.cl x d) off vs=fk.cl x' d'→Yky fk (xs.set k x') (D.set k d')=Yjv (Yky fk xs D) (k * fk.so + off) vs
 | x0 :: xs,d0 :: D,0,x,x',d,d',off,vs,h,hx,hd,ho,hc=>by
  simp only [List.getElem?_cons_zero,Option.some.injEq] at hx hd
  subst hx hd
  have h1:=Yo4 (a:=[]) (m:=fk.cl x0 d0) (b:=Yky fk xs D) (vs:=vs) (o:=off) (by rw [fk.hcl]; exact ho)
  simp only [List.nil_append,List.length_nil,Nat.zero_add] at h1
  simp only [List.set_cons_zero,Yky,Nat.zero_mul,Nat.zero_add]
  rw [h1,hc]
 | x0 :: xs,d0 :: D,k + 1,x,x',d,d',off,vs,h,hx,hd,ho,hc=>by
  simp only [List.getElem?_cons_succ] at hx hd
  simp only [List.set_cons_succ,Yky]
  have hlt:k < xs.length:=(List.getElem?_eq_some_iff.1 hx).1
  have hl:D.length=xs.length:=by simpa using h
  have hlen:=Yqs (fk:=fk) xs D hl
  have h2:(k + 1) * fk.so≤xs.length * fk.so:=Nat.mul_le_mul_right _ hlt
  have h1:=Yo4 (a:=fk.cl x0 d0) (m:=Yky fk xs D) (b:=[]) (vs:=vs) (o:=k * fk.so + off) (by rw [Nat.add_mul] at h2; omega)
  rw [List.append_nil,List.append_nil,fk.hcl] at h1
  rw [Yra xs D k x x' d d' off vs hl hx hd ho hc,show (k + 1) * fk.so + off=fk.so + (k * fk.so + off) by rw [Nat.add_mul]; omega,h1]
 | x0 :: xs,[],k,x,x',d,d',off,vs,h,hx,hd,ho,hc=>by simp at hd
 | [],D,k,x,x',d,d',off,vs,h,hx,hd,ho,hc=>by simp at hx
theorem Loc.famset [Inhabited τ] {z:Nat} {h:Option Nat} (hL:Loc w0 w M S) {j0 j:Nat} {xs:List τ} {cs:List Value} {bs':List Nat} (hj0:j0≠j) {i:Int} (hj:M[j]? = some (Yi4 fk z h xs cs bs')) (hh:h=none∨h=some i.toNat) (hi:0≤i∧i < (xs.length:Int)) {A:Option Addr} {n c off:Nat} {cells vs:List Value} {A1:Option Addr} {n1 c1:Nat} (hM:M[j0]? = some (.own (.slice A n c) fk.e fk.sz n cells)) (x':τ) (ho:Ow z A n c (fk.inn x')) (hcs:cells=(fk.inn x').flatMap fk.enc)
  (hoff:off + vs.length≤fk.so) (hc:Hdr fk xs cs i A1 n1 c1) (hset:Yjv (fk.cl (ix xs i) ⟨A1,n1,c1⟩) off vs=fk.cl x' ⟨A,n,c⟩) (hk:fk.ok x'):∃ bs,Loc w0 w ((M.set j (Yi4 fk z none (xs.set i.toNat x') (Yjv cs (i.toNat * fk.so + off) vs) bs)).eraseIdx j0) S:=by
 subst hcs
 obtain ⟨D,f1,rfl,rfl,f4⟩:=Ym1 (hL.get hj)
 have hx:=Yn5 hi
 have hd:=f1.find hx hc.1 hc.2.1
 have hlt:i.toNat < D.length:=(List.getElem?_eq_some_iff.1 hd).1
 have hown:Yjn w fk.e fk.sz (.slice A n c) n ((fk.inn x').flatMap fk.enc):=hL.get hM
 have hget:∀ (q:Nat) d x,(D.set i.toNat ⟨A,n,c⟩)[q]? = some d→(xs.set i.toNat x')[q]? = some x→(q=i.toNat∧d=⟨A,n,c⟩∧x=x')∨(q≠i.toNat∧D[q]? = some d∧xs[q]? = some x):=fun q d x h1 h2=>by
  rw [List.getElem?_set] at h1 h2
  by_cases e:i.toNat=q
  ·subst e
   rw [if_pos rfl] at h1 h2
   rw [if_pos hlt] at h1
   rw [if_pos (by rw [← f1.hx]; exact hlt)] at h2
   exact .inl ⟨rfl,(Option.some.inj h1).symm,(Option.some.inj h2).symm⟩
  ·rw [if_neg e] at h1 h2
   exact .inr ⟨fun e'=>e e'.symm,h1,h2⟩
 have hne:∀ q:Nat,q≠i.toNat→h≠some q:=fun q hq=>by
  rcases hh with rfl | rfl
  ·simp
  ·exact fun e=>hq (Option.some.inj e).symm
 have hnew:∀ (q:Nat) d,q≠i.toNat→D[q]? = some d→far d.bl (Sl.bl ⟨A,n,c⟩):=fun q d hq h1 b hb hb' =>
  Yla hL.apart hj0 hM hj b hb' (Ync (hne q hq) h1 hb)
 have hok:=Yn0 (fk:=fk) (h:=none) (D:=D.set i.toNat ⟨A,n,c⟩) (xs:=xs.set i.toNat x') (w:=w) (z:=z) ⟨by rw [List.length_set,List.length_set,f1.hx],fun q d x h1 h2=>by
   rcases hget q d x h1 h2 with ⟨_,rfl,rfl⟩ | ⟨_,h3,h4⟩
   ·exact ho
   ·exact f1.ow _ _ _ h3 h4,List.pairwise_iff_getElem.2 fun a b ha hb hab=>by
    simp only [List.length_set] at ha hb
    rw [List.getElem_set,List.getElem_set]
    have ga:D[a]? = some D[a]:=List.getElem?_eq_getElem ha
    have gb:D[b]? = some D[b]:=List.getElem?_eq_getElem hb
    by_cases e1:i.toNat=a
    ·rw [if_pos e1, if_neg (by omega)]
     exact far.symm' (hnew b _ (by omega) gb)
    ·rw [if_neg e1]
     by_cases e2:i.toNat=b
     ·rw [if_pos e2]
      exact hnew a _ (by omega) ga
     ·rw [if_neg e2]
      exact List.pairwise_iff_getElem.1 f1.far a b ha hb hab,fun y hy=>(List.mem_or_eq_of_mem_set hy).elim (f1.okx y) fun e=>e ▸ hk⟩ (fun q d x _ h1 h2=>by
   rcases hget q d x h1 h2 with ⟨_,rfl,rfl⟩ | ⟨hq,h3,h4⟩
   ·exact hown
   ·exact f4 _ _ _ (hne q hq) h3 h4)
 rw [Yra xs D _ _ x' _ ⟨A,n,c⟩ off vs f1.hx hx hd hoff hset] at hok
 refine ⟨Yne none (D.set i.toNat ⟨A,n,c⟩),hL.join2 hj0 hM hj hok (fun b hb=>?_)⟩
 obtain ⟨d,h1,h2⟩:=List.mem_flatMap.1 hb
 obtain ⟨q,h1⟩:=List.mem_iff_getElem?.1 h1
 rw [List.getElem?_set] at h1
 by_cases e:i.toNat=q
 ·rw [if_pos e,if_pos hlt] at h1
  rw [← Option.some.inj h1] at h2
  exact .inl h2
 ·rw [if_neg e] at h1
  exact .inr (Ync (hne q fun e'=>e e'.symm) h1 h2)
variable {C:Cx} {ops:Array Oper} {k:List Item} {l:Fm} {ty:TypeId} {pos:String} {after:Ed} {g:Gu} {d:Nat} {Nx:Fm→List Ent→List Ygl→Prop}
theorem Yto [Inhabited τ] {z z0:Nat} {ho0:Option Nat} {T m e0 n0 c0 off:Nat} {x y:Operand} {A0 A:Option Addr} {n c:Nat} {xs ys:List τ} {cs cells vs:List Value} {bs:List Nat} {v:Value} {q:Int} {A1:Option Addr} {n1 c1:Nat} (j jf j0:Nat) (h1:Nat.beq j0 jf=false) (h2:Nat.beq j jf=false) (h3:Nat.beq j j0=false) (hT:szK C.P T=some m) (hx:evl l x=some (eA A0 (q.toNat * fk.so + off))) (hy:evl l y=some v)
  (hM:M[j]? = some (.own (.slice A0 n0 c0) e0 fk.so n0 cs)) (ho:Ow z0 A0 n0 c0 xs) (hf:M[jf]? = some (Yi4 fk z ho0 xs cs bs)) (hh:ho0=none∨ho0=some q.toNat) (hr:M[j0]? = some (.own (.slice A n c) fk.e fk.sz n cells)) (hq:0≤q∧q < (xs.length:Int)) (x':τ) (hr2:Ow z A n c (fk.inn x')) (hcs:cells=(fk.inn x').flatMap fk.enc)
  (hv:v.cells.toList=vs) (hm:vs.length=m) (hone:vs.all Value.oneCell'=true) (hc:Hdr fk xs cs q A1 n1 c1) (hset:Yjv (fk.cl (ix xs q) ⟨A1,n1,c1⟩) off vs=fk.cl x' ⟨A,n,c⟩) (hk:fk.ok x') (hoff:Nat.ble (off + m) fk.so=true) (hys:ys=xs.set q.toNat x')
  (h:∀ cs' bs',Ow z0 A0 n0 c0 ys→Nx l (((M.set j (.own (.slice A0 n0 c0) e0 fk.so n0 cs')).set jf (Yi4 fk z none ys cs' bs')).eraseIdx j0) S):Stp C ⟨none,.store T x y,ty,pos,after,g⟩ l M S Nx:=by
 subst hys
 have hoff':=Nat.le_of_ble_eq_true hoff
 have e1:=Nat.ne_of_beq_eq_false h1
 have e2:=Nat.ne_of_beq_eq_false h2
 have e3:=Nat.ne_of_beq_eq_false h3
 intro a w hF hL
 have hlen:cs.length=xs.length * fk.so:=by
  obtain ⟨D,f1,rfl,_,_⟩:=Ym1 (hL.get hf)
  exact Yqs xs D f1.hx
 have hlt:q.toNat < xs.length:=by omega
 have h5:(q.toNat + 1) * fk.so≤xs.length * fk.so:=Nat.mul_le_mul_right _ hlt
 rw [Nat.add_mul,Nat.one_mul] at h5
 intro Q
 have hs:=s_stO (C:=C) (S:=S) (l:=l) (ty:=ty) (pos:=pos) (after:=after) (g:=g) (Nx:=fun l' M' S'=>l'=l∧M'=M.set j (.own (.slice A0 n0 c0) e0 fk.so n0 (Yjv cs (q.toNat * fk.so + off) vs))∧S'=S) j hT hx hy hM hv hm (by omega) (by rw [ho.hq]; omega) hone rfl ⟨rfl,rfl,rfl⟩ a w hF hL Q
 refine Oper.wp_mono (fun a' w' hE=>?_) hs
 obtain ⟨l',M',S',g1,g2,rfl,rfl,rfl⟩:=hE
 obtain ⟨bs',g3⟩:=g2.famset (j0:=j0) (j:=jf) e1 (by rw [List.getElem?_set_ne e2]; exact hf) hh hq (by rw [List.getElem?_set_ne e3]; exact hr) x' hr2 hcs (by rw [hm]; exact hoff') hc hset hk
 exact ⟨_,_,_,g1,g3,h _ _ (ho.w (by rw [List.length_set]))⟩
end fam
section wf
variable {C:Cx} {ops:Array Oper} {Mi:List Ent} {Si:List Ygl} {L:List Nat} {fuel:Nat} {lst:Array Bool} {k:List Item} {l:Fm} {M:List Ent} {S:List Ygl} {τ:Type} {fk:Fk τ} {F:Nat→Prop}
theorem wf_take [Inhabited τ] {hd:Bool} {j z:Nat} {xs:List τ} {cs:List Value} {bs:List Nat} (hj:M[j]? = some (Yi4 fk z none xs cs bs)) {q:Int} (hi:0≤q∧q < (xs.length:Int)) {A:Option Addr} {n c:Nat} (hc:Hdr fk xs cs q A n c) (h:∀ bs',WF C ops Mi Si L hd fuel lst k l (.own (.slice A n c) fk.e fk.sz n ((fk.inn (ix xs q)).flatMap fk.enc) :: M.set j (Yi4 fk z (some q.toNat) xs cs bs')) S):WF C ops Mi Si L hd fuel lst k l M S:=fun a w hF hL hH=>by
 obtain ⟨bs',h1⟩:=hL.take hj hi hc
 exact h bs' a w hF h1 hH
end wf
section cutl
variable {C:Cx} {l:Fm} {M:List Ent} {S:List Ygl} {ty:TypeId} {pos:String} {after:Ed} {g:Gu} {d:Nat}
end cutl
end Go.Proofs.Ytelafghkjlpojaa.B
