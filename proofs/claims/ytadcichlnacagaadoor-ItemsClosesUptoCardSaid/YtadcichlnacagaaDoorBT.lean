/- Lemmas of my own on the machine: a row that is kept while it is appended to under another name. No condition. -/
import Derived.Test.YtadcichlnacagaaDoorBF
set_option linter.unusedVariables false
set_option linter.unusedSimpArgs false
set_option linter.unusedSectionVars false
namespace Go.Proofs.YtadcichlnacagaaDoor.B
open Go.RowKit
section tw
variable {α:Type} (enc:α→List Value)
variable {enc} {M M0 rest:List Ent} {S:List Yva} {w0 w:World} {e sz:Nat} {A0 A:Option Addr} {n0 c0 n c:Nat} {xs0 zs:List α}
variable {C:Cx} {ops:Array Oper} {k:List Item} {l:Fm} {ty:TypeId} {pos:String} {after:Ed} {g:Gu} {d:Nat} {Nx:Fm→List Ent→List Yva→Prop}
end tw
section fam
variable {τ:Type} {fk:Fk τ} {M:List Ent} {S:List Yva} {w0 w:World}
theorem Zos:∀ (xs:List τ) (D:List Sl) (k:Nat) (x x':τ) (d d':Sl) (off:Nat) (vs:List Value),D.length=xs.length→xs[k]? = some x→D[k]? = some d→off + vs.length≤fk.so→Zar (fk.cl x d) off vs=fk.cl x' d'→Zbs fk (xs.set k x') (D.set k d')=Zar (Zbs fk xs D) (k * fk.so + off) vs
 | x0 :: xs,d0 :: D,0,x,x',d,d',off,vs,h,hx,hd,ho,hc=>by
  simp only [List.getElem?_cons_zero,Option.some.injEq] at hx hd
  subst hx hd
  have h1:=Zjl (a:=[]) (m:=fk.cl x0 d0) (b:=Zbs fk xs D) (vs:=vs) (o:=off) (by rw [fk.hcl]; exact ho)
  simp only [List.nil_append,List.length_nil,Nat.zero_add] at h1
  simp only [List.set_cons_zero,Zbs,Nat.zero_mul,Nat.zero_add]
  rw [h1,hc]
 | x0 :: xs,d0 :: D,k + 1,x,x',d,d',off,vs,h,hx,hd,ho,hc=>by
  simp only [List.getElem?_cons_succ] at hx hd
  simp only [List.set_cons_succ,Zbs]
  have hlt:k < xs.length:=(List.getElem?_eq_some_iff.1 hx).1
  have hl:D.length=xs.length:=by simpa using h
  have hlen:=Zn5 (fk:=fk) xs D hl
  have h2:(k + 1) * fk.so≤xs.length * fk.so:=Nat.mul_le_mul_right _ hlt
  have h1:=Zjl (a:=fk.cl x0 d0) (m:=Zbs fk xs D) (b:=[]) (vs:=vs) (o:=k * fk.so + off) (by rw [Nat.add_mul] at h2; omega)
  rw [List.append_nil,List.append_nil,fk.hcl] at h1
  rw [Zos xs D k x x' d d' off vs hl hx hd ho hc,show (k + 1) * fk.so + off=fk.so + (k * fk.so + off) by rw [Nat.add_mul]; omega,h1]
 | x0 :: xs,[],k,x,x',d,d',off,vs,h,hx,hd,ho,hc=>by simp at hd
 | [],D,k,x,x',d,d',off,vs,h,hx,hd,ho,hc=>by simp at hx
theorem Loc.famset [Inhabited τ] {z:Nat} {h:Option Nat} (hL:Loc w0 w M S) {j0 j:Nat} {xs:List τ} {cs:List Value} {bs':List Nat} (hj0:j0≠j) {i:Int} (hj:M[j]? = some (Ywj fk z h xs cs bs')) (hh:h=none∨h=some i.toNat) (hi:0≤i∧i < (xs.length:Int)) {A:Option Addr} {n c off:Nat} {cells vs:List Value} {A1:Option Addr} {n1 c1:Nat} (hM:M[j0]? = some (.own (.slice A n c) fk.e fk.sz n cells)) (x':τ) (ho:Ow z A n c (fk.inn x')) (hcs:cells=(fk.inn x').flatMap fk.enc)
  (hoff:off + vs.length≤fk.so) (hc:Hdr fk xs cs i A1 n1 c1) (hset:Zar (fk.cl (ix xs i) ⟨A1,n1,c1⟩) off vs=fk.cl x' ⟨A,n,c⟩) (hk:fk.ok x'):∃ bs,Loc w0 w ((M.set j (Ywj fk z none (xs.set i.toNat x') (Zar cs (i.toNat * fk.so + off) vs) bs)).eraseIdx j0) S:=by
 subst hcs
 obtain ⟨D,f1,rfl,rfl,f4⟩:=Zdl (hL.get hj)
 have hx:=Zfh hi
 have hd:=f1.find hx hc.1 hc.2.1
 have hlt:i.toNat < D.length:=(List.getElem?_eq_some_iff.1 hd).1
 have hown:Yzb w fk.e fk.sz (.slice A n c) n ((fk.inn x').flatMap fk.enc):=hL.get hM
 have hget:∀ (q:Nat) d x,(D.set i.toNat ⟨A,n,c⟩)[q]? = some d→(xs.set i.toNat x')[q]? = some x→(q=i.toNat∧d=⟨A,n,c⟩∧x=x')∨(q≠i.toNat∧D[q]? = some d∧xs[q]? = some x):=fun q d x h1 h2=>by
  rw [List.getElem?_set] at h1 h2
  by_cases e:i.toNat=q
  ·subst e
   rw [if_pos rfl] at h1 h2
   rw [if_pos hlt] at h1
   rw [if_pos (by rw [← f1.hx]; exact hlt)] at h2
   exact .inl ⟨rfl,(Option.some.inj h1).symm,(Option.some.inj h2).symm⟩
  ·rw [if_neg e] at h1 h2
   exact .inr ⟨fun e'=>e e'.symm,h1,h2⟩
 have hne:∀ q:Nat,q≠i.toNat→h≠some q:=fun q hq=>by
  rcases hh with rfl | rfl
  ·simp
  ·exact fun e=>hq (Option.some.inj e).symm
 have hnew:∀ (q:Nat) d,q≠i.toNat→D[q]? = some d→far d.bl (Sl.bl ⟨A,n,c⟩):=fun q d hq h1 b hb hb' =>
  Zc3 hL.apart hj0 hM hj b hb' (Zfu (hne q hq) h1 hb)
 have hok:=Zfn (fk:=fk) (h:=none) (D:=D.set i.toNat ⟨A,n,c⟩) (xs:=xs.set i.toNat x') (w:=w) (z:=z) ⟨by rw [List.length_set,List.length_set,f1.hx],fun q d x h1 h2=>by
   rcases hget q d x h1 h2 with ⟨_,rfl,rfl⟩ | ⟨_,h3,h4⟩
   ·exact ho
   ·exact f1.ow _ _ _ h3 h4,List.pairwise_iff_getElem.2 fun a b ha hb hab=>by
    simp only [List.length_set] at ha hb
    rw [List.getElem_set,List.getElem_set]
    have ga:D[a]? = some D[a]:=List.getElem?_eq_getElem ha
    have gb:D[b]? = some D[b]:=List.getElem?_eq_getElem hb
    by_cases e1:i.toNat=a
    ·rw [if_pos e1, if_neg (by omega)]
     exact far.symm' (hnew b _ (by omega) gb)
    ·rw [if_neg e1]
     by_cases e2:i.toNat=b
     ·rw [if_pos e2]
      exact hnew a _ (by omega) ga
     ·rw [if_neg e2]
      exact List.pairwise_iff_getElem.1 f1.far a b ha hb hab,fun y hy=>(List.mem_or_eq_of_mem_set hy).elim (f1.okx y) fun e=>e ▸ hk⟩ (fun q d x _ h1 h2=>by
   rcases hget q d x h1 h2 with ⟨_,rfl,rfl⟩ | ⟨hq,h3,h4⟩
   ·exact hown
   ·exact f4 _ _ _ (hne q hq) h3 h4)
 rw [Zos xs D _ _ x' _ ⟨A,n,c⟩ off vs f1.hx hx hd hoff hset] at hok
 refine ⟨Zgj none (D.set i.toNat ⟨A,n,c⟩),hL.join2 hj0 hM hj hok (fun b hb=>?_)⟩
 obtain ⟨d,h1,h2⟩:=List.mem_flatMap.1 hb
 obtain ⟨q,h1⟩:=List.mem_iff_getElem?.1 h1
 rw [List.getElem?_set] at h1
 by_cases e:i.toNat=q
 ·rw [if_pos e,if_pos hlt] at h1
  rw [← Option.some.inj h1] at h2
  exact .inl h2
 ·rw [if_neg e] at h1
  exact .inr (Zfu (hne q fun e'=>e e'.symm) h1 h2)
theorem Zr7 (x : τ) (d : Sl) (c : List Value) (hc : fk.cl x d = c) : ∀ n : Nat, Zbs fk (List.replicate n x) (List.replicate n d) = (List.replicate n x).flatMap fun _ => c
 | 0=>rfl
 | n + 1=>by rw [List.replicate_succ,List.replicate_succ,Zbs,Zr7 x d c hc n,hc,List.flatMap_cons]
theorem Loc.famrep {z:Nat} (hL:Loc w0 w M S) (n:Nat) (x:τ) (c:List Value) (hx:fk.inn x=[]) (hc:fk.cl x ⟨none,0,0⟩=c) (hk:fk.ok x):Loc w0 w (Ywj fk z none (List.replicate n x) ((List.replicate n x).flatMap fun _=>c) [] :: M) S:=by
 have hbl:Sl.bl ⟨none,0,0⟩=[]:=rfl
 have hB:Zgj none (List.replicate n (⟨none,0,0⟩:Sl))=[]:=by
  unfold Zgj
  rw [List.flatMap_eq_nil_iff]
  intro d hd
  rw [List.eq_of_mem_replicate hd,hbl]
 have hat:∀ (q:Nat) (d:Sl) (y:τ),(List.replicate n (⟨none,0,0⟩:Sl))[q]? = some d→(List.replicate n x)[q]? = some y→d=⟨none,0,0⟩∧y=x:=fun q d y h1 h2=>⟨List.eq_of_mem_replicate (List.mem_of_getElem? h1),List.eq_of_mem_replicate (List.mem_of_getElem? h2)⟩
 have hok:=Zfn (fk:=fk) (h:=none) (D:=List.replicate n ⟨none,0,0⟩) (xs:=List.replicate n x) (w:=w) (z:=z) ⟨by rw [List.length_replicate,List.length_replicate],fun q d y h1 h2=>by
   obtain ⟨rfl,rfl⟩:=hat q d y h1 h2
   rw [hx]; exact Ow.nil,List.pairwise_iff_getElem.2 fun a b ha hb _=>(by
    rw [List.getElem_replicate,hbl]; intro q hq; cases hq),fun y hy=>by rw [List.eq_of_mem_replicate hy]; exact hk⟩ (fun q d y _ h1 h2=>by
   obtain ⟨rfl,rfl⟩:=hat q d y h1 h2
   rw [hx]; exact Yzb.nil _ _ _)
 rw [Zr7 x _ c hc,hB] at hok
 exact hL.add (e:=Ywj fk z none (List.replicate n x) ((List.replicate n x).flatMap fun _=>c) []) (Chg.refl _ w) hok (fun b hb=>by cases hb)
variable {C:Cx} {ops:Array Oper} {k:List Item} {l:Fm} {ty:TypeId} {pos:String} {after:Ed} {g:Gu} {d:Nat} {Nx:Fm→List Ent→List Yva→Prop}
theorem Zpf [Inhabited τ] {z z0:Nat} {ho0:Option Nat} {T m e0 n0 c0 off:Nat} {x y:Operand} {A0 A:Option Addr} {n c:Nat} {xs ys:List τ} {cs cells vs:List Value} {bs:List Nat} {v:Value} {q:Int} {A1:Option Addr} {n1 c1:Nat} (j jf j0:Nat) (h1:Nat.beq j0 jf=false) (h2:Nat.beq j jf=false) (h3:Nat.beq j j0=false) (hT:szK C.P T=some m) (hx:evl l x=some (eA A0 (q.toNat * fk.so + off))) (hy:evl l y=some v)
  (hM:M[j]? = some (.own (.slice A0 n0 c0) e0 fk.so n0 cs)) (ho:Ow z0 A0 n0 c0 xs) (hf:M[jf]? = some (Ywj fk z ho0 xs cs bs)) (hh:ho0=none∨ho0=some q.toNat) (hr:M[j0]? = some (.own (.slice A n c) fk.e fk.sz n cells)) (hq:0≤q∧q < (xs.length:Int)) (x':τ) (hr2:Ow z A n c (fk.inn x')) (hcs:cells=(fk.inn x').flatMap fk.enc)
  (hv:v.cells.toList=vs) (hm:vs.length=m) (hone:vs.all Value.oneCell'=true) (hc:Hdr fk xs cs q A1 n1 c1) (hset:Zar (fk.cl (ix xs q) ⟨A1,n1,c1⟩) off vs=fk.cl x' ⟨A,n,c⟩) (hk:fk.ok x') (hoff:Nat.ble (off + m) fk.so=true) (hys:ys=xs.set q.toNat x')
  (h:∀ cs' bs',Ow z0 A0 n0 c0 ys→Nx l (((M.set j (.own (.slice A0 n0 c0) e0 fk.so n0 cs')).set jf (Ywj fk z none ys cs' bs')).eraseIdx j0) S):Stp C ⟨none,.store T x y,ty,pos,after,g⟩ l M S Nx:=by
 subst hys
 have hoff':=Nat.le_of_ble_eq_true hoff
 have e1:=Nat.ne_of_beq_eq_false h1
 have e2:=Nat.ne_of_beq_eq_false h2
 have e3:=Nat.ne_of_beq_eq_false h3
 intro a w hF hL
 have hlen:cs.length=xs.length * fk.so:=by
  obtain ⟨D,f1,rfl,_,_⟩:=Zdl (hL.get hf)
  exact Zn5 xs D f1.hx
 have hlt:q.toNat < xs.length:=by omega
 have h5:(q.toNat + 1) * fk.so≤xs.length * fk.so:=Nat.mul_le_mul_right _ hlt
 rw [Nat.add_mul,Nat.one_mul] at h5
 intro Q
 have hs:=s_stO (C:=C) (S:=S) (l:=l) (ty:=ty) (pos:=pos) (after:=after) (g:=g) (Nx:=fun l' M' S'=>l'=l∧M'=M.set j (.own (.slice A0 n0 c0) e0 fk.so n0 (Zar cs (q.toNat * fk.so + off) vs))∧S'=S) j hT hx hy hM hv hm (by omega) (by rw [ho.hq]; omega) hone rfl ⟨rfl,rfl,rfl⟩ a w hF hL Q
 refine Oper.wp_mono (fun a' w' hE=>?_) hs
 obtain ⟨l',M',S',g1,g2,rfl,rfl,rfl⟩:=hE
 obtain ⟨bs',g3⟩:=g2.famset (j0:=j0) (j:=jf) e1 (by rw [List.getElem?_set_ne e2]; exact hf) hh hq (by rw [List.getElem?_set_ne e3]; exact hr) x' hr2 hcs (by rw [hm]; exact hoff') hc hset hk
 exact ⟨_,_,_,g1,g3,h _ _ (ho.w (by rw [List.length_set]))⟩
theorem s_make0 {α:Type} {enc:α→List Value} {T e bytes:Nat} {zs:List Value} {x y:Operand} {k1 kk:IntKind} {i:Int} {xs:List α} (hT:mkK C.P T=some (e,zs,bytes)) (hx:evl l x=some (.int k1 0)) (hy:evl l y=some (.int kk i)) (hi:0≤i) (hb:i * bytes≤281474976710656) (hb0:0 < bytes) (hxs:xs=[]) (hd:Nat.ble (d + 1) C.n=true)
  (h:∀ A,Ow C.w0.heap.size A 0 i.toNat xs→Nx ((d,.slice A 0 i.toNat) :: l) (.own (.slice A 0 i.toNat) e zs.length 0 (xs.flatMap enc) :: M) S) :
  Stp C ⟨some d,.makeSlice T x y,ty,pos,after,g⟩ l M S Nx :=
 Zns hd fun a w hF hL=>by
  subst hxs
  unfold mkK at hT
  split at hT
  ·rename_i e' hu
   split at hT
   ·rename_i ie hie
    split at hT
    ·rename_i z' hz'
     split at hT
     ·rename_i hsz
      simp only [Option.some.injEq,Prod.mk.injEq] at hT
      obtain ⟨rfl,rfl,rfl⟩:=hT
      obtain ⟨n,rfl⟩:=Int.eq_ofNat_of_zero_le hi
      have hb':ie.bytes * n≤281474976710656:=by
       have:((n * ie.bytes:Nat):Int)≤281474976710656:=by rw [Int.natCast_mul]; exact hb
       rw [Nat.mul_comm]; omega
      have hn:n≤281474976710656:=Nat.le_trans (Nat.le_mul_of_pos_left _ hb0) hb'
      have hsl:z'.cells.toList.length=ie.size:=by simpa using hsz
      obtain ⟨w',h1,h2,h3⟩:=run_make_own (P:=C.P) w 0 T e' ie z' ie.size hu hie hz' rfl k1 kk n hb' (by unfold maxLen; omega) (Nat.zero_le _)
      simp only [Int.toNat_natCast] at h ⊢
      rw [hsl] at h
      refine ⟨_,w',_,_,?_,hL.add (e:=.own (.slice (some ⟨w.heap.size,0,none⟩) 0 n) e' ie.size 0 (([]:List α).flatMap enc)) (Chg.of_grown h3) (Yzb.of_owns h2) (fun b hb=>by simp [Ent.blk,Value.ownBlock] at hb; omega),h _ ⟨rfl,fun _=>rfl,Nat.zero_le _,by unfold maxLen; omega,fun b hb=>by have:=hL.env.size; simp [Value.ownBlock] at hb; omega⟩⟩
      simp [execOp,hF.ev hx,hF.ev hy,h1,Sem.run_pure,Sem.run_bind]
     ·cases hT
    ·cases hT
   ·cases hT
  ·cases hT
end fam
section wf
variable {C:Cx} {ops:Array Oper} {Mi:List Ent} {Si:List Yva} {L:List Nat} {fuel:Nat} {lst:Array Bool} {k:List Item} {l:Fm} {M:List Ent} {S:List Yva} {τ:Type} {fk:Fk τ} {F:Nat→Prop}
theorem wf_famz {hd:Bool} {j:Nat} {z z':Nat} {xs:List τ} {cs:List Value} {bs:List Nat} (hz:z'≤z) (hj:M[j]? = some (Ywj fk z none xs cs bs)) (h:WF C ops Mi Si L hd fuel lst k l (M.set j (Ywj fk z' none xs cs bs)) S):WF C ops Mi Si L hd fuel lst k l M S:=fun a w hF hL hH=>h a w hF (hL.famz hz hj) hH
theorem wf_take [Inhabited τ] {hd:Bool} {j z:Nat} {xs:List τ} {cs:List Value} {bs:List Nat} (hj:M[j]? = some (Ywj fk z none xs cs bs)) {q:Int} (hi:0≤q∧q < (xs.length:Int)) {A:Option Addr} {n c:Nat} (hc:Hdr fk xs cs q A n c) (h:∀ bs',WF C ops Mi Si L hd fuel lst k l (.own (.slice A n c) fk.e fk.sz n ((fk.inn (ix xs q)).flatMap fk.enc) :: M.set j (Ywj fk z (some q.toNat) xs cs bs')) S):WF C ops Mi Si L hd fuel lst k l M S:=fun a w hF hL hH=>by
 obtain ⟨bs',h1⟩:=hL.take hj hi hc
 exact h bs' a w hF h1 hH
theorem Zok {hd:Bool} {z n:Nat} {ys:List τ} (fk:Fk τ) (x:τ) (c:List Value) (hx:fk.inn x=[]) (hc:fk.cl x ⟨none,0,0⟩=c) (hk:fk.ok x) (hy:ys=List.replicate n x) (h:WF C ops Mi Si L hd fuel lst k l (Ywj fk z none ys (ys.flatMap fun _=>c) [] :: M) S):WF C ops Mi Si L hd fuel lst k l M S:=fun a w hF hL hH=>by
 subst hy
 exact h a w hF (hL.famrep n x c hx hc hk) hH
end wf
section cutl
variable {C:Cx} {l:Fm} {M:List Ent} {S:List Yva} {ty:TypeId} {pos:String} {after:Ed} {g:Gu} {d:Nat}
theorem Zce {x:Operand} {A:Option Addr} {kk:Nat} (hx:evl l x=some (eA A kk)):Val C ⟨some d,.nilCheck x,ty,pos,after,g⟩ l M S (eA A kk) :=
 fun a' w hF _=>by
  have hx':=hF.ev hx
  unfold eA at hx' ⊢
  simp [execOp,hx',Sem.run_pure,Sem.run_bind]
end cutl
end Go.Proofs.YtadcichlnacagaaDoor.B
