/- Lemmas of my own on the machine: rows of rows whose inner rows are the call's own, each in a block of its own: families. No condition. -/
import Derived.Test.YtadcichlnacagaaDoorBE
set_option linter.unusedVariables false
set_option linter.unusedSimpArgs false
set_option linter.unusedSectionVars false
namespace Go.Proofs.YtadcichlnacagaaDoor.B
open Go.RowKit
structure Sl where
 A:Option Addr
 n:Nat
 c:Nat
def Sl.bl (d:Sl):List Nat:=(Value.slice d.A d.n d.c).ownBlock.toList
structure Fk (τ:Type) where
 α:Type
 inn:τ→List α
 enc:α→List Value
 e:Nat
 sz:Nat
 so:Nat
 cl:τ→Sl→List Value
 hl:∀ a,(enc a).length=sz
 h1:∀ a,∀ u ∈ enc a,u.oneCell'=true
 hcl:∀ x d,(cl x d).length=so
 ok:τ→Prop
 inj:∀ x d d',d.n=(inn x).length→d'.n=(inn x).length→cl x d=cl x d'→d=d'
section fam
variable {τ:Type} (fk:Fk τ)
def Zbs:List τ→List Sl→List Value
 | x :: xs,d :: D=>fk.cl x d++Zbs xs D
 | _,_=>[]
def Zgj (h:Option Nat) (D:List Sl):List Nat:=(match h with
 | none=>D
 | some k=>D.eraseIdx k).flatMap Sl.bl
structure Fam (z:Nat) (D:List Sl) (xs:List τ):Prop where
 hx:D.length=xs.length
 ow:∀ (i:Nat) d x,D[i]? = some d→xs[i]? = some x→Ow z d.A d.n d.c (fk.inn x)
 far:D.Pairwise fun a b=>far a.bl b.bl
 okx:∀ x ∈ xs,fk.ok x
def Hdr [Inhabited τ] (xs:List τ) (cs:List Value) (q:Int) (A:Option Addr) (n c:Nat):Prop:=(cs.drop (q.toNat * fk.so)).take fk.so=fk.cl (ix xs q) ⟨A,n,c⟩∧n=(fk.inn (ix xs q)).length∧fk.ok (ix xs q)
def Zn3 (h:Option Nat) (D:List Sl) (xs:List τ) (w:World):Prop:=∀ (i:Nat) d x,h≠some i→D[i]? = some d→xs[i]? = some x→Yzb w fk.e fk.sz (.slice d.A d.n d.c) d.n ((fk.inn x).flatMap fk.enc)
def FamP (z:Nat) (h:Option Nat) (xs:List τ) (cs:List Value) (bs:List Nat) (w:World):Prop:=∃ D,Fam fk z D xs∧cs=Zbs fk xs D∧bs=Zgj h D∧Zn3 fk h D xs w
abbrev Ywj (z:Nat) (h:Option Nat) (xs:List τ) (cs:List Value) (bs:List Nat):Ent:=.deep .nilIface bs (FamP fk z h xs cs bs)
variable {fk}
theorem Zfu {h:Option Nat} {D:List Sl} {i:Nat} {d:Sl} (hi:h≠some i) (hd:D[i]? = some d) {b:Nat} (hb:b ∈ d.bl):b ∈ Zgj h D:=by
 unfold Zgj
 cases h with
 | none=>exact List.mem_flatMap.2 ⟨d,List.mem_iff_getElem?.2 ⟨i,hd⟩,hb⟩
 | some k=>exact List.mem_flatMap.2 ⟨d,List.mem_eraseIdx_iff_getElem?.2 ⟨i,fun e=>hi (by rw [e]),hd⟩,hb⟩
theorem Zn3.keep {h:Option Nat} {D:List Sl} {xs:List τ} {w w':World} (hf:Zn3 fk h D xs w) (hk:∀ b ∈ Zgj h D,w'.heap[b]? = w.heap[b]?):Zn3 fk h D xs w':=fun i d x hi hd hx =>
 (hf i d x hi hd hx).keep fun b hb=>hk b (Zfu hi hd (by unfold Sl.bl; rw [hb]; simp))
theorem Zfn {z:Nat} {h:Option Nat} {D:List Sl} {xs:List τ} {w:World} (hx:Fam fk z D xs) (hf:Zn3 fk h D xs w):(Ywj fk z h xs (Zbs fk xs D) (Zgj h D)).ok w:=by
 refine ⟨fun b hb=>?_,fun w' _ hk=>⟨D,hx,rfl,rfl,hf.keep hk⟩⟩
 unfold Zgj at hb
 obtain ⟨d,hd,hb⟩:=List.mem_flatMap.1 hb
 have key:∃ i,h≠some i∧D[i]? = some d:=by
  cases h with
  | none=>obtain ⟨i,hi⟩:=List.mem_iff_getElem?.1 hd; exact ⟨i,by simp,hi⟩
  | some k=>obtain ⟨i,h1,h2⟩:=List.mem_eraseIdx_iff_getElem?.1 hd; exact ⟨i,fun e=>h1 (Option.some.inj e).symm,h2⟩
 obtain ⟨i,h1,h2⟩:=key
 have hlt:=(List.getElem?_eq_some_iff.1 h2).1
 rw [hx.hx] at hlt
 exact Yzb.lt (hf i d xs[i] h1 h2 (List.getElem?_eq_getElem hlt)) (by unfold Sl.bl at hb; rw [Option.mem_toList] at hb; exact hb)
theorem Zn5:∀ (xs:List τ) (D:List Sl),D.length=xs.length→(Zbs fk xs D).length=xs.length * fk.so
 | [],[],_=>by simp [Zbs]
 | x :: xs,d :: D,h=>by
  simp only [Zbs,List.length_append,fk.hcl,Zn5 xs D (by simpa using h),List.length_cons,Nat.add_mul]
  omega
theorem Zqw:∀ (xs ys:List τ) (D E:List Sl),D.length=xs.length→Zbs fk (xs++ys) (D++E)=Zbs fk xs D++Zbs fk ys E
 | [],ys,[],E,_=>rfl
 | x :: xs,ys,d :: D,E,h=>by
  show fk.cl x d++Zbs fk (xs++ys) (D++E)=(fk.cl x d++Zbs fk xs D)++Zbs fk ys E
  rw [Zqw xs ys D E (by simpa using h),List.append_assoc]
theorem Zq7:∀ (xs:List τ) (D:List Sl) (k:Nat) (x:τ) (d:Sl),D.length=xs.length→xs[k]? = some x→D[k]? = some d→((Zbs fk xs D).drop (k * fk.so)).take fk.so=fk.cl x d
 | x0 :: xs,d0 :: D,0,x,d,h,hx,hd=>by
  simp only [List.getElem?_cons_zero,Option.some.injEq] at hx hd
  subst hx hd
  simp only [Zbs,Nat.zero_mul,List.drop_zero]
  rw [← fk.hcl x0 d0]
  exact List.take_left
 | x0 :: xs,d0 :: D,k + 1,x,d,h,hx,hd=>by
  simp only [List.getElem?_cons_succ] at hx hd
  have e:(Zbs fk (x0 :: xs) (d0 :: D)).drop ((k + 1) * fk.so)=(Zbs fk xs D).drop (k * fk.so):=by
   simp only [Zbs]
   rw [Nat.add_mul,Nat.one_mul,Nat.add_comm,← List.drop_drop]
   congr 1
   rw [← fk.hcl x0 d0]
   exact List.drop_left
  rw [e]
  exact Zq7 xs D k x d (by simpa using h) hx hd
 | x0 :: xs,[],k,x,d,h,hx,hd=>by simp at hd
 | [],D,k,x,d,h,hx,hd=>by simp at hx
theorem Zqr:∀ (xs:List τ) (D:List Sl) (k:Nat) (x x':τ) (d:Sl),D.length=xs.length→xs[k]? = some x→D[k]? = some d→fk.cl x' d=fk.cl x d→Zbs fk (xs.set k x') D=Zbs fk xs D
 | x0 :: xs,d0 :: D,0,x,x',d,h,hx,hd,hc=>by
  simp only [List.getElem?_cons_zero,Option.some.injEq] at hx hd
  subst hx hd
  simp only [List.set_cons_zero,Zbs,hc]
 | x0 :: xs,d0 :: D,k + 1,x,x',d,h,hx,hd,hc=>by
  simp only [List.getElem?_cons_succ] at hx hd
  simp only [List.set_cons_succ,Zbs]
  rw [Zqr xs D k x x' d (by simpa using h) hx hd hc]
 | x0 :: xs,[],k,x,x',d,h,hx,hd,hc=>by simp at hd
 | [],D,k,x,x',d,h,hx,hd,hc=>by simp at hx
variable {M M0 rest:List Ent} {S:List Yva} {w0 w:World}
theorem Loc.split2 {j:Nat} {e e1 e2:Ent} (h:Loc w0 w M S) (hj:M[j]? = some e) (o1:e1.ok w) (o2:e2.ok w) (b1:∀ b ∈ e1.blk,b ∈ e.blk) (b2:∀ b ∈ e2.blk,b ∈ e.blk) (hf:B.far e1.blk e2.blk):Loc w0 w (e1 :: M.set j e2) S:=by
 have h2:=h.upd hj (Chg.refl _ w) o2 (fun b hb=>.inl (b2 b hb))
 have hm:e ∈ M:=List.mem_iff_getElem?.2 ⟨j,hj⟩
 refine ⟨h.env,fun x hx=>?_,List.pairwise_cons.2 ⟨fun y hy=>?_,h2.apart⟩,fun s hs=>⟨(h.snap s hs).1,fun b hb=>⟨((h.snap s hs).2 b hb).1,fun x hx=>?_⟩⟩⟩
 ·rcases List.mem_cons.1 hx with rfl | hx
  ·exact o1
  ·exact h2.ok x hx
 ·rcases Znr hy with rfl | ⟨i,hij,hi⟩
  ·exact hf
  ·exact fun b hb hy'=>Zc3 h.apart hij hi hj b hy' (b1 b hb)
 ·rcases List.mem_cons.1 hx with rfl | hx
  ·exact fun hb'=>((h.snap s hs).2 b hb).2 e hm (b1 b hb')
  ·exact ((h2.snap s hs).2 b hb).2 x hx
theorem Loc.join2 {i j:Nat} {e1 e2 e':Ent} (h:Loc w0 w M S) (hij:i≠j) (hi:M[i]? = some e1) (hj:M[j]? = some e2) (ok':e'.ok w) (hb:∀ b ∈ e'.blk,b ∈ e1.blk∨b ∈ e2.blk):Loc w0 w ((M.set j e').eraseIdx i) S:=by
 have h1:=h.absorb (e1':=.own (.slice none 0 0) 0 1 0 []) (e2':=e') (i:=j) (j:=i) (fun e=>hij e.symm) hi hj (Yzb.nil w 0 1) ok' rfl hb
 have e:((M.set i (.own (.slice none 0 0) 0 1 0 [])).set j e').eraseIdx i=(M.set j e').eraseIdx i:=by
  rw [List.set_comm _ _ hij,List.eraseIdx_set_eq]
 have h2:=h1.drop (List.eraseIdx_sublist _ i) (fun s h=>h)
 rw [e] at h2
 exact h2
theorem Loc.get {j:Nat} {e:Ent} (h:Loc w0 w M S) (hj:M[j]? = some e):e.ok w:=h.ok _ (List.mem_iff_getElem?.2 ⟨j,hj⟩)
theorem Zdl {z:Nat} {h:Option Nat} {xs:List τ} {cs:List Value} {bs:List Nat} (hk:(Ywj fk z h xs cs bs).ok w):FamP fk z h xs cs bs w:=deep_ok hk
theorem Loc.fam0 {z:Nat} (h:Loc w0 w M S):Loc w0 w (Ywj fk z none [] [] [] :: M) S :=
 h.add (e:=Ywj fk z none [] [] []) (Chg.refl _ w) ⟨fun b hb=>(by cases hb),fun w' _ _=>⟨[],⟨rfl,fun i d x h=>by simp at h,List.Pairwise.nil,fun x hx=>(by cases hx)⟩,rfl,rfl,fun i d x _ h=>by simp at h⟩⟩ (fun b hb=>by cases hb)
theorem Loc.fam1 {z:Nat} (hL:Loc w0 w M S) {i:Nat} {A:Option Addr} {n c:Nat} {cells:List Value} (x:τ) (hM:M[i]? = some (.own (.slice A n c) fk.e fk.sz n cells)) (ho:Ow z A n c (fk.inn x)) (hc:cells=(fk.inn x).flatMap fk.enc) (hk:fk.ok x):Loc w0 w (M.set i (Ywj fk z none [x] (fk.cl x ⟨A,n,c⟩) (Value.slice A n c).ownBlock.toList)) S:=by
 subst hc
 have hown:Yzb w fk.e fk.sz (.slice A n c) n ((fk.inn x).flatMap fk.enc):=hL.get hM
 have hok:=Zfn (fk:=fk) (h:=none) (D:=[⟨A,n,c⟩]) (xs:=[x]) (w:=w) (z:=z) ⟨rfl,fun j d y h1 h2=>by
   match j with
   | 0=>simp only [List.getElem?_cons_zero,Option.some.injEq] at h1 h2; subst h1 h2; exact ho
   | j + 1=>simp at h1,by simp,fun y hy=>by rw [List.mem_singleton.1 hy]; exact hk⟩ (fun j d y _ h1 h2=>by
   match j with
   | 0=>simp only [List.getElem?_cons_zero,Option.some.injEq] at h1 h2; subst h1 h2; exact hown
   | j + 1=>simp at h1)
 have e1:Zbs fk [x] [⟨A,n,c⟩]=fk.cl x ⟨A,n,c⟩:=by simp [Zbs]
 have e2:Zgj none [⟨A,n,c⟩]=(Value.slice A n c).ownBlock.toList:=by simp [Zgj,Sl.bl]
 rw [e1,e2] at hok
 exact hL.upd hM (Chg.refl _ w) hok (fun b hb=>.inl hb)
theorem Loc.famcat {z:Nat} (hL:Loc w0 w M S) {i j:Nat} {xs ys:List τ} {cs ds:List Value} {bs bs2:List Nat} (hij:i≠j) (hi:M[i]? = some (Ywj fk z none ys ds bs2)) (hj:M[j]? = some (Ywj fk z none xs cs bs)):Loc w0 w ((M.set j (Ywj fk z none (xs++ys) (cs++ds) (bs++bs2))).eraseIdx i) S:=by
 obtain ⟨D,f1,rfl,rfl,f4⟩:=Zdl (hL.get hj)
 obtain ⟨E,g1,rfl,rfl,g4⟩:=Zdl (hL.get hi)
 have hfar:=Zc3 hL.apart hij hi hj
 have hap:∀ (q:Nat) d x,(D++E)[q]? = some d→(xs++ys)[q]? = some x→(D[q]? = some d∧xs[q]? = some x)∨(E[q - D.length]? = some d∧ys[q - D.length]? = some x):=fun q d x h1 h2=>by
  by_cases h:q < D.length
  ·rw [List.getElem?_append_left h] at h1
   rw [List.getElem?_append_left (by rw [← f1.hx]; exact h)] at h2
   exact .inl ⟨h1,h2⟩
  ·rw [List.getElem?_append_right (by omega)] at h1
   rw [List.getElem?_append_right (by rw [← f1.hx]; omega),← f1.hx] at h2
   exact .inr ⟨h1,h2⟩
 have hok:=Zfn (fk:=fk) (h:=none) (D:=D++E) (xs:=xs++ys) (w:=w) (z:=z) ⟨by rw [List.length_append,List.length_append,f1.hx,g1.hx],fun q d x h1 h2=>by
   rcases hap q d x h1 h2 with ⟨a,b⟩ | ⟨a,b⟩
   ·exact f1.ow _ _ _ a b
   ·exact g1.ow _ _ _ a b,List.pairwise_append.2 ⟨f1.far,g1.far,fun a ha b hb q hq1 hq2=>hfar q (List.mem_flatMap.2 ⟨b,hb,hq2⟩) (List.mem_flatMap.2 ⟨a,ha,hq1⟩)⟩,fun x hx=>(List.mem_append.1 hx).elim (f1.okx x) (g1.okx x)⟩ (fun q d x _ h1 h2=>by
   rcases hap q d x h1 h2 with ⟨a,b⟩ | ⟨a,b⟩
   ·exact f4 _ _ _ (by simp) a b
   ·exact g4 _ _ _ (by simp) a b)
 have e2:Zgj none (D++E)=Zgj none D++Zgj none E:=by simp [Zgj]
 rw [Zqw _ _ _ _ f1.hx,e2] at hok
 exact hL.join2 hij hi hj hok (fun b hb=>(List.mem_append.1 hb).symm)
theorem Loc.famget [Inhabited τ] {z:Nat} {ho:Option Nat} (hL:Loc w0 w M S) {j:Nat} {xs:List τ} {cs:List Value} {bs:List Nat} (hj:M[j]? = some (Ywj fk z ho xs cs bs)) {i:Int} (hi:0≤i∧i < (xs.length:Int)):∃ A n c,Ow z A n c (fk.inn (ix xs i))∧Hdr fk xs cs i A n c∧∀ o u,(fk.cl (ix xs i) ⟨A,n,c⟩)[o]? = some u→cs[i.toNat * fk.so + o]? = some u:=by
 obtain ⟨D,f1,rfl,rfl,f4⟩:=Zdl (hL.get hj)
 have hx:=Zfh hi
 have hlt:i.toNat < D.length:=by rw [f1.hx]; omega
 have hd:D[i.toNat]? = some D[i.toNat]:=List.getElem?_eq_getElem hlt
 have ha:=Zq7 (fk:=fk) xs D _ _ _ f1.hx hx hd
 refine ⟨_,_,_,f1.ow _ _ _ hd hx,⟨ha,(f1.ow _ _ _ hd hx).hq,f1.okx _ (List.mem_of_getElem? hx)⟩,fun o u hu=>?_⟩
 rw [← ha,List.getElem?_take] at hu
 split at hu
 ·rwa [List.getElem?_drop] at hu
 ·cases hu
theorem Fam.find {z:Nat} {D:List Sl} {xs:List τ} (f1:Fam fk z D xs) {k:Nat} {x:τ} {A:Option Addr} {n c:Nat} (hx:xs[k]? = some x) (hc:((Zbs fk xs D).drop (k * fk.so)).take fk.so=fk.cl x ⟨A,n,c⟩) (hn:n=(fk.inn x).length):D[k]? = some ⟨A,n,c⟩:=by
 have hlt:k < D.length:=by rw [f1.hx]; exact (List.getElem?_eq_some_iff.1 hx).1
 have hd:D[k]? = some D[k]:=List.getElem?_eq_getElem hlt
 have ha:=Zq7 (fk:=fk) xs D _ _ _ f1.hx hx hd
 rw [hd,fk.inj x _ _ (f1.ow _ _ _ hd hx).hq hn (ha.symm.trans hc)]
theorem Loc.famrow [Inhabited τ] {z:Nat} (hL:Loc w0 w M S) {j:Nat} {xs:List τ} {cs:List Value} {bs:List Nat} (hj:M[j]? = some (Ywj fk z none xs cs bs)) {i:Int} (hi:0≤i∧i < (xs.length:Int)) {A:Option Addr} {n c:Nat} (hc:Hdr fk xs cs i A n c):Yzb w fk.e fk.sz (.slice A n c) n ((fk.inn (ix xs i)).flatMap fk.enc)∧∀ b,(Value.slice A n c).ownBlock=some b→b ∈ bs:=by
 obtain ⟨D,f1,rfl,rfl,f4⟩:=Zdl (hL.get hj)
 have hx:=Zfh hi
 have hd:=f1.find hx hc.1 hc.2.1
 exact ⟨f4 _ _ _ (by simp) hd hx,fun b hb=>Zfu (by simp) hd (by unfold Sl.bl; rw [hb]; simp)⟩
theorem Loc.take [Inhabited τ] {z:Nat} (hL:Loc w0 w M S) {j:Nat} {xs:List τ} {cs:List Value} {bs:List Nat} (hj:M[j]? = some (Ywj fk z none xs cs bs)) {i:Int} (hi:0≤i∧i < (xs.length:Int)) {A:Option Addr} {n c:Nat} (hc:Hdr fk xs cs i A n c):∃ bs',Loc w0 w (.own (.slice A n c) fk.e fk.sz n ((fk.inn (ix xs i)).flatMap fk.enc) :: M.set j (Ywj fk z (some i.toNat) xs cs bs')) S:=by
 obtain ⟨D,f1,rfl,rfl,f4⟩:=Zdl (hL.get hj)
 have hx:=Zfh hi
 have hd:=f1.find hx hc.1 hc.2.1
 refine ⟨Zgj (some i.toNat) D,hL.split2 hj (f4 _ _ _ (by simp) hd hx) (Zfn f1 fun q d x _ h1 h2=>f4 q d x (by simp) h1 h2) (fun b hb=>(Zfu (h:=none) (by simp) hd hb:b ∈ Zgj none D)) (fun b hb=>?_) (fun b hb hb'=>?_)⟩
 ·obtain ⟨d,h1,h2⟩:=List.mem_flatMap.1 hb
  exact List.mem_flatMap.2 ⟨d,List.mem_of_mem_eraseIdx h1,h2⟩
 ·obtain ⟨d,h1,h2⟩:=List.mem_flatMap.1 hb'
  obtain ⟨q,hq,h1⟩:=List.mem_eraseIdx_iff_getElem?.1 h1
  obtain ⟨l1,e1⟩:=List.getElem?_eq_some_iff.1 h1
  obtain ⟨l2,e2⟩:=List.getElem?_eq_some_iff.1 hd
  have hb:b ∈ Sl.bl ⟨A,n,c⟩:=hb
  rcases Nat.lt_or_gt_of_ne hq with h | h
  ·have:=List.pairwise_iff_getElem.1 f1.far q i.toNat l1 l2 h
   rw [e1,e2] at this
   exact this b h2 hb
  ·have:=List.pairwise_iff_getElem.1 f1.far i.toNat q l2 l1 h
   rw [e1,e2] at this
   exact this b hb h2
theorem Loc.putb [Inhabited τ] {z:Nat} (hL:Loc w0 w M S) {j0 j:Nat} {xs:List τ} {cs:List Value} {bs':List Nat} (hj0:j0≠j) {i:Int} (hj:M[j]? = some (Ywj fk z (some i.toNat) xs cs bs')) (hi:0≤i∧i < (xs.length:Int)) {A:Option Addr} {n c:Nat} {cells:List Value} (hM:M[j0]? = some (.own (.slice A n c) fk.e fk.sz n cells)) (hc:Hdr fk xs cs i A n c) (x':τ) (ho:Ow z A n c (fk.inn x')) (hcl:fk.cl x' ⟨A,n,c⟩=fk.cl (ix xs i) ⟨A,n,c⟩) (hcs:cells=(fk.inn x').flatMap fk.enc) (hk:fk.ok x'):∃ bs,Loc w0 w ((M.set j (Ywj fk z none (xs.set i.toNat x') cs bs)).eraseIdx j0) S:=by
 subst hcs
 obtain ⟨D,f1,rfl,rfl,f4⟩:=Zdl (hL.get hj)
 have hx:=Zfh hi
 have hd:=f1.find hx hc.1 hc.2.1
 have hown:Yzb w fk.e fk.sz (.slice A n c) n ((fk.inn x').flatMap fk.enc):=hL.get hM
 have hget:∀ (q:Nat) d x,D[q]? = some d→(xs.set i.toNat x')[q]? = some x→(q=i.toNat∧d=⟨A,n,c⟩∧x=x')∨(q≠i.toNat∧xs[q]? = some x):=fun q d x h1 h2=>by
  rw [List.getElem?_set] at h2
  by_cases e:i.toNat=q
  ·subst e
   rw [if_pos rfl] at h2
   split at h2
   ·rw [hd] at h1
    exact .inl ⟨rfl,(Option.some.inj h1).symm,(Option.some.inj h2).symm⟩
   ·cases h2
  ·rw [if_neg e] at h2
   exact .inr ⟨fun e'=>e e'.symm,h2⟩
 have hok:=Zfn (fk:=fk) (h:=none) (D:=D) (xs:=xs.set i.toNat x') (w:=w) (z:=z) ⟨by rw [List.length_set,f1.hx],fun q d x h1 h2=>by
   rcases hget q d x h1 h2 with ⟨_,rfl,rfl⟩ | ⟨_,h3⟩
   ·exact ho
   ·exact f1.ow _ _ _ h1 h3,f1.far,fun y hy=>(List.mem_or_eq_of_mem_set hy).elim (f1.okx y) fun e=>e ▸ hk⟩ (fun q d x _ h1 h2=>by
   rcases hget q d x h1 h2 with ⟨_,rfl,rfl⟩ | ⟨hq,h3⟩
   ·exact hown
   ·exact f4 _ _ _ (fun e=>hq (Option.some.inj e).symm) h1 h3)
 rw [Zqr xs D _ _ _ _ f1.hx hx hd hcl] at hok
 refine ⟨Zgj none D,hL.join2 hj0 hM hj hok (fun b hb=>?_)⟩
 obtain ⟨d,h1,h2⟩:=List.mem_flatMap.1 hb
 obtain ⟨q,h1⟩:=List.mem_iff_getElem?.1 h1
 by_cases e:q=i.toNat
 ·subst e
  rw [hd] at h1
  rw [← Option.some.inj h1] at h2
  exact .inl h2
 ·exact .inr (Zfu (fun e'=>e (Option.some.inj e').symm) h1 h2)
end fam
section rules
variable {C:Cx} {ops:Array Oper} {k:List Item} {l l':Fm} {M M' M0 rest:List Ent} {S S':List Yva} {ty:TypeId} {pos:String} {after:Ed} {g:Gu} {d:Nat} {Nx:Fm→List Ent→List Yva→Prop} {τ:Type} [Inhabited τ] {fk:Fk τ} {z:Nat}
theorem g_fam0 (fk:Fk τ) (z:Nat) (h:G C k l (Ywj fk z none [] [] [] :: M) S):G C k l M S:=fun a w hF hL=>h a w hF hL.fam0
theorem w_fam1 {i j:Nat} {A:Option Addr} {n c:Nat} {cells:List Value} (fk:Fk τ) (x:τ) (hM:M[j]? = some (.own (.slice A n c) fk.e fk.sz n cells)) (ho:Ow z A n c (fk.inn x)) (hc:cells=(fk.inn x).flatMap fk.enc) (hk:fk.ok x) (h:∀ bs,WL C ops i k l (M.set j (Ywj fk z none [x] (fk.cl x ⟨A,n,c⟩) bs)) S):WL C ops i k l M S:=fun a w hF hL=>h _ a w hF (hL.fam1 x hM ho hc hk)
theorem w_famcat {i j1 j:Nat} {xs ys zs:List τ} {cs ds es:List Value} {bs bs2:List Nat} (hij:j1≠j) (hi:M[j1]? = some (Ywj fk z none ys ds bs2)) (hj:M[j]? = some (Ywj fk z none xs cs bs)) (hz:zs=xs++ys) (he:es=cs++ds) (h:∀ bs',WL C ops i k l ((M.set j (Ywj fk z none zs es bs')).eraseIdx j1) S):WL C ops i k l M S:=fun a w hF hL=>by
 subst hz he
 exact h _ a w hF (hL.famcat hij hi hj)
theorem Zlc {i j:Nat} {ho:Option Nat} {xs:List τ} {cs:List Value} {bs:List Nat} (hj:M[j]? = some (Ywj fk z ho xs cs bs)) {q:Int} (hi:0≤q∧q < (xs.length:Int)) (h:∀ A n c,Ow z A n c (fk.inn (ix xs q))→Hdr fk xs cs q A n c→(∀ o u,(fk.cl (ix xs q) ⟨A,n,c⟩)[o]? = some u→cs[q.toNat * fk.so + o]? = some u)→WL C ops i k l M S):WL C ops i k l M S:=fun a w hF hL=>by
 obtain ⟨A,n,c,h1,h2,h3⟩:=hL.famget hj hi
 exact h A n c h1 h2 h3 a w hF hL
theorem w_take {i j:Nat} {xs:List τ} {cs:List Value} {bs:List Nat} (hj:M[j]? = some (Ywj fk z none xs cs bs)) {q:Int} (hi:0≤q∧q < (xs.length:Int)) {A:Option Addr} {n c:Nat} (hc:Hdr fk xs cs q A n c) (h:∀ bs',WL C ops i k l (.own (.slice A n c) fk.e fk.sz n ((fk.inn (ix xs q)).flatMap fk.enc) :: M.set j (Ywj fk z (some q.toNat) xs cs bs')) S):WL C ops i k l M S:=fun a w hF hL=>by
 obtain ⟨bs',h1⟩:=hL.take hj hi hc
 exact h bs' a w hF h1
theorem w_put {i j0 j:Nat} {xs ys:List τ} {cs:List Value} {bs':List Nat} (hj0:j0≠j) {q:Int} (hj:M[j]? = some (Ywj fk z (some q.toNat) xs cs bs')) (hi:0≤q∧q < (xs.length:Int)) {A:Option Addr} {n c:Nat} {cells:List Value} (hM:M[j0]? = some (.own (.slice A n c) fk.e fk.sz n cells)) (hc:Hdr fk xs cs q A n c) (x':τ) (ho:Ow z A n c (fk.inn x')) (hcl:fk.cl x' ⟨A,n,c⟩=fk.cl (ix xs q) ⟨A,n,c⟩) (hcs:cells=(fk.inn x').flatMap fk.enc) (hk:fk.ok x') (hy:ys=xs.set q.toNat x') (h:∀ bs,WL C ops i k l ((M.set j (Ywj fk z none ys cs bs)).eraseIdx j0) S):WL C ops i k l M S:=fun a w hF hL=>by
 subst hy
 obtain ⟨bs,h1⟩:=hL.putb hj0 hj hi hM hc x' ho hcl hcs hk
 exact h bs a w hF h1
end rules
section tell
variable {τ:Type} {fk:Fk τ} {M M0 rest:List Ent} {S:List Yva} {w0 w:World}
theorem Znw {dk:Kd τ} {F:Nat→Prop}:∀ (xs:List τ) (D:List Sl),D.length=xs.length→(∀ (i:Nat) d x,D[i]? = some d→xs[i]? = some x→dk.K w F x (fk.cl x d))→Cells dk w F xs (Zbs fk xs D)
 | [],[],_,_=>rfl
 | x :: xs,d :: D,h,hk=>⟨fk.cl x d,Zbs fk xs D,rfl,hk 0 d x rfl rfl,Znw xs D (by simpa using h) fun i d' x' h1 h2=>hk (i + 1) d' x' (by simpa using h1) (by simpa using h2)⟩
theorem FamP.cells {dk:Kd τ} {F:Nat→Prop} {z:Nat} {xs:List τ} {cs:List Value} {bs:List Nat} (h:FamP fk z none xs cs bs w) (hF:∀ b ∈ bs,z≤b→F b) (hK:∀ x d,fk.ok x→Rw (Kd.flat fk.sz fk.enc fk.hl fk.h1) w F d.A d.n d.c (fk.inn x)→dk.K w F x (fk.cl x d)):Cells dk w F xs cs:=by
 obtain ⟨D,f1,rfl,rfl,f4⟩:=h
 refine Znw xs D f1.hx fun i d x h1 h2=>hK x d (f1.okx x (List.mem_of_getElem? h2)) ?_
 have ho:=f1.ow i d x h1 h2
 have hr:=f4 i d x (by simp) h1 h2
 refine ⟨ho.hq,ho.hn,ho.hm,(Cells.flat (hl:=fk.hl) (h1:=fk.h1) _).row (dk:=Kd.flat fk.sz fk.enc fk.hl fk.h1) hr ho.hq fun b hb=>hF b (Zfu (by simp) h1 (by unfold Sl.bl; rw [hb]; simp)) (ho.hz b hb)⟩
theorem Loc.famz {z z':Nat} (hL:Loc w0 w M S) {j:Nat} {xs:List τ} {cs:List Value} {bs:List Nat} (hz:z'≤z) (hj:M[j]? = some (Ywj fk z none xs cs bs)):Loc w0 w (M.set j (Ywj fk z' none xs cs bs)) S:=by
 obtain ⟨D,f1,rfl,rfl,f4⟩:=Zdl (hL.get hj)
 exact hL.upd hj (Chg.refl _ w) (Zfn ⟨f1.hx,fun i d x h1 h2=>Ow.weak hz (f1.ow i d x h1 h2),f1.far,f1.okx⟩ f4) (fun b hb=>.inl hb)
theorem Loc.unfam {dk:Kd τ} {F:Nat→Prop} (hL:Loc w0 w M S) {j:Nat} {xs:List τ} {cs:List Value} {bs:List Nat} (hj:M[j]? = some (Ywj fk w0.heap.size none xs cs bs)) (hK:∀ (w:World) (F:Nat→Prop) x d,fk.ok x→Rw (Kd.flat fk.sz fk.enc fk.hl fk.h1) w F d.A d.n d.c (fk.inn x)→dk.K w F x (fk.cl x d)):∃ bs',Loc w0 w (M.eraseIdx j) (Sm w0.heap.size F w bs' :: S)∧Cells dk (Sm w0.heap.size F w bs').w (Sm w0.heap.size F w bs').av xs cs:=by
 have hok:=hL.get hj
 have hL2:Loc w0 w (M.eraseIdx j) S:=hL.drop (List.eraseIdx_sublist M j) (fun s h=>h)
 refine ⟨(M.eraseIdx j).map Ent.blk,hL2.mark _ _,FamP.cells (Zdl hok) (fun b hb hz=>⟨Ent.lt hok hb,fun o ho e1=>?_,.inl hz⟩) (fun x d k h=>hK _ _ x d k h)⟩
 obtain ⟨x,hx,rfl⟩:=List.mem_map.1 ho
 obtain ⟨i,hij,hi⟩:=List.mem_eraseIdx_iff_getElem?.1 hx
 exact Zc3 hL.apart hij hi hj b e1 hb
theorem Loc.argFam {dk:Kd τ} {z z2:Nat} {A:Option Addr} {e c n:Nat} {cs:List Value} {xs:List τ} {bs:List Nat} (hL:Loc w0 w M S) (hp:M.Perm (M0++rest)) (is:List Nat) (hi:is.map (M[·]?)=M0.map some) (j jf:Nat) (hjc:is.contains j=false) (hfc:is.contains jf=false) (hM:M[j]? = some (.own (.slice A n c) e dk.sz n cs)) (hf:M[jf]? = some (Ywj fk z none xs cs bs)) (ho:Ow z2 A n c xs) (hK:∀ (w:World) (F:Nat→Prop) x d,fk.ok x→Rw (Kd.flat fk.sz fk.enc fk.hl fk.h1) w F d.A d.n d.c (fk.inn x)→dk.K w F x (fk.cl x d)):Rw dk w (St w (M0.map Ent.blk)).av A n c xs:=by
 have hown:Yzb w e dk.sz (.slice A n c) n cs:=hL.get hM
 have hok:=hL.get hf
 have key:∀ (q:Nat) (x:Ent),is.contains q=false→M[q]? = some x→∀ b ∈ x.blk,∀ o ∈ M0.map Ent.blk,b ∉ o:=fun q x hq hx b hb o ho e1=>by
  obtain ⟨y,hy,rfl⟩:=List.mem_map.1 ho
  have:some y ∈ is.map (M[·]?):=by rw [hi]; exact List.mem_map.2 ⟨y,hy,rfl⟩
  obtain ⟨i,h3,h4⟩:=List.mem_map.1 this
  have hij:i≠q:=fun e=>by subst e; rw [List.contains_iff_mem.2 h3] at hq; cases hq
  exact Zc3 hL.apart hij h4 hx b e1 hb
 have hC:Cells dk w (St w (M0.map Ent.blk)).av xs cs:=FamP.cells (Zdl hok) (fun b hb hz=>⟨Ent.lt hok hb,key jf _ hfc hf b hb,trivial⟩) (fun x d k h=>hK _ _ x d k h)
 exact ⟨ho.hq,ho.hn,ho.hm,hC.row hown ho.hq fun b hb=>⟨Yzb.lt hown hb,key j _ hjc hM b (by simp [Ent.blk,hb]),trivial⟩⟩
variable {C:Cx} {ops:Array Oper} {k:List Item} {l:Fm} {F:Nat→Prop}
theorem Zrq {i j:Nat} {z z':Nat} {xs:List τ} {cs:List Value} {bs:List Nat} (hz:z'≤z) (hj:M[j]? = some (Ywj fk z none xs cs bs)) (h:WL C ops i k l (M.set j (Ywj fk z' none xs cs bs)) S):WL C ops i k l M S:=fun a w hF hL=>h a w hF (hL.famz hz hj)
theorem Zsf {j:Nat} {dk:Kd τ} {xs:List τ} {cs:List Value} {bs:List Nat} (hj:M[j]? = some (Ywj fk C.w0.heap.size none xs cs bs)) (hK:∀ (w:World) (F:Nat→Prop) x d,fk.ok x→Rw (Kd.flat fk.sz fk.enc fk.hl fk.h1) w F d.A d.n d.c (fk.inn x)→dk.K w F x (fk.cl x d)) (h:∀ w' bs',Cells dk (Sm C.w0.heap.size F w' bs').w (Sm C.w0.heap.size F w' bs').av xs cs→G C k l (M.eraseIdx j) (Sm C.w0.heap.size F w' bs' :: S)):G C k l M S:=fun a w hF hL=>by
 obtain ⟨bs',hL2,hC⟩:=hL.unfam (dk:=dk) (F:=F) hj hK
 exact h w bs' hC a w hF hL2
end tell
section grow
variable {τ:Type} (fk:Fk τ)
def GrowP (z k:Nat) (xs:List τ) (cs:List Value) (bs:List Nat) (A:Option Addr) (n c:Nat) (zs:List fk.α) (w:World):Prop:=∃ D,Fam fk z D xs∧cs=Zbs fk xs D∧bs=Zgj none D++(Value.slice A n c).ownBlock.toList∧Zn3 fk none D xs w∧Yzb w fk.e fk.sz (.slice A n c) n (zs.flatMap fk.enc)∧(∀ (i:Nat) d,i≠k→D[i]? = some d→far d.bl (Value.slice A n c).ownBlock.toList) ∧
 ∀ d x,D[k]? = some d→xs[k]? = some x→(d.A=A∧d.c=c∧d.n≤n∧fk.inn x=zs.take d.n)∨far d.bl (Value.slice A n c).ownBlock.toList
abbrev growE (z k:Nat) (xs:List τ) (cs:List Value) (bs:List Nat) (A:Option Addr) (n c:Nat) (zs:List fk.α):Ent:=.deep .nilIface bs (GrowP fk z k xs cs bs A n c zs)
variable {fk} {M M0 rest:List Ent} {S:List Yva} {w0 w:World}
theorem growE_ok {z k:Nat} {D:List Sl} {xs:List τ} {A:Option Addr} {n c:Nat} {zs:List fk.α} (hx:Fam fk z D xs) (hf:Zn3 fk none D xs w) (ho:Yzb w fk.e fk.sz (.slice A n c) n (zs.flatMap fk.enc)) (h1:∀ (i:Nat) d,i≠k→D[i]? = some d→far d.bl (Value.slice A n c).ownBlock.toList) (h2:∀ d x,D[k]? = some d→xs[k]? = some x→(d.A=A∧d.c=c∧d.n≤n∧fk.inn x=zs.take d.n)∨far d.bl (Value.slice A n c).ownBlock.toList):(growE fk z k xs (Zbs fk xs D) (Zgj none D++(Value.slice A n c).ownBlock.toList) A n c zs).ok w:=by
 refine ⟨fun b hb=>?_,fun w' _ hk=>⟨D,hx,rfl,rfl,hf.keep fun b hb=>hk b (List.mem_append_left _ hb),ho.keep fun b hb=>hk b (List.mem_append_right _ (by rw [hb]; simp)),h1,h2⟩⟩
 rcases List.mem_append.1 hb with hb | hb
 ·exact (Zfn hx hf).1 b hb
 ·exact Yzb.lt ho (by rw [Option.mem_toList] at hb; exact hb)
theorem Loc.grow [Inhabited τ] {z:Nat} (hL:Loc w0 w M S) {j:Nat} {xs:List τ} {cs:List Value} {bs:List Nat} (hj:M[j]? = some (Ywj fk z none xs cs bs)) {i:Int} (hi:0≤i∧i < (xs.length:Int)) {A:Option Addr} {n c:Nat} (hc:Hdr fk xs cs i A n c):∃ bs',Loc w0 w (M.set j (growE fk z i.toNat xs cs bs' A n c (fk.inn (ix xs i)))) S:=by
 obtain ⟨D,f1,rfl,rfl,f4⟩:=Zdl (hL.get hj)
 have hx:=Zfh hi
 have hd:=f1.find hx hc.1 hc.2.1
 have hown:=f4 _ _ _ (by simp) hd hx
 have hsub:∀ b ∈ (Value.slice A n c).ownBlock.toList,b ∈ Zgj none D:=fun b hb=>Zfu (h:=none) (by simp) hd hb
 refine ⟨_,hL.upd hj (Chg.refl _ w) (growE_ok (k:=i.toNat) f1 f4 hown (fun q d hq h1 b hb hb'=>?_) (fun d x h1 h2=>?_)) (fun b hb=>?_)⟩
 ·obtain ⟨l1,e1⟩:=List.getElem?_eq_some_iff.1 h1
  obtain ⟨l2,e2⟩:=List.getElem?_eq_some_iff.1 hd
  rcases Nat.lt_or_gt_of_ne hq with h | h
  ·have:=List.pairwise_iff_getElem.1 f1.far q i.toNat l1 l2 h
   rw [e1,e2] at this
   exact this b hb hb'
  ·have:=List.pairwise_iff_getElem.1 f1.far i.toNat q l2 l1 h
   rw [e1,e2] at this
   exact this b hb' hb
 ·rw [hd] at h1
  rw [hx] at h2
  obtain rfl:=Option.some.inj h1
  obtain rfl:=Option.some.inj h2
  refine .inl ⟨rfl,rfl,Nat.le_refl _,?_⟩
  have hq:=(f1.ow _ _ _ hd hx).hq
  dsimp only at hq ⊢
  rw [hq,List.take_length]
 ·rcases List.mem_append.1 hb with hb | hb
  ·exact .inl hb
  ·exact .inl (hsub b hb)
variable {C:Cx} {ops:Array Oper} {k:List Item} {l:Fm} {ty:TypeId} {pos:String} {after:Ed} {g:Gu} {d:Nat} {Nx:Fm→List Ent→List Yva→Prop} {z:Nat} [Inhabited τ]
end grow
section wf
variable {C:Cx} {ops:Array Oper} {Mi:List Ent} {Si:List Yva} {L:List Nat} {fuel:Nat} {lst:Array Bool} {k:List Item} {l:Fm} {M:List Ent} {S:List Yva} {τ:Type} [Inhabited τ] {fk:Fk τ} {z:Nat}
theorem Zjb {hd:Bool} {j:Nat} {ho:Option Nat} {xs:List τ} {cs:List Value} {bs:List Nat} (hj:M[j]? = some (Ywj fk z ho xs cs bs)) {q:Int} (hi:0≤q∧q < (xs.length:Int)) (h:∀ A n c,Ow z A n c (fk.inn (ix xs q))→Hdr fk xs cs q A n c→(∀ o u,(fk.cl (ix xs q) ⟨A,n,c⟩)[o]? = some u→cs[q.toNat * fk.so + o]? = some u)→WF C ops Mi Si L hd fuel lst k l M S):WF C ops Mi Si L hd fuel lst k l M S:=fun a w hF hL hH=>by
 obtain ⟨A,n,c,h1,h2,h3⟩:=hL.famget hj hi
 exact h A n c h1 h2 h3 a w hF hL hH
end wf
theorem Src.raw {C:Cx} {M:List Ent} {S:List Yva} {α:Type} {z e sz n c:Nat} {A:Option Addr} {cs:List Value} {xs:List α} (j:Nat) (hM:M[j]? = some (.own (.slice A n c) e sz n cs)) (ho:Ow z A n c xs) (hl:cs.length=n * sz) (h1:cs.all Value.oneCell'=true):Src C M S A n sz cs :=
 ⟨hl,List.all_eq_true.1 h1,ho.hA,fun w hL q u hu=>Zhn (hL.ok _ (List.mem_iff_getElem?.2 ⟨j,hM⟩)) hu⟩
end Go.Proofs.YtadcichlnacagaaDoor.B
