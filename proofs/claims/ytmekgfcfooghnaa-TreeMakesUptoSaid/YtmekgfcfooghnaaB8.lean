/- Lemmas of my own on the machine: arrays in blocks. No condition. -/
import Derived.Test.YtmekgfcfooghnaaB7
import Derived.ChangeKeysEq
set_option linter.unusedVariables false
set_option linter.unusedSimpArgs false
namespace Go.Proofs.Ytmekgfcfooghnaa.B
open Go.RowKit
theorem Yb6 {α β:Type} {f g:α→List β}:∀ {l:List α},(∀ x ∈ l,f x=g x)→l.flatMap f=l.flatMap g
  | [],_=>rfl
  | x :: l,h=>by rw [List.flatMap_cons,List.flatMap_cons,h x (by simp),Yb6 fun y hy=>h y (by simp [hy])]
def Xvt (n:Nat) (f:Int→List Value):List Value:=(List.range n).flatMap fun j:Nat=>f (j:Int)
theorem Xyr {sz:Nat} {f:Int→List Value} (hl:∀ j,(f j).length=sz) (n:Nat):(Xvt n f).length=n * sz:=by
  unfold Xvt
  rw [Yar (enc:=fun j:Nat=>f (j:Int)) (fun j=>hl j),List.length_range]
theorem Ydh {f:Int→List Value} (h1:∀ j,(f j).all Value.oneCell'=true) (n:Nat):(Xvt n f).all Value.oneCell'=true:=by
  rw [List.all_eq_true]
  intro u hu
  obtain ⟨j,_,hj⟩:=List.mem_flatMap.1 hu
  exact List.all_eq_true.1 (h1 _) u hj
def Pt (cs:List Value) (o:Nat) (m m' cs':List Value):Prop:=∃ a b,cs=a++(m++b)∧cs'=a++(m'++b)∧a.length=o
theorem Pt.refl (cs m':List Value):Pt cs 0 cs m' m':=⟨[],[],by simp,by simp,rfl⟩
theorem Pt.trans {cs m m' cs' k k':List Value} {o q:Nat} (h:Pt cs o m m' cs') (h2:Pt m q k k' m'):Pt cs (o + q) k k' cs':=by
  obtain ⟨a,b,rfl,rfl,rfl⟩:=h
  obtain ⟨c,d,rfl,rfl,rfl⟩:=h2
  exact ⟨a++c,d++b,by simp,by simp,by simp⟩
theorem Pt.at_ {cs m m' cs':List Value} {o p:Nat} (h:Pt cs o m m' cs') (e:o=p):Pt cs p m m' cs':=e ▸ h
theorem Pt.take {cs m m' cs':List Value} {o:Nat} (h:Pt cs o m m' cs'):(cs.drop o).take m.length=m:=by
  obtain ⟨a,b,rfl,_,rfl⟩:=h
  rw [List.drop_left,List.take_left]
theorem Pt.get {cs m m' cs':List Value} {o:Nat} (h:Pt cs o m m' cs') {v:Value} (hv:m=[v]):cs[o]? = some v:=by
  obtain ⟨a,b,rfl,_,rfl⟩:=h
  subst hv
  simp
theorem Pt.le {cs m m' cs':List Value} {o:Nat} (h:Pt cs o m m' cs'):o + m.length≤cs.length:=by
  obtain ⟨a,b,rfl,_,rfl⟩:=h
  simp
theorem Pt.sets {cs m m' cs':List Value} {o:Nat} (h:Pt cs o m m' cs') (hl:m'.length=m.length):Xrm cs o m'=cs':=by
  obtain ⟨a,b,rfl,rfl,rfl⟩:=h
  have:=Yc4 (a:=a) (m:=m) (b:=b) (o:=0) (vs:=m') (by omega)
  rw [Nat.add_zero] at this
  rw [this,Xxh _ _ _ (by omega)]
  simp [hl]
theorem Pt.arr {α:Type} {sz n:Nat} {f:Int→α} {enc:α→List Value} (hl:∀ x,(enc x).length=sz) {i:Int} (hi:0≤i∧i < (n:Int)) (y:α):Pt (Xvt n fun j=>enc (f j)) (i.toNat * sz) (enc (f i)) (enc y) (Xvt n fun j=>enc (upd f i y j)):=by
  have hsplit:List.range n=List.range i.toNat++i.toNat :: (List.range' (i.toNat + 1) (n - (i.toNat + 1))):=by
    have e1:List.range' 0 n=List.range' 0 i.toNat++List.range' (0 + i.toNat) ((n - (i.toNat + 1)) + 1):=by rw [List.range'_append_1]; congr 1; omega
    rw [List.range_eq_range',List.range_eq_range',e1,List.range'_succ,Nat.zero_add]
  have hi':((i.toNat:Nat):Int)=i:=by omega
  refine ⟨(List.range i.toNat).flatMap fun j:Nat=>enc (f (j:Int)),(List.range' (i.toNat + 1) (n - (i.toNat + 1))).flatMap fun j:Nat=>enc (f (j:Int)),?_,?_,?_⟩
  · unfold Xvt
    rw [hsplit,List.flatMap_append,List.flatMap_cons,hi']
  · unfold Xvt
    rw [hsplit,List.flatMap_append,List.flatMap_cons,hi']
    have u1:upd f i y i=y:=if_pos rfl
    have u2:∀ j:Nat,(j:Int)≠i→upd f i y (j:Int)=f (j:Int):=fun j hj=>if_neg hj
    show _++(enc (upd f i y i)++_)=_
    rw [u1]
    congr 1
    · exact Yb6 fun j hj=>by show enc (upd f i y j)=_; rw [u2 j (by have:=List.mem_range.1 hj; omega)]
    · congr 1
      exact Yb6 fun j hj=>by show enc (upd f i y j)=_; rw [u2 j (by have:=List.mem_range'_1.1 hj; omega)]
  · rw [Yar (enc:=fun j:Nat=>enc (f (j:Int))) (fun j=>hl _),List.length_range]
theorem Pt.z {cs m m' cs':List Value} {o:Nat} (h:Pt cs o m m' cs'):Pt cs (0 + o) m m' cs':=by rw [Nat.zero_add]; exact h
section ops
variable {C:Cx} {ops:Array Oper} {k:List Item} {l l':Fm} {M M':List Ent} {S S':List Xmp} {ty:TypeId} {pos:String} {after:Ed} {g:Gu} {d:Nat} {Nx:Fm→List Ent→List Xmp→Prop} {F:Nat→Prop}
theorem Src.box {α:Type} {sz n q gb o Tb:Nat} {f:Int→α} {enc:α→List Value} {cs m' cs':List Value} (j:Nat) (hM:M[j]? = some (.box gb Tb cs)) (hp:Pt cs o (Xvt n fun j=>enc (f j)) m' cs') (hl:∀ x,(enc x).length=sz) (h1:∀ x,∀ u ∈ enc x,u.oneCell'=true) (hq:q≤n):Src C M S (some ⟨gb,o,none⟩) q sz (((List.range q).map fun j:Nat=>f (j:Int)).flatMap enc):=by
  have e1:((List.range q).map fun j:Nat=>f (j:Int)).flatMap enc=Xvt q fun j=>enc (f j):=by
    unfold Xvt
    rw [List.flatMap_map]
  have e2:Xvt n (fun j=>enc (f j))=Xvt q (fun j=>enc (f j))++(List.range' q (n - q)).flatMap fun j:Nat=>enc (f (j:Int)):=by
    unfold Xvt
    rw [← List.flatMap_append]
    congr 1
    have e3:List.range' 0 n=List.range' 0 q++List.range' (0 + q) (n - q):=by rw [List.range'_append_1]; congr 1; omega
    rw [List.range_eq_range',List.range_eq_range',e3,Nat.zero_add]
  have hlen:(Xvt q fun j=>enc (f j)).length=q * sz:=Xyr (fun j=>hl _) q
  rw [e1]
  refine ⟨hlen,fun u hu=>?_,fun _=>rfl,fun w hL i u hu=>?_⟩
  · obtain ⟨j,_,hj⟩:=List.mem_flatMap.1 hu
    exact h1 _ u hj
  · have hb:=Xw7 (hL.ok _ (List.mem_iff_getElem?.2 ⟨j,hM⟩)) (o + i)
    show w.cell? ((⟨gb,o,none⟩:Addr).add i)=some u
    rw [Xtu,hb]
    obtain ⟨a,b,rfl,_,rfl⟩:=hp
    have hlt:=(List.getElem?_eq_some_iff.1 hu).1
    rw [List.getElem?_append_right (by omega),show a.length + i - a.length=i by omega,e2,List.append_assoc,List.getElem?_append_left hlt]
    exact hu
theorem Rd.part {s:Xmp} {A:Option Addr} {kk o m:Nat} {cs:List Value} (h:Rd s A kk cs):Rd s A (kk + o) ((cs.drop o).take m):=⟨h.1,fun i u hu=>by
  rw [List.getElem?_take] at hu
  split at hu
  · rw [List.getElem?_drop] at hu
    rw [Nat.add_assoc]
    exact h.2 _ u hu
  · cases hu⟩
theorem Vw.hb {α:Type} {z sz:Nat} {A A':Option Addr} {n c lo m:Nat} {xs:List α} (hv:Vw sz A n lo m A') (ho:Ow z A n c xs) {i:Int} (hi:0≤i∧i < (m:Int)):0≤(lo:Int) + i∧(lo:Int) + i < (xs.length:Int):=by
  have h1:=hv.le
  have h2:=ho.hq
  omega
end ops
end Go.Proofs.Ytmekgfcfooghnaa.B
