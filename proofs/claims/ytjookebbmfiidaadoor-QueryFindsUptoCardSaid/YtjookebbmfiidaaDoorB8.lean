/- Lemmas of my own on the machine: arrays in blocks. No condition. -/
import Derived.Test.YtjookebbmfiidaaDoorB7
import Derived.ChangeKeysEq
set_option linter.unusedVariables false
set_option linter.unusedSimpArgs false
namespace Go.Proofs.YtjookebbmfiidaaDoor.B
open Go.RowKit
def encA (n:Nat) (f:Int→List Value):List Value:=(List.range n).flatMap fun j:Nat=>f (j:Int)
theorem encA_len {sz:Nat} {f:Int→List Value} (hl:∀ j,(f j).length=sz) (n:Nat):(encA n f).length=n * sz:=by
  unfold encA
  rw [Xij (enc:=fun j:Nat=>f (j:Int)) (fun j=>hl j),List.length_range]
def Pt (cs:List Value) (o:Nat) (m m' cs':List Value):Prop:=∃ a b,cs=a++(m++b)∧cs'=a++(m'++b)∧a.length=o
theorem Pt.refl (cs m':List Value):Pt cs 0 cs m' m':=⟨[],[],by simp,by simp,rfl⟩
theorem Pt.trans {cs m m' cs' k k':List Value} {o q:Nat} (h:Pt cs o m m' cs') (h2:Pt m q k k' m'):Pt cs (o + q) k k' cs':=by
  obtain ⟨a,b,rfl,rfl,rfl⟩:=h
  obtain ⟨c,d,rfl,rfl,rfl⟩:=h2
  exact ⟨a++c,d++b,by simp,by simp,by simp⟩
theorem Pt.at_ {cs m m' cs':List Value} {o p:Nat} (h:Pt cs o m m' cs') (e:o=p):Pt cs p m m' cs':=e ▸ h
theorem Pt.take {cs m m' cs':List Value} {o:Nat} (h:Pt cs o m m' cs'):(cs.drop o).take m.length=m:=by
  obtain ⟨a,b,rfl,_,rfl⟩:=h
  rw [List.drop_left,List.take_left]
theorem Pt.get {cs m m' cs':List Value} {o:Nat} (h:Pt cs o m m' cs') {v:Value} (hv:m=[v]):cs[o]? = some v:=by
  obtain ⟨a,b,rfl,_,rfl⟩:=h
  subst hv
  simp
theorem Pt.le {cs m m' cs':List Value} {o:Nat} (h:Pt cs o m m' cs'):o + m.length≤cs.length:=by
  obtain ⟨a,b,rfl,_,rfl⟩:=h
  simp
theorem Pt.sets {cs m m' cs':List Value} {o:Nat} (h:Pt cs o m m' cs') (hl:m'.length=m.length):Rn cs o m'=cs':=by
  obtain ⟨a,b,rfl,rfl,rfl⟩:=h
  have:=Xh7 (a:=a) (m:=m) (b:=b) (o:=0) (vs:=m') (by omega)
  rw [Nat.add_zero] at this
  rw [this,Xbc _ _ _ (by omega)]
  simp [hl]
theorem Pt.z {cs m m' cs':List Value} {o:Nat} (h:Pt cs o m m' cs'):Pt cs (0 + o) m m' cs':=by rw [Nat.zero_add]; exact h
section ops
variable {C:Cx} {ops:Array Oper} {k:List Item} {l l':Fm} {M M':List Ent} {S S':List Cc} {ty:TypeId} {pos:String} {after:Ed} {g:Gu} {d:Nat} {Nx:Fm→List Ent→List Cc→Prop} {F:Nat→Prop}
theorem Src.box {α:Type} {sz n q gb o Tb:Nat} {f:Int→α} {enc:α→List Value} {cs m' cs':List Value} (j:Nat) (hM:M[j]? = some (.box gb Tb cs)) (hp:Pt cs o (encA n fun j=>enc (f j)) m' cs') (hl:∀ x,(enc x).length=sz) (h1:∀ x,∀ u ∈ enc x,u.oneCell'=true) (hq:q≤n):Src C M S (some ⟨gb,o,none⟩) q sz (((List.range q).map fun j:Nat=>f (j:Int)).flatMap enc):=by
  have e1:((List.range q).map fun j:Nat=>f (j:Int)).flatMap enc=encA q fun j=>enc (f j):=by
    unfold encA
    rw [List.flatMap_map]
  have e2:encA n (fun j=>enc (f j))=encA q (fun j=>enc (f j))++(List.range' q (n - q)).flatMap fun j:Nat=>enc (f (j:Int)):=by
    unfold encA
    rw [← List.flatMap_append]
    congr 1
    have e3:List.range' 0 n=List.range' 0 q++List.range' (0 + q) (n - q):=by rw [List.range'_append_1]; congr 1; omega
    rw [List.range_eq_range',List.range_eq_range',e3,Nat.zero_add]
  have hlen:(encA q fun j=>enc (f j)).length=q * sz:=encA_len (fun j=>hl _) q
  rw [e1]
  refine ⟨hlen,fun u hu=>?_,fun _=>rfl,fun w hL i u hu=>?_⟩
  · obtain ⟨j,_,hj⟩:=List.mem_flatMap.1 hu
    exact h1 _ u hj
  · have hb:=Xa6 (hL.ok _ (List.mem_iff_getElem?.2 ⟨j,hM⟩)) (o + i)
    show w.cell? ((⟨gb,o,none⟩:Addr).add i)=some u
    rw [Xf,hb]
    obtain ⟨a,b,rfl,_,rfl⟩:=hp
    have hlt:=(List.getElem?_eq_some_iff.1 hu).1
    rw [List.getElem?_append_right (by omega),show a.length + i - a.length=i by omega,e2,List.append_assoc,List.getElem?_append_left hlt]
    exact hu
theorem Rd.part {s:Cc} {A:Option Addr} {kk o m:Nat} {cs:List Value} (h:Rd s A kk cs):Rd s A (kk + o) ((cs.drop o).take m):=⟨h.1,fun i u hu=>by
  rw [List.getElem?_take] at hu
  split at hu
  · rw [List.getElem?_drop] at hu
    rw [Nat.add_assoc]
    exact h.2 _ u hu
  · cases hu⟩
theorem Vw.hb {α:Type} {z sz:Nat} {A A':Option Addr} {n c lo m:Nat} {xs:List α} (hv:Vw sz A n lo m A') (ho:Ow z A n c xs) {i:Int} (hi:0≤i∧i < (m:Int)):0≤(lo:Int) + i∧(lo:Int) + i < (xs.length:Int):=by
  have h1:=hv.le
  have h2:=ho.hq
  omega
end ops
end Go.Proofs.YtjookebbmfiidaaDoor.B
