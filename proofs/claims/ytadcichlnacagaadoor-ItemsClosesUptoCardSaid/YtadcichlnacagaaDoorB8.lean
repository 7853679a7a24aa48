/- Lemmas of my own on the machine: arrays in blocks. No condition. -/
import Derived.Test.YtadcichlnacagaaDoorB7
import Derived.ChangeKeysEq
set_option linter.unusedVariables false
set_option linter.unusedSimpArgs false
namespace Go.Proofs.YtadcichlnacagaaDoor.B
open Go.RowKit
theorem Zo2 {α β:Type} {f g:α→List β}:∀ {l:List α},(∀ x ∈ l,f x=g x)→l.flatMap f=l.flatMap g
  | [],_=>rfl
  | x :: l,h=>by rw [List.flatMap_cons,List.flatMap_cons,h x (by simp),Zo2 fun y hy=>h y (by simp [hy])]
def Ze4 (n:Nat) (f:Int→List Value):List Value:=(List.range n).flatMap fun j:Nat=>f (j:Int)
theorem Zfs {sz:Nat} {f:Int→List Value} (hl:∀ j,(f j).length=sz) (n:Nat):(Ze4 n f).length=n * sz:=by
  unfold Ze4
  rw [Zln (enc:=fun j:Nat=>f (j:Int)) (fun j=>hl j),List.length_range]
theorem Zr8 {f:Int→List Value} (h1:∀ j,(f j).all Value.oneCell'=true) (n:Nat):(Ze4 n f).all Value.oneCell'=true:=by
  rw [List.all_eq_true]
  intro u hu
  obtain ⟨j,_,hj⟩:=List.mem_flatMap.1 hu
  exact List.all_eq_true.1 (h1 _) u hj
def Pt (cs:List Value) (o:Nat) (m m' cs':List Value):Prop:=∃ a b,cs=a++(m++b)∧cs'=a++(m'++b)∧a.length=o
theorem Pt.refl (cs m':List Value):Pt cs 0 cs m' m':=⟨[],[],by simp,by simp,rfl⟩
theorem Pt.trans {cs m m' cs' k k':List Value} {o q:Nat} (h:Pt cs o m m' cs') (h2:Pt m q k k' m'):Pt cs (o + q) k k' cs':=by
  obtain ⟨a,b,rfl,rfl,rfl⟩:=h
  obtain ⟨c,d,rfl,rfl,rfl⟩:=h2
  exact ⟨a++c,d++b,by simp,by simp,by simp⟩
theorem Pt.at_ {cs m m' cs':List Value} {o p:Nat} (h:Pt cs o m m' cs') (e:o=p):Pt cs p m m' cs':=e ▸ h
theorem Pt.take {cs m m' cs':List Value} {o:Nat} (h:Pt cs o m m' cs'):(cs.drop o).take m.length=m:=by
  obtain ⟨a,b,rfl,_,rfl⟩:=h
  rw [List.drop_left,List.take_left]
theorem Pt.get {cs m m' cs':List Value} {o:Nat} (h:Pt cs o m m' cs') {v:Value} (hv:m=[v]):cs[o]? = some v:=by
  obtain ⟨a,b,rfl,_,rfl⟩:=h
  subst hv
  simp
theorem Pt.le {cs m m' cs':List Value} {o:Nat} (h:Pt cs o m m' cs'):o + m.length≤cs.length:=by
  obtain ⟨a,b,rfl,_,rfl⟩:=h
  simp
theorem Pt.sets {cs m m' cs':List Value} {o:Nat} (h:Pt cs o m m' cs') (hl:m'.length=m.length):Zar cs o m'=cs':=by
  obtain ⟨a,b,rfl,rfl,rfl⟩:=h
  have:=Zjl (a:=a) (m:=m) (b:=b) (o:=0) (vs:=m') (by omega)
  rw [Nat.add_zero] at this
  rw [this,Zin _ _ _ (by omega)]
  simp [hl]
theorem Pt.arr {α:Type} {sz n:Nat} {f:Int→α} {enc:α→List Value} (hl:∀ x,(enc x).length=sz) {i:Int} (hi:0≤i∧i < (n:Int)) (y:α):Pt (Ze4 n fun j=>enc (f j)) (i.toNat * sz) (enc (f i)) (enc y) (Ze4 n fun j=>enc (upd f i y j)):=by
  have hsplit:List.range n=List.range i.toNat++i.toNat :: (List.range' (i.toNat + 1) (n - (i.toNat + 1))):=by
    have e1:List.range' 0 n=List.range' 0 i.toNat++List.range' (0 + i.toNat) ((n - (i.toNat + 1)) + 1):=by rw [List.range'_append_1]; congr 1; omega
    rw [List.range_eq_range',List.range_eq_range',e1,List.range'_succ,Nat.zero_add]
  have hi':((i.toNat:Nat):Int)=i:=by omega
  refine ⟨(List.range i.toNat).flatMap fun j:Nat=>enc (f (j:Int)),(List.range' (i.toNat + 1) (n - (i.toNat + 1))).flatMap fun j:Nat=>enc (f (j:Int)),?_,?_,?_⟩
  · unfold Ze4
    rw [hsplit,List.flatMap_append,List.flatMap_cons,hi']
  · unfold Ze4
    rw [hsplit,List.flatMap_append,List.flatMap_cons,hi']
    have u1:upd f i y i=y:=if_pos rfl
    have u2:∀ j:Nat,(j:Int)≠i→upd f i y (j:Int)=f (j:Int):=fun j hj=>if_neg hj
    show _++(enc (upd f i y i)++_)=_
    rw [u1]
    congr 1
    · exact Zo2 fun j hj=>by show enc (upd f i y j)=_; rw [u2 j (by have:=List.mem_range.1 hj; omega)]
    · congr 1
      exact Zo2 fun j hj=>by show enc (upd f i y j)=_; rw [u2 j (by have:=List.mem_range'_1.1 hj; omega)]
  · rw [Zln (enc:=fun j:Nat=>enc (f (j:Int))) (fun j=>hl _),List.length_range]
theorem Pt.z {cs m m' cs':List Value} {o:Nat} (h:Pt cs o m m' cs'):Pt cs (0 + o) m m' cs':=by rw [Nat.zero_add]; exact h
def arK (P:Program) (T:Nat):Option (Nat × Nat) :=
  match P.underlying T with
  | some (.array n e)=>if n≤1 then none else (P.info? e).map fun i=>(n,i.size)
  | _=>none
theorem Zqp {P:Program} {T n sz:Nat} (h:arK P T=some (n,sz)):∃ e i,P.underlying T=some (.array n e)∧P.info? e=some i∧i.size=sz∧1 < n:=by
  unfold arK at h
  split at h
  · rename_i n' e hu
    split at h
    · cases h
    · rename_i hn
      rcases hi:P.info? e with _ | i
      · rw [hi] at h; cases h
      · rw [hi] at h
        simp at h
        obtain ⟨rfl,rfl⟩:=h
        exact ⟨e,i,hu,hi,rfl,by omega⟩
  · cases h
section ops
variable {C:Cx} {ops:Array Oper} {k:List Item} {l l':Fm} {M M':List Ent} {S S':List Yva} {ty:TypeId} {pos:String} {after:Ed} {g:Gu} {d:Nat} {Nx:Fm→List Ent→List Yva→Prop} {F:Nat→Prop}
theorem Zi9 {T n sz gb o:Nat} {x y:Operand} {kk:IntKind} {j:Int} (hT:arK C.P T=some (n,sz)) (hx:evl l x=some (.pointer (some ⟨gb,o,none⟩))) (hy:evl l y=some (.int kk j)) (hj:0≤j∧j < (n:Int)):Val C ⟨some d,.indexAddr T x y,ty,pos,after,g⟩ l M S (.pointer (some ⟨gb,o + j.toNat * sz,none⟩)) :=
  fun a' w hF _=>by
    obtain ⟨e,i,h1,h2,h3,h4⟩:=Zqp hT
    simp [execOp,hF.ev hx,hF.ev hy,Instr.indexAt,run_underlying h1,asIntOf,Instr.sureAddr,sizeOf,typeInfo,h2,h3,hj.1,hj.2,Zfk,Sem.run_pure,Sem.run_bind]
theorem v_cutB {T n sz gb o:Nat} {x:Operand} {hi:Option Operand} {hv:Int} (hT:arK C.P T=some (n,sz)) (hx:evl l x=some (.pointer (some ⟨gb,o,none⟩))) (hhi:Bnd l hi (n:Int) hv) (h0:0≤hv∧hv≤(n:Int)):Val C ⟨some d,.slice T x none hi none,ty,pos,after,g⟩ l M S (.slice (some ⟨gb,o,none⟩) hv.toNat n) :=
  fun a' w hF _=>by
    obtain ⟨e,i,h1,h2,h3,h4⟩:=Zqp hT
    have hn:¬ n=0:=by omega
    rcases hhi with ⟨rfl,rfl⟩ | ⟨z,k2,rfl,hz⟩
    · simp [execOp,hF.ev hx,Instr.sliceAt,run_underlying h1,Instr.sureAddr,Instr.sliceBounds,sizeOf,typeInfo,h2,h3,Sem.run_pure,Sem.run_bind,hn,Addr.add]
    · simp [execOp,hF.ev hx,hF.ev hz,Instr.sliceAt,run_underlying h1,Instr.sureAddr,Instr.sliceBounds,Instr.sliceBound,asIntOf,h0.1,h0.2,sizeOf,typeInfo,h2,h3,Sem.run_pure,Sem.run_bind,hn,Addr.add]
theorem Zqd {T:Nat} {x:Operand} {gb o Tb:Nat} {cs m m' cs':List Value} {v:Value} (j:Nat) (hT:ldK C.P T=some none) (hx:evl l x=some (.pointer (some ⟨gb,o,none⟩))) (hM:M[j]? = some (.box gb Tb cs)) (hp:Pt cs o m m' cs') (hv:m=[v]):Val C ⟨some d,.load T x,ty,pos,after,g⟩ l M S v:=Yue j hT hx hM (hp.get hv)
theorem Zmm {T q:Nat} {x:Operand} {gb o Tb:Nat} {cs m m' cs':List Value} (j:Nat) (hT:ldK C.P T=some (some q)) (hx:evl l x=some (.pointer (some ⟨gb,o,none⟩))) (hM:M[j]? = some (.box gb Tb cs)) (hp:Pt cs o m m' cs') (hq:m.length=q):Val C ⟨some d,.load T x,ty,pos,after,g⟩ l M S (.agg m.toArray):=Yyr m j hT hx hM (by rw [← hq]; exact hp.take) hq
theorem Zjx {T q : Nat} {x y : Operand} {gb o Tb : Nat} {cs m m' cs' : List Value} {v : Value} (j : Nat) (hT : szK C.P T = some q) (hx : evl l x = some (.pointer (some ⟨gb, o, none⟩))) (hy : evl l y = some v) (hM : M[j]? = some (.box gb Tb cs)) (hp : Pt cs o m m' cs') (hv : v.cells.toList = m') (hq : m.length = q) (hq' : m'.length = q) (h1 : m'.all Value.oneCell' = true)
    (h:Nx l (M.set j (.box gb Tb cs')) S):Stp C ⟨none,.store T x y,ty,pos,after,g⟩ l M S Nx :=
  s_do fun a w hF hL=>by
    have hle:=hp.le
    obtain ⟨w',h2,h3,h4⟩:=Zhl (P:=C.P) (o:=o) hT hv hq' (by omega) (fun u hu=>List.all_eq_true.1 h1 u hu) (hL.ok _ (List.mem_iff_getElem?.2 ⟨j,hM⟩))
    rw [hp.sets (by omega)] at h3
    refine ⟨w',_,_,by simp [execOp,hF.ev hx,hF.ev hy,Instr.storeAt,Instr.sureAddr,h2,Sem.run_pure,Sem.run_bind],?_,h⟩
    exact hL.upd hM h4 h3 (fun b hb=>.inl hb)
theorem Src.box {α:Type} {sz n q gb o Tb:Nat} {f:Int→α} {enc:α→List Value} {cs m' cs':List Value} (j:Nat) (hM:M[j]? = some (.box gb Tb cs)) (hp:Pt cs o (Ze4 n fun j=>enc (f j)) m' cs') (hl:∀ x,(enc x).length=sz) (h1:∀ x,∀ u ∈ enc x,u.oneCell'=true) (hq:q≤n):Src C M S (some ⟨gb,o,none⟩) q sz (((List.range q).map fun j:Nat=>f (j:Int)).flatMap enc):=by
  have e1:((List.range q).map fun j:Nat=>f (j:Int)).flatMap enc=Ze4 q fun j=>enc (f j):=by
    unfold Ze4
    rw [List.flatMap_map]
  have e2:Ze4 n (fun j=>enc (f j))=Ze4 q (fun j=>enc (f j))++(List.range' q (n - q)).flatMap fun j:Nat=>enc (f (j:Int)):=by
    unfold Ze4
    rw [← List.flatMap_append]
    congr 1
    have e3:List.range' 0 n=List.range' 0 q++List.range' (0 + q) (n - q):=by rw [List.range'_append_1]; congr 1; omega
    rw [List.range_eq_range',List.range_eq_range',e3,Nat.zero_add]
  have hlen:(Ze4 q fun j=>enc (f j)).length=q * sz:=Zfs (fun j=>hl _) q
  rw [e1]
  refine ⟨hlen,fun u hu=>?_,fun _=>rfl,fun w hL i u hu=>?_⟩
  · obtain ⟨j,_,hj⟩:=List.mem_flatMap.1 hu
    exact h1 _ u hj
  · have hb:=Zhi (hL.ok _ (List.mem_iff_getElem?.2 ⟨j,hM⟩)) (o + i)
    show w.cell? ((⟨gb,o,none⟩:Addr).add i)=some u
    rw [Zfk,hb]
    obtain ⟨a,b,rfl,_,rfl⟩:=hp
    have hlt:=(List.getElem?_eq_some_iff.1 hu).1
    rw [List.getElem?_append_right (by omega),show a.length + i - a.length=i by omega,e2,List.append_assoc,List.getElem?_append_left hlt]
    exact hu
def aeK (P:Program) (T:TypeId):Option (Nat × Nat) :=
  match P.underlying T with
  | some (.array n e)=>match Zrf P e,P.info? e with
    | some k,some i=>if i.size=1∧P.cellsOf e=1∧P.eqGuardType P.depth T=false then some (n,k) else none
    | _,_=>none
  | _=>none
theorem Zmn {P:Program} {w:World} {e k:Nat} {i:TypeInfo} (hk:Zrf P e=some k) {xs ys:Array Value} (r:Nat→Bool) (d:Nat):∀ (is:List Nat),(∀ j ∈ is,∃ a b,xs[j]? = some a∧ys[j]? = some b∧Zhc k a b=some (r j))→(Op.eqItems (d + 1) e 1 xs ys is).run P w=.ok (is.all r) w
  | [],_=>by simp [Op.eqItems]
  | j :: is,h=>by
    obtain ⟨a,b,h1,h2,h3⟩:=h j (by simp)
    obtain ⟨g1,g2⟩:=Zqm (w:=w) hk h3 d
    have ih:=Zmn (w:=w) (i:=i) hk r d is (fun q hq=>h q (by simp [hq]))
    have p1:(part e xs (j * 1)).run P w=.ok a w:=by unfold part; simp [g1,h1]
    have p2:(part e ys (j * 1)).run P w=.ok b w:=by unfold part; simp [g1,h2]
    simp only [Op.eqItems,Sem.run_bind,p1,p2,g2,Result.andThen_ok]
    cases hr:r j
    · simp [hr]
    · simp [hr,ih]
theorem aeK_run {P:Program} {w:World} {T n k:Nat} (hT:aeK P T=some (n,k)) {xs ys:Array Value} (r:Nat→Bool) (h:∀ j,j < n→∃ a b,xs[j]? = some a∧ys[j]? = some b∧Zhc k a b=some (r j)):(Op.equalIn 10000 T (.agg xs) (.agg ys)).run P w=.ok ((List.range n).all r) w∧P.eqGuardType P.depth T=false:=by
  unfold aeK at hT
  split at hT
  · rename_i n' e hu
    split at hT
    · rename_i k' i hk hi
      split at hT
      · rename_i hc
        simp at hT
        obtain ⟨rfl,rfl⟩:=hT
        refine ⟨?_,hc.2.2⟩
        rw [run_equalIn_array (w:=w) 9999 xs ys hu hi,hc.2.1]
        exact Zmn (i:=i) hk r 9998 _ (fun j hj=>h j (List.mem_range.1 hj))
      · cases hT
    · cases hT
  · cases hT
theorem v_eqA {tx t2 n k:Nat} {α:Type} [DecidableEq α] {x y:Operand} {f1 f2:Int→α} {enc:α→Value} (hT:aeK C.P tx=some (n,k)) (hx:evl l x=some (.agg (Ze4 n fun j=>[enc (f1 j)]).toArray)) (hy:evl l y=some (.agg (Ze4 n fun j=>[enc (f2 j)]).toArray)) (he:∀ a b,Zhc k (enc a) (enc b)=some (decide (a=b))):Val C ⟨some d,.binOp .eql tx x y t2,ty,pos,after,g⟩ l M S (.bool (aeq n f1 f2)) :=
  fun a' w hF _=>by
    have hget:∀ (f:Int→α) j,j < n→(Ze4 n fun j=>[enc (f j)]).toArray[j]? = some (enc (f (j:Int))):=fun f j hj=>by
      have:(List.range n).flatMap (fun j:Nat=>[enc (f (j:Int))])=(List.range n).map fun j:Nat=>enc (f (j:Int)):=by
        generalize List.range n=is
        induction is with
        | nil=>rfl
        | cons q is ih=>rw [List.flatMap_cons,ih]; rfl
      simp [Ze4,this,hj]
    obtain ⟨h1,h2⟩:=aeK_run (w:=w) hT (fun j=>decide (f1 (j:Int)=f2 (j:Int))) (fun j hj=>⟨_,_,hget f1 j hj,hget f2 j hj,he _ _⟩)
    simp only [execOp,hF.ev hx,hF.ev hy,Sem.run_bind,run_eqGuard_agg w .eql tx x y _ _ h2,Result.andThen_ok,run_eql_struct,h1,Sem.run_pure]
    rfl
theorem Rd.part {s:Yva} {A:Option Addr} {kk o m:Nat} {cs:List Value} (h:Rd s A kk cs):Rd s A (kk + o) ((cs.drop o).take m):=⟨h.1,fun i u hu=>by
  rw [List.getElem?_take] at hu
  split at hu
  · rw [List.getElem?_drop] at hu
    rw [Nat.add_assoc]
    exact h.2 _ u hu
  · cases hu⟩
theorem Vw.hb {α:Type} {z sz:Nat} {A A':Option Addr} {n c lo m:Nat} {xs:List α} (hv:Vw sz A n lo m A') (ho:Ow z A n c xs) {i:Int} (hi:0≤i∧i < (m:Int)):0≤(lo:Int) + i∧(lo:Int) + i < (xs.length:Int):=by
  have h1:=hv.le
  have h2:=ho.hq
  omega
end ops
end Go.Proofs.YtadcichlnacagaaDoor.B
