/- Lemmas of my own on the machine: memory that is read, blocks and rows of the call's own. No condition. -/
import Derived.Test.YtadcichlnacagaaDoorB2
set_option linter.unusedVariables false
set_option linter.unusedSimpArgs false
namespace Go.Proofs.YtadcichlnacagaaDoor.B
open Go.RowKit

def Zdv (P:Program) (T f:Nat):Option Nat :=
  match P.underlying T with
  | some (.struct fs)=>match fs[f]? with
    | some fd=>match P.info? fd.type with
      | some i=>if i.size=0 then none else some fd.offset
      | none=>none
    | none=>none
  | _=>none
def slE (P:Program) (T:Nat):Option (Nat × Nat) :=
  match P.underlying T with
  | some (.slice e)=>(P.info? e).map fun i=>(e,i.size)
  | _=>none
def ldK (P:Program) (T:Nat):Option (Option Nat) :=
  match P.underlying T with
  | some (.struct _)=>(P.info? T).map fun i=>some i.size
  | some (.array _ _)=>(P.info? T).map fun i=>some i.size
  | some _=>some none
  | none=>none
def szK (P:Program) (T:Nat):Option Nat:=(P.info? T).map (·.size)
def zrK (P:Program) (T:Nat):Option (List Value):=(P.info? T).bind fun i=>i.zero.map fun z=>z.cells.toList
theorem Zo5 {P:Program} {T e sz:Nat} (h:slE P T=some (e,sz)):P.underlying T=some (.slice e)∧∃ i,P.info? e=some i∧i.size=sz:=by
  unfold slE at h
  split at h
  · rename_i e' he
    rcases hi:P.info? e' with _ | i
    · rw [hi] at h; cases h
    · rw [hi] at h
      simp only [Option.map_some,Option.some.injEq,Prod.mk.injEq] at h
      obtain ⟨rfl,h2⟩:=h
      exact ⟨he,i,hi,h2⟩
  · cases h
theorem Zoy {P:Program} {T f off:Nat} (h:Zdv P T f=some off):∃ fs fd i,P.underlying T=some (.struct fs)∧fs[f]? = some fd∧P.info? fd.type=some i∧i.size≠0∧fd.offset=off:=by
  unfold Zdv at h
  split at h
  · rename_i fs hfs
    split at h
    · rename_i fd hfd
      split at h
      · rename_i i hi
        split at h
        · cases h
        · rename_i hz
          injection h with h
          exact ⟨fs,fd,i,hfs,hfd,hi,hz,h⟩
      · cases h
    · cases h
  · cases h
theorem ldK_one {P:Program} {T:Nat} (h:ldK P T=some none):(isAgg T).run P=fun w=>.ok false w:=by
  unfold ldK at h
  funext w
  split at h
  · rename_i fs hf; rcases hi:P.info? T with _ | i <;> rw [hi] at h <;> simp at h
  · rename_i fs hf; rcases hi:P.info? T with _ | i <;> rw [hi] at h <;> simp at h
  · rename_i u h1 h2 hu
    unfold isAgg
    simp only [Sem.run_bind,run_underlying hu,Result.andThen_ok]
    cases u <;> first | rfl | exact absurd rfl (h1 _) | exact absurd rfl (h2 _ _)
  · cases h
theorem ldK_agg {P:Program} {T m:Nat} (h:ldK P T=some (some m)):((isAgg T).run P=fun w=>.ok true w)∧∃ i,P.info? T=some i∧i.size=m:=by
  unfold ldK at h
  split at h
  · rename_i fs hf
    rcases hi:P.info? T with _ | i
    · rw [hi] at h; simp at h
    · rw [hi] at h
      simp at h
      exact ⟨by funext w; unfold isAgg; simp [run_underlying hf],i,rfl,h⟩
  · rename_i fs n hf
    rcases hi:P.info? T with _ | i
    · rw [hi] at h; simp at h
    · rw [hi] at h
      simp at h
      exact ⟨by funext w; unfold isAgg; simp [run_underlying hf],i,rfl,h⟩
  · simp at h
  · cases h

abbrev ad0:Addr:=⟨0,0,none⟩
def eA (A:Option Addr) (kk:Nat):Value:=.pointer (some ((A.getD ad0).add kk))
def Zkr (w:World) (A:Option Addr) (kk:Nat):Option Value:=w.cell? ((A.getD ad0).add kk)
def blkA (A:Option Addr):Nat:=(A.getD ad0).block
theorem Zjd (a:Addr) (n:Nat):(a.add n).block=a.block:=by unfold Addr.add; split <;> rfl
theorem Zho (a:Addr) (i j:Nat):(a.add i).add j=a.add (i + j):=by
  unfold Addr.add
  by_cases hi:i=0 <;> by_cases hj:j=0 <;> simp [hi,hj,Nat.add_assoc]
theorem Zq4 {w w':World} {A:Option Addr} {kk:Nat} (h:w'.heap[blkA A]? = w.heap[blkA A]?):Zkr w' A kk=Zkr w A kk:=World.cell?_of_block (w:=w) (by rw [Zjd]; exact h)
def Rd (s:Yva) (A:Option Addr) (kk:Nat) (cs:List Value):Prop:=s.av (blkA A)∧∀ i u,cs[i]? = some u→Zkr s.w A (kk + i)=some u
theorem Rd.now {w0 w:World} {M:List Ent} {S:List Yva} {s:Yva} {A:Option Addr} {kk:Nat} {cs:List Value} (hr:Rd s A kk cs) (hL:Loc w0 w M S) (hs:s ∈ S) {i:Nat} {u:Value} (hi:cs[i]? = some u):Zkr w A (kk + i)=some u :=
  (Zq4 ((hL.snap s hs).2 _ hr.1).1).trans (hr.2 i u hi)

structure Kd (α:Type) where
  sz:Nat
  K:World→(Nat→Prop)→α→List Value→Prop
  len:∀ {w F x cs},K w F x cs→cs.length=sz
  one:∀ {w F x cs},K w F x cs→∀ u ∈ cs,u.oneCell'=true
  mono:∀ {w w' F F' x cs},K w F x cs→(∀ b,F b→F' b∧w'.heap[b]? = w.heap[b]?)→K w' F' x cs
def Zfr {α:Type} (d:Kd α) (w:World) (F:Nat→Prop) (A:Option Addr) (xs:List α):Prop :=
  (0 < xs.length→A.isSome=true∧F (blkA A))∧∀ j x,xs[j]? = some x→∃ cs,d.K w F x cs∧∀ i u,cs[i]? = some u→Zkr w A (j * d.sz + i)=some u
theorem Zfr.mono {α:Type} {d:Kd α} {w w':World} {F F':Nat→Prop} {A:Option Addr} {xs:List α} (h:Zfr d w F A xs) (hF:∀ b,F b→F' b∧w'.heap[b]? = w.heap[b]?):Zfr d w' F' A xs:=by
  refine ⟨fun hp=>⟨(h.1 hp).1,(hF _ (h.1 hp).2).1⟩,fun j x hj=>?_⟩
  obtain ⟨cs,h1,h2⟩:=h.2 j x hj
  have hp:0 < xs.length:=Nat.lt_of_le_of_lt (Nat.zero_le _) (List.getElem?_eq_some_iff.1 hj).1
  exact ⟨cs,d.mono h1 hF,fun i u hu=>(Zq4 (hF _ (h.1 hp).2).2).trans (h2 i u hu)⟩
theorem Zfr.nil {α:Type} (d:Kd α) (w:World) (F:Nat→Prop) (A:Option Addr):Zfr d w F A []:=⟨fun h=>absurd h (Nat.lt_irrefl 0),fun j x hj=>by simp at hj⟩
structure Rw {α:Type} (d:Kd α) (w:World) (F:Nat→Prop) (A:Option Addr) (n c:Nat) (xs:List α):Prop where
  hq:n=xs.length
  hn:n≤c
  hm:c≤maxLen
  row:Zfr d w F A xs
theorem Rw.mono {α:Type} {d:Kd α} {w w':World} {F F':Nat→Prop} {A:Option Addr} {n c:Nat} {xs:List α} (h:Rw d w F A n c xs) (hF:∀ b,F b→F' b∧w'.heap[b]? = w.heap[b]?):Rw d w' F' A n c xs:=⟨h.hq,h.hn,h.hm,h.row.mono hF⟩
theorem Rw.nil {α:Type} {d:Kd α} {w:World} {F:Nat→Prop}:Rw d w F none 0 0 []:=⟨rfl,Nat.le_refl _,Nat.zero_le _,Zfr.nil _ _ _ _⟩
abbrev At {α:Type} (d:Kd α) (s:Yva) (A:Option Addr) (n c:Nat) (xs:List α):Prop:=Rw d s.w s.av A n c xs
theorem Rw.w {α:Type} {d:Kd α} {w:World} {F:Nat→Prop} {A:Option Addr} {n c:Nat} {xs ys:List α} (h:Rw d w F A n c xs) (e:xs=ys):Rw d w F A n c ys:=e ▸ h
def Kd.slice {α:Type} (d:Kd α):Kd (List α) where
  sz:=1
  K w F xs cs:=∃ A n c,cs=[.slice A n c]∧Rw d w F A n c xs
  len:=by rintro w F x cs ⟨A,n,c,rfl,_⟩; rfl
  one:=by rintro w F x cs ⟨A,n,c,rfl,_⟩ u hu; simp at hu; subst hu; rfl
  mono:=by rintro w w' F F' x cs ⟨A,n,c,rfl,h⟩ hF; exact ⟨A,n,c,rfl,h.mono hF⟩
def Kd.flat {α:Type} (sz:Nat) (enc:α→List Value) (hl:∀ x,(enc x).length=sz) (h1:∀ x,∀ u ∈ enc x,u.oneCell'=true):Kd α where
  sz:=sz
  K _ _ x cs:=cs=enc x
  len:=by rintro w F x cs rfl; exact hl x
  one:=by rintro w F x cs rfl; exact h1 x
  mono:=by rintro w w' F F' x cs h _; exact h
theorem Yya (k:IntKind):∀ x,∀ u ∈ (fun x=>[Value.int k x]) x,u.oneCell'=true:=fun x u hu=>by simp at hu; subst hu; rfl
theorem Zji:∀ x,∀ u ∈ (fun x=>[Value.bool x]) x,u.oneCell'=true:=fun x u hu=>by simp at hu; subst hu; rfl
theorem hone_str:∀ x,∀ u ∈ (fun x=>[Value.string x]) x,u.oneCell'=true:=fun x u hu=>by simp at hu; subst hu; rfl
abbrev Yw6 (k:IntKind):Kd Int:=Kd.flat 1 (fun x=>[.int k x]) (fun _=>rfl) (Yya k)
abbrev Yzi:Kd Bool:=Kd.flat 1 (fun x=>[.bool x]) (fun _=>rfl) Zji
abbrev kStr:Kd ByteArray:=Kd.flat 1 (fun x=>[.string x]) (fun _=>rfl) hone_str

theorem Rw.read {α:Type} [Inhabited α] {d:Kd α} {s:Yva} {A:Option Addr} {n c:Nat} {xs:List α} (h:At d s A n c xs) {i:Int} (hi:0≤i∧i < (xs.length:Int)):∃ cs,d.K s.w s.av (ix xs i) cs∧Rd s A (i.toNat * d.sz) cs:=by
  obtain ⟨cs,h1,h2⟩:=h.row.2 _ _ (Zfh hi)
  exact ⟨cs,h1,(h.row.1 (by omega)).2,h2⟩
theorem Rw.readF {α : Type} [Inhabited α] {sz : Nat} {enc : α → List Value} {hl : ∀ x, (enc x).length = sz} {h1 : ∀ x, ∀ u ∈ enc x, u.oneCell' = true} {s : Yva} {A : Option Addr} {n c : Nat} {xs : List α} (h : At (Kd.flat sz enc hl h1) s A n c xs) {i : Int}
    (hi:0≤i∧i < (xs.length:Int)):Rd s A (i.toNat * sz) (enc (ix xs i)):=by
  obtain ⟨cs,h1,h2⟩:=h.read hi
  have h1':cs=enc (ix xs i):=h1
  subst h1'
  exact h2
structure Ow {α:Type} (z:Nat) (A:Option Addr) (n c:Nat) (xs:List α):Prop where
  hq:n=xs.length
  hA:0 < n→A.isSome=true
  hn:n≤c
  hm:c≤maxLen
  hz:∀ b,(Value.slice A n c).ownBlock=some b→z≤b
theorem Ow.nil {α:Type} {z:Nat}:Ow (α:=α) z none 0 0 []:=⟨rfl,fun h=>absurd h (Nat.lt_irrefl 0),Nat.le_refl _,Nat.zero_le _,fun b h=>by cases h⟩
theorem Ow.w {α β:Type} {z:Nat} {A:Option Addr} {n c:Nat} {xs:List α} {ys:List β} (h:Ow z A n c xs) (e:ys.length=xs.length):Ow z A n c ys:=⟨h.hq.trans e.symm,h.hA,h.hn,h.hm,h.hz⟩
theorem Ow.any {α:Type} {z:Nat} {A:Option Addr} {n c:Nat} {xs:List α} (h:Ow z A n c xs):Ow 0 A n c xs:=⟨h.hq,h.hA,h.hn,h.hm,fun _ _=>Nat.zero_le _⟩

section ops
variable {C:Cx} {ops:Array Oper} {k:List Item} {l l':Fm} {M M':List Ent} {S S':List Yva} {ty:TypeId} {pos:String} {after:Ed} {g:Gu} {d:Nat}

theorem v_idx {T e sz:Nat} {x y:Operand} {A:Option Addr} {n c:Nat} {kk:IntKind} {j:Int} (hT:slE C.P T=some (e,sz)) (hx:evl l x=some (.slice A n c)) (hy:evl l y=some (.int kk j))
 (hj:0≤j∧j < (n:Int)) (hA:A.isSome=true):Val C ⟨some d,.indexAddr T x y,ty,pos,after,g⟩ l M S (eA A (j.toNat * sz)) :=
  fun a' w hF _=>by
    obtain ⟨h1,inf,h2,h3⟩:=Zo5 hT
    obtain ⟨a,rfl⟩:=Option.isSome_iff_exists.1 hA
    simp [execOp,hF.ev hx,hF.ev hy,Instr.indexAt,run_underlying h1,asIntOf,sizeOf,typeInfo,h2,h3,hj.1,hj.2,eA,Sem.run_pure,Sem.run_bind]
theorem Yv7 {α:Type} {dk:Kd α} {s:Yva} {T e sz:Nat} {x y:Operand} {A:Option Addr} {n c:Nat} {xs:List α} {kk:IntKind} {j:Int} (hT:slE C.P T=some (e,sz)) (hx:evl l x=some (.slice A n c)) (hy:evl l y=some (.int kk j)) (h:At dk s A n c xs)
 (hj:0≤j∧j < (xs.length:Int)):Val C ⟨some d,.indexAddr T x y,ty,pos,after,g⟩ l M S (eA A (j.toNat * sz)):=v_idx hT hx hy (by rw [h.hq]; exact hj) (h.row.1 (by omega)).1
theorem Yyn {α:Type} {z T e sz:Nat} {x y:Operand} {A:Option Addr} {n c:Nat} {xs:List α} {kk:IntKind} {j:Int} (hT:slE C.P T=some (e,sz)) (hx:evl l x=some (.slice A n c)) (hy:evl l y=some (.int kk j)) (h:Ow z A n c xs)
 (hj:0≤j∧j < (xs.length:Int)):Val C ⟨some d,.indexAddr T x y,ty,pos,after,g⟩ l M S (eA A (j.toNat * sz)):=v_idx hT hx hy (by rw [h.hq]; exact hj) (h.hA (by rw [h.hq]; omega))
theorem Yvo {T f off:Nat} {x:Operand} {A:Option Addr} {kk:Nat} (hT:Zdv C.P T f=some off) (hx:evl l x=some (eA A kk)):Val C ⟨some d,.fieldAddr T x f,ty,pos,after,g⟩ l M S (eA A (kk + off)) :=
  fun a' w hF _=>by
    obtain ⟨fs,fd,inf,h1,h2,h3,h4,h5⟩:=Zoy hT
    have hx':=hF.ev hx
    unfold eA at hx'
    simp [execOp,hx',Instr.fieldAt,run_underlying h1,h2,Instr.sureAddr,fieldPlace,sizeOf,typeInfo,h3,h4,h5,eA,Zho,Sem.run_pure,Sem.run_bind]
theorem Yub {T f off:Nat} {x:Operand} {gb o:Nat} (hT:Zdv C.P T f=some off) (hx:evl l x=some (.pointer (some ⟨gb,o,none⟩))):Val C ⟨some d,.fieldAddr T x f,ty,pos,after,g⟩ l M S (.pointer (some ⟨gb,o + off,none⟩)) :=
  fun a' w hF _=>by
    obtain ⟨fs,fd,inf,h1,h2,h3,h4,h5⟩:=Zoy hT
    simp [execOp,hF.ev hx,Instr.fieldAt,run_underlying h1,h2,Instr.sureAddr,fieldPlace,sizeOf,typeInfo,h3,h4,h5,Zfk,Sem.run_pure,Sem.run_bind]
theorem Zcr {P:Program} {w:World} {T:Nat} {a:Addr} {v:Value} (hT:ldK P T=some none) (hc:w.cell? a=some v):(loadVar T a).run P w=.ok v w:=by
  unfold loadVar
  simp [ldK_one hT,hc]
theorem Zeb {P:Program} {w:World} {T m:Nat} {a:Addr} {cs:List Value} (hT:ldK P T=some (some m)) (hm:cs.length=m) (hc:∀ i u,cs[i]? = some u→w.cell? (a.add i)=some u):(loadVar T a).run P w=.ok (.agg cs.toArray) w:=by
  obtain ⟨h1,inf,h2,h3⟩:=ldK_agg hT
  unfold loadVar
  have h4:=run_loadCells_list (P:=P) (w:=w) a cs hc
  simp [h1,sizeOf,typeInfo,h2,h3,← hm,h4]
theorem Yvj {T:Nat} {x:Operand} {A:Option Addr} {kk j:Nat} {cs:List Value} {v:Value} (s:Yva) (hT:ldK C.P T=some none) (hx:evl l x=some (eA A (kk + j))) (hr:Rd s A kk cs) (hv:cs[j]? = some v) (hs:s ∈ S):Val C ⟨some d,.load T x,ty,pos,after,g⟩ l M S (v) :=
  fun a' w hF hL=>by
    have hx':=hF.ev hx
    unfold eA at hx'
    have h1:=Zcr hT (hr.now hL hs hv)
    simp [execOp,hx',Instr.loadAt,Instr.sureAddr,h1,Sem.run_pure,Sem.run_bind]
theorem Zdb {T m:Nat} {x:Operand} {A:Option Addr} {kk:Nat} {cs:List Value} (s:Yva) (hT:ldK C.P T=some (some m)) (hx:evl l x=some (eA A kk)) (hr:Rd s A kk cs) (hm:cs.length=m) (hs:s ∈ S):Val C ⟨some d,.load T x,ty,pos,after,g⟩ l M S (.agg cs.toArray) :=
  fun a' w hF hL=>by
    have hx':=hF.ev hx
    unfold eA at hx'
    have h1:=Zeb hT hm (fun i u hu=>by rw [Zho]; exact hr.now hL hs hu)
    simp [execOp,hx',Instr.loadAt,Instr.sureAddr,h1,Sem.run_pure,Sem.run_bind]
theorem Zhi {w:World} {gb:Nat} {T:TypeId} {cs:List Value} (h:(Ent.box gb T cs).ok w) (o:Nat):w.cell? ⟨gb,o,none⟩=cs[o]?:=by
  have h':w.heap[gb]? = some (.cells cs.toArray T (0,0)):=h
  simp [World.cell?,h']
theorem box_free {w:World} {gb:Nat} {T:TypeId} {cs:List Value} (h:(Ent.box gb T cs).ok w) (o:Nat):w.frozen? ⟨gb,o,none⟩=false:=by
  have h':w.heap[gb]? = some (.cells cs.toArray T (0,0)):=h
  simp [World.frozen?,h']
theorem Yue {T:Nat} {x:Operand} {gb o Tb:Nat} {cs:List Value} {v:Value} (j:Nat) (hT:ldK C.P T=some none) (hx:evl l x=some (.pointer (some ⟨gb,o,none⟩))) (hM:M[j]? = some (.box gb Tb cs)) (hv:cs[o]? = some v):Val C ⟨some d,.load T x,ty,pos,after,g⟩ l M S (v) :=
  fun a' w hF hL=>by
    have h1:=Zcr (P:=C.P) (w:=w) (a:=⟨gb,o,none⟩) (v:=v) hT ((Zhi (hL.ok _ (List.mem_iff_getElem?.2 ⟨j,hM⟩)) o).trans hv)
    simp [execOp,hF.ev hx,Instr.loadAt,Instr.sureAddr,h1,Sem.run_pure,Sem.run_bind]
theorem Yyr {T m:Nat} {x:Operand} {gb o Tb:Nat} {cs:List Value} (vs:List Value) (j:Nat) (hT:ldK C.P T=some (some m)) (hx:evl l x=some (.pointer (some ⟨gb,o,none⟩))) (hM:M[j]? = some (.box gb Tb cs)) (hv:(cs.drop o).take m=vs)
 (hm:vs.length=m):Val C ⟨some d,.load T x,ty,pos,after,g⟩ l M S (.agg vs.toArray) :=
  fun a' w hF hL=>by
    have h1:=Zeb (P:=C.P) (w:=w) (a:=⟨gb,o,none⟩) hT hm (fun q u hu=>by
      rw [Zfk,Zhi (hL.ok _ (List.mem_iff_getElem?.2 ⟨j,hM⟩)) (o + q)]
      rw [← hv,List.getElem?_take] at hu
      split at hu
      · rwa [List.getElem?_drop] at hu
      · cases hu)
    simp [execOp,hF.ev hx,Instr.loadAt,Instr.sureAddr,h1,Sem.run_pure,Sem.run_bind]
theorem Znn {P:Program} {w:World} (T:TypeId) (v:Value):(newVar T v).run P w=.ok ⟨w.heap.size,0,none⟩ (w.alloc (.cells v.cells T)):=by
  unfold newVar newRow newObj
  simp [Sem.run]
theorem Loc.box {w0 w:World} (h:Loc w0 w M S) (T:TypeId) (cs:List Value):Loc w0 (w.alloc (.cells cs.toArray T)) (.box w.heap.size T cs :: M) S :=
  h.add (Chg.alloc w _ []) _ (by show (w.alloc _).heap[w.heap.size]? = _; exact heap_alloc_new w _) (fun b hb=>by simp [Ent.blk] at hb; omega)
theorem zrK_spec {P:Program} {T:Nat} {zs:List Value} (h:zrK P T=some zs):∃ z,(∀ w,(zeroValue T).run P w=.ok z w)∧z.cells=zs.toArray:=by
  unfold zrK at h
  rcases hi:P.info? T with _ | inf
  · rw [hi] at h; cases h
  · rw [hi] at h
    rcases hz:inf.zero with _ | z
    · simp [hz] at h
    · simp [hz] at h
      exact ⟨z,fun w=>by simp [zeroValue,typeInfo,hi,hz],by rw [← h]⟩
theorem Yye {Nx : Fm → List Ent → List Yva → Prop} {T : Nat} (zs : List Value) (hT : zrK C.P T = some zs) (hd : Nat.ble (d + 1) C.n = true)
    (h:∀ gb,Nx ((d,.pointer (some ⟨gb,0,none⟩)) :: l) (.box gb T zs :: M) S):Stp C ⟨some d,.alloc T,ty,pos,after,g⟩ l M S Nx :=
  Zns hd fun a w hF hL=>by
    obtain ⟨z,h1,h2⟩:=zrK_spec hT
    refine ⟨.pointer (some ⟨w.heap.size,0,none⟩),w.alloc (.cells zs.toArray T),_,_,?_,hL.box T zs,h _⟩
    simp [execOp,Instr.alloc,h1,Znn,h2,Sem.run_pure,Sem.run_bind]
theorem Zas {Nx : Fm → List Ent → List Yva → Prop} {T : Nat} {x : Operand} {v : Value} (zs : List Value) (hx : evl l x = some v) (hv : v.cells = zs.toArray) (hd : Nat.ble (d + 1) C.n = true)
    (h:∀ gb,Nx ((d,.pointer (some ⟨gb,0,none⟩)) :: l) (.box gb T zs :: M) S):Stp C ⟨some d,.box T x,ty,pos,after,g⟩ l M S Nx :=
  Zns hd fun a w hF hL=>by
    refine ⟨.pointer (some ⟨w.heap.size,0,none⟩),w.alloc (.cells zs.toArray T),_,_,?_,hL.box T zs,h _⟩
    simp [execOp,Instr.box,hF.ev hx,Znn,hv,Sem.run_pure,Sem.run_bind]
theorem box_set {w:World} {gb:Nat} {T:TypeId} {cs:List Value} (h:(Ent.box gb T cs).ok w) (o:Nat) (v:Value):(Ent.box gb T (cs.set o v)).ok (w.setCell ⟨gb,o,none⟩ v):=by
  have h':w.heap[gb]? = some (.cells cs.toArray T (0,0)):=h
  show (w.setCell ⟨gb,o,none⟩ v).heap[gb]? = _
  simp [World.setCell,Array.getElem?_modify,h']
theorem Zo1 {P : Program} (gb : Nat) (T : TypeId) : ∀ (vs cs : List Value) (o j : Nat) (w : World), (Ent.box gb T cs).ok w → o + j + vs.length ≤ cs.length → (∀ v ∈ vs, v.oneCell' = true) →
    ∃ w',(storeCells ⟨gb,o,none⟩ vs j).run P w=.ok () w'∧(Ent.box gb T (Zar cs (o + j) vs)).ok w'∧Chg [gb] w w'
  | [],cs,o,j,w,h,_,_=>⟨w,by simp [storeCells],h,Chg.refl _ w⟩
  | v :: r,cs,o,j,w,h,hl,h1=>by
    simp only [List.length_cons] at hl
    have hc:w.cell? ⟨gb,o + j,none⟩=some (cs[o + j]'(by omega)):=(Zhi h _).trans (List.getElem?_eq_getElem (by omega))
    have hs:(store ((⟨gb,o,none⟩:Addr).add j) v).run P w=.ok () (w.setCell ⟨gb,o + j,none⟩ v):=by
      rw [Zfk,run_store P w _ v _ (h1 v (by simp)),hc,box_free h]
      rfl
    obtain ⟨w',h2,h3,h4⟩:=Zo1 (P:=P) gb T r (cs.set (o + j) v) o (j + 1) (w.setCell ⟨gb,o + j,none⟩ v) (box_set h _ v) (by simp; omega) (fun u hu=>h1 u (by simp [hu]))
    refine ⟨w',?_,by simpa [Zar,Nat.add_assoc] using h3,(Chg.set w ⟨gb,o + j,none⟩ v).trans h4⟩
    simp [storeCells,hs,h2]
theorem Zhl {P : Program} {gb T Tb m : Nat} {cs vs : List Value} {o : Nat} {w : World} {v : Value} (hT : szK P T = some m) (hv : v.cells.toList = vs) (hm : vs.length = m) (hl : o + m ≤ cs.length) (h1 : ∀ u ∈ vs, u.oneCell' = true) (h : (Ent.box gb Tb cs).ok w) :
    ∃ w',(storeVar T ⟨gb,o,none⟩ v).run P w=.ok () w'∧(Ent.box gb Tb (Zar cs o vs)).ok w'∧Chg [gb] w w':=by
  obtain ⟨w',h2,h3,h4⟩:=Zo1 (P:=P) gb Tb vs cs o 0 w h (by omega) h1
  refine ⟨w',?_,h3,h4⟩
  unfold szK at hT
  rcases hi:P.info? T with _ | inf
  · rw [hi] at hT; cases hT
  · rw [hi] at hT
    simp at hT
    have hsz:v.cells.size=inf.size:=by rw [hT,← hm,← hv]; simp
    unfold storeVar
    simp [sizeOf,typeInfo,hi,hsz,hv,h2]
theorem Za4 {Nx : Fm → List Ent → List Yva → Prop} {T m : Nat} {x y : Operand} {gb o Tb : Nat} {cs cs' vs : List Value} {v : Value} (j : Nat) (hT : szK C.P T = some m) (hx : evl l x = some (.pointer (some ⟨gb, o, none⟩))) (hy : evl l y = some v)
    (hM:M[j]? = some (.box gb Tb cs)) (hv:v.cells.toList=vs) (hm:vs.length=m) (hl:Nat.ble (o + m) cs.length=true) (h1:vs.all Value.oneCell'=true) (hc:Zar cs o vs=cs') (hM':M.set j (.box gb Tb cs')=M') 
    (h:Nx l M' S):Stp C ⟨none,.store T x y,ty,pos,after,g⟩ l M S Nx :=
  s_do fun a w hF hL=>by
    obtain ⟨w',h2,h3,h4⟩:=Zhl (P:=C.P) (o:=o) hT hv hm (Nat.le_of_ble_eq_true hl) (fun u hu=>List.all_eq_true.1 h1 u hu) (hL.ok _ (List.mem_iff_getElem?.2 ⟨j,hM⟩))
    refine ⟨w',_,_,by simp [execOp,hF.ev hx,hF.ev hy,Instr.storeAt,Instr.sureAddr,h2,Sem.run_pure,Sem.run_bind],?_,h⟩
    subst hM'
    subst hc
    exact hL.upd hM h4 h3 (fun b hb=>.inl hb)
def evP (l:Fm):List (Nat × Operand)→Option (List (Nat × Value))
  | []=>some []
  | p :: r=>match evl l p.2,evP l r with
    | some v,some q=>some ((p.1,v) :: q)
    | _,_=>none
theorem Zni {l : Fm} {n : Nat} {a : Act} (hF : Fr n l a) : ∀ (ps : List (Nat × Operand)) (vs : List (Nat × Value)), evP l ps = some vs → ps.map (fun p => (p.1, a.eval p.2)) = vs
  | [],vs,h=>by simp [evP] at h; subst h; rfl
  | p :: r,vs,h=>by
    simp only [evP] at h
    split at h
    · rename_i v q h1 h2
      injection h with h
      subst h
      simp [hF.ev h1,Zni hF r q h2]
    · cases h
def bld (P:Program) (T:Nat):Option (Array Value × List (Nat × Nat)) :=
  match P.info? T,P.underlying T with
  | some it,some (.struct fields) =>
    match it.zero,fields.toList.mapM (fun f=>(P.info? f.type).map fun i=>(f.offset,i.size)) with
    | some z,some places=>some (z.cells,places)
    | _,_=>none
  | _,_=>none
theorem bld_spec {P:Program} {T:Nat} {zs:Array Value} {pl:List (Nat × Nat)} (h:bld P T=some (zs,pl)) (ps:List (Nat × Value)):P.built T ps=Instr.fill (pl.toArray[·]?) zs ps:=by
  unfold bld at h
  unfold Program.built
  split at h
  · rename_i it fs h1 h2
    split at h
    · rename_i z places h3 h4
      simp at h
      obtain ⟨rfl,rfl⟩:=h
      simp [h1,h2,h3,h4]
    · cases h
  · cases h
theorem Zap {T:Nat} {ps:Array (Nat × Operand)} {pv:List (Nat × Value)} {zs:Array Value} {pl:List (Nat × Nat)} (cells:Array Value) (hT:bld C.P T=some (zs,pl)) (hp:evP l ps.toList=some pv)
 (hf:Instr.fill (pl.toArray[·]?) zs pv=some cells):Val C ⟨some d,.build T ps,ty,pos,after,g⟩ l M S (.agg cells) :=
  fun a w hF hL=>by
    have h1:=Zni hF ps.toList pv hp
    have h2:(ps.map fun (i,x)=>(i,a.eval x)).toList=pv:=by simpa using h1
    have h3:=run_build (P:=C.P) w T (ps.map fun (i,x)=>(i,a.eval x)) cells (by rw [h2,bld_spec hT]; exact hf)
    simp only [execOp,Sem.run_bind,h3,Result.andThen_ok,Sem.run_pure]
def Zkf (P:Program) (T n:Nat):Option (Nat × Nat × Array Value) :=
  match P.underlying T with
  | some (.slice e)=>match P.info? e with
    | some ie=>match ie.zero with
      | some z=>if n * ie.size > 2 ^ 24 then none else some (e,ie.size,(Array.range (n * ie.size)).map ((if n * ie.size=0 then #[] else z.cells)[· % (if n * ie.size=0 then #[] else z.cells).size]!))
      | none=>none
    | none=>none
  | _=>none
theorem Loc.lit {w0 w:World} (h:Loc w0 w M S) (e sz n:Nat) (cells:Array Value) (hm:n≤maxLen) (hs:cells.size=n * sz):Loc w0 (w.alloc (.cells cells e)) (.own (.slice (some ⟨w.heap.size,0,none⟩) n n) e sz n cells.toList :: M) S :=
  h.add (Chg.alloc w _ []) _ (Yzb.alloc hm hs) (fun b hb=>by simp [Ent.blk,Value.ownBlock] at hb; omega)
theorem run_lit {P : Program} {w : World} {T n e sz : Nat} {pv : Array (Nat × Value)} {zs cells : Array Value} (hT : Zkf P T n = some (e, sz, zs)) (hf : Instr.fill (fun i => some (i * sz, sz)) zs pv.toList = some cells) :
    (Instr.buildSlice T n pv).run P w=.ok (.slice (some ⟨w.heap.size,0,none⟩) n n) (w.alloc (.cells cells e)):=by
  unfold Zkf at hT
  split at hT
  · rename_i e' hu
    split at hT
    · rename_i ie hie
      split at hT
      · rename_i z hz
        split at hT
        · cases hT
        · rename_i hbig
          simp only [Option.some.injEq,Prod.mk.injEq] at hT
          obtain ⟨rfl,rfl,rfl⟩:=hT
          have hsz:∀ w,(sizeOf e').run P w=.ok ie.size w:=fun w=>by simp [sizeOf,typeInfo,hie]
          have hzr:∀ w,(zeroValue e').run P w=.ok z w:=fun w=>by simp [zeroValue,typeInfo,hie,hz]
          have hnr:∀ w c,(newRow e' c).run P w=.ok ⟨w.heap.size,0,none⟩ (w.alloc (.cells c e')):=fun w c=>by unfold newRow newObj; simp [Sem.run]
          unfold Instr.buildSlice
          simp only [Sem.run_bind,run_underlying hu,Result.andThen_ok,hsz]
          rw [if_neg hbig]
          by_cases h0:n * ie.size=0
          · simp only [if_pos h0] at hf ⊢
            simp only [Sem.run_bind,Sem.run_pure,Result.andThen_ok,hf,hnr]
          · simp only [if_neg h0] at hf ⊢
            simp only [Sem.run_bind,Sem.run_pure,Result.andThen_ok,hzr,hf,hnr]
      · cases hT
    · cases hT
  · cases hT
theorem Zhn {w:World} {A:Option Addr} {e sz n c:Nat} {cells:List Value} (h:Yzb w e sz (.slice A n c) n cells) {kk:Nat} {v:Value} (hv:cells[kk]? = some v):Zkr w A kk=some v:=by
  have hlt:=(List.getElem?_eq_some_iff.1 hv).1
  have hp:0 < n:=by
    rcases Nat.eq_zero_or_pos n with h0 | h0
    · have:=h.1; rw [h0] at this; omega
    · exact h0
  obtain ⟨gb,rfl⟩:=h.addr hp
  show w.cell? ((⟨gb,0,none⟩:Addr).add kk)=some v
  rw [Zfk,Nat.zero_add,h.cellAt kk (by rw [← h.1]; exact hlt)]
  exact hv
theorem Zbb {T:Nat} {x:Operand} {A:Option Addr} {kk e sz n c:Nat} {cells:List Value} (v:Value) (j:Nat) (hT:ldK C.P T=some none) (hx:evl l x=some (eA A kk)) (hM:M[j]? = some (.own (.slice A n c) e sz n cells)) (hv:cells[kk]? = some v):Val C ⟨some d,.load T x,ty,pos,after,g⟩ l M S (v) :=
  fun a' w hF hL=>by
    have hx':=hF.ev hx
    unfold eA at hx'
    have h1:=Zcr hT (Zhn (hL.ok _ (List.mem_iff_getElem?.2 ⟨j,hM⟩)) hv)
    simp [execOp,hx',Instr.loadAt,Instr.sureAddr,h1,Sem.run_pure,Sem.run_bind]
theorem v_ldO {T m:Nat} {x:Operand} {A:Option Addr} {kk e sz n c:Nat} {cells:List Value} (vs:List Value) (j:Nat) (hT:ldK C.P T=some (some m)) (hx:evl l x=some (eA A kk)) (hM:M[j]? = some (.own (.slice A n c) e sz n cells))
 (hv:(cells.drop kk).take m=vs) (hm:vs.length=m):Val C ⟨some d,.load T x,ty,pos,after,g⟩ l M S (.agg vs.toArray) :=
  fun a' w hF hL=>by
    have hx':=hF.ev hx
    unfold eA at hx'
    have h1:=Zeb hT hm (fun q u hu=>by
      rw [Zho]
      rw [← hv,List.getElem?_take] at hu
      split at hu
      · rw [List.getElem?_drop] at hu
        exact Zhn (hL.ok _ (List.mem_iff_getElem?.2 ⟨j,hM⟩)) hu
      · cases hu)
    simp [execOp,hx',Instr.loadAt,Instr.sureAddr,h1,Sem.run_pure,Sem.run_bind]
theorem s_stO {Nx : Fm → List Ent → List Yva → Prop} {T m : Nat} {x y : Operand} {A : Option Addr} {kk e sz n c : Nat} {cells vs : List Value} {v : Value} (j : Nat) (hT : szK C.P T = some m) (hx : evl l x = some (eA A kk)) (hy : evl l y = some v)
    (hM:M[j]? = some (.own (.slice A n c) e sz n cells)) (hv:v.cells.toList=vs) (hm:vs.length=m) (hl:kk + m≤cells.length) (h0:0 < n) (h1:vs.all Value.oneCell'=true) (hM':M.set j (.own (.slice A n c) e sz n (Zar cells kk vs))=M') 
    (h:Nx l M' S):Stp C ⟨none,.store T x y,ty,pos,after,g⟩ l M S Nx :=
  s_do fun a w hF hL=>by
    have hown:Yzb w e sz (.slice A n c) n cells:=hL.ok _ (List.mem_iff_getElem?.2 ⟨j,hM⟩)
    obtain ⟨gb,rfl⟩:=hown.addr h0
    obtain ⟨w',h2,h3,g1,g2,g3,g4,g5⟩:=hown.stores (P:=C.P) (o:=kk) (vs:=vs) (by omega) (fun u hu=>List.all_eq_true.1 h1 u hu)
    have hx':=hF.ev hx
    unfold eA at hx'
    have hst:(storeVar T (⟨gb,kk,none⟩:Addr) v).run C.P w=.ok () w':=by
      unfold szK at hT
      rcases hi:C.P.info? T with _ | inf
      · rw [hi] at hT; cases hT
      · rw [hi] at hT
        simp at hT
        have hsz:v.cells.size=inf.size:=by rw [hT,← hm,← hv]; simp
        unfold storeVar
        simp [sizeOf,typeInfo,hi,hsz,hv,h2]
    refine ⟨w',_,_,by simp [execOp,hx',hF.ev hy,Instr.storeAt,Instr.sureAddr,Zfk,hst,Sem.run_pure,Sem.run_bind],?_,h⟩
    subst hM'
    exact hL.upd (e':=.own (.slice (some ⟨gb,0,none⟩) n c) e sz n (Zar cells kk vs)) hM ⟨⟨g1,g2,g3,Nat.le_of_eq g4.symm⟩,fun b _ hb=>g5 b (fun e=>hb (by simp [Ent.blk,Value.ownBlock,e]))⟩ h3 (fun b hb=>.inl hb)
def apK (P:Program) (T:Nat):Option (Nat × Nat × Nat) :=
  match P.underlying T with
  | some (.slice e)=>match P.info? e with
    | some ie=>match ie.zero with
      | some z=>if z.cells.size=ie.size∧0 < ie.size then some (e,ie.size,ie.bytes) else none
      | none=>none
    | none=>none
  | _=>none
theorem Zqj {P:Program} {T e sz bytes:Nat} (h:apK P T=some (e,sz,bytes)):P.underlying T=some (.slice e)∧∃ i z,P.info? e=some i∧i.zero=some z∧i.size=sz∧i.bytes=bytes∧z.cells.size=sz∧0 < sz:=by
  unfold apK at h
  split at h
  · rename_i e' hu
    split at h
    · rename_i ie hie
      split at h
      · rename_i z hz
        split at h
        · rename_i hc
          simp only [Option.some.injEq,Prod.mk.injEq] at h
          obtain ⟨rfl,rfl,rfl⟩:=h
          exact ⟨hu,ie,z,hie,hz,rfl,rfl,hc.1,hc.2⟩
        · cases h
      · cases h
    · cases h
  · cases h
theorem upd_app {w0 w w' : World} (hL : Loc w0 w M S) {j : Nat} {v v' : Value} {e sz n n' : Nat} {cells cells' : List Value} (hM : M[j]? = some (.own v e sz n cells)) (h2 : Yzb w' e sz v' n' cells') (h3 : w.grownBy w' v.ownBlock) (h5 : v'.ownBlock = v.ownBlock ∨ v'.ownBlock = some w.heap.size) :
    Loc w0 w' (M.set j (.own v' e sz n' cells')) S :=
  hL.upd (e':=.own v' e sz n' cells') hM (Chg.of_grown h3) h2 (fun b hb=>by
    simp only [Ent.blk] at hb ⊢
    rcases h5 with h5 | h5
    · rw [h5] at hb; exact .inl hb
    · rw [h5] at hb; simp at hb; exact .inr (by omega))
structure Src (C:Cx) (M:List Ent) (S:List Yva) (B:Option Addr) (m sz:Nat) (news:List Value):Prop where
  len:news.length=m * sz
  one:∀ u ∈ news,u.oneCell'=true
  at_:0 < m→B.isSome=true
  cell:∀ w,Loc C.w0 w M S→∀ q u,news[q]? = some u→Zkr w B q=some u
theorem app_zero {P:Program} {w:World} {T ty e sz bytes:Nat} {A B:Option Addr} {n c c2:Nat} {cells:List Value} (hT:apK P T=some (e,sz,bytes)) (hown:Yzb w e sz (.slice A n c) n cells):(Builtin.append_ #[T,T] ty #[.slice A n c,.slice B 0 c2]).run P w=.ok (.slice A n c) w:=by
  obtain ⟨t1,inf,z,t2,t3,t4,t5,t6,t7⟩:=Zqj hT
  rcases hown.2 with ⟨hv,hn0⟩ | ⟨gb,cap,cur,fz,hv,hg,_,hnc,_⟩
  · injection hv with e1 e2 e3
    subst e1; subst e2; subst e3
    cases B <;> simp [Builtin.append_,run_underlying t1,sizeOf,typeInfo,t2,Builtin.lenOf,Builtin.firstCells,loadCells,loadCellsFrom]
  · injection hv with e1 e2 e3
    subst e1; subst e3
    cases B <;> simp [Builtin.append_,run_underlying t1,sizeOf,typeInfo,t2,Builtin.lenOf,Builtin.firstCells,hnc,storeCells,loadCells,loadCellsFrom]
theorem Zdj {α : Type} {z0 : Nat} {ys zs : List α} {Nx : Fm → List Ent → List Yva → Prop} {T e sz bytes : Nat} {x y : Operand} {A B : Option Addr} {n c m c2 : Nat} {cells news cells' : List Value} (j : Nat) (hT : apK C.P T = some (e, sz, bytes))
    (hx:evl l x=some (.slice A n c)) (hy:evl l y=some (.slice B m c2)) (hM:M[j]? = some (.own (.slice A n c) e sz n cells)) (ho:Ow z0 A n c ys) (hz0:z0≤C.w0.heap.size) (hs:Src C M S B m sz news) (hc:cells++news=cells') (hz:zs.length=ys.length + m) (hb:zs.length * bytes≤211106232532992) (hby:(Nat.ble 1 bytes && Nat.ble bytes 1073741824)=true)
    (hd:Nat.ble (d + 1) C.n=true)
    (h:∀ A' c',Ow z0 A' (n + m) c' zs→Nx ((d,.slice A' (n + m) c') :: l) (M.set j (.own (.slice A' (n + m) c') e sz (n + m) cells')) S):Stp C ⟨some d,.call { callee:=.builtin .append,args:=#[x,y],argTypes:=#[T,T] },ty,pos,after,g⟩ l M S Nx :=
  Zns hd fun a w hF hL=>by
    subst hc
    have hown:Yzb w e sz (.slice A n c) n cells:=hL.ok _ (List.mem_iff_getElem?.2 ⟨j,hM⟩)
    have hq:n + m=zs.length:=by rw [hz,ho.hq]
    rcases Nat.eq_zero_or_pos m with h0 | h0
    · subst h0
      have hnil:news=[]:=by have:=hs.len; simp at this; exact this
      subst hnil
      have hMM:M.set j (.own (.slice A n c) e sz n cells)=M:=by
        apply List.ext_getElem?
        intro q
        rw [List.getElem?_set]
        split
        · rename_i e1; subst e1; rw [hM]; simp [(List.getElem?_eq_some_iff.1 hM).1]
        · rfl
      have hh:=h A c ⟨by omega,ho.hA,ho.hn,ho.hm,fun b hb=>ho.hz b (by cases A <;> exact hb)⟩
      simp only [Nat.add_zero,List.append_nil] at hh
      rw [hMM] at hh
      refine ⟨.slice A n c,w,M,S,?_,hL,hh⟩
      simp [execOp,resolve,invoke,builtin,hF.ev hx,hF.ev hy,app_zero hT hown,Sem.run_pure,Sem.run_bind]
    · obtain ⟨t1,inf,z,t2,t3,t4,t5,t6,t7⟩:=Zqj hT
      obtain ⟨ad,rfl⟩:=Option.isSome_iff_exists.1 (hs.at_ h0)
      have hby':=Nat.le_of_ble_eq_true (Bool.and_eq_true_iff.1 hby).1
      have hby30:=Nat.le_of_ble_eq_true (Bool.and_eq_true_iff.1 hby).2
      have hsm:(n + m) * bytes≤211106232532992:=by rw [hq]; exact hb
      have hnm:n + m≤maxLen:=by
        have:(n + m) * 1≤(n + m) * bytes:=Nat.mul_le_mul_left _ hby'
        unfold maxLen; omega
      obtain ⟨v',w',hrun,h2,h3,h5⟩:=Yzb.append (P:=C.P) T ty t1 t2 t3 t4 t5 t6 t7 hown ad m c2 news hs.len (fun q u hu=>hs.cell w hL q u hu) hs.one hnm hsm hby30
      obtain ⟨A',c',rfl,f1,f2,f3⟩:=h2.form
      refine ⟨_,w',_,_,?_,upd_app hL hM h2 h3 h5,h A' c' ⟨hq,f3,f1,f2,fun b hb=>?_⟩⟩
      · simp [execOp,resolve,invoke,builtin,hF.ev hx,hF.ev hy,hrun,Sem.run_pure,Sem.run_bind]
      · rcases h5 with h5 | h5
        · rw [h5] at hb; exact ho.hz b hb
        · rw [h5] at hb
          injection hb with hb
          have:=hL.env.size
          omega
theorem Loc.nil {w0 w:World} (hL:Loc w0 w M S) (e sz:Nat):Loc w0 w (.own (.slice none 0 0) e sz 0 [] :: M) S :=
  hL.add (e:=.own (.slice none 0 0) e sz 0 []) (Chg.refl _ w) (Yzb.nil w e sz) (fun b hb=>by simp [Ent.blk,Value.ownBlock] at hb)
theorem Zp6 {ops:Array Oper} {i:Nat} (e sz:Nat) (h:WL C ops i k l (.own (.slice none 0 0) e sz 0 [] :: M) S):WL C ops i k l M S:=fun a w hF hL=>h a w hF (hL.nil e sz)
theorem Zf4 (e sz:Nat) (h:G C k l (.own (.slice none 0 0) e sz 0 [] :: M) S):G C k l M S:=fun a w hF hL=>h a w hF (hL.nil e sz)
end ops
end Go.Proofs.YtadcichlnacagaaDoor.B
