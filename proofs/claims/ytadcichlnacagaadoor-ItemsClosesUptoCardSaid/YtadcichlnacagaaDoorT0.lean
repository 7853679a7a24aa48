/- What a reading of the arguments tells of their cells, kind by kind; what stands behind a call that only reads. No condition. -/
import Derived.Test.YtadcichlnacagaaDoorB9
import Derived.Test.YtadcichlnacagaaDoorRows
import Derived.Carry
import Derived.SizedLaws
import Derived.ChangeOld
import Derived.ShutString
import Derived.OpenShut
import Derived.ChangeSame
import Derived.JoinedCond
set_option linter.unusedVariables false
namespace Go.Proofs.YtadcichlnacagaaDoor.B
open Go.RowKit Go.ChangeShapes

abbrev Inw (w:World):Nat→Prop:=fun b=>b < w.heap.size
def Light (P:Program) {H:Type} (t:TypeId) (d:DataW H):Prop:=∀ n ∈ d.weights P t,n≤reachBytes
abbrev bk {H:Type}:DataW H→Nat:=Rows.uptoBulk
abbrev bkA {H:Type}:List (DataW H)→Nat:=Rows.uptoBulkAll
def Zcg {α:Type} (f:α→Nat):List α→Nat
 | []=>0
 | a :: l=>f a + Zcg f l
theorem Zsm {α H:Type} {f:α→Nat}:∀ {ys:List α} {l:List (DataW H)},(∀ (i:Nat) (y:α),ys[i]? = some y→∃ d:DataW H,l[i]? = some d∧f y≤bk d)→Zcg f ys≤bkA l
 | [],l,_=>Nat.zero_le _
 | y :: ys,[],h=>by
  obtain ⟨d,hd,_⟩:=h 0 y rfl
  simp at hd
 | y :: ys,d :: l,h=>by
  obtain ⟨d',hd,h1⟩:=h 0 y rfl
  simp only [List.getElem?_cons_zero,Option.some.injEq] at hd
  subst hd
  have:=Zsm (ys:=ys) (l:=l) fun i z hz=>h (i + 1) z (by simpa using hz)
  simp only [Zcg,bkA,Rows.uptoBulkAll] at this ⊢
  simp only [bk] at h1
  omega
def Zd9 (P:Program) (m:Nat) (t:TypeId) {α:Type} (d:Kd α) (q:α→Prop) (sz:α→Nat):Prop :=
 ∀ (H:Type) (enc:TypeId × Value→H) (w:World) (fuel:Nat) (cs:List Value) (x:DataW H × List MemPlace),fuel≤m →
  DataW.trod enc P w 0 (fun _=>true) true fuel t cs=some x→Light P t x.1→∃ y:α,d.K w (Inw w) y cs∧q y∧sz y≤bk x.1
theorem Zd9.zero {P:Program} {t:TypeId} {α:Type} {d:Kd α} {q:α→Prop} {sz:α→Nat}:Zd9 P 0 t d q sz:=by
 intro H enc w fuel cs x hm h
 obtain rfl:fuel=0:=by omega
 simp [DataW.trod] at h
theorem Zd9.int {P:Program} {t:TypeId} {k:IntKind} (hu:P.underlying t=some (.int k)) (m:Nat):Zd9 P m t (Yw6 k) (fun n=>(Lit.int k n).wf=true) (fun _=>1):=by
 intro H enc w fuel cs x hm h _
 obtain ⟨n,rfl,rfl,hw⟩:=DataW.trod_int hu h
 exact ⟨n,rfl,hw,by simp [bk,Rows.uptoBulk]⟩
theorem Zd9.bool {P:Program} {t:TypeId} (hu:P.underlying t=some .bool) (m:Nat):Zd9 P m t Yzi (fun _=>True) (fun _=>1):=by
 intro H enc w fuel cs x hm h _
 obtain ⟨n,rfl,rfl⟩:=DataW.trod_bool hu h
 exact ⟨n,rfl,trivial,by simp [bk,Rows.uptoBulk]⟩
theorem Zd9.str {P:Program} {t:TypeId} (hu:P.underlying t=some .string) (m:Nat):Zd9 P m t kStr (fun s=>s.size≤reachBytes) (fun s=>s.size + 1):=by
 intro H enc w fuel cs x hm h hl
 obtain ⟨s,rfl,rfl,hw⟩:=DataW.trod_string hu h
 exact ⟨s,rfl,by have:=hl s.data.toList.length (by simp [DataW.weights]); simpa using this,by simp [bk,Rows.uptoBulk]⟩
theorem Zgo {H:Type} {P:Program} {e:TypeId}:∀ {l:List (DataW H)} {i:Nat} {d:DataW H},l[i]? = some d→∀ n ∈ d.weights P e,n ∈ DataW.weightsAll P e l
 | d0 :: l,0,d,h,n,hn=>by
  simp only [List.getElem?_cons_zero,Option.some.injEq] at h
  subst h
  simp [DataW.weightsAll,hn]
 | d0 :: l,i + 1,d,h,n,hn=>by
  simp only [List.getElem?_cons_succ] at h
  simp [DataW.weightsAll,Zgo h n hn]
 | [],_,_,h,_,_=>by simp at h
theorem pick {α:Type} {p:Nat→α→Prop}:∀ n:Nat,(∀ i,i < n→∃ y,p i y)→∃ ys:List α,ys.length=n∧∀ i y,ys[i]? = some y→p i y
 | 0,_=>⟨[],rfl,fun i y h=>by simp at h⟩
 | n + 1,h=>by
  obtain ⟨ys,h1,h2⟩:=pick n fun i hi=>h i (by omega)
  obtain ⟨y,hy⟩:=h n (by omega)
  refine ⟨ys++[y],by simp [h1],fun i z hz=>?_⟩
  rcases Nat.lt_or_ge i n with hi | hi
  ·exact h2 i z (by rwa [List.getElem?_append_left (by omega)] at hz)
  ·rw [List.getElem?_append_right (by omega)] at hz
   have:i=n:=by
    have:=(List.getElem?_eq_some_iff.1 hz).1
    simp at this; omega
   subst this
   simp [h1] at hz
   exact hz ▸ hy
theorem Zd9.slice {P:Program} {m:Nat} {t e:TypeId} {α:Type} {d:Kd α} {q:α→Prop} {sz:α→Nat} {bytes:Nat} (hu:P.underlying t=some (.slice e)) (hc:P.cellsOf e=d.sz) (hby:P.bytesOf e=bytes) (hp:0 < d.sz) (h:Zd9 P m e d q sz) :
  Zd9 P (m + 1) t d.slice (fun xs=>xs.length * bytes≤reachBytes∧∀ x ∈ xs,q x) (fun xs=>Zcg sz xs + 1):=by
 subst hby
 intro H enc w fuel cs x hm ht hl
 rcases DataW.trod_slice hu ht with ⟨rfl,rfl⟩ | ⟨a,len,cap,elems,rest,n,rfl,rfl,rfl,hb,hlc,hcm,hel,he,-⟩
 ·exact ⟨[],⟨none,0,0,rfl,Rw.nil⟩,⟨by simp,by simp⟩,by simp [Zcg,bk,Rows.uptoBulk]⟩
 ·have hlw : (elems.length + rest.length) * P.bytesOf e ≤ reachBytes := hl _ (by simp [DataW.weights, hu])
  have key:∀ i,i < len→∃ y:α,(∃ cs',d.K w (Inw w) y cs'∧a.block < w.heap.size∧∀ j u,cs'[j]? = some u→w.cell? (a.add (i * d.sz + j))=some u)∧q y∧∃ d',(elems.map (·.1))[i]? = some d'∧sz y≤bk d':=by
   intro i hi
   obtain ⟨y0,hy0⟩:∃ y,elems[i]? = some y:=⟨elems[i]'(by omega),List.getElem?_eq_getElem _⟩
   have h1:=he i hi
   rw [hy0,hc] at h1
   obtain ⟨cs',h2,h3⟩:=Option.bind_eq_some_iff.1 h1
   obtain ⟨y,h4,h5,h6⟩:=h H enc w n cs' y0 (by omega) h3 fun k hk=>hl k (by
    simp only [DataW.weights,hu,List.mem_cons,List.mem_append]
    exact .inr (.inl (Zgo (i:=i) (by simp [hy0]) k hk)))
   refine ⟨y,⟨cs',h4,?_,fun j u hj=>?_⟩,h5,y0.1,by simp [hy0],h6⟩
   ·have:=World.cells?_block h2 hp
    rwa [Zjd] at this
   ·obtain ⟨_,hlen,hcell⟩:=World.cells?_some h2
    have hjl:=(List.getElem?_eq_some_iff.1 hj).1
    have:=hcell j (by omega)
    rw [Zho] at this
    rw [this,hj]
  obtain ⟨ys,hys,hk⟩:=pick len key
  refine ⟨ys,⟨some a,len,cap,rfl,hys.symm,hlc,hcm,fun h0=>⟨rfl,?_⟩,fun j y hj=>?_⟩,⟨?_,fun y hy=>?_⟩,?_⟩
  ·obtain ⟨⟨cs',_,h3,_⟩,_⟩:=hk 0 (ys[0]) (List.getElem?_eq_getElem _)
   exact h3
  ·obtain ⟨⟨cs',h2,_,h3⟩,_⟩:=hk j y hj
   exact ⟨cs',h2,h3⟩
  ·have hle : ys.length * P.bytesOf e ≤ (elems.length + rest.length) * P.bytesOf e := Nat.mul_le_mul_right _ (by omega)
   omega
  ·obtain ⟨j,hj,rfl⟩:=List.getElem_of_mem hy
   exact (hk j _ (List.getElem?_eq_getElem hj)).2.1
  ·have := Zsm (f := sz) (ys := ys) (l := elems.map (·.1)) fun i y hy => (hk i y hy).2.2
   simp only [bk,bkA,Rows.uptoBulk] at this ⊢
   omega
def Yzl (P:Program) (m:Nat) (fs:List Field) (off:Nat) (R:World→List Value→Nat→Prop):Prop :=
 ∀ (H:Type) (enc:TypeId × Value→H) (w:World) (fuel:Nat) (cs:List Value) (xs:List (DataW H × List MemPlace)),fuel≤m→xs.length=fs.length →
  (∀ (i:Nat) (f:Field),fs[i]? = some f→DataW.trod enc P w 0 (fun _=>true) true fuel f.type ((cs.drop f.offset).take (P.cellsOf f.type))=xs[i]?) →
  (∀ n ∈ DataW.weightsEach P (fs.map (·.type)) (xs.map (·.1)),n≤reachBytes)→R w (cs.drop off) (bkA (xs.map (·.1)))
theorem Yzl.nil {P:Program} {m off:Nat}:Yzl P m [] off (fun _ _ _=>True):=fun _ _ _ _ _ _ _ _ _ _=>trivial
theorem Yzl.cons {P:Program} {m off:Nat} {f:Field} {fs:List Field} {α:Type} {d:Kd α} {q:α→Prop} {sz:α→Nat} {R:World→List Value→Nat→Prop} {ft:TypeId} (ho:f.offset=off) (hty:f.type=ft) (hc:P.cellsOf ft=d.sz) (h:Zd9 P m ft d q sz) (hr:Yzl P m fs (off + d.sz) R) :
  Yzl P m (f :: fs) off (fun w cs n=>∃ y,d.K w (Inw w) y (cs.take d.sz)∧q y∧∃ n1 n2,n=n1 + n2∧sz y≤n1∧R w (cs.drop d.sz) n2):=by
 intro H enc w fuel cs xs hm hx hg hw
 subst hty
 match xs,hx with
 | x0 :: xs,hx =>
  have h0:=hg 0 f rfl
  simp only [List.getElem?_cons_zero] at h0
  rw [ho,hc] at h0
  obtain ⟨y,h1,h2,h3⟩:=h H enc w fuel _ x0 hm h0 fun n hn=>hw n (by simp only [List.map_cons,DataW.weightsEach,List.mem_append]; exact .inl hn)
  refine ⟨y,h1,h2,bk x0.1,bkA (xs.map (·.1)),by simp [bk,bkA,Rows.uptoBulkAll],h3,?_⟩
  rw [List.drop_drop]
  exact hr H enc w fuel cs xs hm (by simpa using hx) (fun i g hi=>by have:=hg (i + 1) g (by simpa using hi); simpa using this) fun n hn=>hw n (by simp only [List.map_cons,DataW.weightsEach,List.mem_append]; exact .inr hn)
def stF (P:Program) (t:TypeId):Array Field:=match P.underlying t with
 | some (.struct fs)=>fs
 | _=>#[]
def fdA (P:Program) (t:TypeId) (i:Nat):Field:=(stF P t)[i]?.getD default
theorem Zd9.struct {P:Program} {m:Nat} {t:TypeId} {fs:Array Field} {α:Type} {d:Kd α} {q:α→Prop} {sz:α→Nat} {R:World→List Value→Nat→Prop} (hu:P.underlying t=some (.struct fs)) (hc:P.cellsOf t=d.sz) (h:Yzl P m fs.toList 0 R)
  (mk:∀ w cs n,cs.length=d.sz→R w cs n→∃ y,d.K w (Inw w) y cs∧q y∧sz y≤n + 1):Zd9 P (m + 1) t d q sz:=by
 intro H enc w fuel cs x hm ht hl
 obtain ⟨xs,n,rfl,rfl,hlen,hxs,hf⟩:=DataW.trod_struct hu ht
 refine mk w cs (bkA (xs.map (·.1))) (by rw [hlen,hc]) ?_
 have:=h H enc w n cs xs (by omega) (by simpa using hxs) (fun i f hi=>hf i f (by simpa using hi)) fun k hk=>hl k (by simpa [DataW.weights,hu] using hk)
 simpa using this
theorem tkN {L cs:List Value} {n:Nat} (h:cs.take n=L) (hl:L.length=n):∃ r,cs=L++r∧cs.drop n=r:=⟨cs.drop n,by rw [← h,List.take_append_drop],rfl⟩
theorem rz {L r:List Value} {n:Nat} (h:(L++r).length=n):r.length=n - L.length:=by simp at h; omega
def Yx5 (P:Program) (t:TypeId) {α:Type} (d:Kd α) (q:α→Prop) (sz:α→Nat):Prop:=∀ m,Zd9 P m t d q sz
theorem Yx5.int {P:Program} {t:TypeId} {k:IntKind} (hu:P.underlying t=some (.int k)):Yx5 P t (Yw6 k) (fun n=>(Lit.int k n).wf=true) (fun _=>1):=Zd9.int hu
theorem Yx5.bool {P:Program} {t:TypeId} (hu:P.underlying t=some .bool):Yx5 P t Yzi (fun _=>True) (fun _=>1):=Zd9.bool hu
theorem Yx5.str {P:Program} {t:TypeId} (hu:P.underlying t=some .string):Yx5 P t kStr (fun s=>s.size≤reachBytes) (fun s=>s.size + 1):=Zd9.str hu
theorem Yx5.slice {P:Program} {t e:TypeId} {α:Type} {d:Kd α} {q:α→Prop} {sz:α→Nat} {bytes:Nat} (hu:P.underlying t=some (.slice e)) (hc:P.cellsOf e=d.sz) (hby:P.bytesOf e=bytes) (hp:0 < d.sz) (h:Yx5 P e d q sz) :
  Yx5 P t d.slice (fun xs=>xs.length * bytes≤reachBytes∧∀ x ∈ xs,q x) (fun xs=>Zcg sz xs + 1)
 | 0=>Zd9.zero
 | m + 1=>Zd9.slice hu hc hby hp (h m)
theorem Yx5.struct {P:Program} {t:TypeId} {fs:Array Field} {fl:List Field} {α:Type} {d:Kd α} {q:α→Prop} {sz:α→Nat} {R:World→List Value→Nat→Prop} (hu:P.underlying t=some (.struct fs)) (hfl:fs.toList=fl) (hc:P.cellsOf t=d.sz) (h:∀ m,Yzl P m fl 0 R)
  (mk:∀ w cs n,cs.length=d.sz→R w cs n→∃ y,d.K w (Inw w) y cs∧q y∧sz y≤n + 1):Yx5 P t d q sz
 | 0=>Zd9.zero
 | m + 1=>Zd9.struct hu hc (hfl ▸ h m) mk
theorem segs:∀ {n sz:Nat} {cs:List Value} {g:Nat→List Value},cs.length=n * sz→(∀ i,i < n→(cs.drop (i * sz)).take sz=g i)→cs=(List.range n).flatMap g
 | 0,sz,cs,g,hl,_=>by
  rw [Nat.zero_mul] at hl
  rw [List.eq_nil_of_length_eq_zero hl]; rfl
 | n + 1,sz,cs,g,hl,h=>by
  rw [Nat.add_mul,Nat.one_mul] at hl
  have ih:=segs (n:=n) (sz:=sz) (cs:=cs.take (n * sz)) (g:=g) (by rw [List.length_take]; omega) fun i hi=>by
   have hle:i * sz + sz≤n * sz:=by
    have:=Nat.mul_le_mul_right sz (show i + 1≤n by omega)
    rwa [Nat.add_mul,Nat.one_mul] at this
   rw [← h i (by omega),List.drop_take,List.take_take,Nat.min_eq_left (by omega)]
  have hlast:=h n (by omega)
  rw [List.take_of_length_le (by rw [List.length_drop]; omega)] at hlast
  rw [List.range_succ,List.flatMap_append,← ih]
  simp only [List.flatMap_cons,List.flatMap_nil,List.append_nil]
  rw [← hlast,List.take_append_drop]
theorem Yx5.arr {P : Program} {t e : TypeId} {n sz N : Nat} {α : Type} [Inhabited α] {d : Kd α} {enc : α → List Value} {q : α → Prop} {szf : α → Nat} {hl1 : ∀ x : Int → α, (Ze4 n fun j => enc (x j)).length = N} {h11 : ∀ x : Int → α, ∀ u ∈ (Ze4 n fun j => enc (x j)), u.oneCell' = true}
  (hu:P.underlying t=some (.array n e)) (hc:P.cellsOf e=sz) (hd:d.sz=sz) (ht:P.cellsOf t=n * sz) (hK:∀ w F y cs,d.K w F y cs→cs=enc y) (h:Yx5 P e d q szf) :
  Yx5 P t (Kd.flat N (fun x:Int→α=>Ze4 n fun j=>enc (x j)) hl1 h11) (fun f=>∀ j:Nat,j < n→q (f j)) (fun _=>1)
 | 0=>Zd9.zero
 | m + 1=>fun H en w fuel cs x hm htr hlt=>by
  obtain ⟨xs,k,rfl,rfl,hlen,hxs,hf⟩:=DataW.trod_array hu htr
  rw [ht] at hlen
  have key:∀ i,i < n→∃ y:α,(cs.drop (i * sz)).take sz=enc y∧q y:=fun i hi=>by
   have h1:=hf i hi
   rw [hc,List.getElem?_eq_getElem (by omega)] at h1
   obtain ⟨y,h2,h3,_⟩:=h m H en w k _ _ (by omega) h1 fun v hv=>hlt v (by
    have hw:∀ v,v ∈ DataW.weightsAll P e (xs.map (·.1))→v ∈ (DataW.agg (xs.map (·.1))).weights P t:=fun v hv=>by simpa [DataW.weights,hu] using hv
    exact hw _ (Zgo (i:=i) (by rw [List.getElem?_map,List.getElem?_eq_getElem (by omega)]; rfl) v hv))
   exact ⟨y,hK _ _ _ _ h2,h3⟩
  obtain ⟨ys,hys,hk⟩:=pick n key
  refine ⟨fun j=>(ys[j.toNat]?).getD default,?_,fun j hj=>?_,by simp [bk,Rows.uptoBulk]⟩
  ·refine segs hlen fun i hi => ?_
   have:=(hk i ys[i] (List.getElem?_eq_getElem (by omega))).1
   simp only [Int.toNat_natCast]
   rw [this,List.getElem?_eq_getElem (by omega)]
   rfl
  ·have := (hk j ys[j] (List.getElem?_eq_getElem (by omega))).2
   simp only [Int.toNat_natCast]
   rw [List.getElem?_eq_getElem (by omega)]
   exact this
theorem Yx5.arg {P:Program} {t:TypeId} {α:Type} {dk:Kd α} {q:α→Prop} {sz:α→Nat} (h:Yx5 P t dk q sz) {H:Type} {enc:TypeId × Value→H} {w:World} {v:Value} {d:DataW H} {p:List MemPlace}
  (ht:DataW.Trod enc P w 0 (fun _=>true) true t v d p) (hl:Light P t d):∃ y,dk.K w (Inw w) y v.cells.toList∧q y∧sz y≤bk d:=by
 obtain ⟨fuel,hf⟩:=ht
 exact h fuel H enc w fuel _ _ (Nat.le_refl _) hf hl
theorem Ztd {v:Value} {cs:List Value} (h:v.cells.toList=cs) (hn:cs.length≠1):v=.agg cs.toArray:=by
 cases v <;> first
  | (simp [Value.cells] at h; subst h; simp at hn; done)
  | (simp only [Value.cells] at h; subst h; simp)
def oneD:TypeDesc→Bool
 | .slice _ | .int _ | .bool | .string=>true
 | _=>false
theorem Zop {P:Program} {w:World} {r:Reach} {b:Nat} {t:TypeId} {v u:Value} {D:TypeDesc} (h:v.cells.toList=[u]) (hk:Value.okWide P w r b t v) (hu:P.underlying t=some D) (hD:oneD D=true):v=u:=by
 cases v <;> first
  | (simp [Value.cells] at h; exact h)
  | (cases D <;> first | (simp [oneD] at hD; done) | (simp [Value.okWide,hu,Cell.okWide,Cell.ok] at hk; done))
theorem TrodAll.below {P:Program} {H:Type} {enc:TypeId × Value→H} (hl:laidOutB P=true) {W W':World} (hb:Below W.heap.size W W'):∀ {ts:List TypeId} {vs:List Value} {ds:List (DataW H)} {ps:List MemPlace},
  (∀ t ∈ ts,P.readableRec t=true∧t < P.types.size)→DataW.TrodAll enc P W 0 (fun _=>true) true ts vs ds ps→(∀ x ∈ ps,x.block < W.heap.size)→DataW.TrodAll enc P W' 0 (fun b=>decide (b < W.heap.size)) true ts vs ds ps
 | [],[],[],ps,_,h,_=>h
 | t :: ts,v :: vs,d :: ds,ps,hr,h,hlt=>by
  obtain ⟨p,q,h1,h2,rfl⟩:=h
  exact ⟨p,q,Below.trod hl (hr t (by simp)).1 (hr t (by simp)).2 h1 hb (fun x hx=>hlt x (by simp [hx])),TrodAll.below hl hb (fun t' ht=>hr t' (by simp [ht])) h2 (fun x hx=>hlt x (by simp [hx])),rfl⟩
 | [],_ :: _,_,_,_,h,_=>by simp [DataW.TrodAll] at h
 | [],[],_ :: _,_,_,h,_=>by simp [DataW.TrodAll] at h
 | _ :: _,[],_,_,_,h,_=>by simp [DataW.TrodAll] at h
 | _ :: _,_ :: _,[],_,_,h,_=>by simp [DataW.TrodAll] at h
theorem Rw.st {α:Type} {d:Kd α} {w:World} {A:Option Addr} {n c:Nat} {xs:List α} (h:Rw d w (Inw w) A n c xs):Rw d w (St w []).av A n c xs:=h.mono fun b hb=>⟨⟨hb,by simp,trivial⟩,rfl⟩
theorem Loc.start (w:World) (F:Nat→Prop):Loc w w [] [Sm w.heap.size F w [],St w []]:=⟨Env.refl w,by simp,by simp,fun s hs=>by
 simp at hs
 rcases hs with rfl | rfl
 ·exact ⟨Nat.le_refl _,fun b _=>⟨rfl,by simp⟩⟩
 ·exact ⟨Nat.le_refl _,fun b _=>⟨rfl,by simp⟩⟩⟩
theorem Loc.below {w w':World} (h:Loc w w' [] [St w []]):Below w.heap.size w w':=⟨h.env.os,h.env.tape,h.env.output,h.env.size,fun k hk=>((h.snap (St w []) (by simp)).2 k ⟨hk,by simp,trivial⟩).1⟩
theorem Zne {P:Program} {H:Type} {ts:List TypeId} {ds:List (DataW H)} (h:(DataW.weightsEach P ts ds).all (·≤reachBytes)=true) {j:Nat} {t:TypeId} {d:DataW H} (ht:ts[j]? = some t) (hd:ds[j]? = some d):Light P t d:=fun n hn=>by
 have:=List.all_eq_true.1 h n (DataW.weights_mem_each ht hd n hn)
 simpa using this
end Go.Proofs.YtadcichlnacagaaDoor.B
