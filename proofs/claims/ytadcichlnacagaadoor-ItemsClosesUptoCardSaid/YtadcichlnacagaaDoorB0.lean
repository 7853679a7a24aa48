/- Lemmas of my own on the machine: rows that a call owns (a row made of a text bears a mark behind its end). No condition. -/
import Derived.Test.YtadcichlnacagaaDoorP0
import Derived.Below
import Derived.Deep.Draws
import Derived.Maps.AppendAt
import Derived.OwnWalk
import Derived.Laws.BytesArg
import Derived.Laws.MakeOwn
import Derived.Laws.OwnMore
import Derived.Tactics
import Derived.Lib.ConvBytes
import Derived.Laws.Slices
import Derived.Laws.CopyRow
import Derived.WalkKit
import Derived.KernelRfl
import Derived.Laws.Rows
import Derived.Laws.Cells
import Derived.OrdersHeld
import Derived.Deep.RegionHeld
set_option linter.unusedVariables false
set_option linter.unusedSimpArgs false
namespace Go.Proofs.YtadcichlnacagaaDoor.B
open Go.RowKit
theorem Zfk (g o n:Nat):(⟨g,o,none⟩:Addr).add n=⟨g,o + n,none⟩:=by unfold Addr.add; split <;> simp_all
def Zsc (n:Nat) (fz:Nat × Nat):Prop:=fz.2≤fz.1∨n≤fz.1
def Yzb (w:World) (e sz:Nat) (v:Value) (n:Nat) (xs:List Value):Prop :=
  xs.length=n * sz∧((v=.slice none 0 0∧n=0) ∨
   ∃ g cap cur fz,v=.slice (some ⟨g,0,none⟩) n cap∧w.heap[g]? = some (.cells cur e fz)∧Zsc (cap * sz) fz∧n≤cap∧cap≤maxLen∧cur.size=cap * sz∧cur.toList.take (n * sz)=xs)
section
variable {w:World} {e sz:Nat} {v:Value} {n:Nat} {xs:List Value}
theorem Yzb.nil (w:World) (e sz:Nat):Yzb w e sz (.slice none 0 0) 0 []:=⟨by simp,.inl ⟨rfl,rfl⟩⟩
theorem Yzb.of_owns {base:Nat} (h:w.ownsRow base e sz v n xs):Yzb w e sz v n xs:=by
  rcases h with ⟨h1,h2 | ⟨g,cap,cur,h3,_,h4,h5,h6,h7,h8⟩⟩
  · exact ⟨h1,.inl h2⟩
  · exact ⟨h1,.inr ⟨g,cap,cur,_,h3,h4,.inl (Nat.le_refl _),h5,h6,h7,h8⟩⟩
theorem Yzb.lt (h:Yzb w e sz v n xs) {b:Nat} (hb:v.ownBlock=some b):b < w.heap.size:=by
  rcases h.2 with ⟨rfl,_⟩ | ⟨g,cap,cur,fz,rfl,hg,_⟩
  · cases hb
  · simp [Value.ownBlock] at hb
    subst hb
    exact (Array.getElem?_eq_some_iff.1 hg).1
theorem Yzb.keep {w':World} (h:Yzb w e sz v n xs) (hk:∀ b,v.ownBlock=some b→w'.heap[b]? = w.heap[b]?):Yzb w' e sz v n xs:=by
  rcases h with ⟨hl,h | ⟨g,cap,cur,fz,rfl,hh,r⟩⟩
  · exact ⟨hl,.inl h⟩
  · exact ⟨hl,.inr ⟨g,cap,cur,fz,rfl,(hk g rfl).trans hh,r⟩⟩
theorem Yzb.cellAt {g cap:Nat} (h:Yzb w e sz (.slice (some ⟨g,0,none⟩) n cap) n xs) (j:Nat) (hj:j < n * sz):w.cell? ⟨g,j,none⟩=xs[j]?:=by
  rcases h.2 with ⟨hv,_⟩ | ⟨g',cap',cur,fz,hv,hg,_,hnc,hcm,hcs,ht⟩
  · cases hv
  · injection hv with e1 e2 e3
    injection e1 with e1
    injection e1 with e1
    subst e1; subst e3
    rw [← ht,List.getElem?_take,if_pos hj]
    simp [World.cell?,hg]
theorem Yzb.addr {A:Option Addr} {c:Nat} (h:Yzb w e sz (.slice A n c) n xs) (hp:0 < n):∃ gb,A=some ⟨gb,0,none⟩:=by
  rcases h.2 with ⟨_,rfl⟩ | ⟨gb,cap,cur,fz,hv,_⟩
  · omega
  · injection hv with hv
    exact ⟨gb,hv⟩
theorem Yzb.form (h:Yzb w e sz v n xs):∃ A c,v=.slice A n c∧n≤c∧c≤maxLen∧(0 < n→A.isSome=true):=by
  rcases h.2 with ⟨rfl,rfl⟩ | ⟨gb,cap,cur,fz,rfl,_,_,h1,h2,_⟩
  · exact ⟨none,0,rfl,Nat.le_refl _,Nat.zero_le _,fun h=>absurd h (Nat.lt_irrefl 0)⟩
  · exact ⟨_,cap,rfl,h1,h2,fun _=>rfl⟩
theorem Yzb.alloc {cs:Array Value} (hm:n≤maxLen) (hs:cs.size=n * sz):Yzb (w.alloc (.cells cs e)) e sz (.slice (some ⟨w.heap.size,0,none⟩) n n) n cs.toList :=
  .of_owns (World.ownsRow_lit (base:=0) w cs n (Nat.zero_le _) hm hs)
theorem Yzb.short {A:Option Addr} {c m:Nat} (h:Yzb w e sz (.slice A n c) n xs) (hm:m≤n):Yzb w e sz (.slice A m c) m (xs.take (m * sz)):=by
  have hle:m * sz≤n * sz:=Nat.mul_le_mul_right _ hm
  refine ⟨by rw [List.length_take,h.1,Nat.min_eq_left hle],?_⟩
  rcases h.2 with ⟨hv,h0⟩ | ⟨gb,cap,cur,fz,hv,h2,h3,h4,h5,h6,h7⟩
  · injection hv with e1 e2 e3
    subst e1; subst e3
    exact .inl ⟨by have : m = 0 := by omega
                   rw [this],by omega⟩
  · injection hv with e1 e2 e3
    subst e1; subst e3
    refine .inr ⟨gb,c,cur,fz,rfl,h2,h3,by omega,h5,h6,?_⟩
    rw [← h7,List.take_take,Nat.min_eq_left hle]
theorem thaw_at {g:Nat} {cur:Array Value} {t:TypeId} {fz:Nat × Nat} (hg:w.heap[g]? = some (.cells cur t fz)) {j:Nat} (h:Zsc cur.size fz) (hj:j < cur.size):w.frozen? ⟨g,j,none⟩=false:=by
  simp only [World.frozen?,hg]
  rcases h with h | h
  · simp; omega
  · simp; omega
theorem Zj1 (P : Program) (g o : Nat) (t : TypeId) (fz : Nat × Nat) : ∀ (vs : List Value) (i : Nat) (cur : Array Value) (w : World), w.heap[g]? = some (.cells cur t fz) → Zsc cur.size fz → o + i + vs.length ≤ cur.size → (∀ v ∈ vs, v.oneCell' = true) →
    (storeCells ⟨g,o,none⟩ vs i).run P w=.ok () (w.setRow g (cur.toList.take (o + i)++vs++cur.toList.drop (o + i + vs.length)).toArray)
  | [],i,cur,w,hg,_,_,_=>by
    simp only [storeCells,List.append_nil,List.length_nil,Nat.add_zero,List.take_append_drop,Array.toArray_toList]
    rw [setRow_self w g cur t fz hg]
    rfl
  | v :: rest,i,cur,w,hg,hz,hl,h1=>by
    have hi:o + i < cur.size:=by simp at hl; omega
    have hcell:w.cell? ⟨g,o + i,none⟩=some cur[o + i]:=by simp [World.cell?,hg,hi]
    have hst:(store ((⟨g,o,none⟩:Addr).add i) v).run P w=.ok () (w.setRow g (cur.setIfInBounds (o + i) v)):=by
      rw [Zfk,run_store P w _ v _ (h1 v (by simp)),hcell]
      simp [thaw_at hg hz hi,setCell_eq_setRow w g (o + i) cur t fz v hg]
    have ih:=Zj1 P g o t fz rest (i + 1) (cur.setIfInBounds (o + i) v) (w.setRow g (cur.setIfInBounds (o + i) v)) (setRow_heap w g cur _ t _ hg) (by simpa using hz) (by simp at hl ⊢; omega) (fun x hx=>h1 x (by simp [hx]))
    simp only [storeCells,Sem.run_bind,hst,Result.andThen_ok,ih,setRow_setRow]
    congr 3
    have e:=list_seg_step cur.toList (o + i) v rest (by simp at hl ⊢; omega)
    simpa [Array.toList_setIfInBounds,Nat.add_assoc] using e
def Zar (cs:List Value) (o:Nat):List Value→List Value
  | []=>cs
  | v :: r=>Zar (cs.set o v) (o + 1) r
theorem Zid (o:Nat):∀ (vs cs:List Value),∀ o,(Zar cs o vs).length=cs.length
  | [],_,_=>rfl
  | v :: r,cs,o=>by simp [Zar,Zid 0 r]
theorem Zg8:∀ (vs cs:List Value) (o q:Nat),o + vs.length≤cs.length→(Zar cs o vs)[q]? = if q < o then cs[q]? else if q < o + vs.length then vs[q - o]? else cs[q]?
  | [],cs,o,q,_=>by
    simp only [Zar,List.length_nil,Nat.add_zero]
    split
    · rfl
    · rfl
  | v :: r,cs,o,q,h=>by
    simp only [List.length_cons] at h
    rw [Zar,Zg8 r (cs.set o v) (o + 1) q (by simp; omega),List.getElem?_set]
    by_cases h1:q < o
    · rw [if_pos (by omega),if_pos h1,if_neg (by omega)]
    · by_cases h2:o=q
      · subst h2
        rw [if_pos (by omega),if_neg h1,if_pos rfl,if_pos (by omega),if_pos (by simp only [List.length_cons]; omega),Nat.sub_self]
        rfl
      · rw [if_neg (by omega : ¬ q < o + 1), if_neg h1, if_neg h2]
        simp only [List.length_cons]
        by_cases h3:q < o + 1 + r.length
        · rw [if_pos h3,if_pos (by omega),show q - o=(q - (o + 1)) + 1 by omega,List.getElem?_cons_succ]
        · rw [if_neg h3,if_neg (by omega)]
theorem Zin (vs cs:List Value) (o:Nat) (h:o + vs.length≤cs.length):Zar cs o vs=cs.take o++vs++cs.drop (o + vs.length):=by
  apply List.ext_getElem?
  intro q
  rw [Zg8 _ _ _ _ h]
  have e:min o cs.length=o:=by omega
  simp only [List.getElem?_append,List.getElem?_take,List.getElem?_drop,List.length_append,List.length_take,e]
  by_cases h1:q < o
  · rw [if_pos h1,if_pos (by omega),if_pos h1,if_pos h1]
  · rw [if_neg h1]
    by_cases h2:q < o + vs.length
    · rw [if_pos h2,if_pos h2,if_neg h1]
    · rw [if_neg h2,if_neg h2,show o + vs.length + (q - (o + vs.length))=q by omega]
theorem Zry {vs cs:List Value} {o n:Nat} (h:o + vs.length≤n) (hn:n≤cs.length):(Zar cs o vs).take n=Zar (cs.take n) o vs:=by
  apply List.ext_getElem?
  intro q
  rw [List.getElem?_take,Zg8 _ _ _ _ (by omega),Zg8 _ _ _ _ (by rw [List.length_take]; omega),List.getElem?_take]
  by_cases h1:q < n
  · rw [if_pos h1,if_pos h1]
  · rw [if_neg h1,if_neg h1,if_neg (by omega),if_neg (by omega)]
theorem Zjl {a m b vs:List Value} {o:Nat} (h:o + vs.length≤m.length):Zar (a++(m++b)) (a.length + o) vs=a++(Zar m o vs++b):=by
  apply List.ext_getElem?
  intro q
  rw [Zg8 _ _ _ _ (by simp; omega)]
  simp only [List.getElem?_append,Zid 0,Zg8 _ _ _ _ h]
  by_cases h1:q < a.length
  · rw [if_pos (by omega),if_pos h1,if_pos h1]
  · rw [if_neg h1,if_neg h1]
    by_cases h2:q - a.length < m.length
    · rw [if_pos h2,if_pos h2]
      by_cases h3:q - a.length < o
      · rw [if_pos (by omega),if_pos h3]
      · rw [if_neg (by omega), if_neg h3]
        by_cases h4:q - a.length < o + vs.length
        · rw [if_pos (by omega),if_pos h4,show q - (a.length + o)=q - a.length - o by omega]
        · rw [if_neg (by omega),if_neg h4]
    · rw [if_neg h2,if_neg h2,if_neg (by omega),if_neg (by omega)]
theorem Yzb.stores {P : Program} {g c : Nat} (h : Yzb w e sz (.slice (some ⟨g, 0, none⟩) n c) n xs) {vs : List Value} {o : Nat} (hl : o + vs.length ≤ xs.length) (h1 : ∀ v ∈ vs, v.oneCell' = true) :
    ∃ w',(storeCells ⟨g,o,none⟩ vs 0).run P w=.ok () w'∧Yzb w' e sz (.slice (some ⟨g,0,none⟩) n c) n (Zar xs o vs)∧w'.os=w.os∧w'.tape=w.tape∧w'.output=w.output∧w'.heap.size=w.heap.size∧∀ b,b≠g→w'.heap[b]? = w.heap[b]?:=by
  have hlen:=h.1
  rcases h.2 with ⟨hv,_⟩ | ⟨g',cap',cur,fz,hv,hg,hz,hnc,hcm,hcs,ht⟩
  · cases hv
  · injection hv with e1 e2 e3
    injection e1 with e1
    injection e1 with e1
    subst e1; subst e3
    have hle:n * sz≤c * sz:=Nat.mul_le_mul_right _ hnc
    have hfit:o + 0 + vs.length≤cur.size:=by omega
    refine ⟨_,Zj1 P g o e fz vs 0 cur w hg (by rw [hcs]; exact hz) hfit h1,⟨by rw [Zid 0]; exact hlen,.inr ⟨g,c,_,fz,rfl,setRow_heap w g cur _ e _ hg,hz,hnc,hcm,?_,?_⟩⟩,rfl,rfl,rfl,by simp,fun b hb=>setRow_other w g b _ hb⟩
    · simp only [List.size_toArray,List.length_append,List.length_take,List.length_drop,Array.length_toList]
      omega
    · have hcl:cur.toList.length=c * sz:=by simpa using hcs
      rw [Nat.add_zero,← Zin _ _ _ (by omega),Zry (by omega) (by omega),ht]
theorem Zt3 {need old:Nat} (h:old < need):Builtin.nextslicecap need old≤need + need / 4 + 600:=by
  unfold Builtin.nextslicecap
  split
  · omega
  · split
    · omega
    · rw [growBy_four]
      repeat' split
      all_goals omega
theorem Zlh {need old bytes:Nat} (h:old < need) (hb:need * bytes≤211106232532992) (h30:bytes≤1073741824):Builtin.nextslicecap need old * bytes≤281474976710656:=by
  have h1:Builtin.nextslicecap need old * bytes≤(need + need / 4 + 600) * bytes:=Nat.mul_le_mul_right _ (Zt3 h)
  have h2:(need / 4) * bytes * 4≤need * bytes:=by
    rw [Nat.mul_right_comm]
    exact Nat.mul_le_mul_right _ (Nat.div_mul_le_self _ _)
  rw [Nat.add_mul,Nat.add_mul] at h1
  omega
theorem Yzb.append {P : Program} (t ty : TypeId) {i : TypeInfo} {z : Value} {bytes : Nat} (ht : P.underlying t = some (.slice e)) (hi : P.info? e = some i) (hz : i.zero = some z) (hsize : i.size = sz) (hby : i.bytes = bytes) (hzs : z.cells.size = sz) (hsz : 0 < sz)
    (hown:Yzb w e sz v n xs) (a:Addr) (m c:Nat) (news:List Value) (hl:news.length=m * sz) (hnews:∀ j u,news[j]? = some u→w.cell? (a.add j)=some u) (h1:∀ u ∈ news,u.oneCell'=true) (h63:n + m≤maxLen) (hbytes:(n + m) * bytes≤211106232532992) (hb30:bytes≤1073741824) :
    ∃ v' w',(Builtin.append_ #[t,t] ty #[v,.slice (some a) m c]).run P w=.ok v' w'∧Yzb w' e sz v' (n + m) (xs++news)∧w.grownBy w' v.ownBlock∧(v'.ownBlock=v.ownBlock∨v'.ownBlock=some w.heap.size):=by
  rcases hown.2 with ⟨rfl,rfl⟩ | ⟨g,cap,cur,fz,rfl,hg,hth,hnc,hcm,hcs,htake⟩
  · have hx : xs = [] := List.eq_nil_of_length_eq_zero (by simpa using hown.1)
    subst hx
    by_cases hm0:m=0
    · subst hm0
      obtain ⟨v',w',h2,h3,h4,_,h6⟩:=run_append_own_at (P:=P) w 0 t ty e i z sz bytes ht hi hz hsize hby hzs hsz (.slice none 0 0) 0 [] (World.ownsRow_nil w 0 e sz) a 0 c news hl hnews h1 h63 (by omega) (Nat.zero_le _)
      exact ⟨v',w',h2,.of_owns h3,h4,h6⟩
    · subst hsize
      subst hby
      have hr:=run_append_nil (P:=P) w t ty e i z ht hi hz a m c news hl hnews (by omega) (by simp only [maxLen] at h63; omega) (by have hb:=hbytes; simp only [Nat.zero_add] at hb; omega)
      have hge:=grownCap_ge w m 0 e
      have hcm':grownCap w m 0 e≤maxLen:=grownCap_le_maxLen w m 0 e (by omega)
      simp only [Nat.zero_add,List.nil_append]
      refine ⟨_,_,hr,⟨hl,.inr ⟨w.heap.size,_,_,(0,0),rfl,heap_alloc_new w.drew _,.inl (Nat.le_refl _),hge,hcm',?_,?_⟩⟩,⟨rfl,rfl,rfl,by simp,fun k hk _=>heap_alloc_old w.drew _ (by simpa using hk)⟩,.inr rfl⟩
      · simp only [Array.size_append,List.size_toArray,size_zeroCells,hzs,hl,← Nat.add_mul]
        congr 1
        omega
      · simp only [Array.toList_append]
        rw [← hl]
        exact List.take_left
  · have hlen:(xs++news).length=(n + m) * sz:=by rw [List.length_append,hown.1,hl,Nat.add_mul]
    subst hsize
    by_cases hroom:n + m≤cap
    · have hfit:n * i.size + 0 + news.length≤cur.size:=by rw [hl,hcs,Nat.add_zero,← Nat.add_mul]; exact Nat.mul_le_mul_right _ hroom
      have hf:=run_firstCells_some (P:=P) w i.size m a m c news hl hnews
      have hst:=Zj1 P g (n * i.size) e fz news 0 cur w hg (by rw [hcs]; exact hth) hfit h1
      simp only [Nat.add_zero] at hst
      have hrun:(Builtin.append_ #[t,t] ty #[.slice (some ⟨g,0,none⟩) n cap,.slice (some a) m c]).run P w=.ok (.slice (some ⟨g,0,none⟩) (n + m) cap) (w.setRow g (cur.toList.take (n * i.size)++news++cur.toList.drop (n * i.size + news.length)).toArray):=by
        simp [Builtin.append_,run_underlying ht,sizeOf,typeInfo,hi,Builtin.lenOf,hroom,hf,Addr.add_lit,hst]
      refine ⟨_,_,hrun,⟨hlen,.inr ⟨g,cap,_,fz,rfl,setRow_heap w g cur _ e _ hg,hth,hroom,hcm,?_,?_⟩⟩,⟨rfl,rfl,rfl,by simp,fun k _ hk=>setRow_other w g k _ (fun e=>hk (by simp [Value.ownBlock,e]))⟩,.inl rfl⟩
      · simp only [List.size_toArray,List.length_append,List.length_take,List.length_drop,Array.length_toList]
        omega
      · rw [htake,← hlen]
        exact List.take_left
    · have holds:∀ j u,xs[j]? = some u→w.cell? ((⟨g,0,none⟩:Addr).add j)=some u:=fun j u hj=>by
        rw [Zfk,Nat.zero_add,hown.cellAt j (by rw [← hown.1]; exact (List.getElem?_eq_some_iff.1 hj).1)]
        exact hj
      subst hby
      have hr:=run_append_grow (P:=P) w t ty e i z ht hi hz ⟨g,0,none⟩ n cap xs hown.1 holds a m c news hl hnews (by omega) (by simp only [maxLen] at h63; omega) (Zlh (by omega) hbytes hb30)
      have hge:=grownCap_ge w (n + m) cap e
      have hcm':grownCap w (n + m) cap e≤maxLen:=grownCap_le_maxLen w (n + m) cap e h63
      refine ⟨_,_,hr,⟨hlen,.inr ⟨w.heap.size,_,_,(0,0),rfl,heap_alloc_new w.drew _,.inl (Nat.le_refl _),hge,hcm',?_,?_⟩⟩,⟨rfl,rfl,rfl,by simp,fun k hk _=>heap_alloc_old w.drew _ (by simpa using hk)⟩,Or.inr rfl⟩
      · simp only [Array.size_append,List.size_toArray,size_zeroCells,hzs,hown.1,hl,← Nat.add_mul]
        congr 1
        omega
      · simp only [Array.toList_append,List.append_assoc]
        rw [← List.append_assoc,← hlen]
        exact List.take_left
end
end Go.Proofs.YtadcichlnacagaaDoor.B
