/- Lemmas of my own on the machine: rows of elements, how they are told from one world to the next, cuts, makes. No condition. -/
import Derived.Test.YtadcichlnacagaaDoorB3
set_option linter.unusedVariables false
set_option linter.unusedSimpArgs false
namespace Go.Proofs.YtadcichlnacagaaDoor.B
open Go.RowKit
theorem me {α:Type} {S:List α} {s:α} (j:Nat) (h:S[j]? = some s):s ∈ S:=List.mem_iff_getElem?.2 ⟨j,h⟩
theorem Yvm {α:Type} {S S':List α} (is:List Nat) (h:is.map (S[·]?)=S'.map some):∀ s ∈ S',s ∈ S:=fun s hs=>by
 have:some s ∈ is.map (S[·]?):=by rw [h]; exact List.mem_map.2 ⟨s,hs,rfl⟩
 obtain ⟨i,_,hi⟩:=List.mem_map.1 this
 exact List.mem_iff_getElem?.2 ⟨i,hi⟩

section flat
variable {α:Type} {sz:Nat} {enc:α→List Value}
theorem Zln (hl:∀ x,(enc x).length=sz) (xs:List α):(xs.flatMap enc).length=xs.length * sz:=by
 induction xs with
 | nil=>simp
 | cons x xs ih=>simp [List.flatMap_cons,hl,ih,Nat.add_mul]; omega
theorem Zq9 (hl:∀ x,(enc x).length=sz):∀ (xs:List α) (j:Nat),(xs.flatMap enc).drop (j * sz)=(xs.drop j).flatMap enc
 | xs,0=>by simp
 | [],j + 1=>by simp
 | x :: xs,j + 1=>by
  have:(j + 1) * sz=(enc x).length + j * sz:=by rw [hl,Nat.add_mul]; omega
  rw [List.flatMap_cons,List.drop_succ_cons,← Zq9 hl xs j,this,List.drop_length_add_append]
theorem Zkx (hl:∀ x,(enc x).length=sz):∀ (xs:List α) (j:Nat),(xs.flatMap enc).take (j * sz)=(xs.take j).flatMap enc
 | xs,0=>by simp
 | [],j + 1=>by simp
 | x :: xs,j + 1=>by
  have:(j + 1) * sz=(enc x).length + j * sz:=by rw [hl,Nat.add_mul]; omega
  rw [List.flatMap_cons,List.take_succ_cons,List.flatMap_cons,← Zkx hl xs j,this,List.take_length_add_append]
theorem fm_get [Inhabited α] (hl:∀ x,(enc x).length=sz) {xs:List α} {i:Int} (hi:0≤i∧i < (xs.length:Int)) {o:Nat} {v:Value} (ho:(enc (ix xs i))[o]? = some v):(xs.flatMap enc)[i.toNat * sz + o]? = some v:=by
 rw [← List.getElem?_drop,Zq9 hl,List.drop_eq_getElem_cons (by omega:i.toNat < xs.length),List.flatMap_cons]
 have h1:=Zfh hi
 rw [List.getElem?_eq_getElem (by omega)] at h1
 injection h1 with h1
 rw [h1,List.getElem?_append_left ((List.getElem?_eq_some_iff.1 ho).1)]
 exact ho
theorem Zcj [Inhabited α] (hl:∀ x,(enc x).length=sz) {xs:List α} {i:Int} (hi:0≤i∧i < (xs.length:Int)) {v:Value} (ho:(enc (ix xs i))[0]? = some v):(xs.flatMap enc)[i.toNat * sz]? = some v:=fm_get hl hi ho
theorem fm_one [Inhabited α] (hl:∀ x,(enc x).length=sz) {xs:List α} {i:Int} (hi:0≤i∧i < (xs.length:Int)):((xs.flatMap enc).drop (i.toNat * sz)).take sz=enc (ix xs i):=by
 rw [Zq9 hl,List.drop_eq_getElem_cons (by omega:i.toNat < xs.length),List.flatMap_cons]
 have h1:=Zfh hi
 rw [List.getElem?_eq_getElem (by omega)] at h1
 injection h1 with h1
 rw [h1,← hl (ix xs i),List.take_left]
theorem fm_set [Inhabited α] (hl:∀ x,(enc x).length=sz) {xs:List α} {i:Int} (hi:0≤i∧i < (xs.length:Int)) {o:Nat} {vs:List Value} {y:α} (hy:Zar (enc (ix xs i)) o vs=enc y) (ho:o + vs.length≤sz) :
  Zar (xs.flatMap enc) (i.toNat * sz + o) vs=(xs.set i.toNat y).flatMap enc:=by
 have hlt:i.toNat < xs.length:=by omega
 have hle:(i.toNat + 1) * sz≤xs.length * sz:=Nat.mul_le_mul_right _ hlt
 rw [Nat.add_mul,Nat.one_mul] at hle
 have h1:=Zfh hi
 rw [List.getElem?_eq_getElem hlt] at h1
 injection h1 with h1
 have hsplit:xs=xs.take i.toNat++ix xs i :: xs.drop (i.toNat + 1):=by
  rw [← h1,← List.drop_eq_getElem_cons hlt,List.take_append_drop]
 have hlen:((xs.take i.toNat).flatMap enc).length=i.toNat * sz:=by rw [Zln hl,List.length_take,Nat.min_eq_left (Nat.le_of_lt hlt)]
 have hset:xs.set i.toNat y=xs.take i.toNat++y :: xs.drop (i.toNat + 1):=by rw [List.set_eq_take_append_cons_drop,if_pos hlt]
 rw [hset,List.flatMap_append,List.flatMap_cons,← hy,Zin _ _ _ (by rw [Zln hl]; omega),Zin _ _ _ (by rw [hl]; omega)]
 conv=>lhs; rw [hsplit]
 rw [List.flatMap_append,List.flatMap_cons]
 have t1:((xs.take i.toNat).flatMap enc++(enc (ix xs i)++(xs.drop (i.toNat + 1)).flatMap enc)).take (i.toNat * sz + o)=(xs.take i.toNat).flatMap enc++(enc (ix xs i)).take o:=by
  rw [← hlen,List.take_length_add_append,List.take_append_of_le_length (by rw [hl]; omega)]
 have t2:((xs.take i.toNat).flatMap enc++(enc (ix xs i)++(xs.drop (i.toNat + 1)).flatMap enc)).drop (i.toNat * sz + o + vs.length)=(enc (ix xs i)).drop (o + vs.length)++(xs.drop (i.toNat + 1)).flatMap enc:=by
  rw [← hlen,Nat.add_assoc,List.drop_length_add_append,List.drop_append_of_le_length (by rw [hl]; omega)]
 rw [t1,t2]
 simp [List.append_assoc]
end flat

def Cells {α:Type} (dk:Kd α) (w:World) (F:Nat→Prop):List α→List Value→Prop
 | [],cs=>cs=[]
 | x :: xs,cs=>∃ c1 c2,cs=c1++c2∧dk.K w F x c1∧Cells dk w F xs c2
section cells
variable {α:Type} {dk:Kd α} {w w':World} {F F':Nat→Prop}
theorem Cells.nil:Cells dk w F [] []:=rfl
theorem Cells.cons {x:α} {xs:List α} {c1 c2:List Value} (h:dk.K w F x c1) (h2:Cells dk w F xs c2):Cells dk w F (x :: xs) (c1++c2):=⟨c1,c2,rfl,h,h2⟩
theorem Cells.len:∀ {xs:List α} {cs:List Value},Cells dk w F xs cs→cs.length=xs.length * dk.sz
 | [],cs,h=>by have:cs=[]:=h; subst this; simp
 | x :: xs,cs,h=>by
  obtain ⟨c1,c2,rfl,h1,h2⟩:=h
  rw [List.length_append,dk.len h1,Cells.len h2,List.length_cons,Nat.add_mul]; omega
theorem Cells.mono (hF:∀ b,F b→F' b∧w'.heap[b]? = w.heap[b]?):∀ {xs:List α} {cs:List Value},Cells dk w F xs cs→Cells dk w' F' xs cs
 | [],cs,h=>h
 | x :: xs,cs,h=>by
  obtain ⟨c1,c2,rfl,h1,h2⟩:=h
  exact ⟨c1,c2,rfl,dk.mono h1 hF,Cells.mono hF h2⟩
theorem Cells.app:∀ {xs ys:List α} {cs ds:List Value},Cells dk w F xs cs→Cells dk w F ys ds→Cells dk w F (xs++ys) (cs++ds)
 | [],ys,cs,ds,h,h2=>by have:cs=[]:=h; subst this; simpa using h2
 | x :: xs,ys,cs,ds,h,h2=>by
  obtain ⟨c1,c2,rfl,h3,h4⟩:=h
  exact ⟨c1,c2++ds,by simp,h3,Cells.app h4 h2⟩
theorem Cells.one:∀ {xs:List α} {cs:List Value},Cells dk w F xs cs→cs.all Value.oneCell'=true
 | [],cs,h=>by have:cs=[]:=h; subst this; rfl
 | x :: xs,cs,h=>by
  obtain ⟨c1,c2,rfl,h1,h2⟩:=h
  rw [List.all_append,Cells.one h2,Bool.and_true,List.all_eq_true]
  exact dk.one h1
theorem Cells.take:∀ {xs:List α} {cs:List Value} (m:Nat),Cells dk w F xs cs→Cells dk w F (xs.take m) (cs.take (m * dk.sz))
 | [],cs,m,h=>by have:cs=[]:=h; subst this; simp [Cells]
 | x :: xs,cs,0,h=>by simp [Cells]
 | x :: xs,cs,m + 1,h=>by
  obtain ⟨c1,c2,rfl,h1,h2⟩:=h
  refine ⟨c1,c2.take (m * dk.sz),?_,h1,Cells.take m h2⟩
  have:(m + 1) * dk.sz=c1.length + m * dk.sz:=by rw [dk.len h1,Nat.add_mul]; omega
  rw [this,List.take_length_add_append]
theorem Cells.at:∀ {xs:List α} {cs:List Value},Cells dk w F xs cs→∀ (j:Nat) (x:α),xs[j]? = some x→∃ ce,dk.K w F x ce∧(cs.drop (j * dk.sz)).take dk.sz=ce
 | [],cs,h,j,x,hj=>by simp at hj
 | y :: xs,cs,h,0,x,hj=>by
  obtain ⟨c1,c2,rfl,h1,h2⟩:=h
  simp at hj
  subst hj
  refine ⟨c1,h1,?_⟩
  rw [Nat.zero_mul,List.drop_zero,← dk.len h1,List.take_left]
 | y :: xs,cs,h,j + 1,x,hj=>by
  obtain ⟨c1,c2,rfl,h1,h2⟩:=h
  obtain ⟨ce,h3,h4⟩:=Cells.at h2 j x (by simpa using hj)
  refine ⟨ce,h3,?_⟩
  have:(j + 1) * dk.sz=c1.length + j * dk.sz:=by rw [dk.len h1,Nat.add_mul]; omega
  rw [this,List.drop_length_add_append]
  exact h4
theorem Cells.get [Inhabited α] {xs:List α} {cs:List Value} (h:Cells dk w F xs cs) {i:Int} (hi:0≤i∧i < (xs.length:Int)):∃ ce,dk.K w F (ix xs i) ce∧(cs.drop (i.toNat * dk.sz)).take dk.sz=ce∧∀ o u,ce[o]? = some u→cs[i.toNat * dk.sz + o]? = some u:=by
 obtain ⟨ce,h1,h2⟩:=h.at _ _ (Zfh hi)
 refine ⟨ce,h1,h2,fun o u hu=>?_⟩
 rw [← h2,List.getElem?_take] at hu
 split at hu
 ·rwa [List.getElem?_drop] at hu
 ·cases hu
theorem Cells.row {A:Option Addr} {e c n:Nat} {xs:List α} {cs:List Value} (h:Cells dk w F xs cs) (ho:Yzb w e dk.sz (.slice A n c) n cs) (hn:n=xs.length) (hF:∀ b,(Value.slice A n c).ownBlock=some b→F b):Zfr dk w F A xs:=by
 subst hn
 refine ⟨fun hp=>?_,fun j x hj=>?_⟩
 ·obtain ⟨gb,rfl⟩:=ho.addr hp
  exact ⟨rfl,hF gb rfl⟩
 ·obtain ⟨ce,h1,h2⟩:=h.at j x hj
  refine ⟨ce,h1,fun i u hu=>Zhn ho ?_⟩
  rw [← h2,List.getElem?_take] at hu
  split at hu
  ·rwa [List.getElem?_drop] at hu
  ·cases hu
theorem Cells.drop:∀ {xs:List α} {cs:List Value} (m:Nat),Cells dk w F xs cs→Cells dk w F (xs.drop m) (cs.drop (m * dk.sz))
 | [],cs,m,h=>by have:cs=[]:=h; subst this; simp [Cells]
 | x :: xs,cs,0,h=>by simpa using h
 | x :: xs,cs,m + 1,h=>by
  obtain ⟨c1,c2,rfl,h1,h2⟩:=h
  have:(m + 1) * dk.sz=c1.length + m * dk.sz:=by rw [dk.len h1,Nat.add_mul]; omega
  rw [this,List.drop_length_add_append,List.drop_succ_cons]
  exact Cells.drop m h2
theorem Cells.one' {xs:List α} {cs:List Value} (h:Cells dk w F xs cs):∀ u ∈ cs,u.oneCell'=true:=List.all_eq_true.1 h.one
theorem Cells.put [Inhabited α] {xs:List α} {cs:List Value} (h:Cells dk w F xs cs) {i:Int} (hi:0≤i∧i < (xs.length:Int)) {ce ce' vs:List Value} {o:Nat} {z:α} (hce:(cs.drop (i.toNat * dk.sz)).take dk.sz=ce) (hv:Zar ce o vs=ce') (ho:o + vs.length≤dk.sz) (hK:dk.K w F z ce') :
  ∃ cs',Zar cs (i.toNat * dk.sz + o) vs=cs'∧Cells dk w F (xs.set i.toNat z) cs':=by
 refine ⟨_,rfl,?_⟩
 have hlt:i.toNat < xs.length:=by omega
 have hlen:=h.len
 have hle:(i.toNat + 1) * dk.sz≤xs.length * dk.sz:=Nat.mul_le_mul_right _ hlt
 rw [Nat.add_mul,Nat.one_mul] at hle
 have hcl:ce.length=dk.sz:=by rw [← hce,List.length_take,List.length_drop]; omega
 have hset:xs.set i.toNat z=xs.take i.toNat++z :: xs.drop (i.toNat + 1):=by rw [List.set_eq_take_append_cons_drop,if_pos hlt]
 have hd2:=h.drop (i.toNat + 1)
 have hsplit:cs=cs.take (i.toNat * dk.sz)++(ce++cs.drop ((i.toNat + 1) * dk.sz)):=by
  rw [← hce,Nat.add_mul,Nat.one_mul,← List.drop_drop,List.take_append_drop,List.take_append_drop]
 have hla:(cs.take (i.toNat * dk.sz)).length=i.toNat * dk.sz:=by rw [List.length_take]; omega
 have e1:Zar cs (i.toNat * dk.sz + o) vs=cs.take (i.toNat * dk.sz)++(ce'++cs.drop ((i.toNat + 1) * dk.sz)):=by
  conv=>lhs; rw [hsplit]
  conv=>lhs; arg 2; rw [← hla]
  rw [Zjl (by omega),hv]
 rw [e1,hset]
 exact (h.take i.toNat).app ⟨ce',_,rfl,hK,hd2⟩
end cells
theorem Cells.flat {α:Type} {sz:Nat} {enc:α→List Value} {hl:∀ x,(enc x).length=sz} {h1:∀ x,∀ u ∈ enc x,u.oneCell'=true} {w:World} {F:Nat→Prop}:∀ (xs:List α),Cells (Kd.flat sz enc hl h1) w F xs (xs.flatMap enc)
 | []=>rfl
 | x :: xs=>⟨enc x,xs.flatMap enc,rfl,rfl,Cells.flat xs⟩
theorem Cells.isflat {α:Type} {sz:Nat} {enc:α→List Value} {hl:∀ x,(enc x).length=sz} {h1:∀ x,∀ u ∈ enc x,u.oneCell'=true} {w:World} {F:Nat→Prop}:∀ {xs:List α} {cs:List Value},Cells (Kd.flat sz enc hl h1) w F xs cs→cs=xs.flatMap enc
 | [],cs,h=>h
 | x :: xs,cs,h=>by
  obtain ⟨c1,c2,rfl,h1,h2⟩:=h
  have h1':c1=enc x:=h1
  rw [h1',Cells.isflat h2]; rfl
theorem Zfr.cells {α:Type} {dk:Kd α} {w:World} {F:Nat→Prop} {A:Option Addr}:∀ {xs:List α} (m:Nat),(∀ j x,xs[j]? = some x→∃ cs,dk.K w F x cs∧∀ i u,cs[i]? = some u→Zkr w A ((m + j) * dk.sz + i)=some u)→∃ cs,Cells dk w F xs cs∧∀ q u,cs[q]? = some u→Zkr w A (m * dk.sz + q)=some u
 | [],m,_=>⟨[],rfl,fun q u h=>by simp at h⟩
 | x :: xs,m,h=>by
  obtain ⟨c1,h1,h2⟩:=h 0 x rfl
  obtain ⟨c2,h3,h4⟩:=Zfr.cells (xs:=xs) (m + 1) (fun j y hj=>by
   obtain ⟨cs,g1,g2⟩:=h (j + 1) y (by simpa using hj)
   exact ⟨cs,g1,fun i u hu=>by have:=g2 i u hu; rwa [show m + 1 + j=m + (j + 1) by omega]⟩)
  refine ⟨c1++c2,⟨c1,c2,rfl,h1,h3⟩,fun q u hq=>?_⟩
  rcases Nat.lt_or_ge q c1.length with h5 | h5
  ·rw [List.getElem?_append_left h5] at hq
   have:=h2 q u hq
   simpa using this
  ·rw [List.getElem?_append_right h5] at hq
   have:=h4 _ u hq
   rw [dk.len h1] at this h5
   rwa [show (m + 1) * dk.sz + (q - dk.sz)=m * dk.sz + q by rw [Nat.add_mul]; omega] at this

def OkS (lo:Nat) (F:Nat→Prop) (s:Yva):Prop:=∀ b,s.av b→lo≤b∨F b
theorem Sm.ok {lo:Nat} {F:Nat→Prop} {w:World} {bs:List (List Nat)}:OkS lo F (Sm lo F w bs):=fun b h=>h.2.2
def OkL (lo:Nat) (F:Nat→Prop):List Yva→Prop
 | []=>True
 | s :: r=>OkS lo F s∧OkL lo F r
theorem OkL.mem {lo:Nat} {F:Nat→Prop}:∀ {Sl:List Yva},OkL lo F Sl→∀ s ∈ Sl,OkS lo F s
 | [],_,s,hs=>by cases hs
 | t :: r,h,s,hs=>by
  rcases List.mem_cons.1 hs with rfl | hs
  ·exact h.1
  ·exact OkL.mem h.2 s hs
def Fl (Sl:List Yva) (b:Nat):Prop:=∃ s ∈ Sl,s.av b
def Zoz (s s':Yva):Prop:=∀ b,s.av b→s'.av b∧s'.w.heap[b]? = s.w.heap[b]?
theorem Zoz.refl (s:Yva):Zoz s s:=fun b h=>⟨h,rfl⟩
theorem Loc.older {w0 w:World} {M:List Ent} {S:List Yva} {F:Nat→Prop} {s:Yva} (hL:Loc w0 w M S) (hs:s ∈ S) (hok:OkS w0.heap.size F s):Zoz s (Sm w0.heap.size F w (M.map Ent.blk)):=fun b hb=>by
 obtain ⟨h1,h2⟩:=hL.snap s hs
 refine ⟨⟨Nat.lt_of_lt_of_le hb.1 h1,fun o ho e1=>?_,hok b hb⟩,(h2 b hb).1⟩
 obtain ⟨e,he,rfl⟩:=List.mem_map.1 ho
 exact (h2 b hb).2 e he e1
theorem Loc.olderN {w0 w:World} {M:List Ent} {S:List Yva} {s:Yva} (hL:Loc w0 w M S) (hs:s ∈ S):Zoz s (St w (M.map Ent.blk)):=fun b hb=>by
 obtain ⟨h1,h2⟩:=hL.snap s hs
 refine ⟨⟨Nat.lt_of_lt_of_le hb.1 h1,fun o ho e1=>?_,trivial⟩,(h2 b hb).1⟩
 obtain ⟨e,he,rfl⟩:=List.mem_map.1 ho
 exact (h2 b hb).2 e he e1
theorem Rw.older {α:Type} {dk:Kd α} {A:Option Addr} {n c:Nat} {xs:List α} {s s':Yva} (h:At dk s A n c xs) (ho:Zoz s s'):At dk s' A n c xs:=h.mono ho
theorem Cells.older {α:Type} {dk:Kd α} {xs:List α} {cs:List Value} {s s':Yva} (h:Cells dk s.w s.av xs cs) (ho:Zoz s s'):Cells dk s'.w s'.av xs cs:=h.mono ho

section ops
variable {C:Cx} {ops:Array Oper} {k:List Item} {l l':Fm} {M M':List Ent} {S S':List Yva} {ty:TypeId} {pos:String} {after:Ed} {g:Gu} {d:Nat} {Nx:Fm→List Ent→List Yva→Prop} {F:Nat→Prop}
theorem Src.own {α:Type} {dk:Kd α} {z:Nat} {A:Option Addr} {e n c m:Nat} {cs:List Value} {xs:List α} {w:World} {F:Nat→Prop} (j:Nat) (hM:M[j]? = some (.own (.slice A n c) e dk.sz n cs)) (ho:Ow z A n c xs) (hC:Cells dk w F xs cs) (hm:m≤n):Src C M S A m dk.sz (cs.take (m * dk.sz)):=by
 have hle:m * dk.sz≤n * dk.sz:=Nat.mul_le_mul_right _ hm
 refine ⟨by rw [List.length_take,hC.len,← ho.hq]; omega,fun u hu=>hC.one' u (List.mem_of_mem_take hu),fun h0=>ho.hA (by omega),fun w hL q u hu=>?_⟩
 rw [List.getElem?_take] at hu
 split at hu
 ·exact Zhn (hL.ok _ (List.mem_iff_getElem?.2 ⟨j,hM⟩)) hu
 ·cases hu
theorem Src.read {α:Type} {dk:Kd α} {s:Yva} {A:Option Addr} {n c:Nat} {xs:List α} (h:At dk s A n c xs) (hs:s ∈ S):∃ cs,Cells dk s.w s.av xs cs∧Src C M S A n dk.sz cs:=by
 obtain ⟨cs,h1,h2⟩:=Zfr.cells (xs:=xs) 0 (fun j x hj=>by simpa using h.row.2 j x hj)
 refine ⟨cs,h1,⟨by rw [h1.len,h.hq],h1.one',fun h0=>(h.row.1 (by rw [← h.hq]; exact h0)).1,?_⟩⟩
 intro w hL q u hu
 have h3:=h2 q u hu
 rw [Nat.zero_mul,Nat.zero_add] at h3
 have hp:0 < xs.length:=by
  rcases Nat.eq_zero_or_pos xs.length with h0 | h0
  ·have:=h1.len; rw [h0] at this; simp at this; subst this; simp at hu
  ·exact h0
 exact (Zq4 ((hL.snap s hs).2 _ (h.row.1 hp).2).1).trans h3
theorem Src.readF {α:Type} {sz:Nat} {enc:α→List Value} {hl:∀ x,(enc x).length=sz} {h1:∀ x,∀ u ∈ enc x,u.oneCell'=true} {s:Yva} {A:Option Addr} {n c:Nat} {xs:List α} (h:At (Kd.flat sz enc hl h1) s A n c xs) (hs:s ∈ S):Src C M S A n sz (xs.flatMap enc):=by
 obtain ⟨cs,h2,h3⟩:=Src.read (C:=C) (M:=M) h hs
 rw [← h2.isflat]
 exact h3
theorem Src.nil {sz:Nat}:Src C M S none 0 sz []:=⟨by simp,(fun u hu=>by cases hu),(fun h=>absurd h (Nat.lt_irrefl 0)),(fun w hL q u hu=>by simp at hu)⟩
theorem Zfr.take {α:Type} {d:Kd α} {w:World} {F:Nat→Prop} {A:Option Addr} {xs:List α} (h:Zfr d w F A xs) (m:Nat):Zfr d w F A (xs.take m):=by
 refine ⟨fun hp=>h.1 (by rw [List.length_take] at hp; omega),fun j x hj=>h.2 j x ?_⟩
 rw [List.getElem?_take] at hj
 split at hj
 ·exact hj
 ·cases hj
theorem Zfr.drop {α:Type} {d:Kd α} {w:World} {F:Nat→Prop} {A:Option Addr} {xs:List α} (h:Zfr d w F A xs) (m c:Nat) (hc:xs.length≤c):Zfr d w F (if c=m then A else A.map (·.add (m * d.sz))) (xs.drop m):=by
 have key:0 < (xs.drop m).length→c≠m∧∃ ad,A=some ad:=fun hp=>by
  rw [List.length_drop] at hp
  exact ⟨by omega,Option.isSome_iff_exists.1 (h.1 (by omega)).1⟩
 refine ⟨fun hp=>?_,fun j x hj=>?_⟩
 ·obtain ⟨h1,ad,rfl⟩:=key hp
  rw [List.length_drop] at hp
  rw [if_neg h1]
  refine ⟨rfl,?_⟩
  have h2:=(h.1 (by omega)).2
  simpa [blkA,Zjd] using h2
 ·obtain ⟨h1,ad,rfl⟩:=key (Nat.lt_of_le_of_lt (Nat.zero_le j) (List.getElem?_eq_some_iff.1 hj).1)
  rw [List.getElem?_drop] at hj
  obtain ⟨cs,h3,h4⟩:=h.2 _ x hj
  refine ⟨cs,h3,fun i u hu=>?_⟩
  rw [if_neg h1]
  have h5:=h4 i u hu
  simp only [Zkr,Option.map_some,Option.getD_some,Zho] at h5 ⊢
  rw [show m * d.sz + (j * d.sz + i)=(m + j) * d.sz + i by rw [Nat.add_mul]; omega]
  exact h5
theorem run_cut {P:Program} {w:World} {T e sz:Nat} {A:Option Addr} {n c:Nat} (hT:slE P T=some (e,sz)) (lo hi:Option Int) (kl kh:IntKind) (h1:∀ i,lo=some i→0≤i) (h2:∀ i,hi=some i→0≤i∧i≤(c:Int)) (h3:(lo.map Int.toNat).getD 0≤(hi.map Int.toNat).getD n) (hnc:n≤c) :
  (Instr.sliceAt T (.slice A n c) (lo.map (.int kl)) (hi.map (.int kh)) none).run P w=.ok (.slice (if c=(lo.map Int.toNat).getD 0 then A else A.map (·.add ((lo.map Int.toNat).getD 0 * sz))) ((hi.map Int.toNat).getD n - (lo.map Int.toNat).getD 0) (c - (lo.map Int.toNat).getD 0)) w:=by
 obtain ⟨t1,inf,t2,t3⟩:=Zo5 hT
 rcases lo with _ | lo <;> rcases hi with _ | hi <;> simp only [Option.map_none,Option.map_some,Option.getD_none,Option.getD_some] at h3 ⊢
 ·simp [Instr.sliceAt,run_underlying t1,Instr.slice,Instr.sliceBounds,sizeOf,typeInfo,t2,t3]
 ·have:=h2 hi rfl
  simp [Instr.sliceAt,run_underlying t1,Instr.slice,Instr.sliceBounds,Instr.sliceBound,asIntOf,this.1,this.2,sizeOf,typeInfo,t2,t3]
 ·have:=h1 lo rfl
  have h4:lo≤(n:Int):=by omega
  simp [Instr.sliceAt,run_underlying t1,Instr.slice,Instr.sliceBounds,Instr.sliceBound,asIntOf,this,h4,sizeOf,typeInfo,t2,t3]
 ·have:=h1 lo rfl
  have h5:=h2 hi rfl
  have h4:lo≤hi:=by omega
  simp [Instr.sliceAt,run_underlying t1,Instr.slice,Instr.sliceBounds,Instr.sliceBound,asIntOf,this,h4,h5.1,h5.2,sizeOf,typeInfo,t2,t3]
  exact fun h=>absurd h (by omega)

def Bnd (l:Fm) (x:Option Operand) (dflt v:Int):Prop:=x=none∧v=dflt∨∃ y kk,x=some y∧evl l y=some (.int kk v)
theorem bn {l:Fm} {v:Int}:Bnd l none v v:=.inl ⟨rfl,rfl⟩
theorem by_ {l:Fm} {y:Operand} {kk:IntKind} {df v:Int} (h:evl l y=some (.int kk v)):Bnd l (some y) df v:=.inr ⟨y,kk,rfl,h⟩
theorem v_cut {T e sz:Nat} {x:Operand} {lo hi mx:Option Operand} {A:Option Addr} {n c:Nat} (lv hv mv:Int) (hT:slE C.P T=some (e,sz)) (hx:evl l x=some (.slice A n c)) (hlo:Bnd l lo 0 lv) (hhi:Bnd l hi (n:Int) hv) (hmx:Bnd l mx (c:Int) mv) (h0:0≤lv∧lv≤hv) (h1:hv≤mv) (h2:mv≤(c:Int)) (hnc:n≤c) (hms:(mx.isNone || hi.isSome)=true) :
  Val C ⟨some d,.slice T x lo hi mx,ty,pos,after,g⟩ l M S (.slice (if mv.toNat=lv.toNat then A else A.map (·.add (lv.toNat * sz))) (hv.toNat - lv.toNat) (mv.toNat - lv.toNat)) :=
 fun a w hF _=>by
  obtain ⟨t1,inf,t2,t3⟩:=Zo5 hT
  have e0:0≤hv:=by omega
  have e1:lv≤hv:=h0.2
  have e2:hv≤(c:Int):=by omega
  have e3:0≤mv:=by omega
  have m1:max hv 0=hv:=by omega
  have m2:max mv 0=mv:=by omega
  have m3:lv≤(hv.toNat:Int):=by omega
  have m4:hv≤(mv.toNat:Int):=by omega
  rcases hlo with ⟨rfl,rfl⟩ | ⟨y,kk,rfl,hy⟩ <;> rcases hhi with ⟨rfl,rfl⟩ | ⟨z,k2,rfl,hz⟩ <;> rcases hmx with ⟨rfl,rfl⟩ | ⟨u,k3,rfl,hu⟩
  ·simp [execOp,hF.ev hx,Instr.sliceAt,run_underlying t1,Instr.slice,Instr.sliceBounds,sizeOf,typeInfo,t2,t3,Sem.run_pure,Sem.run_bind]
  ·simp at hms
  ·simp [execOp,hF.ev hx,hF.ev hz,Instr.sliceAt,run_underlying t1,Instr.slice,Instr.sliceBounds,Instr.sliceBound,asIntOf,sizeOf,typeInfo,t2,t3,h0.1,e0,e1,e2,e3,h1,h2,m1,m2,m3,m4,Sem.run_pure,Sem.run_bind]
  ·simp [execOp,hF.ev hx,hF.ev hz,hF.ev hu,Instr.sliceAt,run_underlying t1,Instr.slice,Instr.sliceBounds,Instr.sliceBound,asIntOf,sizeOf,typeInfo,t2,t3,h0.1,e0,e1,e2,e3,h1,h2,m1,m2,m3,m4,Sem.run_pure,Sem.run_bind]
  ·simp [execOp,hF.ev hx,hF.ev hy,Instr.sliceAt,run_underlying t1,Instr.slice,Instr.sliceBounds,Instr.sliceBound,asIntOf,sizeOf,typeInfo,t2,t3,h0.1,e0,e1,e2,e3,h1,h2,m1,m2,m3,m4,Sem.run_pure,Sem.run_bind]
  ·simp at hms
  ·simp [execOp,hF.ev hx,hF.ev hy,hF.ev hz,Instr.sliceAt,run_underlying t1,Instr.slice,Instr.sliceBounds,Instr.sliceBound,asIntOf,sizeOf,typeInfo,t2,t3,h0.1,e0,e1,e2,e3,h1,h2,m1,m2,m3,m4,Sem.run_pure,Sem.run_bind]
  ·simp [execOp,hF.ev hx,hF.ev hy,hF.ev hz,hF.ev hu,Instr.sliceAt,run_underlying t1,Instr.slice,Instr.sliceBounds,Instr.sliceBound,asIntOf,sizeOf,typeInfo,t2,t3,h0.1,e0,e1,e2,e3,h1,h2,m1,m2,m3,m4,Sem.run_pure,Sem.run_bind]
end ops
end Go.Proofs.YtadcichlnacagaaDoor.B
