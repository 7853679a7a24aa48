/- Lemmas of my own on the machine: the order of blocks, what is passed over, results, regions in any order. No condition. -/
import Derived.Test.YtadcichlnacagaaDoorB5
set_option linter.unusedVariables false
set_option linter.unusedSimpArgs false
namespace Go.Proofs.YtadcichlnacagaaDoor.B
open Go.RowKit

section ops
variable {C:Cx} {ops:Array Oper} {k:List Item} {l l':Fm} {M M' M0 M1 rest:List Ent} {S S' Sl:List Yva} {ty:TypeId} {pos:String} {after:Ed} {g:Gu} {d:Nat} {Nx:Fm→List Ent→List Yva→Prop} {F:Nat→Prop}
theorem Loc.perm {w0 w:World} (h:Loc w0 w M S) (hp:M.Perm M'):Loc w0 w M' S :=
 ⟨h.env,fun e he=>h.ok e (hp.mem_iff.2 he),(List.Perm.pairwise_iff (fun h=>far.symm' h) hp).1 h.apart,fun s hs=>⟨(h.snap s hs).1,fun b hb=>⟨((h.snap s hs).2 b hb).1,fun e he=>((h.snap s hs).2 b hb).2 e (hp.mem_iff.2 he)⟩⟩⟩
theorem g_perm (hp:M.Perm M') (h:G C k l M' S):G C k l M S:=fun a w h1 h2=>h a w h1 (h2.perm hp)
theorem Yvh (is:List Nat) (h:G C k l' M' S') (hf:subf l' l) (hM:M'.Sublist M) (hS:is.map (S[·]?)=S'.map some):G C k l M S:=g_sub hf hM (Yvm is hS) h
theorem Fr.bool {n:Nat} {a:Act} (t:Nat) {b b':Bool} (h:Fr n l a) (h1:look l t=some (.bool b)) (h2:b=b'):Fr n ((t,.bool b') :: l) a:=by
 subst h2
 refine ⟨h.1,h.2.1,fun u v hu=>?_⟩
 simp only [look] at hu
 by_cases e:t=u
 ·subst e
  simp at hu
  subst hu
  exact h.2.2 _ _ h1
 ·rw [nbeq e] at hu
  exact h.2.2 _ _ hu
theorem Yvi {i:Nat} (t:Nat) {b b':Bool} (h1:look l t=some (.bool b)) (h2:b=b') (h:WL C ops i k ((t,.bool b') :: l) M S):WL C ops i k l M S:=fun a w hF hL=>h a w (hF.bool t h1 h2) hL
theorem Zov {op:Op} {v:Value} (hv:Val C ⟨some d,op,ty,pos,after,g⟩ l M S v) (hd:Nat.ble (d + 1) C.n=true) (h:Nx ((d,v) :: l) M S):Stp C ⟨some d,op,ty,pos,after,g⟩ l M S Nx :=
 Zns hd fun a w hF hL=>⟨v,w,M,S,hv a w hF hL,hL,h⟩
inductive RV (C:Cx) (l:Fm) (M:List Ent):List ResultVar→List Value→Prop
 | nil:RV C l M [] []
 | tmp {t:Nat} {v:Value} {r:List ResultVar} {vs:List Value} (hv:look l t=some v) (h:RV C l M r vs):RV C l M (.tmp t :: r) (v :: vs)
 | cell {a T m gb o Tb:Nat} {cs us:List Value} {r:List ResultVar} {vs:List Value} (j:Nat) (hp:look l a=some (.pointer (some ⟨gb,o,none⟩))) (hT:ldK C.P T=some (some m)) (hM:M[j]? = some (.box gb Tb cs)) (hv:(cs.drop o).take m=us) (hm:us.length=m) (h:RV C l M r vs):RV C l M (.cell a T :: r) (.agg us.toArray :: vs)
 | cell1 {a T gb o Tb:Nat} {cs:List Value} {u:Value} {r:List ResultVar} {vs:List Value} (j:Nat) (hp:look l a=some (.pointer (some ⟨gb,o,none⟩))) (hT:ldK C.P T=some none) (hM:M[j]? = some (.box gb Tb cs)) (hv:cs[o]? = some u) (h:RV C l M r vs):RV C l M (.cell a T :: r) (u :: vs)
def Yvl:List Value→Value
 | [v]=>v
 | vs=>.tuple vs.toArray
theorem RV.run {rs:List ResultVar} {vs:List Value} (h:RV C l M rs vs) (hr:C.fn.results.toList=rs) {a:Act} {w:World} (hF:Fr C.n l a) (hL:Loc C.w0 w M S):(results C.fn a.tmps).run C.P w=.ok (Yvl vs) w:=by
 have key:(rs.mapM (m:=Sem) fun | .tmp t=>pure (a.tmps.getD t undef) | .cell q t=>do loadVar t (← asAddr (a.tmps.getD q undef))).run C.P w=.ok vs w:=by
  clear hr
  induction h with
  | nil=>simp
  | tmp hv h ih =>
   simp only [List.mapM_cons,Sem.run_bind,Sem.run_pure,Result.andThen_ok,hF.2.2 _ _ hv,ih]
  | cell j hp hT hM hv hm h ih =>
   have h1:=Zeb (P:=C.P) (w:=w) hT hm (fun q u hu=>by
    rw [Zfk,Zhi (hL.ok _ (List.mem_iff_getElem?.2 ⟨j,hM⟩)) _]
    rw [← hv,List.getElem?_take] at hu
    split at hu
    ·rwa [List.getElem?_drop] at hu
    ·cases hu)
   have ha:∀ x:Addr,asAddr (.pointer (some x))=pure x:=fun _=>rfl
   simp only [List.mapM_cons,Sem.run_bind,Sem.run_pure,Result.andThen_ok,hF.2.2 _ _ hp,ha,h1,ih]
  | cell1 j hp hT hM hv h ih =>
   have h1:=Zcr (P:=C.P) (w:=w) hT ((Zhi (hL.ok _ (List.mem_iff_getElem?.2 ⟨j,hM⟩)) _).trans hv)
   have ha:∀ x:Addr,asAddr (.pointer (some x))=pure x:=fun _=>rfl
   simp only [List.mapM_cons,Sem.run_bind,Sem.run_pure,Result.andThen_ok,hF.2.2 _ _ hp,ha,h1,ih]
 unfold results
 rw [Array.mapM_eq_mapM_toList,hr]
 simp only [Sem.run_bind,Sem.run_map]
 refine (congrArg (fun r=>Result.andThen (Result.andThen r _) _) key).trans ?_
 simp only [Result.andThen_ok,Sem.run_pure]
 match vs with
 | []=>rfl
 | [v]=>rfl
 | v :: u :: r=>simp [Yvl]
theorem Yvb {c:Code} {rs:List ResultVar} (vs:List Value) (hc:Code.tag c=10) (hf:C.P.funcs[C.f]? = some C.fn) (hr:C.fn.results.toList=rs) (hv:RV C l M rs vs) (h:∀ w,Loc C.w0 w M S→C.R (.returned (Yvl vs)) w):G C (.code c :: k) l M S :=
 g_ret hc _ hf (fun a w hF hL=>hv.run hr hF hL) h
theorem Zrw {rs:List ResultVar} (vs:List Value) (hf:C.P.funcs[C.f]? = some C.fn) (hr:C.fn.results.toList=rs) (hv:RV C l M rs vs) (h:∀ w,Loc C.w0 w M S→C.R (.returned (Yvl vs)) w):G C [] l M S :=
 g_end _ hf (fun a w hF hL=>hv.run hr hF hL) h
theorem Yvc (j:Nat) {e:Ent} (hM:M[j]? = some e) (h:G C k l (e :: M.eraseIdx j) S):G C k l M S:=by
 refine g_perm ?_ h
 obtain ⟨h1,rfl⟩:=List.getElem?_eq_some_iff.1 hM
 rw [List.eraseIdx_eq_take_drop_succ]
 conv=>lhs; rw [← List.take_append_drop j M,List.drop_eq_getElem_cons h1]
 exact List.perm_middle
theorem Fr.undef {n:Nat} {l:Fm} {a:Act} (h:Fr n l a) (d:Nat):Fr n ((d,undef) :: l) (a.put (some d) undef):=by
 refine ⟨h.1,by simp [Act.put,h.2.1],fun t v ht=>?_⟩
 simp only [look] at ht
 by_cases e:d=t
 ·subst e
  simp at ht
  subst ht
  by_cases hd:d < a.tmps.size
  ·simp [Act.put,Array.getD_eq_getD_getElem?,hd]
  ·simp [Act.put,Array.getD_eq_getD_getElem?,hd]
 ·rw [nbeq e] at ht
  have:=h.2.2 t v ht
  simpa [Act.put,Array.getD_eq_getD_getElem?,Array.getElem?_setIfInBounds,e] using this
def Pass (ops:Array Oper) (l:Fm) (j:Nat) (b:Bool):Prop:=∃ t,(ops[j]?).bind (·.dst)=some t∧(look l t=some (.bool (!b))∨look l t=some undef)
theorem ps {ops:Array Oper} {l:Fm} {j:Nat} {b:Bool} (t:Nat) {b':Bool} (h1:(ops[j]?).bind (·.dst)=some t) (h2:look l t=some (.bool b')) (hb:b' = !b):Pass ops l j b:=⟨t,h1,.inl (hb ▸ h2)⟩
theorem pu {ops:Array Oper} {l:Fm} {j:Nat} {b:Bool} (t:Nat) (h1:(ops[j]?).bind (·.dst)=some t) (h2:look l t=some undef):Pass ops l j b:=⟨t,h1,.inr h2⟩
theorem Pass.not {n j:Nat} {b:Bool} {a:Act} (h:Pass ops l j b) (hF:Fr n l a) {op:Op} {dst:Option Nat}:Region.wanted (⟨dst,op,ty,pos,after,some (j,b)⟩:Oper) (yielded ops a.tmps)=false:=by
 obtain ⟨t,h1,h2 | h2⟩:=h
 ·simp only [Region.wanted,Znj hF h1 h2]
  cases b <;> simp
 ·have h3:=hF.2.2 t _ h2
  have:yielded ops a.tmps j=none:=by
   unfold yielded
   rw [h1]
   simp only [Option.bind_some]
   rw [Array.getD_eq_getD_getElem?] at h3
   cases h5:a.tmps[t]? with
   | none=>rfl
   | some u=>rw [h5] at h3; simp at h3; subst h3; rfl
  simp [Region.wanted,this]
theorem Yu6 (i:Nat) {op:Op} {j:Nat} {b:Bool} (ho:ops[i]? = some ⟨some d,op,ty,pos,after,some (j,b)⟩) (hp:Pass ops l j b) (h:WL C ops (i + 1) k ((d,undef) :: l) M S):WL C ops i k l M S:=by
 intro a w hF hL
 rw [Zli ho]
 unfold wpList
 rw [if_neg (by rw [hp.not hF]; simp)]
 exact h _ w (hF.undef d) hL
theorem Zqs {α:Type} {M A B:List α} (is js:List Nat) (hi:is.map (M[·]?)=A.map some) (hj:js.map (M[·]?)=B.map some) (hp:(is++js).isPerm (List.range M.length)=true):M.Perm (A++B):=by
 have hp:=List.isPerm_iff.1 hp
 have h1:(is++js).map (M[·]?)=(A++B).map some:=by rw [List.map_append,List.map_append,hi,hj]
 have h2:=hp.map (M[·]?)
 rw [h1] at h2
 have h3:(List.range M.length).map (M[·]?)=M.map some:=by
  apply List.ext_getElem?
  intro i
  rw [List.getElem?_map,List.getElem?_map]
  by_cases h:i < M.length
  ·rw [List.getElem?_range h,List.getElem?_eq_getElem h]; simp [List.getElem?_eq_getElem h]
  ·rw [List.getElem?_eq_none (by simpa using h),List.getElem?_eq_none (by omega)]; rfl
 rw [h3] at h2
 have h4:=(h2.filterMap id)
 simpa [List.filterMap_map] using h4.symm
theorem Loc.freeze {α:Type} {dk:Kd α} {w0 w:World} {A:Option Addr} {e c n:Nat} {cs:List Value} {xs:List α} {s:Yva} (hL:Loc w0 w M S) (j:Nat) (hM:M[j]? = some (.own (.slice A n c) e dk.sz n cs)) (ho:Ow w0.heap.size A n c xs) (hs:s ∈ S) (hok:OkS w0.heap.size F s) (hC:Cells dk s.w s.av xs cs) :
  ∃ bs,Loc w0 w (M.eraseIdx j) (Sm w0.heap.size F w bs :: S)∧At dk (Sm w0.heap.size F w bs) A n c xs:=by
 have hown:Yzb w e dk.sz (.slice A n c) n cs:=hL.ok _ (List.mem_iff_getElem?.2 ⟨j,hM⟩)
 have hL2:Loc w0 w (M.eraseIdx j) S:=hL.drop (List.eraseIdx_sublist M j) (fun s h=>h)
 refine ⟨(M.eraseIdx j).map Ent.blk,hL2.mark _ _,ho.hq,ho.hn,ho.hm,(hC.mono (hL2.older hs hok)).row hown ho.hq fun b hb=>⟨Yzb.lt hown hb,fun o' ho' e1=>?_,.inl (ho.hz b hb)⟩⟩
 obtain ⟨x,hx,rfl⟩:=List.mem_map.1 ho'
 obtain ⟨i,hi⟩:=List.mem_iff_getElem?.1 hx
 rw [List.getElem?_eraseIdx] at hi
 have hij:∃ i',i'≠j∧M[i']? = some x:=by
  split at hi
  ·exact ⟨i,by omega,hi⟩
  ·exact ⟨i + 1,by omega,hi⟩
 obtain ⟨i',h1',h2'⟩:=hij
 exact Zc3 hL.apart h1' h2' hM b e1 (by simp [Ent.blk,hb])
theorem Loc.freezeN {α:Type} {dk:Kd α} {w0 w:World} {z:Nat} {A:Option Addr} {e c n:Nat} {cs:List Value} {xs:List α} {s:Yva} (hL:Loc w0 w M S) (j:Nat) (hM:M[j]? = some (.own (.slice A n c) e dk.sz n cs)) (ho:Ow z A n c xs) (hs:s ∈ S) (hC:Cells dk s.w s.av xs cs) :
  ∃ sv,Loc w0 w (M.eraseIdx j) (sv :: S)∧At dk sv A n c xs:=by
 have hown:Yzb w e dk.sz (.slice A n c) n cs:=hL.ok _ (List.mem_iff_getElem?.2 ⟨j,hM⟩)
 have hL2:Loc w0 w (M.eraseIdx j) S:=hL.drop (List.eraseIdx_sublist M j) (fun s h=>h)
 refine ⟨St w ((M.eraseIdx j).map Ent.blk),hL2.mark _ _,ho.hq,ho.hn,ho.hm,(hC.mono (hL2.olderN hs)).row hown ho.hq fun b hb=>⟨Yzb.lt hown hb,fun o' ho' e1=>?_,trivial⟩⟩
 obtain ⟨x,hx,rfl⟩:=List.mem_map.1 ho'
 obtain ⟨i,hi⟩:=List.mem_iff_getElem?.1 hx
 rw [List.getElem?_eraseIdx] at hi
 have hij:∃ i',i'≠j∧M[i']? = some x:=by
  split at hi
  ·exact ⟨i,by omega,hi⟩
  ·exact ⟨i + 1,by omega,hi⟩
 obtain ⟨i',h1',h2'⟩:=hij
 exact Zc3 hL.apart h1' h2' hM b e1 (by simp [Ent.blk,hb])
theorem Ze5 {i:Nat} {α:Type} {dk:Kd α} {A:Option Addr} {e c n:Nat} {cs:List Value} {xs:List α} (s:Yva) (j:Nat) (hM:M[j]? = some (.own (.slice A n c) e dk.sz n cs)) (ho:Ow C.w0.heap.size A n c xs) (hs:s ∈ S) (hok:OkS C.w0.heap.size F s) (hC:Cells dk s.w s.av xs cs)
  (h:∀ w' bs,At dk (Sm C.w0.heap.size F w' bs) A n c xs→WL C ops i k l (M.eraseIdx j) (Sm C.w0.heap.size F w' bs :: S)):WL C ops i k l M S:=fun a w hF hL=>by
 obtain ⟨bs,hL2,hR⟩:=hL.freeze (F:=F) j hM ho hs hok hC
 exact h w bs hR a w hF hL2
theorem Zp8 {i:Nat} {α:Type} {dk:Kd α} {z:Nat} {A:Option Addr} {e c n:Nat} {cs:List Value} {xs:List α} (s:Yva) (j:Nat) (hM:M[j]? = some (.own (.slice A n c) e dk.sz n cs)) (ho:Ow z A n c xs) (hs:s ∈ S) (hC:Cells dk s.w s.av xs cs)
  (h:∀ sv:Yva,At dk sv A n c xs→WL C ops i k l (M.eraseIdx j) (sv :: S)):WL C ops i k l M S:=fun a w hF hL=>by
 obtain ⟨sv,hL2,hR⟩:=hL.freezeN j hM ho hs hC
 exact h sv hR a w hF hL2
theorem Loc.short {w0 w:World} (hL:Loc w0 w M S) {j:Nat} {A:Option Addr} {e sz n c m:Nat} {cells:List Value} (hM:M[j]? = some (.own (.slice A n c) e sz n cells)) (hm:m≤n):Loc w0 w (M.set j (.own (.slice A m c) e sz m (cells.take (m * sz)))) S :=
 hL.upd (e':=.own (.slice A m c) e sz m (cells.take (m * sz))) hM (Chg.refl _ w) (Yzb.short (hL.ok _ (List.mem_iff_getElem?.2 ⟨j,hM⟩)) hm) (fun b hb=>.inl (by simp only [Ent.blk] at hb ⊢; cases A <;> exact hb))
theorem Zq0 {j:Nat} {A:Option Addr} {e sz n c m:Nat} {cells cells':List Value} (hM:M[j]? = some (.own (.slice A n c) e sz n cells)) (hm:m≤n) (hc:cells.take (m * sz)=cells') (h:G C k l (M.set j (.own (.slice A m c) e sz m cells')) S):G C k l M S:=fun a w hF hL=>by
 subst hc
 exact h a w hF (hL.short hM hm)
theorem Ow.cut {α:Type} {z:Nat} {A:Option Addr} {n c m:Nat} {xs:List α} (h:Ow z A n c xs) (hm:m≤n):Ow z A m c (xs.take m):=⟨by rw [List.length_take]; have:=h.hq; omega,fun h0=>h.hA (by omega),Nat.le_trans hm h.hn,h.hm,fun b hb=>h.hz b (by cases A <;> exact hb)⟩
def Held (C:Cx) (Mi:List Ent) (Si:List Yva) (w:World):Prop:=Loc C.w0 w Mi Si
theorem Held.mem {Mi:List Ent} {Si:List Yva} {w w':World} (h0:Held C Mi Si w) (h:Loc C.w0 w' M S) (hM:∀ e ∈ Mi,e ∈ M) (hS:∀ s ∈ Si,s ∈ S):Held C Mi Si w' :=
 ⟨h.env,fun e he=>h.ok e (hM e he),h0.apart,fun s hs=>⟨(h.snap s (hS s hs)).1,fun b hb=>⟨((h.snap s (hS s hs)).2 b hb).1,fun e he=>((h.snap s (hS s hs)).2 b hb).2 e (hM e he)⟩⟩⟩
theorem Zqg {C:Cx} {k:List Item} (dst:Option Nat) (v:Value):∀ c a w,Qk C k (.panic c) (a.put dst v) w→Qk C k (.panic c) a w:=fun c a w h=>by cases h.1
theorem run_call {P : Program} {w : World} {a : Act} {fn' : Func} {gf : Nat} {xs : Array Operand} {ts : Array TypeId} {dst : Option Nat} {vs : List Value} (hx : xs.toList.map a.eval = vs) (hf : P.funcs[gf]? = some fn') (hn : (fn'.name == "runtime.NumGoroutine") = false) (hb : fn'.body.isNone = false) :
  (execOp a.eval ⟨dst,.call { callee:=.value (.func gf),args:=xs,argTypes:=ts },ty,pos,after,g⟩).run P w=.ok (.enter gf vs.toArray) w:=by
 have hx':xs.map a.eval=vs.toArray:=by
  apply Array.ext'
  rw [Array.toList_map,hx]
 have hn' : ¬ fn'.name = "runtime.NumGoroutine" := beq_eq_false_iff_ne.1 hn
 have hb':¬ fn'.body=none:=by intro e; rw [e] at hb; cases hb
 simp [hn',hb',execOp,resolve,Act.eval,Deferred.ofValue,invoke,callFunc,hf,hx',Sem.run_pure,Sem.run_bind]
theorem Yvz {fn' : Func} {gf : Nat} {xs : Array Operand} {ts : Array TypeId} (vs : List Value) (hx : evA l xs.toList = some vs) (hf : C.P.funcs[gf]? = some fn') (hn : (fn'.name == "runtime.NumGoroutine") = false) (hb : fn'.body.isNone = false) (hd : Nat.ble (d + 1) C.n = true)
  (h:∀ w,Loc C.w0 w M S→Calls C.P gf vs.toArray w (fun e w'=>∃ v M' S',e=.returned v∧Loc C.w0 w' M' S'∧Nx ((d,v) :: l) M' S')):Stp C ⟨some d,.call { callee:=.value (.func gf),args:=xs,argTypes:=ts },ty,pos,after,g⟩ l M S Nx:=by
 intro a w hF hL Q
 unfold Oper.wp
 rw [run_call (Zl3 hF _ _ hx) hf hn hb]
 refine Calls.mono (h w hL) ?_
 rintro e w' ⟨v,M',S',rfl,h1,h2⟩
 exact ⟨_,_,_,hF.put (Nat.le_of_ble_eq_true hd) v,h1,h2⟩
theorem Ztl {P : Program} {w : World} {a : Act} {fn' : Func} {gf : Nat} {x : Operand} {xs : Array Operand} {ts : Array TypeId} {dst : Option Nat} {vs cs : List Value} (hfx : a.eval x = .func (.func gf) #[] cs.toArray) (hx : xs.toList.map a.eval = vs) (hf : P.funcs[gf]? = some fn') (hn : (fn'.name == "runtime.NumGoroutine") = false) (hb : fn'.body.isNone = false) :
  (execOp a.eval ⟨dst,.call { callee:=.value x,args:=xs,argTypes:=ts },ty,pos,after,g⟩).run P w=.ok (.enter gf (vs++cs).toArray) w:=by
 have hx':xs.map a.eval=vs.toArray:=by
  apply Array.ext'
  rw [Array.toList_map,hx]
 have hn' : ¬ fn'.name = "runtime.NumGoroutine" := beq_eq_false_iff_ne.1 hn
 have hb':¬ fn'.body=none:=by intro e; rw [e] at hb; cases hb
 simp [hn',hb',execOp,resolve,hfx,Deferred.ofValue,invoke,callFunc,hf,hx',Sem.run_pure,Sem.run_bind]
theorem Zss {fn' : Func} {gf : Nat} {x : Operand} {xs : Array Operand} {ts : Array TypeId} (vs cs : List Value) (hfx : evl l x = some (.func (.func gf) #[] cs.toArray)) (hx : evA l xs.toList = some vs) (hf : C.P.funcs[gf]? = some fn') (hn : (fn'.name == "runtime.NumGoroutine") = false) (hb : fn'.body.isNone = false) (hd : Nat.ble (d + 1) C.n = true)
  (h:∀ w,Loc C.w0 w M S→Calls C.P gf (vs++cs).toArray w (fun e w'=>∃ v M' S',e=.returned v∧Loc C.w0 w' M' S'∧Nx ((d,v) :: l) M' S')):Stp C ⟨some d,.call { callee:=.value x,args:=xs,argTypes:=ts },ty,pos,after,g⟩ l M S Nx:=by
 intro a w hF hL Q
 unfold Oper.wp
 rw [Ztl (hF.ev hfx) (Zl3 hF _ _ hx) hf hn hb]
 refine Calls.mono (h w hL) ?_
 rintro e w' ⟨v,M',S',rfl,h1,h2⟩
 exact ⟨_,_,_,hF.put (Nat.le_of_ble_eq_true hd) v,h1,h2⟩
theorem Zrz {gf:Nat} {xs:Array Operand} (vs:List Value) (hx:evA l xs.toList=some vs):Val C ⟨some d,.makeFunc (.func gf) #[] xs,ty,pos,after,g⟩ l M S (.func (.func gf) #[] vs.toArray) :=
 fun a w hF _=>by
  have hx':xs.map a.eval=vs.toArray:=by
   apply Array.ext'
   rw [Array.toList_map,Zl3 hF _ _ hx]
  simp [execOp,Instr.makeFunc,hx',Sem.run_pure,Sem.run_bind]

end ops
section late
variable {P:Program} {ops:Array Oper} {Q:Exit→Act→World→Prop} {H:World→Prop} {L:List Nat}
def wpF (P:Program) (ops:Array Oper) (Q:Exit→Act→World→Prop) (H:World→Prop) (L:List Nat):Nat→Array Bool→Act→World→Prop
 | 0,listed,a,w=>Region.ready .any ops listed=[]∧Q .normal a w
 | fuel + 1,listed,a,w=>(Region.ready .any ops listed=[]→Q .normal a w) ∧
  ∀ i ∈ Region.ready .any ops listed,wpOp P ops Q i (fun a' w'=>(L.contains i=false→H w')∧wpF P ops Q H L fuel (listed.setIfInBounds i true) a' w') a w
theorem Zsi:∀ (fuel:Nat) (listed:Array Bool) (a:Act) (w:World),wpF P ops Q H L fuel listed a w→wpAny P .any ops Q fuel listed a w
 | 0,_,_,_,h=>h
 | fuel + 1,_,_,_,h=>⟨h.1,fun i hi=>wpOp_mono (fun a' w' h'=>Zsi fuel _ a' w' h'.2) (h.2 i hi)⟩
def Zhp (ops:Array Oper):Nat→Nat→Nat→Bool
 | 0,_,_=>false
 | n + 1,j,i=>match ops[j]? with
  | some o=>o.after.any fun e=>Region.binds .any e && (e.on == i || Zhp ops n e.on i)
  | none=>false
def Zpy (ops:Array Oper) (listed:Array Bool):Bool :=
 (List.range ops.size).all fun j=>!listed.getD j true || match ops[j]? with
  | some o=>o.after.all fun e=>!Region.binds .any e || listed.getD e.on false
  | none=>true
def Shut (ops:Array Oper) (listed:Array Bool):Prop:=∀ j o,ops[j]? = some o→listed.getD j true=true→∀ e ∈ o.after,Region.binds .any e=true→listed.getD e.on false=true
theorem Zpy.shut {ops:Array Oper} {listed:Array Bool} (h:Zpy ops listed=true):Shut ops listed:=fun j o ho hl e he hb=>by
 have h1:=List.all_eq_true.1 h j (List.mem_range.2 (Array.getElem?_eq_some_iff.1 ho).1)
 simp only [hl,ho,Bool.not_true,Bool.false_or] at h1
 have h2:=Array.all_eq_true_iff_forall_mem.1 h1 e he
 simpa [hb] using h2
theorem Zsy {listed:Array Bool} {k:Nat} (h:listed.getD k false=true):listed.getD k true=true:=by
 rw [Array.getD_eq_getD_getElem?] at h ⊢
 cases hk:listed[k]? with
 | none=>rfl
 | some b=>rw [hk] at h; simpa using h
theorem Zkq {ops:Array Oper} {listed:Array Bool} {i:Nat} (hs:Shut ops listed):∀ (n j:Nat) (o:Oper),ops[j]? = some o→(∀ e ∈ o.after,Region.binds .any e=true→listed.getD e.on false=true)→Zhp ops n j i=true→listed.getD i false=true
 | 0,_,_,_,_,h=>by cases h
 | n + 1,j,o,ho,ha,h=>by
  unfold Zhp at h
  simp only [ho] at h
  obtain ⟨e,he,hb⟩:=Array.any_eq_true'.1 h
  simp only [Bool.and_eq_true,Bool.or_eq_true,beq_iff_eq] at hb
  have h1:=ha e he hb.1
  rcases hb.2 with h2 | h2
  ·rw [← h2]; exact h1
  ·cases ho2:ops[e.on]? with
   | none=>cases n <;> simp [Zhp,ho2] at h2
   | some o2=>exact Zkq hs n e.on o2 ho2 (fun e2 he2 hb2=>hs e.on o2 ho2 (Zsy h1) e2 he2 hb2) h2
def Zp7 (ops:Array Oper) (L:List Nat) (listed:Array Bool) (i:Nat):Bool:=L.isEmpty || (Zpy ops listed && L.all fun j=>listed.getD j true || Zhp ops ops.size j i)
theorem Zp1 {i:Nat} {oi:Oper} {v:Value} (hi:ops[i]? = some oi) (hsel:∀ (j:Nat) (o:Oper) cs b,ops[j]? = some o→o.op≠.select cs b)
  (hQ:∀ c a w,Q (.panic c) (a.put oi.dst v) w→Q (.panic c) a w) :
  ∀ (fuel:Nat) (listed:Array Bool) (a:Act) (w:World),
   (∀ j oj,ops[j]? = some oj→j≠i→listed.getD j true=false→(∀ e ∈ oj.after,Region.binds .any e=true→e.on≠i)→oi.apart ops oj=true) →
   (L=[]∨Shut ops listed)→(∀ j,j ∈ L→listed.getD j true=false→Zhp ops ops.size j i=true) →
   i ∈ Region.ready .any ops listed→YieldsIf P ops H oi v a→H w →
   wpF P ops Q H L fuel (listed.setIfInBounds i true) (a.put oi.dst v) w→wpF P ops Q H L (fuel + 1) listed a w:=by
 intro fuel
 induction fuel with
 | zero =>
  intro listed a w _ _ _ hr hy hS hF
  refine ⟨fun h=>(by rw [h] at hr; cases hr),fun j hj=>?_⟩
  by_cases hji:j=i
  ·subst hji; exact hy.wpOp hi hS ⟨fun _=>hS,hF⟩
  ·have:=ready_mono hj hji
   rw [hF.1] at this
   cases this
 | succ fuel ih =>
  intro listed a w hfree hsh hlate hr hy hS hF
  refine ⟨fun h=>(by rw [h] at hr; cases hr),fun j hj=>?_⟩
  by_cases hji:j=i
  ·subst hji; exact hy.wpOp hi hS ⟨fun _=>hS,hF⟩
  ·have h1:=hF.2 j (ready_mono hj hji)
   obtain ⟨hjun,oj,hoj,hall⟩:=mem_ready.1 hj
   have hnot:∀ e ∈ oj.after,Region.binds .any e=true→e.on≠i:=fun e he hb heq=>by
    have h1:=hall e he hb
    have h0:=(mem_ready.1 hr).1
    rw [heq] at h1
    rcases Nat.lt_or_ge i listed.size with h' | h'
    ·simp [h'] at h0 h1; rw [h0] at h1; cases h1
    ·simp [Array.getElem?_eq_none h'] at h1
   have hjL:L.contains j=false:=by
    rw [Bool.eq_false_iff]
    intro hc
    have hjm:=List.contains_iff_mem.1 hc
    rcases hsh with hsh | hsh
    ·rw [hsh] at hjm; cases hjm
    ·have h1:=Zkq hsh _ j oj hoj hall (hlate j hjm hjun)
     have h0:=(mem_ready.1 hr).1
     have h2:=Zsy h1
     rw [h0] at h2
     cases h2
   have h2:=wpOp_putIf hoj (hfree j oj hoj hji hjun hnot) (fun cs b=>hsel i oi cs b hi) (fun cs b=>hsel j oj cs b hoj) hQ hy h1
   have hun':∀ k,(listed.setIfInBounds j true).getD k true=false→listed.getD k true=false:=fun k hun=>by
    by_cases hjk:j=k
    ·subst hjk; exact hjun
    ·rw [getD_set_ne true hjk] at hun; exact hun
   have shut':∀ (hsh:Shut ops listed),Shut ops (listed.setIfInBounds j true):=fun hsh q o ho hl e he hb=>by
    have up:∀ z,listed.getD z false=true→(listed.setIfInBounds j true).getD z false=true:=fun z hz=>by
     rw [Array.getD_eq_getD_getElem?] at hz ⊢
     rw [Array.getElem?_setIfInBounds]
     split
     ·split <;> simp_all
     ·exact hz
    by_cases hjq:j=q
    ·subst hjq
     rw [hoj] at ho
     injection ho with ho
     subst ho
     exact up _ (hall e he hb)
    ·rw [getD_set_ne true hjq] at hl
     exact up _ (hsh q o ho hl e he hb)
   refine wpOp_mono (fun a' w' h3=>⟨fun _=>h3.2.1 hjL,ih (listed.setIfInBounds j true) a' w' (fun k ok hk hki hun hno=>hfree k ok hk hki (hun' k hun) hno) (hsh.imp id shut') (fun k hkL hun=>hlate k hkL (hun' k hun)) (ready_mono hr (Ne.symm hji)) h3.1 (h3.2.1 hjL) ?_⟩) h2
   rw [Array.setIfInBounds_comm _ _ hji]
   exact h3.2.2
theorem Zrk {i:Nat} {oi:Oper} {v:Value} {fuel:Nat} {listed:Array Bool} {a:Act} {w:World} (hi:ops[i]? = some oi)
  (hs:Region.noSelect ops=true) (hf:Region.free .any ops listed i=true) (hr:(Region.ready .any ops listed).contains i=true) (hw:Zp7 ops L listed i=true)
  (hQ:∀ c a w,Q (.panic c) (a.put oi.dst v) w→Q (.panic c) a w) (hy:YieldsIf P ops H oi v a) (hS:H w)
  (h:wpF P ops Q H L fuel (listed.setIfInBounds i true) (a.put oi.dst v) w):wpF P ops Q H L (fuel + 1) listed a w :=
 by
  unfold Zp7 at hw
  rw [Bool.or_eq_true] at hw
  rcases hw with hw | hw
  ·have:L=[]:=List.isEmpty_iff.1 hw
   exact Zp1 hi (Region.noSelect_spec hs) hQ fuel listed a w (Region.free_spec hi hf) (.inl this) (fun j hj=>by rw [this] at hj; cases hj) (by simpa using hr) hy hS h
  ·rw [Bool.and_eq_true] at hw
   refine Zp1 hi (Region.noSelect_spec hs) hQ fuel listed a w (Region.free_spec hi hf) (.inr (Zpy.shut hw.1)) (fun j hj hun=>?_) (by simpa using hr) hy hS h
   have h1:=List.all_eq_true.1 hw.2 j hj
   simpa [hun] using h1
end late
section wf
variable {C:Cx} {ops:Array Oper} {k:List Item} {l l':Fm} {M M':List Ent} {S S':List Yva} {ty:TypeId} {pos:String} {after:Ed} {g:Gu} {d:Nat} {Mi:List Ent} {Si:List Yva} {L:List Nat} {fuel:Nat} {lst lst':Array Bool} {F:Nat→Prop}
def WF (C:Cx) (ops:Array Oper) (Mi:List Ent) (Si:List Yva) (L:List Nat) (hd:Bool) (fuel:Nat) (lst:Array Bool) (k:List Item) (l:Fm) (M:List Ent) (S:List Yva):Prop :=
 ∀ a w,Fr C.n l a→Loc C.w0 w M S→(hd=true→Held C Mi Si w)→wpF C.P ops (Qk C k) (Held C Mi Si) L fuel lst a w
theorem Zg2 {c:Code} (Mi:List Ent) (Si:List Yva) (L:List Nat) (n:Nat) (hc:Code.tag c=1) (hd:Code.draw c=true) (hm:C.P.follows .mixedOrders=true) (hn:(Code.ops c).size=n) (hM:Mi.Sublist M) (hS:∀ s ∈ Si,s ∈ S) (h:WF C (Code.ops c) Mi Si L true n (Array.replicate n false) k l M S):G C (.code c :: k) l M S:=by
 cases c <;> simp [Code.tag] at hc
 rename_i id ops d
 simp [Code.draw] at hd
 subst hd
 subst hn
 intro a w h1 h2
 have h2':Loc C.w0 { w with drawn:=w.drawn + 1 } M S:=h2.same ⟨⟨rfl,rfl,rfl,Nat.le_refl _⟩,fun _ _ _=>rfl⟩
 have hw:(Code.region id ops true).wp C.P (Qk C k) a w:=wp_region_any hm (Zsi _ _ _ _ (h a _ h1 h2' (fun _=>h2'.drop hM hS)))
 intro cs
 obtain ⟨e,a',w',⟨rfl,hD⟩,harr⟩:=hw C.b k cs
 obtain ⟨e2,w2,fr,r1,r2,r3⟩:=hD cs
 exact ⟨e2,w2,fr,r1,r2.of_steps harr,r3⟩
theorem wf_v (i:Nat) {op:Op} {v:Value} (ho:ops[i]? = some ⟨some d,op,ty,pos,after,g⟩) (hv:Val C ⟨some d,op,ty,pos,after,g⟩ l Mi Si v) (hg:Gd ops l g) (hd:Nat.ble (d + 1) C.n=true) (hs:Region.noSelect ops=true) (hf:Region.free .any ops lst i=true) (hr:(Region.ready .any ops lst).contains i=true) (hw:Zp7 ops L lst i=true)
  (hl:lst.setIfInBounds i true=lst') (h:WF C ops Mi Si L true fuel lst' k ((d,v) :: l) M S):WF C ops Mi Si L true (fuel + 1) lst k l M S:=fun a w hF hL hH=>by
 subst hl
 exact Zrk ho hs hf hr hw (Zqg _ _) (.inl ⟨Zjj hF hg,fun w' hw'=>hv a w' hF hw'⟩) (hH rfl) (h _ w (hF.put (Nat.le_of_ble_eq_true hd) v) hL hH)
theorem wf_pass (i:Nat) {op:Op} {j:Nat} {b:Bool} (ho:ops[i]? = some ⟨some d,op,ty,pos,after,some (j,b)⟩) (hp:Pass ops l j b) (hs:Region.noSelect ops=true) (hf:Region.free .any ops lst i=true)
  (hr:(Region.ready .any ops lst).contains i=true) (hw:Zp7 ops L lst i=true) (hl:lst.setIfInBounds i true=lst') (h:WF C ops Mi Si L true fuel lst' k ((d,undef) :: l) M S):WF C ops Mi Si L true (fuel + 1) lst k l M S:=fun a w hF hL hH=>by
 subst hl
 exact Zrk ho hs hf hr hw (Zqg _ _) (.inr ⟨hp.not hF,rfl⟩) (hH rfl) (h _ w (hF.undef d) hL hH)
theorem wfv (i:Nat) {op:Op} {v:Value} (ho:ops[i]? = some ⟨some d,op,ty,pos,after,g⟩) (hv:Val C ⟨some d,op,ty,pos,after,g⟩ l Mi Si v) (hg:Gd ops l g) (hs:Region.noSelect ops=true) (hw:Zp7 ops L lst i=true)
  (h:WF C ops Mi Si L true fuel lst' k ((d,v) :: l) M S) (hd:Nat.ble (d + 1) C.n=true:=by rfl) (hf:Region.free .any ops lst i=true:=by kernel_rfl) (hr:(Region.ready .any ops lst).contains i=true:=by kernel_rfl)
  (hl:lst.setIfInBounds i true=lst':=by rfl):WF C ops Mi Si L true (fuel + 1) lst k l M S:=wf_v i ho hv hg hd hs hf hr hw hl h
theorem wfp (i:Nat) {op:Op} {j:Nat} {b:Bool} (ho:ops[i]? = some ⟨some d,op,ty,pos,after,some (j,b)⟩) (hp:Pass ops l j b) (hs:Region.noSelect ops=true) (hw:Zp7 ops L lst i=true)
  (h:WF C ops Mi Si L true fuel lst' k ((d,undef) :: l) M S) (hf:Region.free .any ops lst i=true:=by kernel_rfl) (hr:(Region.ready .any ops lst).contains i=true:=by kernel_rfl)
  (hl:lst.setIfInBounds i true=lst':=by rfl):WF C ops Mi Si L true (fuel + 1) lst k l M S:=wf_pass i ho hp hs hf hr hw hl h
def NxF (C:Cx) (ops:Array Oper) (Mi:List Ent) (Si:List Yva) (L:List Nat) (fuel:Nat) (lst:Array Bool) (k:List Item) (l:Fm) (M:List Ent) (S:List Yva):Prop:=(∀ e ∈ Mi,e ∈ M)∧(∀ s ∈ Si,s ∈ S)∧WF C ops Mi Si L true fuel lst k l M S
def NxL (C:Cx) (ops:Array Oper) (Mi:List Ent) (Si:List Yva) (L:List Nat) (fuel:Nat) (lst:Array Bool) (k:List Item) (l:Fm) (M:List Ent) (S:List Yva):Prop:=WF C ops Mi Si L false fuel lst k l M S
def On (C:Cx) (ops:Array Oper) (Mi:List Ent) (Si:List Yva) (L:List Nat) (hd:Bool) (fuel:Nat) (lst:Array Bool) (k:List Item) (i:Nat) (l:Fm) (M:List Ent) (S:List Yva):Prop :=
 (∃ d op ty pos after j b,ops[i]? = some ⟨some d,op,ty,pos,after,some (j,b)⟩∧Pass ops l j b∧(hd=true∨L.contains i=true)∧WF C ops Mi Si L hd fuel (lst.setIfInBounds i true) k ((d,undef) :: l) M S) ∨
 ∃ o,ops[i]? = some o∧Gd ops l o.guard∧((hd=true∧Stp C o l M S (NxF C ops Mi Si L fuel (lst.setIfInBounds i true) k))∨(L.contains i=true∧Stp C o l M S (NxL C ops Mi Si L fuel (lst.setIfInBounds i true) k)))
theorem Zdm {hd:Bool} (i:Nat) {o:Oper} (ho:ops[i]? = some o) (hg:Gd ops l o.guard) (hh:hd=true) (hs:Stp C o l M S (NxF C ops Mi Si L fuel (lst.setIfInBounds i true) k)):On C ops Mi Si L hd fuel lst k i l M S:=.inr ⟨o,ho,hg,.inl ⟨hh,hs⟩⟩
theorem Zi7 {hd:Bool} (i:Nat) {o:Oper} (ho:ops[i]? = some o) (hg:Gd ops l o.guard) (hc:L.contains i=true) (hs:Stp C o l M S (NxL C ops Mi Si L fuel (lst.setIfInBounds i true) k)):On C ops Mi Si L hd fuel lst k i l M S:=.inr ⟨o,ho,hg,.inr ⟨hc,hs⟩⟩
def OnAll (C:Cx) (ops:Array Oper) (Mi:List Ent) (Si:List Yva) (L:List Nat) (hd:Bool) (fuel:Nat) (lst:Array Bool) (k:List Item) (l:Fm) (M:List Ent) (S:List Yva):List Nat→Prop
 | []=>True
 | i :: r=>On C ops Mi Si L hd fuel lst k i l M S∧OnAll C ops Mi Si L hd fuel lst k l M S r
theorem Ywl {hd:Bool} (is:List Nat) (hr:Region.ready .any ops lst=is) (hne:is.isEmpty=false) (h:OnAll C ops Mi Si L hd fuel lst k l M S is):WF C ops Mi Si L hd (fuel + 1) lst k l M S:=fun a w hF hL hH=>by
 refine ⟨fun h0=>by { rw [hr] at h0; rw [h0] at hne; cases hne },?_⟩
 rw [hr]
 clear hr hne
 induction is with
 | nil=>intro i hi; cases hi
 | cons j r ih =>
  intro i hi
  rcases List.mem_cons.1 hi with rfl | hi
  ·rcases h.1 with ⟨d',op',ty',pos',after',j',b',ho,hp,hh,h1⟩ | ⟨o,ho,hg,h1⟩
   ·unfold Go.wpOp
    simp only [ho,hp.not hF,Bool.false_eq_true,if_false]
    refine ⟨fun hc=>?_,h1 _ w (hF.undef d') hL hH⟩
    rcases hh with hh | hh
    ·exact hH hh
    ·rw [hh] at hc; cases hc
   unfold Go.wpOp
   simp only [ho,Zjj hF hg,if_true]
   left
   rcases h1 with ⟨hh,hs⟩ | ⟨hc,hs⟩
   ·exact Oper.wp_mono (fun a' w' hx=>by
     obtain ⟨l2,M2,S2,h3,h4,h5,h6,h7⟩:=hx
     have hH':=(hH hh).mem h4 h5 h6
     exact ⟨fun _=>hH',h7 a' w' h3 h4 (fun _=>hH')⟩) (hs a w hF hL _)
   ·exact Oper.wp_mono (fun a' w' hx=>by
     obtain ⟨l2,M2,S2,h3,h4,h7⟩:=hx
     exact ⟨fun h9=>by { rw [hc] at h9; cases h9 },h7 a' w' h3 h4 (fun h9=>by cases h9)⟩) (hs a w hF hL _)
  ·exact ih h.2 i hi
theorem Yvx {hd:Bool} (hr:Region.ready .any ops lst=[]) (h:G C k l M S):WF C ops Mi Si L hd fuel lst k l M S:=fun a w hF hL _=>by
 cases fuel with
 | zero=>exact ⟨hr,rfl,h a w hF hL⟩
 | succ n=>exact ⟨fun _=>⟨rfl,h a w hF hL⟩,by { rw [hr]; intro i hi; cases hi }⟩
theorem Yv8 {hd:Bool} (t:Nat) {b b':Bool} (h1:look l t=some (.bool b)) (h2:b=b') (h:WF C ops Mi Si L hd fuel lst k ((t,.bool b') :: l) M S):WF C ops Mi Si L hd fuel lst k l M S:=fun a w hF hL=>h a w (hF.bool t h1 h2) hL
end wf
end Go.Proofs.YtadcichlnacagaaDoor.B
