/- Lemmas of my own on the machine: one rule for each operation. No condition. -/
import Derived.Test.YtelafghkjlpojaaB1
set_option linter.unusedVariables false
set_option linter.unusedSimpArgs false
namespace Go.Proofs.Ytelafghkjlpojaa.B
open Go.RowKit

abbrev Ed:=Array Edge
abbrev Gu:=Option (Nat × Bool)
def Gd (ops:Array Oper) (l:Fm) (g:Gu):Prop:=g=none∨∃ j b t,g=some (j,b)∧(ops[j]?).bind (·.dst)=some t∧Ymh l t=some (.bool b)
theorem gn {ops:Array Oper} {l:Fm}:Gd ops l none:=.inl rfl
theorem gy {ops:Array Oper} {l:Fm} {j:Nat} {b:Bool} (t:Nat) (h1:(ops[j]?).bind (·.dst)=some t) (h2:Ymh l t=some (.bool b)):Gd ops l (some (j,b)):=.inr ⟨j,b,t,rfl,h1,h2⟩
theorem Yr5 {ops:Array Oper} {l:Fm} {n:Nat} {a:Act} (hF:Fr n l a) {j t:Nat} {b:Bool} (h1:(ops[j]?).bind (·.dst)=some t) (h2:Ymh l t=some (.bool b)):yielded ops a.tmps j=some b:=by
  have h3:=hF.2.2 t _ h2
  unfold yielded
  rw [h1]
  simp only [Option.bind_some]
  have h4:a.tmps[t]? = some (.bool b):=by
    rw [Array.getD_eq_getD_getElem?] at h3
    cases h5:a.tmps[t]? with
    | none=>rw [h5] at h3; simp [undef] at h3
    | some u=>rw [h5] at h3; simpa using h3
  rw [h4]
theorem Yo6 {ops:Array Oper} {l:Fm} {n:Nat} {a:Act} (hF:Fr n l a) {o:Oper} (hg:Gd ops l o.guard):Region.wanted o (yielded ops a.tmps)=true:=by
  rcases hg with h | ⟨j,b,t,h,h1,h2⟩
  · simp [Region.wanted,h]
  · simp [Region.wanted,h,Yr5 hF h1 h2]
theorem Ypl {ops:Array Oper} {i:Nat} {o:Oper} (h:ops[i]? = some o):ops.toList.drop i=o :: ops.toList.drop (i + 1):=by
  have:ops.toList[i]? = some o:=by simpa using h
  obtain ⟨h1,h2⟩:=List.getElem?_eq_some_iff.1 this
  rw [List.drop_eq_getElem_cons h1,h2]

section ops
variable {C:Cx} {ops:Array Oper} {k:List Item} {l l':Fm} {M M':List Ent} {S S':List Ygl} {ty:TypeId} {pos:String} {after:Ed} {g:Gu} {d:Nat}

def Val (C:Cx) (o:Oper) (l:Fm) (M:List Ent) (S:List Ygl) (v:Value):Prop:=∀ a w,Fr C.n l a→Loc C.w0 w M S→(execOp a.eval o).run C.P w=.ok (.value v) w
def Ends (C:Cx) (Nx:Fm→List Ent→List Ygl→Prop) (a:Act) (w:World):Prop:=∃ l M S,Fr C.n l a∧Loc C.w0 w M S∧Nx l M S
def Stp (C:Cx) (o:Oper) (l:Fm) (M:List Ent) (S:List Ygl) (Nx:Fm→List Ent→List Ygl→Prop):Prop:=∀ a w,Fr C.n l a→Loc C.w0 w M S→∀ Q,o.wp C.P a w (Ends C Nx) Q
theorem Yfx (i:Nat) {op:Op} {v:Value} (ho:ops[i]? = some ⟨some d,op,ty,pos,after,g⟩) (hv:Val C ⟨some d,op,ty,pos,after,g⟩ l M S v) (hg:Gd ops l g) (hd:Nat.ble (d + 1) C.n=true) (h:WL C ops (i + 1) k ((d,v) :: l) M S):WL C ops i k l M S:=by
  intro a w hF hL
  rw [Ypl ho]
  unfold wpList
  rw [if_pos (Yo6 hF hg)]
  left
  unfold Oper.wp
  rw [hv a w hF hL]
  exact h _ w (hF.put (Nat.le_of_ble_eq_true hd) v) hL
theorem Yh3 (i:Nat) {o:Oper} (ho:ops[i]? = some o) (hs:Stp C o l M S (WL C ops (i + 1) k)) (hg:Gd ops l o.guard):WL C ops i k l M S:=by
  intro a w hF hL
  rw [Ypl ho]
  unfold wpList
  rw [if_pos (Yo6 hF hg)]
  left
  exact Oper.wp_mono (fun a' w' h=>let ⟨l',M',S',h1,h2,h3⟩:=h; h3 a' w' h1 h2) (hs a w hF hL _)
theorem Yrh {op : Op} {Nx : Fm → List Ent → List Ygl → Prop} (hd : Nat.ble (d + 1) C.n = true)
    (hr:∀ a w,Fr C.n l a→Loc C.w0 w M S→∃ v w' M' S',(execOp a.eval ⟨some d,op,ty,pos,after,g⟩).run C.P w=.ok (.value v) w'∧Loc C.w0 w' M' S'∧Nx ((d,v) :: l) M' S'):Stp C ⟨some d,op,ty,pos,after,g⟩ l M S Nx:=by
  intro a w hF hL Q
  obtain ⟨v,w',M',S',h1,h2,h3⟩:=hr a w hF hL
  unfold Oper.wp
  rw [h1]
  exact ⟨_,_,_,hF.put (Nat.le_of_ble_eq_true hd) v,h2,h3⟩
theorem s_do {op : Op} {Nx : Fm → List Ent → List Ygl → Prop}
    (hr:∀ a w,Fr C.n l a→Loc C.w0 w M S→∃ w' M' S',(execOp a.eval ⟨none,op,ty,pos,after,g⟩).run C.P w=.ok .skip w'∧Loc C.w0 w' M' S'∧Nx l M' S'):Stp C ⟨none,op,ty,pos,after,g⟩ l M S Nx:=by
  intro a w hF hL Q
  obtain ⟨w',M',S',h1,h2,h3⟩:=hr a w hF hL
  unfold Oper.wp
  rw [h1]
  exact ⟨_,_,_,hF,h2,h3⟩
theorem Yg1 {x:Operand} {v:Value} (hx:evl l x=some v):Val C ⟨some d,.move x,ty,pos,after,g⟩ l M S (v) :=
  fun a w hF _=>by simp [execOp,hF.ev hx,Sem.run_pure]
theorem Yg3 {x:Operand} {v:Value} (hx:evl l x=some v):Val C ⟨some d,.assign x,ty,pos,after,g⟩ l M S (v) :=
  fun a w hF _=>by simp [execOp,hF.ev hx,Sem.run_pure]
theorem Ygv {c x y:Operand} {b:Bool} {v:Value} (hc:evl l c=some (.bool b)) (hv:evl l (cond b x y)=some v):Val C ⟨some d,.pick c x y,ty,pos,after,g⟩ l M S (v) :=
  fun a w hF _=>by
    have h1:=hF.ev hv
    cases b <;> simp [execOp,hF.ev hc,asBool,Sem.run_pure] <;> simpa using h1
def binV (op:BinOp) (k:IntKind) (x y:Int):Option Value :=
  match op with
  | .add=>some (.int k (k.wrap (x + y)))
  | .sub=>some (.int k (k.wrap (x - y)))
  | .mul=>some (.int k (k.wrap (x * y)))
  | .and=>some (.int k (Go.bits .and k x y))
  | .or=>some (.int k (Go.bits .or k x y))
  | .xor=>some (.int k (Go.bits .xor k x y))
  | .andNot=>some (.int k (Go.bits .andNot k x y))
  | .eql=>some (.bool (x == y))
  | .neq=>some (.bool (x != y))
  | .lss=>some (.bool (decide (x < y)))
  | .leq=>some (.bool (decide (x≤y)))
  | .gtr=>some (.bool (decide (x > y)))
  | .geq=>some (.bool (decide (x≥y)))
  | _=>none
theorem Ygh {op:BinOp} {tx t2:TypeId} {x y:Operand} {kk:IntKind} {a b:Int} {v:Value} (hx:evl l x=some (.int kk a)) (hy:evl l y=some (.int kk b))
 (hv:binV op kk a b=some v):Val C ⟨some d,.binOp op tx x y t2,ty,pos,after,g⟩ l M S (v) :=
  fun a' w hF _=>by
    cases op <;> simp only [binV,Option.some.injEq,reduceCtorEq] at hv <;> subst hv <;>
      simp [execOp,hF.ev hx,hF.ev hy,eqGuard,binOp,Op.intArith,Op.intCmp,Op.intBits,Go.bits,Sem.run_pure,Sem.run_bind]
theorem v_quo {tx t2:TypeId} {x y:Operand} {kk:IntKind} {a b:Int} (hx:evl l x=some (.int kk a)) (hy:evl l y=some (.int kk b)) (hb:b≠0):Val C ⟨some d,.binOp .quo tx x y t2,ty,pos,after,g⟩ l M S (.int kk (kk.wrap (a.tdiv b))) :=
  fun a' w hF _=>by simp [execOp,hF.ev hx,hF.ev hy,eqGuard,binOp,Op.intDiv,hb,Sem.run_pure,Sem.run_bind]
theorem v_shl {tx t2:TypeId} {x y:Operand} {kk k2:IntKind} {a b:Int} (hx:evl l x=some (.int kk a)) (hy:evl l y=some (.int k2 b)) (hb:0≤b):Val C ⟨some d,.binOp .shl tx x y t2,ty,pos,after,g⟩ l M S (.int kk (shlV kk a b)) :=
  fun a' w hF _=>by
    have:¬ b < 0:=by omega
    simp [execOp,hF.ev hx,hF.ev hy,eqGuard,binOp,Op.shift,this,shlV,Sem.run_pure,Sem.run_bind]
theorem Ymc {tx:TypeId} {x:Operand} {b:Bool} (hx:evl l x=some (.bool b)):Val C ⟨some d,.unOp .not tx x,ty,pos,after,g⟩ l M S (.bool (!b)) :=
  fun a' w hF _=>by simp [execOp,hF.ev hx,Op.unary,Sem.run_pure,Sem.run_bind]
theorem v_conv {t1 t2:TypeId} {x:Operand} {k1 k2:IntKind} {a:Int} (h1:∃ u,C.P.underlying t1=some u) (h2:C.P.underlying t2=some (.int k2)) (hx:evl l x=some (.int k1 a)):Val C ⟨some d,.convert t1 t2 x,ty,pos,after,g⟩ l M S (.int k2 (k2.wrap a)) :=
  fun a' w hF _=>by
    obtain ⟨u,h1⟩:=h1
    simp [execOp,hF.ev hx,convert,run_underlying h1,run_underlying h2,Conv.intToInt,Sem.run_pure,Sem.run_bind]
theorem v_len {t1 e:TypeId} {x:Operand} {A:Option Addr} {n c:Nat} (ht:C.P.underlying t1=some (.slice e)) (hx:evl l x=some (.slice A n c)):Val C ⟨some d,.call { callee:=.builtin .len,args:=#[x],argTypes:=#[t1] },ty,pos,after,g⟩ l M S (.int .i64 (n:Int)) :=
  fun a' w hF _=>by simp [execOp,hF.ev hx,resolve,invoke,builtin,Builtin.len_,run_underlying ht,goInt,Sem.run_pure,Sem.run_bind]
theorem Yo2 {x:Operand} {j:Nat} {vs:Array Value} {v:Value} (hx:evl l x=some (.tuple vs)) (hv:vs[j]? = some v):Val C ⟨some d,.extract x j,ty,pos,after,g⟩ l M S (v) :=
  fun a' w hF _=>by simp [execOp,hF.ev hx,Instr.extract,hv,Sem.run_pure,Sem.run_bind]
theorem Yr3 {x:Operand} {a:Addr} (hx:evl l x=some (.pointer (some a))):Val C ⟨some d,.nilCheck x,ty,pos,after,g⟩ l M S (.pointer (some a)) :=
  fun a' w hF _=>by simp [execOp,hF.ev hx,Sem.run_pure,Sem.run_bind]
end ops
end Go.Proofs.Ytelafghkjlpojaa.B
