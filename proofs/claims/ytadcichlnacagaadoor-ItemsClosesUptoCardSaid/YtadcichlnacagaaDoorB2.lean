/- Lemmas of my own on the machine: one rule for each operation. No condition. -/
import Derived.Test.YtadcichlnacagaaDoorB1
set_option linter.unusedVariables false
set_option linter.unusedSimpArgs false
namespace Go.Proofs.YtadcichlnacagaaDoor.B
open Go.RowKit

abbrev Ed:=Array Edge
abbrev Gu:=Option (Nat × Bool)
def Gd (ops:Array Oper) (l:Fm) (g:Gu):Prop:=g=none∨∃ j b t,g=some (j,b)∧(ops[j]?).bind (·.dst)=some t∧look l t=some (.bool b)
theorem gn {ops:Array Oper} {l:Fm}:Gd ops l none:=.inl rfl
theorem gy {ops:Array Oper} {l:Fm} {j:Nat} {b:Bool} (t:Nat) (h1:(ops[j]?).bind (·.dst)=some t) (h2:look l t=some (.bool b)):Gd ops l (some (j,b)):=.inr ⟨j,b,t,rfl,h1,h2⟩
theorem Znj {ops:Array Oper} {l:Fm} {n:Nat} {a:Act} (hF:Fr n l a) {j t:Nat} {b:Bool} (h1:(ops[j]?).bind (·.dst)=some t) (h2:look l t=some (.bool b)):yielded ops a.tmps j=some b:=by
  have h3:=hF.2.2 t _ h2
  unfold yielded
  rw [h1]
  simp only [Option.bind_some]
  have h4:a.tmps[t]? = some (.bool b):=by
    rw [Array.getD_eq_getD_getElem?] at h3
    cases h5:a.tmps[t]? with
    | none=>rw [h5] at h3; simp [undef] at h3
    | some u=>rw [h5] at h3; simpa using h3
  rw [h4]
theorem Zjj {ops:Array Oper} {l:Fm} {n:Nat} {a:Act} (hF:Fr n l a) {o:Oper} (hg:Gd ops l o.guard):Region.wanted o (yielded ops a.tmps)=true:=by
  rcases hg with h | ⟨j,b,t,h,h1,h2⟩
  · simp [Region.wanted,h]
  · simp [Region.wanted,h,Znj hF h1 h2]
theorem Zli {ops:Array Oper} {i:Nat} {o:Oper} (h:ops[i]? = some o):ops.toList.drop i=o :: ops.toList.drop (i + 1):=by
  have:ops.toList[i]? = some o:=by simpa using h
  obtain ⟨h1,h2⟩:=List.getElem?_eq_some_iff.1 this
  rw [List.drop_eq_getElem_cons h1,h2]

section ops
variable {C:Cx} {ops:Array Oper} {k:List Item} {l l':Fm} {M M':List Ent} {S S':List Yva} {ty:TypeId} {pos:String} {after:Ed} {g:Gu} {d:Nat}

def Val (C:Cx) (o:Oper) (l:Fm) (M:List Ent) (S:List Yva) (v:Value):Prop:=∀ a w,Fr C.n l a→Loc C.w0 w M S→(execOp a.eval o).run C.P w=.ok (.value v) w
def Ends (C:Cx) (Nx:Fm→List Ent→List Yva→Prop) (a:Act) (w:World):Prop:=∃ l M S,Fr C.n l a∧Loc C.w0 w M S∧Nx l M S
def Stp (C:Cx) (o:Oper) (l:Fm) (M:List Ent) (S:List Yva) (Nx:Fm→List Ent→List Yva→Prop):Prop:=∀ a w,Fr C.n l a→Loc C.w0 w M S→∀ Q,o.wp C.P a w (Ends C Nx) Q
theorem Yu2 (i:Nat) {op:Op} {v:Value} (ho:ops[i]? = some ⟨some d,op,ty,pos,after,g⟩) (hv:Val C ⟨some d,op,ty,pos,after,g⟩ l M S v) (hg:Gd ops l g) (hd:Nat.ble (d + 1) C.n=true) (h:WL C ops (i + 1) k ((d,v) :: l) M S):WL C ops i k l M S:=by
  intro a w hF hL
  rw [Zli ho]
  unfold wpList
  rw [if_pos (Zjj hF hg)]
  left
  unfold Oper.wp
  rw [hv a w hF hL]
  exact h _ w (hF.put (Nat.le_of_ble_eq_true hd) v) hL
theorem Yve (i:Nat) {o:Oper} (ho:ops[i]? = some o) (hs:Stp C o l M S (WL C ops (i + 1) k)) (hg:Gd ops l o.guard):WL C ops i k l M S:=by
  intro a w hF hL
  rw [Zli ho]
  unfold wpList
  rw [if_pos (Zjj hF hg)]
  left
  exact Oper.wp_mono (fun a' w' h=>let ⟨l',M',S',h1,h2,h3⟩:=h; h3 a' w' h1 h2) (hs a w hF hL _)
theorem Zns {op : Op} {Nx : Fm → List Ent → List Yva → Prop} (hd : Nat.ble (d + 1) C.n = true)
    (hr:∀ a w,Fr C.n l a→Loc C.w0 w M S→∃ v w' M' S',(execOp a.eval ⟨some d,op,ty,pos,after,g⟩).run C.P w=.ok (.value v) w'∧Loc C.w0 w' M' S'∧Nx ((d,v) :: l) M' S'):Stp C ⟨some d,op,ty,pos,after,g⟩ l M S Nx:=by
  intro a w hF hL Q
  obtain ⟨v,w',M',S',h1,h2,h3⟩:=hr a w hF hL
  unfold Oper.wp
  rw [h1]
  exact ⟨_,_,_,hF.put (Nat.le_of_ble_eq_true hd) v,h2,h3⟩
theorem s_do {op : Op} {Nx : Fm → List Ent → List Yva → Prop}
    (hr:∀ a w,Fr C.n l a→Loc C.w0 w M S→∃ w' M' S',(execOp a.eval ⟨none,op,ty,pos,after,g⟩).run C.P w=.ok .skip w'∧Loc C.w0 w' M' S'∧Nx l M' S'):Stp C ⟨none,op,ty,pos,after,g⟩ l M S Nx:=by
  intro a w hF hL Q
  obtain ⟨w',M',S',h1,h2,h3⟩:=hr a w hF hL
  unfold Oper.wp
  rw [h1]
  exact ⟨_,_,_,hF,h2,h3⟩
theorem Yu3 {x:Operand} {v:Value} (hx:evl l x=some v):Val C ⟨some d,.move x,ty,pos,after,g⟩ l M S (v) :=
  fun a w hF _=>by simp [execOp,hF.ev hx,Sem.run_pure]
theorem Yu7 {x:Operand} {v:Value} (hx:evl l x=some v):Val C ⟨some d,.assign x,ty,pos,after,g⟩ l M S (v) :=
  fun a w hF _=>by simp [execOp,hF.ev hx,Sem.run_pure]
theorem Yuk {c x y:Operand} {b:Bool} {v:Value} (hc:evl l c=some (.bool b)) (hv:evl l (cond b x y)=some v):Val C ⟨some d,.pick c x y,ty,pos,after,g⟩ l M S (v) :=
  fun a w hF _=>by
    have h1:=hF.ev hv
    cases b <;> simp [execOp,hF.ev hc,asBool,Sem.run_pure] <;> simpa using h1
def binV (op:BinOp) (k:IntKind) (x y:Int):Option Value :=
  match op with
  | .add=>some (.int k (k.wrap (x + y)))
  | .sub=>some (.int k (k.wrap (x - y)))
  | .mul=>some (.int k (k.wrap (x * y)))
  | .and=>some (.int k (Go.bits .and k x y))
  | .or=>some (.int k (Go.bits .or k x y))
  | .xor=>some (.int k (Go.bits .xor k x y))
  | .andNot=>some (.int k (Go.bits .andNot k x y))
  | .eql=>some (.bool (x == y))
  | .neq=>some (.bool (x != y))
  | .lss=>some (.bool (decide (x < y)))
  | .leq=>some (.bool (decide (x≤y)))
  | .gtr=>some (.bool (decide (x > y)))
  | .geq=>some (.bool (decide (x≥y)))
  | _=>none
theorem Yug {op:BinOp} {tx t2:TypeId} {x y:Operand} {kk:IntKind} {a b:Int} {v:Value} (hx:evl l x=some (.int kk a)) (hy:evl l y=some (.int kk b))
 (hv:binV op kk a b=some v):Val C ⟨some d,.binOp op tx x y t2,ty,pos,after,g⟩ l M S (v) :=
  fun a' w hF _=>by
    cases op <;> simp only [binV,Option.some.injEq,reduceCtorEq] at hv <;> subst hv <;>
      simp [execOp,hF.ev hx,hF.ev hy,eqGuard,binOp,Op.intArith,Op.intCmp,Op.intBits,Go.bits,Sem.run_pure,Sem.run_bind]
theorem v_shl {tx t2:TypeId} {x y:Operand} {kk k2:IntKind} {a b:Int} (hx:evl l x=some (.int kk a)) (hy:evl l y=some (.int k2 b)) (hb:0≤b):Val C ⟨some d,.binOp .shl tx x y t2,ty,pos,after,g⟩ l M S (.int kk (Zim kk a b)) :=
  fun a' w hF _=>by
    have:¬ b < 0:=by omega
    simp [execOp,hF.ev hx,hF.ev hy,eqGuard,binOp,Op.shift,this,Zim,Sem.run_pure,Sem.run_bind]
theorem Zny {tx t2:TypeId} {x y:Operand} {kk k2:IntKind} {a b:Int} (hx:evl l x=some (.int kk a)) (hy:evl l y=some (.int k2 b)) (hb:0≤b):Val C ⟨some d,.binOp .shr tx x y t2,ty,pos,after,g⟩ l M S (.int kk (Yvd kk a b)) :=
  fun a' w hF _=>by
    have:¬ b < 0:=by omega
    simp [execOp,hF.ev hx,hF.ev hy,eqGuard,binOp,Op.shift,this,Yvd,Sem.run_pure,Sem.run_bind]
theorem Zf9 {tx:TypeId} {x:Operand} {b:Bool} (hx:evl l x=some (.bool b)):Val C ⟨some d,.unOp .not tx x,ty,pos,after,g⟩ l M S (.bool (!b)) :=
  fun a' w hF _=>by simp [execOp,hF.ev hx,Op.unary,Sem.run_pure,Sem.run_bind]
theorem v_neg {tx:TypeId} {x:Operand} {kk:IntKind} {a:Int} (hx:evl l x=some (.int kk a)):Val C ⟨some d,.unOp .neg tx x,ty,pos,after,g⟩ l M S (.int kk (kk.wrap (0 - a))) :=
  fun a' w hF _=>by simp [execOp,hF.ev hx,Op.unary,Op.intArith,Sem.run_pure,Sem.run_bind]
theorem Zpk {t1 t2:TypeId} {x:Operand} {k1 k2:IntKind} {a:Int} (h1:∃ u,C.P.underlying t1=some u) (h2:C.P.underlying t2=some (.int k2)) (hx:evl l x=some (.int k1 a)):Val C ⟨some d,.convert t1 t2 x,ty,pos,after,g⟩ l M S (.int k2 (k2.wrap a)) :=
  fun a' w hF _=>by
    obtain ⟨u,h1⟩:=h1
    simp [execOp,hF.ev hx,convert,run_underlying h1,run_underlying h2,Conv.intToInt,Sem.run_pure,Sem.run_bind]
theorem v_eqS {tx t2:TypeId} {x y:Operand} {a b:ByteArray} (hx:evl l x=some (.string a)) (hy:evl l y=some (.string b)):Val C ⟨some d,.binOp .eql tx x y t2,ty,pos,after,g⟩ l M S (.bool (seq a b)) :=
  fun a' w hF _=>by simp [execOp,hF.ev hx,hF.ev hy,eqGuard,binOp,Op.stringOp,seq,Sem.run_pure,Sem.run_bind]
theorem v_len {t1 e:TypeId} {x:Operand} {A:Option Addr} {n c:Nat} (ht:C.P.underlying t1=some (.slice e)) (hx:evl l x=some (.slice A n c)):Val C ⟨some d,.call { callee:=.builtin .len,args:=#[x],argTypes:=#[t1] },ty,pos,after,g⟩ l M S (.int .i64 (n:Int)) :=
  fun a' w hF _=>by simp [execOp,hF.ev hx,resolve,invoke,builtin,Builtin.len_,run_underlying ht,goInt,Sem.run_pure,Sem.run_bind]
theorem Zja {x:Operand} {j:Nat} {vs:Array Value} {v:Value} (hx:evl l x=some (.tuple vs)) (hv:vs[j]? = some v):Val C ⟨some d,.extract x j,ty,pos,after,g⟩ l M S (v) :=
  fun a' w hF _=>by simp [execOp,hF.ev hx,Instr.extract,hv,Sem.run_pure,Sem.run_bind]
theorem Yuy {x:Operand} {a:Addr} (hx:evl l x=some (.pointer (some a))):Val C ⟨some d,.nilCheck x,ty,pos,after,g⟩ l M S (.pointer (some a)) :=
  fun a' w hF _=>by simp [execOp,hF.ev hx,Sem.run_pure,Sem.run_bind]
end ops
end Go.Proofs.YtadcichlnacagaaDoor.B
