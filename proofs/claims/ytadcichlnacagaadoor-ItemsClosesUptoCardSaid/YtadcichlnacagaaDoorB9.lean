/- Lemmas of my own on the machine: what my printed proofs use beside the rest. No condition. -/
import Derived.Test.YtadcichlnacagaaDoorB8
set_option linter.unusedVariables false
set_option linter.unusedSimpArgs false
namespace Go.Proofs.YtadcichlnacagaaDoor.B
open Go.RowKit
theorem Ow.weak {α:Type} {z z':Nat} {A:Option Addr} {n c:Nat} {xs:List α} (hz:z'≤z) (h:Ow z A n c xs):Ow z' A n c xs:=⟨h.hq,h.hA,h.hn,h.hm,fun b hb=>Nat.le_trans hz (h.hz b hb)⟩
theorem Vw.len {α:Type} {z sz:Nat} {A A':Option Addr} {n c lo m:Nat} {xs:List α} (hv:Vw sz A n lo m A') (ho:Ow z A n c xs):m=((xs.drop lo).take m).length:=by
  have h1:=hv.le
  have h2:=ho.hq
  rw [List.length_take,List.length_drop]
  omega
theorem Yzh {α:Type} {zs ys bs:List α} {m:Nat} (h:zs=ys++bs) (q:m=bs.length):zs.length=ys.length + m:=by rw [h,List.length_append,q]
theorem bigtake {cs:List Value} {n:Nat} (h:cs.length=n):(cs.drop 0).take n=cs:=by rw [List.drop_zero,← h,List.take_length]
theorem cut_all {α:Type} {n:Nat} {xs:List α} (h:n=xs.length):xs.take ((n:Int)).toNat=xs:=by rw [Int.toNat_natCast,h,List.take_length]
theorem Rw.pre {α:Type} {dk:Kd α} {w:World} {F:Nat→Prop} {A:Option Addr} {n c k:Nat} {xs:List α} (h:Rw dk w F A n c xs) (hk:k≤n):Rw dk w F A k c (xs.take k):=⟨by rw [List.length_take]; have:=h.hq; omega,Nat.le_trans hk h.hn,h.hm,h.row.take _⟩
theorem int_dec (a b:Int):(a == b)=decide (a=b):=rfl
theorem bool_dec (a b:Bool):(a == b)=decide (a=b):=rfl
section kinds
variable {α:Type}
def Kd.union (sz:Nat) (kn:Nat→Kd α) (hs:∀ m,(kn m).sz=sz):Kd α where
  sz:=sz
  K w F x cs:=∃ m,(kn m).K w F x cs
  len:=fun ⟨m,h⟩=>by rw [(kn m).len h,hs]
  one:=fun ⟨m,h⟩=>(kn m).one h
  mono:=fun ⟨m,h⟩ hF=>⟨m,(kn m).mono h hF⟩
theorem Rw.up {d d':Kd α} {w:World} {F:Nat→Prop} {A:Option Addr} {n c:Nat} {xs:List α} (hs:d'.sz=d.sz) (hK:∀ {x cs},d.K w F x cs→d'.K w F x cs) (h:Rw d w F A n c xs):Rw d' w F A n c xs:=⟨h.hq,h.hn,h.hm,h.row.1,fun j x hj=>by
  obtain ⟨cs,h1,h2⟩:=h.row.2 j x hj
  exact ⟨cs,hK h1,fun i u hu=>by rw [hs]; exact h2 i u hu⟩⟩
theorem Rw.level {sz:Nat} {kn:Nat→Kd α} (hs:∀ m,(kn m).sz=sz) (up:∀ m {w F x cs},(kn m).K w F x cs→(kn (m + 1)).K w F x cs) {w:World} {F:Nat→Prop} {A:Option Addr} {n c:Nat} {xs:List α} (h:Rw (Kd.union sz kn hs) w F A n c xs):∃ m,Rw (kn m) w F A n c xs:=by
  have ups:∀ {m q x cs},m≤q→(kn m).K w F x cs→(kn q).K w F x cs:=by
    intro m q x cs hmq hk
    induction hmq with
    | refl=>exact hk
    | step _ ih=>exact up _ ih
  have key:∀ k,∃ m,∀ j x,j < k→xs[j]? = some x→∃ cs,(kn m).K w F x cs∧∀ i u,cs[i]? = some u→Zkr w A (j * sz + i)=some u:=by
    intro k
    induction k with
    | zero=>exact ⟨0,fun j x hj=>by omega⟩
    | succ k ih =>
      obtain ⟨m,hm⟩:=ih
      cases hk:xs[k]? with
      | none => exact ⟨m, fun j x hj hx => hm j x (by rcases Nat.lt_or_ge j k with h1 | h1; · exact h1
                                                      · have:j=k:=by omega
                                                        subst this; rw [hk] at hx; cases hx) hx⟩
      | some y =>
        obtain ⟨cs,⟨q,h1⟩,h2⟩:=h.row.2 k y hk
        refine ⟨max m q,fun j x hj hx=>?_⟩
        rcases Nat.lt_or_ge j k with h3 | h3
        · obtain ⟨cs',h4,h5⟩:=hm j x h3 hx
          exact ⟨cs',ups (Nat.le_max_left _ _) h4,h5⟩
        · have:j=k:=by omega
          subst this
          rw [hk] at hx
          injection hx with hx
          subst hx
          exact ⟨cs,ups (Nat.le_max_right _ _) h1,h2⟩
  obtain ⟨m,hm⟩:=key xs.length
  refine ⟨m,h.hq,h.hn,h.hm,h.row.1,fun j x hj=>?_⟩
  obtain ⟨cs,h1,h2⟩:=hm j x (List.getElem?_eq_some_iff.1 hj).1 hj
  exact ⟨cs,h1,fun i u hu=>by rw [hs]; exact h2 i u hu⟩
end kinds
section ops
variable {C:Cx} {ops:Array Oper} {k:List Item} {l l':Fm} {M M':List Ent} {S S':List Yva} {ty:TypeId} {pos:String} {after:Ed} {g:Gu} {d:Nat} {Nx:Fm→List Ent→List Yva→Prop} {F:Nat→Prop}
theorem Zdd {α : Type} {xs : List α} {T n e sz : Nat} {ps : Array (Nat × Operand)} {pv : List (Nat × Value)} {zs : Array Value} (cells : List Value) (hT : Zkf C.P T n = some (e, sz, zs)) (hp : evP l ps.toList = some pv)
    (hf:Instr.fill (fun i=>some (i * sz,sz)) zs pv=some cells.toArray) (hs:cells.length=n * sz) (hm:Nat.ble n 1000000=true) (hq:n=xs.length) (hd:Nat.ble (d + 1) C.n=true)
    (h:∀ gb,Ow C.w0.heap.size (some ⟨gb,0,none⟩) n n xs→Nx ((d,.slice (some ⟨gb,0,none⟩) n n) :: l) (.own (.slice (some ⟨gb,0,none⟩) n n) e sz n cells :: M) S):Stp C ⟨some d,.buildSlice T n ps,ty,pos,after,g⟩ l M S Nx :=
  Zns hd fun a w hF hL=>by
    have h1:=Zni hF ps.toList pv hp
    have h2:(ps.map fun (i,x)=>(i,a.eval x)).toList=pv:=by simpa using h1
    have hm':n≤maxLen:=by have:=Nat.le_of_ble_eq_true hm; unfold maxLen; omega
    refine ⟨.slice (some ⟨w.heap.size,0,none⟩) n n,w.alloc (.cells cells.toArray e),_,_,?_,by simpa using hL.lit e sz n cells.toArray hm' (by simpa using hs),h _ ⟨hq,fun _=>rfl,Nat.le_refl _,hm',fun b hb=>by have:=hL.env.size; simp [Value.ownBlock] at hb; omega⟩⟩
    have hrun:=run_lit (P:=C.P) (w:=w) (pv:=ps.map fun (i,x)=>(i,a.eval x)) hT (by rw [h2]; exact hf)
    simp only [execOp,Sem.run_bind,hrun,Result.andThen_ok,Sem.run_pure]
theorem Zib {α : Type} {enc : α → List Value} {z : α} {T e bytes : Nat} {zs : List Value} {x y : Operand} {kk : IntKind} {i : Int} {xs : List α} (hT : mkK C.P T = some (e, zs, bytes)) (hz : enc z = zs) (h0 : 0 < zs.length) (hx : evl l x = some (.int kk i)) (hy : evl l y = some (.int kk i)) (hi : 0 ≤ i) (hb : i * bytes ≤ 281474976710656) (hb0 : 0 < bytes) (hxs : xs = List.replicate i.toNat z) (hd : Nat.ble (d + 1) C.n = true)
    (h:∀ A,Ow C.w0.heap.size A i.toNat i.toNat xs→Nx ((d,.slice A i.toNat i.toNat) :: l) (.own (.slice A i.toNat i.toNat) e zs.length i.toNat (xs.flatMap enc) :: M) S) :
    Stp C ⟨some d,.makeSlice T x y,ty,pos,after,g⟩ l M S Nx:=by
  subst hxs
  exact s_make hT hz h0 hx hy hi hb hb0 hd h
theorem Src.ownAll {α:Type} {dk:Kd α} {z:Nat} {A:Option Addr} {e n c:Nat} {cs:List Value} {xs:List α} {w:World} (j:Nat) (hM:M[j]? = some (.own (.slice A n c) e dk.sz n cs)) (ho:Ow z A n c xs) (hC:Cells dk w F xs cs):Src C M S A n dk.sz cs:=by
  have h:=Src.own (C:=C) (S:=S) (m:=n) j hM ho hC (Nat.le_refl _)
  rwa [List.take_of_length_le (by rw [hC.len,← ho.hq]; exact Nat.le_refl _)] at h
theorem Src.ownF {α:Type} {sz:Nat} {enc:α→List Value} {hl:∀ x,(enc x).length=sz} {h1:∀ x,∀ u ∈ enc x,u.oneCell'=true} {z:Nat} {A:Option Addr} {e n c:Nat} {xs:List α} (j:Nat) (hM:M[j]? = some (.own (.slice A n c) e sz n (xs.flatMap enc))) (ho:Ow z A n c xs):Src C M S A n sz (xs.flatMap enc) :=
  Src.ownAll (dk:=Kd.flat sz enc hl h1) (w:=C.w0) (F:=fun _=>True) j hM ho (Cells.flat xs)
theorem Zf5 {T e sz:Nat} {x y:Operand} {A:Option Addr} {n c:Nat} {kk:IntKind} {i:Int} (hT:slE C.P T=some (e,sz)) (hx:evl l x=some (.slice A n c)) (hy:evl l y=some (.int kk i)) (hi:0≤i∧i≤(c:Int)) (hnc:n≤c) {n':Nat} (hn':i.toNat=n'):Val C ⟨some d,.slice T x none (some y) none,ty,pos,after,g⟩ l M S (.slice A n' c) :=
  fun a w hF _=>by
    subst hn'
    have h:=run_cut (P:=C.P) (w:=w) (A:=A) (n:=n) (c:=c) hT none (some i) .i64 kk (fun i h=>by cases h) (fun i h=>by cases h; exact hi) (by simp) hnc
    simp only [Option.map_none,Option.map_some,Option.getD_none,Option.getD_some,Nat.sub_zero,Nat.zero_mul] at h
    have hA:(if c=0 then A else A.map fun x=>x.add 0)=A:=by
      split
      · rfl
      · cases A <;> simp [Addr.add]
    rw [hA] at h
    simp [execOp,hF.ev hx,hF.ev hy,h,Sem.run_pure,Sem.run_bind]
theorem Yuo {t1 e:TypeId} {x:Operand} {A:Option Addr} {n m c:Nat} (ht:C.P.underlying t1=some (.slice e)) (hx:evl l x=some (.slice A n c)) (hq:n=m):Val C ⟨some d,.call { callee:=.builtin .len,args:=#[x],argTypes:=#[t1] },ty,pos,after,g⟩ l M S (.int .i64 (m:Int)):=hq ▸ v_len ht hx
end ops
end Go.Proofs.YtadcichlnacagaaDoor.B
