/- Lemmas of my own on the machine: cuts, makes, stores, texts, what is compared. No condition. -/
import Derived.Test.YtadcichlnacagaaDoorB4
import Derived.Laws.StructEq
import Derived.Laws.Cover3
import Derived.Laws.Pointers
import Derived.Laws.Externs
import Derived.Lib.ConvBytes
set_option linter.unusedVariables false
set_option linter.unusedSimpArgs false
namespace Go.Proofs.YtadcichlnacagaaDoor.B
open Go.RowKit
theorem Yul {c A B:Prop} [Decidable c] (hc:c) (h:if c then A else B):A:=by rwa [if_pos hc] at h
theorem Yum {c A B:Prop} [Decidable c] (hc:¬ c) (h:if c then A else B):B:=by rwa [if_neg hc] at h
theorem eqi {a b:Int} (h:a=b):(a == b)=true:=beq_iff_eq.2 h
theorem nei {a b:Int} (h:¬ a=b):(a == b)=false:=beq_eq_false_iff_ne.2 h
theorem Zgg {a b:Int} (h:a=b):(a != b)=false:=by simp [bne,h]
theorem Zkm {a b:Int} (h:¬ a=b):(a != b)=true:=by simp [bne,h]
theorem nt {b:Bool} (h:b=false):(!b)=true:=by rw [h]; rfl
theorem nf {b:Bool} (h:b=true):(!b)=false:=by rw [h]; rfl
theorem bf {b:Bool} (h:¬ b=true):b=false:=Bool.eq_false_iff.2 h
theorem Zrc {x y:ByteArray} (h:x=y):seq x y=true:=by simp [seq,h]
theorem Zmk (bs:ByteArray):∀ (n i:Nat) (r:List UInt8),bs.size - i=n→ByteArray.toList.loop bs i r=r.reverse++bs.data.toList.drop i
  | 0,i,r,h=>by
    rw [ByteArray.toList.loop,if_neg (by omega),List.drop_eq_nil_of_le (by have:bs.data.toList.length=bs.size:=(by simp); omega)]
    simp
  | n + 1,i,r,h=>by
    have hi:i < bs.size:=by omega
    have hl : i < bs.data.toList.length := by have : bs.data.toList.length = bs.size := by simp
                                              omega
    rw [ByteArray.toList.loop,if_pos hi,Zmk bs n (i + 1) _ (by omega),List.drop_eq_getElem_cons hl]
    have:bs.get! i=bs.data.toList[i]:=by
      cases bs with
      | mk d =>
        have hd:i < d.size:=by simpa using hl
        show d[i]! = _
        simp [getElem!_pos,hd]
    simp [this]
theorem Zml (bs:ByteArray):bs.toList=bs.data.toList:=by
  rw [ByteArray.toList,Zmk bs _ 0 [] rfl]; simp
theorem Zr2 {x y:ByteArray} (h:¬ x=y):seq x y=false:=by
  refine Bool.eq_false_iff.2 fun e=>h ?_
  have e1:x.toList=y.toList:=by simpa [seq] using e
  rw [Zml,Zml] at e1
  cases x; cases y
  simp at e1
  simp [e1]
abbrev eI (k:IntKind) (x:Int):List Value:=[.int k x]
abbrev eB (x:Bool):List Value:=[.bool x]
abbrev eS (x:ByteArray):List Value:=[.string x]
theorem hlI (k:IntKind):∀ x,(eI k x).length=1:=fun _=>rfl
theorem hlB:∀ x,(eB x).length=1:=fun _=>rfl
def Zrf (P:Program) (t:TypeId):Option Nat :=
  match P.underlying t with
  | some .bool=>some 0
  | some (.int _)=>some 1
  | some .string=>some 2
  | _=>none
def eqF (P:Program):List Field→Option (List (Nat × Nat))
  | []=>some []
  | f :: r=>match Zrf P f.type,eqF P r with
    | some k, some q => if f.name = "_" then none else some ((f.offset, k) :: q)
    | _,_=>none
def eqK (P:Program) (T:TypeId):Option (List (Nat × Nat)) :=
  match P.underlying T with
  | some (.struct fs)=>if P.stoodInHeld T=false∧P.eqGuardType P.depth T=false then eqF P fs.toList else none
  | _=>none
def Zhc (k:Nat):Value→Value→Option Bool
  | .bool a,.bool b=>if k=0 then some (a == b) else none
  | .int j a,.int j' b=>if k=1∧j=j' then some (a == b) else none
  | .string a,.string b=>if k=2 then some (seq a b) else none
  | _,_=>none
def Zjt (xs ys:Array Value):List (Nat × Nat)→Option Bool
  | []=>some true
  | p :: r=>match xs[p.1]?,ys[p.1]? with
    | some a,some b=>match Zhc p.2 a b,Zjt xs ys r with
      | some x,some y=>some (x && y)
      | _,_=>none
    | _,_=>none
theorem Zqm {P:Program} {w:World} {t:TypeId} {k:Nat} (hk:Zrf P t=some k) {a b:Value} {r:Bool} (hr:Zhc k a b=some r) (d:Nat):(isAgg t).run P w=.ok false w∧(Op.equalIn (d + 1) t a b).run P w=.ok r w:=by
  unfold Zrf at hk
  split at hk
  · rename_i hu
    simp at hk
    subst hk
    refine ⟨by unfold isAgg; simp [run_underlying hu],?_⟩
    cases a <;> cases b <;> simp [Zhc] at hr
    subst hr
    exact run_equalIn_bool w d t _ _ hu
  · rename_i kk hu
    simp at hk
    subst hk
    refine ⟨by unfold isAgg; simp [run_underlying hu],?_⟩
    cases a <;> cases b <;> simp [Zhc] at hr
    obtain ⟨rfl,rfl⟩:=hr
    exact run_equalIn_int w d t _ _ _ _ hu
  · rename_i hu
    simp at hk
    subst hk
    refine ⟨by unfold isAgg; simp [run_underlying hu],?_⟩
    cases a <;> cases b <;> simp [Zhc] at hr
    subst hr
    exact run_equalIn_string w d t _ _ hu
  · cases hk
theorem Zkl {P:Program} {w:World} {xs ys:Array Value} (d:Nat):∀ (fs:List Field) (ks:List (Nat × Nat)),eqF P fs=some ks→∀ b,Zjt xs ys ks=some b→(Op.eqFields (d + 1) xs ys fs).run P w=.ok b w
  | [],ks,h,b,hb=>by simp [eqF] at h; subst h; simp [Zjt] at hb; subst hb; simp [Op.eqFields]
  | f :: r,ks,h,b,hb=>by
    simp only [eqF] at h
    split at h
    · rename_i k q h1 h2
      split at h
      · cases h
      · rename_i hn
        injection h with h
        subst h
        simp only [Zjt] at hb
        split at hb
        · rename_i u v hu hv
          split at hb
          · rename_i x y hx hy
            injection hb with hb
            subst hb
            obtain ⟨g1,g2⟩:=Zqm (w:=w) h1 hx d
            have ih:=Zkl (w:=w) d r q h2 y hy
            have p1:(part f.type xs f.offset).run P w=.ok u w:=by unfold part; simp [g1,hu]
            have p2:(part f.type ys f.offset).run P w=.ok v w:=by unfold part; simp [g1,hv]
            simp only [Op.eqFields,hn,ne_eq,not_false_iff,if_true,Sem.run_bind,p1,p2,g2,Result.andThen_ok]
            cases x
            · simp
            · simpa using ih
          · cases hb
        · cases hb
    · cases h
theorem eqK_run {P:Program} {w:World} {T:TypeId} {ks:List (Nat × Nat)} (hT:eqK P T=some ks) {xs ys:Array Value} {b:Bool} (hb:Zjt xs ys ks=some b):(Op.equalIn 10000 T (.agg xs) (.agg ys)).run P w=.ok b w∧P.eqGuardType P.depth T=false:=by
  unfold eqK at hT
  split at hT
  · rename_i fs hu
    split at hT
    · rename_i hc
      have hf:P.fieldsOf T=fs:=by simp [Program.fieldsOf,hu]
      refine ⟨?_,hc.2⟩
      rw [run_equalIn_struct w 9999 T xs ys (by rw [hf]; exact hu) hc.1,hf]
      exact Zkl 9998 _ _ hT b hb
    · cases hT
  · cases hT
theorem Zmv (x y:ByteArray):seq x y=decide (x=y):=by
  by_cases h:x=y
  · rw [Zrc h,decide_eq_true h]
  · rw [Zr2 h,decide_eq_false h]
def evA (l:Fm):List Operand→Option (List Value)
  | []=>some []
  | x :: r=>match evl l x,evA l r with
    | some v,some q=>some (v :: q)
    | _,_=>none
theorem Zl3 {l:Fm} {n:Nat} {a:Act} (hF:Fr n l a):∀ (xs:List Operand) (vs:List Value),evA l xs=some vs→xs.map a.eval=vs
  | [],vs,h=>by simp [evA] at h; subst h; rfl
  | x :: r,vs,h=>by
    simp only [evA] at h
    split at h
    · rename_i v q h1 h2
      injection h with h
      subst h
      simp [hF.ev h1,Zl3 hF r q h2]
    · cases h
section ops
variable {C:Cx} {ops:Array Oper} {k:List Item} {l l':Fm} {M M':List Ent} {S S':List Yva} {ty:TypeId} {pos:String} {after:Ed} {g:Gu} {d:Nat} {Nx:Fm→List Ent→List Yva→Prop} {F:Nat→Prop}
def mkK (P:Program) (T:Nat):Option (Nat × List Value × Nat) :=
  match P.underlying T with
  | some (.slice e)=>match P.info? e with
    | some ie=>match ie.zero with
      | some z=>if z.cells.size=ie.size then some (e,z.cells.toList,ie.bytes) else none
      | none=>none
    | none=>none
  | _=>none
theorem Zth {α:Type} {enc:α→List Value} {z:α} {zs:List Value} (hz:enc z=zs) (h0:0 < zs.length):∀ n:Nat,(madeCells zs.toArray (n * zs.length)).toList=(List.replicate n z).flatMap enc:=by
  have hl:∀ n,((List.replicate n z).flatMap enc).length=n * zs.length:=by
    intro n
    induction n with
    | zero=>simp
    | succ n ih=>rw [List.replicate_succ,List.flatMap_cons,List.length_append,ih,hz,Nat.add_mul]; omega
  have hg:∀ n q,q < n * zs.length→((List.replicate n z).flatMap enc)[q]? = zs[q % zs.length]?:=by
    intro n
    induction n with
    | zero=>intro q hq; omega
    | succ n ih =>
      intro q hq
      rw [List.replicate_succ,List.flatMap_cons,hz]
      by_cases h:q < zs.length
      · rw [List.getElem?_append_left h,Nat.mod_eq_of_lt h]
      · rw [List.getElem?_append_right (by omega),ih (q - zs.length) (by rw [Nat.add_mul] at hq; omega),Nat.mod_eq_sub_mod (by omega:zs.length≤q)]
  intro n
  apply List.ext_getElem?
  intro q
  by_cases hq:q < n * zs.length
  · rw [hg n q hq]
    have hm:q % zs.length < zs.length:=Nat.mod_lt _ h0
    simp [madeCells,hq,hm]
  · rw [List.getElem?_eq_none (by rw [Array.length_toList,size_madeCells]; omega),List.getElem?_eq_none (by rw [hl]; omega)]
theorem s_make {α : Type} {enc : α → List Value} {z : α} {T e bytes : Nat} {zs : List Value} {x y : Operand} {kk : IntKind} {i : Int} (hT : mkK C.P T = some (e, zs, bytes)) (hz : enc z = zs) (h0 : 0 < zs.length) (hx : evl l x = some (.int kk i)) (hy : evl l y = some (.int kk i)) (hi : 0 ≤ i) (hb : i * bytes ≤ 281474976710656) (hb0 : 0 < bytes) (hd : Nat.ble (d + 1) C.n = true)
    (h:∀ A,Ow C.w0.heap.size A i.toNat i.toNat (List.replicate i.toNat z)→Nx ((d,.slice A i.toNat i.toNat) :: l) (.own (.slice A i.toNat i.toNat) e zs.length i.toNat ((List.replicate i.toNat z).flatMap enc) :: M) S) :
    Stp C ⟨some d,.makeSlice T x y,ty,pos,after,g⟩ l M S Nx :=
  Zns hd fun a w hF hL=>by
    unfold mkK at hT
    split at hT
    · rename_i e' hu
      split at hT
      · rename_i ie hie
        split at hT
        · rename_i z' hz'
          split at hT
          · rename_i hsz
            simp only [Option.some.injEq,Prod.mk.injEq] at hT
            obtain ⟨rfl,rfl,rfl⟩:=hT
            obtain ⟨n,rfl⟩:=Int.eq_ofNat_of_zero_le hi
            have hb':ie.bytes * n≤281474976710656:=by
              have:((n * ie.bytes:Nat):Int)≤281474976710656:=by rw [Int.natCast_mul]; exact hb
              rw [Nat.mul_comm]; omega
            have hn:n≤281474976710656:=Nat.le_trans (Nat.le_mul_of_pos_left _ hb0) hb'
            have hsl:z'.cells.toList.length=ie.size:=by simpa using hsz
            obtain ⟨w',h1,h2,h3⟩:=run_make_full (P:=C.P) w 0 T e' ie z' ie.size hu hie hz' rfl kk kk n hb' (by unfold maxLen; omega) (Nat.zero_le _)
            rw [show (madeCells z'.cells (n * ie.size)).toList=(List.replicate n z).flatMap enc from by
              have:=Zth hz h0 n
              rw [hsl] at this
              simpa using this] at h2
            simp only [Int.toNat_natCast] at h ⊢
            rw [hsl] at h
            refine ⟨_,w',_,_,?_,hL.add (e:=.own (.slice (some ⟨w.heap.size,0,none⟩) n n) e' ie.size n ((List.replicate n z).flatMap enc)) (Chg.of_grown h3) (Yzb.of_owns h2) (fun b hb=>by simp [Ent.blk,Value.ownBlock] at hb; omega),h _ ⟨List.length_replicate.symm,fun _=>rfl,Nat.le_refl _,by unfold maxLen; omega,fun b hb=>by have:=hL.env.size; simp [Value.ownBlock] at hb; omega⟩⟩
            simp [execOp,hF.ev hx,hF.ev hy,h1,Sem.run_pure,Sem.run_bind]
          · cases hT
        · cases hT
      · cases hT
    · cases hT

theorem Zgm {α : Type} [Inhabited α] {z0 : Nat} {enc : α → List Value} {T m : Nat} {x y : Operand} {A : Option Addr} {o e sz n c : Nat} {i : Int} {xs ys : List α} {z : α} {vs : List Value} {v : Value} (j : Nat) (hl : ∀ x, (enc x).length = sz) (hT : szK C.P T = some m) (hx : evl l x = some (eA A (i.toNat * sz + o))) (hy : evl l y = some v)
    (hM:M[j]? = some (.own (.slice A n c) e sz n (xs.flatMap enc))) (hv:v.cells.toList=vs) (hm:vs.length=m) (hq:Ow z0 A n c xs) (hb:0≤i∧i < (xs.length:Int)) (h1:vs.all Value.oneCell'=true) (hz:Zar (enc (ix xs i)) o vs=enc z) (ho:Nat.ble (o + m) sz=true) (hys:ys=xs.set i.toNat z)
    (h:Ow z0 A n c ys→Nx l (M.set j (.own (.slice A n c) e sz n (ys.flatMap enc))) S):Stp C ⟨none,.store T x y,ty,pos,after,g⟩ l M S Nx:=by
  have ho':=Nat.le_of_ble_eq_true ho
  have hlt:i.toNat < xs.length:=by omega
  have hle:(i.toNat + 1) * sz≤xs.length * sz:=Nat.mul_le_mul_right _ hlt
  rw [Nat.add_mul,Nat.one_mul] at hle
  refine s_stO j hT hx hy hM hv hm (by rw [Zln hl]; omega) (by rw [hq.hq]; omega) h1 rfl ?_
  rw [fm_set hl hb hz (by rw [hm]; exact ho'),← hys]
  exact h (hq.w (by rw [hys,List.length_set]))
theorem Zqc {tx t2:TypeId} {x y:Operand} {xs ys:Array Value} {ks:List (Nat × Nat)} {b:Bool} (hT:eqK C.P tx=some ks) (hx:evl l x=some (.agg xs)) (hy:evl l y=some (.agg ys)) (hb:Zjt xs ys ks=some b):Val C ⟨some d,.binOp .neq tx x y t2,ty,pos,after,g⟩ l M S (.bool (!b)) :=
  fun a' w hF _=>by
    obtain ⟨h1,h2⟩:=eqK_run (w:=w) hT hb
    simp only [execOp,hF.ev hx,hF.ev hy,Sem.run_bind,run_eqGuard_agg w .neq tx x y xs ys h2,Result.andThen_ok,run_neq_struct,h1,Sem.run_pure]
structure Vw (sz:Nat) (A:Option Addr) (n lo m:Nat) (A':Option Addr):Prop where
  le:lo + m≤n
  eq:0 < m→A'=A.map (·.add (lo * sz))
theorem Vw.whole {sz:Nat} {A:Option Addr} {n:Nat}:Vw sz A n 0 n A:=⟨by omega,fun _=>by cases A <;> simp [Addr.add]⟩
theorem Vw.cut {sz:Nat} {A:Option Addr} {n:Nat} {lv hv mv:Int} (h0:0≤lv∧lv≤hv) (h1:hv≤(n:Int)) (hm:hv≤mv):Vw sz A n lv.toNat (hv.toNat - lv.toNat) (if mv.toNat=lv.toNat then A else A.map (·.add (lv.toNat * sz))):=⟨by omega,fun hp=>by rw [if_neg (by omega)]⟩
theorem Vw.prefix {sz:Nat} {A:Option Addr} {n m:Nat} (h:m≤n):Vw sz A n 0 m A:=⟨by omega,fun _=>by cases A <;> simp [Addr.add]⟩
theorem Vw.cel {sz:Nat} {A A':Option Addr} {n lo m:Nat} (h:Vw sz A n lo m A') (hA:A.isSome=true) (hp:0 < m) (w:World) (q:Nat):Zkr w A' q=Zkr w A (lo * sz + q):=by
  obtain ⟨a,rfl⟩:=Option.isSome_iff_exists.1 hA
  rw [h.eq hp]
  simp [Zkr,Zho]
theorem Cells.over {α:Type} {dk:Kd α} {w:World} {xs ys:List α} {cs ds:List Value} {lo:Nat} (h:Cells dk w F xs cs) (h2:Cells dk w F ys ds) (hl:lo + ys.length≤xs.length):Cells dk w F (xs.take lo++(ys++xs.drop (lo + ys.length))) (Zar cs (lo * dk.sz) ds):=by
  have hle:(lo + ys.length) * dk.sz≤xs.length * dk.sz:=Nat.mul_le_mul_right _ hl
  rw [Nat.add_mul] at hle
  rw [Zin _ _ _ (by rw [h.len,h2.len]; exact hle),List.append_assoc,h2.len,← Nat.add_mul]
  exact (h.take lo).app (h2.app (h.drop _))
end ops
end Go.Proofs.YtadcichlnacagaaDoor.B
