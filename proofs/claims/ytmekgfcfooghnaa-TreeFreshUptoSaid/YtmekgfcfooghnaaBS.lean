/- Lemmas of my own on the machine: strings.Builder: its own address in a cell, bytes taken out as a text, a text's bytes appended. No condition. -/
import Derived.Test.YtmekgfcfooghnaaB9
import Derived.Lib.Builder
import Derived.Lib.UnsafeStr
import Derived.Lib.AppendStr
set_option linter.unusedVariables false
set_option linter.unusedSimpArgs false
namespace Go.Proofs.Ytmekgfcfooghnaa.B
open Go.RowKit
abbrev Xrd (g:Nat) (b:Bool):Value:=.pointer (cond b (some ⟨g,0,none⟩) none)
section ops
variable {C:Cx} {ops:Array Oper} {k:List Item} {l l':Fm} {M M':List Ent} {S S':List Xmq} {ty:TypeId} {pos:String} {after:Ed} {g:Gu} {d:Nat} {Nx:Fm→List Ent→List Xmq→Prop}
theorem run_eqPN {P:Program} {w:World} {t e:TypeId} (ht:P.underlying t=some (.pointer e)):(Op.equal t (.pointer none) (.pointer none)).run P w=.ok true w:=by
 have h:∀ d:Nat,(Op.equalIn (d + 1) t (.pointer none) (.pointer none)).run P w=.ok true w:=fun d=>by
  simp [Op.equalIn,run_underlying ht]
 exact h 9999
theorem v_eqSelf {tx t2 e:TypeId} {x y:Operand} {gb:Nat} {b:Bool} (ht:C.P.underlying tx=some (.pointer e)) (hx:evl l x=some (Xrd gb b)) (hy:evl l y=some (.pointer none)):Val C ⟨some d,.binOp .eql tx x y t2,ty,pos,after,g⟩ l M S (.bool (!b)) :=
 match b,hx with
 | true,hx=>v_eqNP ht hx hy
 | false,hx=>fun a' w hF _=>by
  have h:=run_eqPN (P:=C.P) (w:=w) ht
  have hx':evl l x=some (.pointer none):=hx
  simp only [execOp,hF.ev hx',hF.ev hy,eqGuard,binOp,Sem.run_bind,Sem.run_pure]
  simp [h]
def ptK (P:Program) (t:TypeId):Bool:=match P.underlying t with
 | some (.pointer e)=>match P.info? e with
  | some i=>decide (i.size≠0)
  | none=>false
 | _=>false
theorem Ycz {P:Program} {t:TypeId} (h:ptK P t=true):∃ e i,P.underlying t=some (.pointer e)∧P.info? e=some i∧i.size≠0:=by
 unfold ptK at h
 split at h
 ·rename_i e he
  split at h
  ·rename_i i hi
   exact ⟨e,i,he,hi,of_decide_eq_true h⟩
  ·cases h
 ·cases h
theorem v_neSelf {tx t2:TypeId} {x y:Operand} {gb:Nat} {b:Bool} (ht:ptK C.P tx=true) (hx:evl l x=some (Xrd gb b)) (hy:evl l y=some (.pointer (some ⟨gb,0,none⟩))):Val C ⟨some d,.binOp .neq tx x y t2,ty,pos,after,g⟩ l M S (.bool (!b)) :=
 match b,hx with
 | true,hx=>fun a' w hF _=>by
  obtain ⟨e,i,h1,h2,h3⟩:=Ycz ht
  have h:=Lib.run_neq_ptr_same (P:=C.P) w ⟨gb,0,none⟩ h1 h2
  have hx':evl l x=some (.pointer (some ⟨gb,0,none⟩)):=hx
  simp only [execOp,hF.ev hx',hF.ev hy,eqGuard,Sem.run_bind,Sem.run_pure]
  simp [h]
 | false,hx=>fun a' w hF _=>by
  obtain ⟨e,i,h1,h2,h3⟩:=Ycz ht
  have h:=(Yhj (P:=C.P) (w:=w) h1 ⟨gb,0,none⟩).2
  have hx':evl l x=some (.pointer none):=hx
  simp only [execOp,hF.ev hx',hF.ev hy,eqGuard,binOp,Sem.run_bind,Sem.run_pure]
  simp [h]
theorem Ydz {w:World} {gb:Nat} {T:TypeId} {cs:List Value} (h:(Ent.box gb T cs).ok w):w.shape? gb=some (T,cs.length):=by
 have h':w.heap[gb]? = some (.cells cs.toArray T (0,0)):=h
 simp [World.shape?,h']
theorem v_toU {t1 t2 Tb:TypeId} {x:Operand} {gb o:Nat} {cs:List Value} (j:Nat) (h1:ptK C.P t1=true) (h2:C.P.underlying t2=some .unsafePointer) (hx:evl l x=some (.pointer (some ⟨gb,o,none⟩))) (hM:M[j]? = some (.box gb Tb cs)) (ho:Nat.ble (o + 1) cs.length=true) :
  Val C ⟨some d,.convert t1 t2 x,ty,pos,after,g⟩ l M S (.pointer (some ⟨gb,o,none⟩)) :=
 fun a' w hF hL=>by
  obtain ⟨e,i,h3,h4,h5⟩:=Ycz h1
  have h:=Lib.run_to_unsafe (P:=C.P) w ⟨gb,o,none⟩ h3 h2 h4 h5 (Ydz (hL.ok _ (List.mem_iff_getElem?.2 ⟨j,hM⟩))) (Nat.le_of_ble_eq_true ho)
  simp [execOp,hF.ev hx,h,Sem.run_pure,Sem.run_bind]
def lieK (P:Program) (t Tb n o:Nat):Bool:=match P.underlying t with
 | some (.pointer e)=>(P.info? e).isSome && liesAt P P.depth Tb (n / P.cellsOf Tb) o e 1
 | _=>false
theorem v_fromU {t1 t2 Tb n:TypeId} {x:Operand} {gb o:Nat} {cs:List Value} (j:Nat) (h1:C.P.underlying t1=some .unsafePointer) (h2:lieK C.P t2 Tb n o=true) (hx:evl l x=some (.pointer (some ⟨gb,o,none⟩))) (hM:M[j]? = some (.box gb Tb cs)) (hn:cs.length=n) :
  Val C ⟨some d,.convert t1 t2 x,ty,pos,after,g⟩ l M S (.pointer (some ⟨gb,o,none⟩)) :=
 fun a' w hF hL=>by
  subst hn
  unfold lieK at h2
  split at h2
  ·rename_i e he
   rw [Bool.and_eq_true] at h2
   obtain ⟨i,hi⟩:=Option.isSome_iff_exists.1 h2.1
   have h:=Lib.run_from_unsafe (P:=C.P) w ⟨gb,o,none⟩ h1 he hi (Ydz (hL.ok _ (List.mem_iff_getElem?.2 ⟨j,hM⟩))) h2.2
   simp [execOp,hF.ev hx,h,Sem.run_pure,Sem.run_bind]
  ·cases h2
theorem Yg9 {P:Program} (v:Value) (w:World):(Extern.AbiNoEscape.same [v].toArray).run P w=.ok v w:=rfl
theorem Ycs {w:World} {gb e sz n c:Nat} {cells:List Value} (h:Xok w e sz (.slice (some ⟨gb,0,none⟩) n c) n cells):w.shape? gb=some (e,c * sz):=by
 rcases h.2 with ⟨hv,_⟩ | ⟨g',cap,cur,fz,hv,hg,_,_,_,hs,_⟩
 ·cases hv
 ·injection hv with e1 e2 e3
  injection e1 with e1
  injection e1 with e1
  subst e1; subst e3
  simp [World.shape?,hg,hs]
theorem s_slData {t1 e e2:TypeId} {sz n c:Nat} {x:Operand} {A:Option Addr} {cells:List Value} (j:Nat) (ht:C.P.underlying ty=some (.pointer e)) (hx:evl l x=some (.slice A n c)) (hM:M[j]? = some (.own (.slice A n c) e2 sz n cells)) (hd:Nat.ble (d + 1) C.n=true)
  (h:∀ p:Option Addr,p=A∨n=0→Nx ((d,.pointer p) :: l) M S):Stp C ⟨some d,.call { callee:=.builtin .unsafeSliceData,args:=#[x],argTypes:=#[t1] },ty,pos,after,g⟩ l M S Nx :=
 Xxt hd fun a w hF hL=>by
  have hown:Xok w e2 sz (.slice A n c) n cells:=hL.ok _ (List.mem_iff_getElem?.2 ⟨j,hM⟩)
  obtain ⟨A',c',hv,h1,h2,h3⟩:=hown.form
  injection hv with e1 _ e3
  subst e1; subst e3
  rcases A with _ | ad
  ·have hr:=Lib.run_unsafeSliceData_nil (P:=C.P) w #[t1] ty n c
   exact ⟨_,w,M,S,by simp [execOp,resolve,invoke,builtin,hF.ev hx,hr,Sem.run_pure,Sem.run_bind],hL,h none (.inl rfl)⟩
  ·by_cases hc:c=0
   ·subst hc
    have hn0:n=0:=by omega
    subst hn0
    obtain ⟨gb,rfl⟩:∃ gb,ad=⟨gb,0,none⟩:=by
     rcases hown.2 with ⟨hv,_⟩ | ⟨g',cap,cur,fz,hv,_⟩
     ·cases hv
     ·injection hv with e1 e2 e3
      injection e1 with e1
      exact ⟨g',e1⟩
    have hr:=Lib.run_unsafeSliceData_zero (P:=C.P) w #[t1] ty e ht ⟨gb,0,none⟩ 0 _ (Ycs hown)
    exact ⟨.pointer (some ⟨w.heap.size,0,none⟩),w.alloc (.view ⟨gb,0,none⟩ e),M,S,by simp [execOp,resolve,invoke,builtin,hF.ev hx,hr,Sem.run_pure,Sem.run_bind],hL.same (Chg.alloc w _ []),h _ (.inr rfl)⟩
   ·have hr:=Lib.run_unsafeSliceData_row (P:=C.P) w #[t1] ty ad n c hc
    exact ⟨_,w,M,S,by simp [execOp,resolve,invoke,builtin,hF.ev hx,hr,Sem.run_pure,Sem.run_bind],hL,h _ (.inl rfl)⟩
theorem Loc.lose {w0 w w':World} {M:List Ent} {S:List Xmq} {j:Nat} {e:Ent} (h:Loc w0 w M S) (hj:M[j]? = some e) (hc:Chg e.blk w w'):Loc w0 w' (M.eraseIdx j) S:=by
 have h1:=h.upd (e':=.deep .nilIface [] fun _=>True) hj hc ⟨fun b hb=>(by cases hb),fun _ _ _=>trivial⟩ (fun b hb=>(by cases hb))
 refine h1.drop ?_ (fun s h=>h)
 have e2:(M.set j (.deep .nilIface [] fun _=>True)).eraseIdx j=M.eraseIdx j:=List.eraseIdx_set_eq
 rw [← e2]
 exact List.eraseIdx_sublist _ _
theorem Ydo {P:Program} {w:World}:∀ (xs:List Int) (a:Addr) (acc:ByteArray),(∀ (j:Nat) x,xs[j]? = some x→w.cell? (a.add j)=some (.int .u8 x)) →
  (loadBytes a acc xs.length).run P w=.ok ⟨acc.data++(xs.map fun x=>UInt8.ofNat x.toNat).toArray⟩ w
 | [],a,acc,_=>by simp [loadBytes]
 | x :: xs,a,acc,h=>by
  have h0:w.cell? a=some (.int .u8 x):=by
   have:=h 0 x rfl
   simpa [Addr.add] using this
  have ih:=Ydo (P:=P) (w:=w) xs (a.add 1) (acc.push (UInt8.ofNat x.toNat)) (fun j y hy=>by
   have:=h (j + 1) y (by simpa using hy)
   rw [Xwz]
   rw [Nat.add_comm 1 j]
   exact this)
  have hx:(x.toNat).toUInt8=UInt8.ofNat x.toNat:=rfl
  simp only [List.length_cons,loadBytes,Sem.run_bind,run_load,h0,Result.andThen,hx]
  rw [ih]
  congr 1
  apply ByteArray.ext
  simp [ByteArray.push]
theorem Ygd (w:World) (p:Addr) (n:Nat):Chg [p.block] w (w.freeze p n):=by
 unfold World.freeze
 split
 ·exact Chg.refl _ w
 ·exact ⟨⟨rfl,rfl,rfl,by simp⟩,fun b _ hn=>by
   simp only [Array.getElem?_modify]
   rw [if_neg (fun e=>hn (by simp [e]))]⟩
def byK (P:Program) (t e:TypeId):Bool:=match P.underlying t with
 | some (.pointer e')=>Nat.beq e' e && Nat.beq (P.cellsOf e) 1
 | _=>false
theorem run_ustr {P:Program} {w:World} {pt it ty e:TypeId} (hb:byK P pt e=true) (gb cells:Nat) (hsh:w.shape? gb=some (e,cells)) (xs:List Int) (h0:xs≠[]) (hn:xs.length≤cells) (h63:xs.length≤9223372036854775807)
  (hcell:∀ (j:Nat) x,xs[j]? = some x→w.cell? ((⟨gb,0,none⟩:Addr).add j)=some (.int .u8 x)) :
  (Builtin.unsafeString_ #[pt,it] ty #[.pointer (some ⟨gb,0,none⟩),.int .i64 (xs.length:Int)]).run P w=.ok (.string (Xz3 xs)) (w.freeze ⟨gb,0,none⟩ xs.length):=by
 unfold byK at hb
 split at hb
 ·rename_i e' hp
  rw [Bool.and_eq_true] at hb
  obtain rfl:=Nat.eq_of_beq_eq_true hb.1
  have hc:=Nat.eq_of_beq_eq_true hb.2
  have hl:xs.length≠0:=by simpa using h0
  have hlb:=Ydo (P:=P) (w:=w) xs ⟨gb,0,none⟩ .empty hcell
  have hlies:=Lib.liesAt_bytes (P:=P) hc (cells / P.cellsOf e') xs.length (by rw [hc]; simpa using hn)
  have h63':¬ (9223372036854775807:Int) < (xs.length:Int):=by omega
  have hdef:Builtin.unsafeString_ #[pt,it] ty #[.pointer (some ⟨gb,0,none⟩),.int .i64 (xs.length:Int)] =
    (do
     let n ← asInt (.int .i64 (xs.length:Int))
     if n < 0 then runtimePanic (.error "unsafe.String: len out of range")
     if n > IntKind.i64.max then unsupported (.unsafePointer "String: a length above the largest int")
     if n=0 then pure (.string .empty)
     else if ← variablesAt ⟨gb,0,none⟩ (← elemOf pt) n.toNat then do
      let s ← loadBytes ⟨gb,0,none⟩ .empty n.toNat
      freeze ⟨gb,0,none⟩ n.toNat
      pure (.string s)
     else unsupported (.unsafePointer "String: not so many bytes at ptr")) := rfl
  rw [hdef]
  have hmax:IntKind.i64.max=9223372036854775807:=rfl
  have hneg:¬ (xs.length:Int) < 0:=by omega
  simp [asInt,asIntOf,hmax,h63',hneg,hl,variablesAt,hsh,elemOf,run_underlying hp,hlies,hlb]
  rfl
 ·cases hb
theorem s_ustr {z pt it e n c:Nat} {x y:Operand} {p A:Option Addr} {xs:List Int} (j:Nat) (hb:byK C.P pt e=true) (hx:evl l x=some (.pointer p)) (hp:p=A∨n=0) (hy:evl l y=some (.int .i64 ((xs.length:Nat):Int))) (ho:Ow z A n c xs) (hM:M[j]? = some (.own (.slice A n c) e 1 n (xs.flatMap (eI .u8)))) (hd:Nat.ble (d + 1) C.n=true)
  (h:Nx ((d,.string (Xz3 xs)) :: l) (M.eraseIdx j) S):Stp C ⟨some d,.call { callee:=.builtin .unsafeString,args:=#[x,y],argTypes:=#[pt,it] },ty,pos,after,g⟩ l M S Nx :=
 Xxt hd fun a w hF hL=>by
  have hown:Xok w e 1 (.slice A n c) n (xs.flatMap (eI .u8)):=hL.ok _ (List.mem_iff_getElem?.2 ⟨j,hM⟩)
  by_cases h0:xs=[]
  ·subst h0
   have hr:=Lib.run_unsafeString_none (P:=C.P) w pt it ty p
   exact ⟨_,w,_,_,by simp [execOp,resolve,invoke,builtin,hF.ev hx,hF.ev hy,hr,Sem.run_pure,Sem.run_bind]; rfl,hL.lose hM (Chg.refl _ w),h⟩
  ·have hl:xs.length≠0:=by simpa using h0
   have hn:=ho.hq
   have hpA:p=A:=hp.resolve_right (by omega)
   subst hpA
   obtain ⟨gb,rfl⟩:=hown.addr (by omega)
   have hm:=ho.hm
   have hnc:=ho.hn
   have hr:=run_ustr (P:=C.P) (w:=w) (it:=it) (ty:=ty) hb gb _ (Ycs hown) xs h0 (by omega) (by unfold maxLen at hm; omega) (fun q u hq=>by
    rw [Xts,Nat.zero_add,hown.cellAt q (by have:=(List.getElem?_eq_some_iff.1 hq).1; omega),Ygq,List.getElem?_map,hq]
    rfl)
   exact ⟨.string (Xz3 xs),w.freeze ⟨gb,0,none⟩ xs.length,_,_,by simp [execOp,resolve,invoke,builtin,hF.ev hx,hF.ev hy,hr,Sem.run_pure,Sem.run_bind],hL.lose hM (Ygd w _ _),h⟩
theorem Yfo (s:ByteArray):Lib.strCells s=(Xnr s).flatMap (eI .u8):=by
 rw [Ygq]
 simp [Lib.strCells,Xnr]
theorem Xok.appendS {w:World} {P:Program} (t u ty e:TypeId) {i:TypeInfo} {v:Value} {n:Nat} {xs:List Value} (ht:P.underlying t=some (.slice e)) (hu:P.underlying u=some .string) (hi:P.info? e=some i) (hz:i.zero=some (.int .u8 0)) (hsize:i.size=1) (hby:i.bytes=1)
  (hown:Xok w e 1 v n xs) (s:ByteArray) (h63:n + s.size≤maxLen) (hbytes:(n + s.size) * 1≤211106232532992) :
  ∃ v' w',(Builtin.append_ #[t,u] ty #[v,.string s]).run P w=.ok v' w'∧Xok w' e 1 v' (n + s.size) (xs++Lib.strCells s)∧w.grownBy w' v.ownBlock∧(v'.ownBlock=v.ownBlock∨v'.ownBlock=some w.heap.size):=by
 have h63':n + s.size≤9223372036854775807:=by simp only [maxLen] at h63; omega
 have hxl:xs.length=n:=by simpa using hown.1
 have hsl:=Lib.strCells_length s
 have hz1:(Value.int IntKind.u8 0).cells.size=1:=rfl
 rcases hown.2 with ⟨rfl,rfl⟩ | ⟨g,cap,cur,fz,rfl,hg,hth,hnc,hcm,hcs,htake⟩
 ·have hx : xs = [] := List.eq_nil_of_length_eq_zero (by simpa using hown.1)
  subst hx
  by_cases hm:s.size=0
  ·have hn : Lib.strCells s = [] := List.eq_nil_of_length_eq_zero (by rw [hsl]; exact hm)
   refine ⟨.slice none 0 0,w,?_,by rw [hm,hn]; exact Xok.nil w e 1,⟨rfl,rfl,rfl,Nat.le_refl _,fun _ _ _=>rfl⟩,.inl rfl⟩
   have hf:=Lib.run_firstCells_string (P:=P) w 1 s
   rw [hm] at hf
   simp [Builtin.append_,run_underlying ht,run_underlying hu,sizeOf,typeInfo,hi,hsize,Builtin.lenOf,hm,hf]
  ·have hr := run_append_nil_string (P := P) w t u ty e i (.int .u8 0) ht hu hi hz s (by omega) (by omega) (by rw [hby]; omega)
   have e1:(s.data.map fun b=>Value.int .u8 b.toNat)=(Lib.strCells s).toArray:=by
    apply Array.ext'
    simp [Lib.strCells]
   rw [e1] at hr
   have hge:=grownCap_ge w s.size 0 e
   have hcm':grownCap w s.size 0 e≤maxLen:=grownCap_le_maxLen w s.size 0 e (by omega)
   simp only [Nat.zero_add,List.nil_append]
   refine ⟨_,_,hr,⟨by rw [hsl,Nat.mul_one],.inr ⟨w.heap.size,_,_,(0,0),rfl,heap_alloc_new w.drew _,.inl (Nat.le_refl _),hge,hcm',?_,?_⟩⟩,⟨rfl,rfl,rfl,by simp,fun k hk _=>heap_alloc_old w.drew _ (by simpa using hk)⟩,.inr rfl⟩
   ·simp only [Array.size_append,List.size_toArray,size_zeroCells,hz1,hsl]
    omega
   ·simp only [Array.toList_append]
    rw [show s.size * 1=(Lib.strCells s).length by rw [hsl,Nat.mul_one]]
    exact List.take_left
 ·have hlen:(xs++Lib.strCells s).length=(n + s.size) * 1:=by rw [List.length_append,hxl,hsl,Nat.mul_one]
  by_cases hroom:n + s.size≤cap
  ·have hf:=Lib.run_firstCells_string (P:=P) w 1 s
   have hst:=Xun P g n e fz (Lib.strCells s) 0 cur w hg (by rw [hcs]; exact hth) (by rw [hsl,hcs]; omega) (Lib.strCells_oneCell s)
   simp only [Nat.add_zero,hsl] at hst
   have hrun:(Builtin.append_ #[t,u] ty #[.slice (some ⟨g,0,none⟩) n cap,.string s]).run P w=.ok (.slice (some ⟨g,0,none⟩) (n + s.size) cap) (w.setRow g (cur.toList.take n++Lib.strCells s++cur.toList.drop (n + s.size)).toArray):=by
    simp [Builtin.append_,run_underlying ht,run_underlying hu,sizeOf,typeInfo,hi,hsize,Builtin.lenOf,hroom,hf,Addr.add_lit,hst]
   refine ⟨_,_,hrun,⟨hlen,.inr ⟨g,cap,_,fz,rfl,setRow_heap w g cur _ e _ hg,hth,hroom,hcm,?_,?_⟩⟩,⟨rfl,rfl,rfl,by simp,fun k _ hk=>setRow_other w g k _ (fun e=>hk (by simp [Value.ownBlock,e]))⟩,.inl rfl⟩
   ·simp only [List.size_toArray,List.length_append,List.length_take,List.length_drop,Array.length_toList,hsl]
    omega
   ·rw [Nat.mul_one] at htake
    rw [htake,← hlen]
    exact List.take_left
  ·have holds:∀ j u,xs[j]? = some u→w.cell? ((⟨g,0,none⟩:Addr).add j)=some u:=fun j u hj=>by
    rw [Xts,Nat.zero_add,hown.cellAt j (by rw [← hown.1]; exact (List.getElem?_eq_some_iff.1 hj).1)]
    exact hj
   have hr:=Lib.run_append_grow_string (P:=P) w t u ty e i (.int .u8 0) ht hu hi hz ⟨g,0,none⟩ n cap xs (by rw [hsize]; simpa using hxl) holds s (by omega) (by omega) (by rw [hby]; exact Xuf (by omega) hbytes (by omega))
   have hge:=grownCap_ge w (n + s.size) cap e
   have hcm':grownCap w (n + s.size) cap e≤maxLen:=grownCap_le_maxLen w (n + s.size) cap e h63
   refine ⟨_,_,hr,⟨hlen,.inr ⟨w.heap.size,_,_,(0,0),rfl,heap_alloc_new w.drew _,.inl (Nat.le_refl _),hge,hcm',?_,?_⟩⟩,⟨rfl,rfl,rfl,by simp,fun k hk _=>heap_alloc_old w.drew _ (by simpa using hk)⟩,Or.inr rfl⟩
   ·simp only [Array.size_append,List.size_toArray,size_zeroCells,hz1,hxl,hsl]
    omega
   ·simp only [Array.toList_append,List.append_assoc]
    rw [← List.append_assoc,← hlen]
    exact List.take_left
def asK (P:Program) (t u e:TypeId):Bool:=match P.underlying t,P.underlying u with
 | some (.slice e'),some .string=>match P.info? e with
  | some i=>Nat.beq e' e && Nat.beq i.size 1 && Nat.beq i.bytes 1 && (match i.zero with | some (.int .u8 z)=>decide (z=0) | _=>false)
  | none=>false
 | _,_=>false
theorem asK_spec {P:Program} {t u e:TypeId} (h:asK P t u e=true):P.underlying t=some (.slice e)∧P.underlying u=some .string∧∃ i,P.info? e=some i∧i.zero=some (.int .u8 0)∧i.size=1∧i.bytes=1:=by
 unfold asK at h
 split at h
 ·rename_i e' h1 h2
  split at h
  ·rename_i i hi
   simp only [Bool.and_eq_true] at h
   obtain ⟨⟨⟨g1,g2⟩,g3⟩,g4⟩:=h
   obtain rfl:=Nat.eq_of_beq_eq_true g1
   refine ⟨h1,h2,i,hi,?_,Nat.eq_of_beq_eq_true g2,Nat.eq_of_beq_eq_true g3⟩
   split at g4
   ·rename_i z hz
    rw [hz,of_decide_eq_true g4]
   ·cases g4
  ·cases h
 ·cases h
theorem s_appS {z0:Nat} {ys zs:List Int} {T U e:TypeId} {x y:Operand} {A:Option Addr} {n c:Nat} {s:ByteArray} (j:Nat) (hT:asK C.P T U e=true)
  (hx:evl l x=some (.slice A n c)) (hy:evl l y=some (.string s)) (hM:M[j]? = some (.own (.slice A n c) e 1 n (ys.flatMap (eI .u8)))) (ho:Ow z0 A n c ys) (hz0:z0≤C.w0.heap.size) (hz:zs=ys++Xnr s) (hb:zs.length * 1≤211106232532992)
  (hd:Nat.ble (d + 1) C.n=true)
  (h:∀ A' c',Ow z0 A' (n + s.size) c' zs→Nx ((d,.slice A' (n + s.size) c') :: l) (M.set j (.own (.slice A' (n + s.size) c') e 1 (n + s.size) (zs.flatMap (eI .u8)))) S):Stp C ⟨some d,.call { callee:=.builtin .append,args:=#[x,y],argTypes:=#[T,U] },ty,pos,after,g⟩ l M S Nx :=
 Xxt hd fun a w hF hL=>by
  have hown:Xok w e 1 (.slice A n c) n (ys.flatMap (eI .u8)):=hL.ok _ (List.mem_iff_getElem?.2 ⟨j,hM⟩)
  have hq:n + s.size=zs.length:=by rw [hz,List.length_append,Xr8,ho.hq]
  obtain ⟨t1,t2,i,t3,t4,t5,t6⟩:=asK_spec hT
  obtain ⟨v',w',hrun,h2,h3,h5⟩:=Xok.appendS (P:=C.P) T U ty e t1 t2 t3 t4 t5 t6 hown s (by unfold maxLen; omega) (by omega)
  rw [Yfo,← List.flatMap_append,← hz] at h2
  obtain ⟨A',c',rfl,f1,f2,f3⟩:=h2.form
  refine ⟨_,w',_,_,?_,Yhl hL hM h2 h3 h5,h A' c' ⟨hq,f3,f1,f2,fun b hb=>?_⟩⟩
  ·simp [execOp,resolve,invoke,builtin,hF.ev hx,hF.ev hy,hrun,Sem.run_pure,Sem.run_bind]
  ·rcases h5 with h5 | h5
   ·rw [h5] at hb; exact ho.hz b hb
   ·rw [h5] at hb
    injection hb with hb
    have:=hL.env.size
    omega
theorem Yeb {t1 t2:TypeId} {x:Operand} {k1:IntKind} {a:Int} (h1:C.P.underlying t1=some (.int k1)) (h2:C.P.underlying t2=some .string) (hx:evl l x=some (.int k1 a)):Val C ⟨some d,.convert t1 t2 x,ty,pos,after,g⟩ l M S (.string (Xuz a)) :=
 fun a' w hF _=>by
  simp [execOp,hF.ev hx,convert,run_underlying h1,run_underlying h2,Conv.intToString,Xuz,Sem.run_pure,Sem.run_bind]
end ops
end Go.Proofs.Ytmekgfcfooghnaa.B
