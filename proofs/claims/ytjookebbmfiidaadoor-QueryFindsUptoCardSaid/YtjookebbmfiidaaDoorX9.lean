/- Queries: the program's parser reads patterns, more. Condition: sizes. -/
import Derived.Test.YtjookebbmfiidaaDoorSN
import Derived.Test.YtjookebbmfiidaaDoorX2
set_option linter.unusedVariables false
namespace Go.Proofs.YtjookebbmfiidaaDoor.L
open Go.Proofs.YtjookebbmfiidaaDoor.B Go.Proofs.YtjookebbmfiidaaDoor.R
section
variable {W:List Dw} {L:Int} {cs:List D8}
end
end Go.Proofs.YtjookebbmfiidaaDoor.L
set_option linter.unusedVariables false
namespace Go.Proofs.YtjookebbmfiidaaDoor.L
open Go.Proofs.YtjookebbmfiidaaDoor.B Go.Proofs.YtjookebbmfiidaaDoor.R
section
variable {W:List Dw} {L:Int} {cs:List D8}
end
end Go.Proofs.YtjookebbmfiidaaDoor.L
set_option linter.unusedVariables false
namespace Go.Proofs.YtjookebbmfiidaaDoor.L
open Go.Proofs.YtjookebbmfiidaaDoor.B Go.Proofs.YtjookebbmfiidaaDoor.R
section
variable {W:List Dw} {L:Int} {o:List Aj} {cs:List D8} {caps:List ByteArray}
end
theorem Zc.nil:Zc [] []:=fun c=>Iff.rfl
end Go.Proofs.YtjookebbmfiidaaDoor.L
set_option linter.unusedVariables false
namespace Go.Proofs.YtjookebbmfiidaaDoor.L
open Go.Proofs.YtjookebbmfiidaaDoor.B Go.Proofs.YtjookebbmfiidaaDoor.R
theorem Xjn {a:List Int} (h:a.length≤2 ^ 60):L9 a a true:=by
 unfold L9
 rw [if_pos rfl]
 refine Ar.cnt a.length (fun i hi=>?_) ?_
 ·unfold Hw
  rw [if_pos (by omega)]
  refine ⟨⟨by omega,by omega⟩,⟨by omega,by omega⟩,?_⟩
  rw [if_pos rfl,Dk (by omega)]
 ·unfold Hw
  rw [if_neg (Int.lt_irrefl _)]
end Go.Proofs.YtjookebbmfiidaaDoor.L
set_option linter.unusedVariables false
namespace Go.Proofs.YtjookebbmfiidaaDoor.L
open Go.Proofs.YtjookebbmfiidaaDoor.B Go.Proofs.YtjookebbmfiidaaDoor.R
theorem ix_at {α:Type} [Inhabited α] {xs:List α} {i:Nat} (h:i < xs.length):ix xs ((i:Nat):Int)=xs[i]:=by
 have:=V6 (xs:=xs) (i:=(i:Int)) ⟨by omega,by omega⟩
 rw [Int.toNat_natCast,List.getElem?_eq_getElem h] at this
 exact (Option.some.inj this).symm
theorem Xd2 {α:Type} [Inhabited α] {xs:List α} {i:Nat} (h:i < xs.length):xs.take i++[ix xs (i:Int)]=xs.take (i + 1):=by
 rw [ix_at h,List.take_succ_eq_append_getElem h]
theorem Xjx {q:Aq} (h1:q.nodes.length≤2 ^ 40) (h2:q.conds.length≤2 ^ 40):J6 q q:=by
 have k2:∀ (d i:Nat),q.conds.length - i=d→i≤q.conds.length→Ar (fun (s:Int × (List D8)) o=>Ie q q.nodes s.1 s.2 o) ((i:Int),q.conds.take i) (.inr q):=by
  intro d
  induction d with
  | zero =>
   intro i hd hi
   have:i=q.conds.length:=by omega
   subst this
   refine .done ?_
   unfold Ie
   rw [if_neg (Int.lt_irrefl _),List.take_length]
  | succ d ih =>
   intro i hd hi
   refine .next (s':=(((i + 1:Nat):Int),q.conds.take (i + 1))) ?_ (ih (i + 1) (by omega) (by omega))
   unfold Ie
   rw [if_pos (by omega)]
   refine ⟨⟨by omega,by omega⟩,_,rfl,by rw [List.length_append,List.length_take,List.length_cons,List.length_nil]; omega,?_⟩
   rw [Dk (by omega),Xd2 (by omega)]
   rfl
 have k1:∀ (d i:Nat),q.nodes.length - i=d→i≤q.nodes.length→Ar (fun (s:Int × (List Aj)) o=>Ij q s.1 s.2 o) ((i:Int),q.nodes.take i) q:=by
  intro d
  induction d with
  | zero =>
   intro i hd hi
   have:i=q.nodes.length:=by omega
   subst this
   refine .done ?_
   unfold Ij
   rw [if_neg (Int.lt_irrefl _),List.take_length]
   exact k2 _ 0 rfl (Nat.zero_le _)
  | succ d ih =>
   intro i hd hi
   refine .next (s':=(((i + 1:Nat):Int),q.nodes.take (i + 1))) ?_ (ih (i + 1) (by omega) (by omega))
   unfold Ij
   rw [if_pos (by omega)]
   refine ⟨⟨by omega,by omega⟩,_,rfl,by rw [List.length_append,List.length_take,List.length_cons,List.length_nil]; omega,?_⟩
   rw [Dk (by omega),Xd2 (by omega)]
   rfl
 exact k1 _ 0 rfl (Nat.zero_le _)
theorem qsame {q:Aq} (h1:q.nodes.length≤2 ^ 40) (h2:q.conds.length≤2 ^ 40):Qj q q true:=by
 unfold Qj
 rw [if_pos rfl]
 unfold Nj
 rw [if_neg (by simp)]
 refine Ar.to (fun i=>0≤i∧i≤(q.nodes.length:Int)) (fun i=>((q.nodes.length:Int) - i).toNat) (fun i hi=>?_) ⟨by omega,by omega⟩
 unfold Me
 by_cases hc:i < (q.nodes.length:Int)
 ·right
  refine ⟨i + 1,?_,⟨by omega,by omega⟩,by omega⟩
  rw [if_pos hc]
  refine ⟨⟨hi.1,hc⟩,⟨hi.1,hc⟩,?_⟩
  rw [if_pos rfl,Dk (by omega)]
 ·left
  rw [if_neg hc]
  refine Ar.to (fun i=>0≤i∧i≤(q.conds.length:Int)) (fun i=>((q.conds.length:Int) - i).toNat) (fun i hi=>?_) ⟨by omega,by omega⟩
  unfold Mc
  by_cases hc:i < (q.conds.length:Int)
  ·right
   refine ⟨i + 1,?_,⟨by omega,by omega⟩,by omega⟩
   rw [if_pos hc]
   refine ⟨⟨hi.1,hc⟩,⟨hi.1,hc⟩,?_⟩
   rw [if_pos rfl,Dk (by omega)]
  ·left
   rw [if_neg hc]
end Go.Proofs.YtjookebbmfiidaaDoor.L
set_option linter.unusedVariables false
namespace Go.Proofs.YtjookebbmfiidaaDoor.L
open Go.Proofs.YtjookebbmfiidaaDoor.B Go.Proofs.YtjookebbmfiidaaDoor.R
end Go.Proofs.YtjookebbmfiidaaDoor.L
set_option linter.unusedVariables false
namespace Go.Proofs.YtjookebbmfiidaaDoor.L
open Go.Proofs.YtjookebbmfiidaaDoor.B Go.Proofs.YtjookebbmfiidaaDoor.R
end Go.Proofs.YtjookebbmfiidaaDoor.L
set_option linter.unusedVariables false
namespace Go.Proofs.YtjookebbmfiidaaDoor.L
open Go.Proofs.YtjookebbmfiidaaDoor.B Go.Proofs.YtjookebbmfiidaaDoor.R
theorem lcov_ok (n:Ai) (s:ByteArray):Xl n s (covB n s):=by
 have key:∀ a b:Int,a=max n.from_ 0→b=min n.to (s.size:Int)→Np a s b (covB n s):=fun a b ha hb=>by
  unfold Np covB
  rw [← ha,← hb]
  by_cases g:a≥b
  ·rw [if_pos g,if_pos g]
  ·rw [if_neg g,if_neg g]
   exact ⟨⟨by omega,by omega,by omega⟩,rfl⟩
 have k1:∀ a:Int,a=max n.from_ 0→Nl n s a (covB n s):=fun a ha=>by
  unfold Nl
  by_cases g:n.to > (s.size:Int)
  ·rw [if_pos g]; exact key _ _ ha (by omega)
  ·rw [if_neg g]; exact key _ _ ha (by omega)
 unfold Xl
 by_cases g:n.from_ < 0
 ·rw [if_pos g]; exact k1 _ (by omega)
 ·rw [if_neg g]; exact k1 _ (by omega)
theorem Xdk {a:List Be} (h:a.length≤2 ^ 60) (hs:∀ f ∈ a,f.nodes.length≤2 ^ 60):Eh a a true:=by
 unfold Eh
 rw [if_pos rfl]
 refine Ar.cnt a.length (fun i hi=>?_) ?_
 ·unfold Hg
  rw [if_pos (by omega)]
  refine ⟨⟨by omega,by omega⟩,⟨by omega,by omega⟩,true,Xjn (hs _ (Xap hi)),?_⟩
  rw [if_pos rfl,Dk (by omega)]
 ·unfold Hg
  rw [if_neg (Int.lt_irrefl _)]
theorem allF_mem {x:Aj} {k:PF} {cs:List D8} {t:List Ai} {s:ByteArray} {f:Be} (h:f ∈ allF x k cs t s):f.nodes.length=(x :: Dc k).length∧Xjy t f.nodes:=by
 unfold allF at h
 obtain ⟨v,hv,he⟩:=List.mem_filterMap.1 h
 rw [List.mem_range] at hv
 unfold V4 at he
 cases e:atN t x k (v:Int) with
 | none=>rw [e] at he; cases he
 | some l =>
  rw [e] at he
  dsimp only at he
  obtain ⟨l1,_,l3⟩:=Yh (x:=x) (k:=k) ⟨Int.natCast_nonneg v,by omega⟩ e
  split at he
  ·cases he
  ·injection he with he
   subst he
   exact ⟨by rw [l1,List.length_cons],l3⟩
theorem allF_len (x:Aj) (k:PF) (cs:List D8) (t:List Ai) (s:ByteArray):(allF x k cs t s).length≤t.length:=by
 have:=List.length_filterMap_le (V4 (x :: Dc k) cs t s x k) (List.range t.length)
 rwa [List.length_range] at this
end Go.Proofs.YtjookebbmfiidaaDoor.L
set_option linter.unusedVariables false
namespace Go.Proofs.YtjookebbmfiidaaDoor.L
open Go.Proofs.YtjookebbmfiidaaDoor.B Go.Proofs.YtjookebbmfiidaaDoor.R
theorem Xge (c:ByteArray) (l:List ByteArray):Xds c l=Xds c []++l:=by
 unfold Xds
 split <;> rfl
theorem Xbz:∀ (g:PF) (l:List ByteArray),Qr g l=Qr g []++l
 | .nil,l=>rfl
 | .cons x k s,l=>by
  show Qr s (Xds x.capture (Qr k l))=Qr s (Xds x.capture (Qr k []))++l
  rw [Xbz s,Xbz s (Xds x.capture (Qr k [])),Xge,Xge x.capture (Qr k []),Xbz k l]
  simp only [List.append_assoc]
theorem Xcl (x:Aj) (k s:PF):Qr (.cons x k s) []=Qr s []++(Xds x.capture []++Qr k []):=by
 show Qr s (Xds x.capture (Qr k []))=_
 rw [Xbz s,Xge]
structure SubOk (s:PF):Prop where
 fit:Xda s
 good:Zo nmQ s=true
 nd:(Qr s []).Nodup
 len:(Dc s).length≤31
theorem Xlv {x:Aj} {k s:PF} (h:Zo nmQ (.cons x k s)=true):Zo nmQ (.cons x k .nil)=true:=by
 simp only [Zo,Bool.and_eq_true,Bool.and_true] at h ⊢
 exact h.1
theorem SubOk.cons {y:Aj} {k s:PF} (h:SubOk (.cons y k s)):Xj nmQ y k []∧SubOk s:=by
 obtain ⟨⟨f1,f2,f3⟩,h2,h3,h4⟩:=h
 rw [Xcl] at h3
 simp only [Dc,List.length_cons,List.length_append] at h4
 obtain ⟨n1,n2,_⟩:=List.nodup_append.1 h3
 refine ⟨⟨⟨f1,f2,trivial⟩,Xlv h2,?_,?_,Nat.zero_le _,fun c hc=>by cases hc⟩,⟨f3,(Xf5 h2).2.2.2.2.2,n1,by omega⟩⟩
 ·rw [Xcl]
  exact n2
 ·simp only [Dc,List.length_cons,List.append_nil]
  omega
theorem Xj.sub {x:Aj} {k:PF} {l:List D8} (h:Xj nmQ x k l):SubOk k:=by
 have h0:=h.len.1
 obtain ⟨⟨f1,f2,_⟩,h2,h3,h4,h5,h6⟩:=h
 rw [Xcl] at h3
 exact ⟨f2,(Xf5 h2).2.2.2.2.1,(List.nodup_append.1 (List.nodup_append.1 h3).2.1).2.1,by omega⟩
end Go.Proofs.YtjookebbmfiidaaDoor.L
set_option linter.unusedVariables false
namespace Go.Proofs.YtjookebbmfiidaaDoor.L
open Go.Proofs.YtjookebbmfiidaaDoor.B Go.Proofs.YtjookebbmfiidaaDoor.R
end Go.Proofs.YtjookebbmfiidaaDoor.L
