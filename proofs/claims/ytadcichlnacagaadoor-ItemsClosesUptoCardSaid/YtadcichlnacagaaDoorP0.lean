/- Plain words that my relations use. No condition. -/
import GoSem.Core.Utf8
import GoSem.Op.IntBits
import GoSem.Op.Shift
import Derived.Laws.Entries
import Derived.Lib.Bytealg
import Derived.Lib.ItoaNum
import Derived.Lib.Join
set_option linter.unusedVariables false
namespace Go.Proofs.YtadcichlnacagaaDoor.B
inductive Yui {σ ρ:Type} (B:σ→Sum σ ρ→Prop):σ→ρ→Prop
 | done {s:σ} {r:ρ} (h:B s (.inr r)):Yui B s r
 | next {s s':σ} {r:ρ} (h:B s (.inl s')) (k:Yui B s' r):Yui B s r
theorem Yui.ind {σ ρ:Type} {B:σ→Sum σ ρ→Prop} {r:ρ} {mot:σ→Prop} (step:∀ s o,B s o→(o=.inr r∨∃ s',o=.inl s'∧mot s')→mot s) {s:σ} (h:Yui B s r):mot s:=by
 induction h with
 | done h=>exact step _ _ h (.inl rfl)
 | next h _ ih=>exact step _ _ h (.inr ⟨_,rfl,ih step⟩)
theorem Yui.of {σ ρ:Type} {B:σ→Sum σ ρ→Prop} (Inv:σ→Prop) (res:σ→ρ) (μ:σ→Nat) (h:∀ s,Inv s→B s (.inr (res s))∨∃ s',B s (.inl s')∧Inv s'∧μ s' < μ s∧res s'=res s) {s:σ} (hs:Inv s):Yui B s (res s):=by
 generalize hn:μ s=n
 induction n using Nat.strongRecOn generalizing s with
 | _ n ih =>
  rcases h s hs with h1 | ⟨s',h1,h2,h3,h4⟩
  ·exact .done h1
  ·have := ih (μ s') (by omega) h2 rfl
   rw [h4] at this
   exact .next h1 this
theorem Out.inr {σ ρ:Type} {o:Sum σ ρ} {p q:ρ} {mot:σ→Prop} (h:o=.inr p∨∃ s',o=.inl s'∧mot s') (e:o=.inr q):p=q:=by
 rcases h with h | ⟨s',h,_⟩ <;> rw [e] at h <;> cases h
 rfl
theorem Out.inl {σ ρ:Type} {o:Sum σ ρ} {p:ρ} {s:σ} {mot:σ→Prop} (h:o=.inr p∨∃ s',o=.inl s'∧mot s') (e:o=.inl s):mot s:=by
 rcases h with h | ⟨s',h,k⟩ <;> rw [e] at h <;> cases h
 exact k
def ix {α:Type} [Inhabited α] (xs:List α) (i:Int):α:=xs.getD i.toNat default
theorem Zfh {α:Type} [Inhabited α] {xs:List α} {i:Int} (h:0≤i∧i < (xs.length:Int)):xs[i.toNat]? = some (ix xs i):=by
 have h1:i.toNat < xs.length:=by omega
 rw [ix,List.getD_eq_getElem?_getD,List.getElem?_eq_getElem h1]
 rfl
def seq (x y:ByteArray):Bool:=x.toList == y.toList
def Zim (k:IntKind) (x y:Int):Int:=k.wrap (x * 2 ^ min y.toNat k.bits)
def Yvd (k:IntKind) (x y:Int):Int:=x.fdiv (2 ^ min y.toNat k.bits)
abbrev w64 (x:Int):Int:=IntKind.i64.wrap x
def upd {α:Type} (f:Int→α) (i:Int) (y:α):Int→α:=fun j=>if j=i then y else f j
def aeq {α:Type} [DecidableEq α] (n:Nat) (f g:Int→α):Bool:=(List.range n).all fun j=>decide (f (j:Int)=g (j:Int))
end Go.Proofs.YtadcichlnacagaaDoor.B
