/- Chapter 15: the law TreeWalks. Conditions: the list fits in memory, its numbers are ints. -/
import Derived.Test.YtmekgfcfooghnaaF8
set_option linter.unusedVariables false
namespace Go.Proofs.Ytmekgfcfooghnaa.L
open Go.Proofs.Ytmekgfcfooghnaa.B Go.Proofs.Ytmekgfcfooghnaa.R
def Xt4:List Xm4:=[⟨(⟨#[]⟩:ByteArray),false,(⟨#[]⟩:ByteArray),0,0,-71,0⟩,⟨(⟨#[]⟩:ByteArray),false,(⟨#[]⟩:ByteArray),0,0,-72,0⟩]
theorem Xuz {ys:List Xm4} {n:Nat} (h:ys.length=n):(ys++Xt4).take n=ys:=by subst h; rw [List.take_append_of_le_length (Nat.le_refl _),List.take_length]
theorem Yfd {t:List Xm4} (hl:Xwd t):Xpn t t:=by
 unfold Xpn
 exact ⟨_,rfl,by rw [List.nil_append]; omega,by rw [List.nil_append]⟩
theorem roomy_ok {t:List Xm4} (hl:Xwd t):Xqu t (t++Xt4,t.length):=by
 unfold Xqu
 exact ⟨_,Yfd hl,_,rfl,by simp; omega,by simp; omega,by rw [Int.toNat_natCast]; rfl⟩
theorem Yf9 {a:List Xm4} (ha:Xwd a):Xon a a true:=by
 unfold Xon
 rw [if_pos rfl]
 refine Xmh.cnt a.length (fun i hi=>?_) ?_
 ·unfold Xp8
  rw [if_pos (by omega),Xpj (by omega),if_pos rfl]
  exact ⟨by omega,by omega,rfl⟩
 ·unfold Xp8
  rw [if_neg (by omega)]
theorem stays_ok {t:List Xm4} (hl:Xwd t):Xqs (t++Xt4) t.length t true:=by
 unfold Xqs
 have hm:Xt4.length=2:=rfl
 have w2:w64 ((t.length:Int) + 2)=((t.length + 2:Nat):Int):=by rw [Xqy (by omega)]; omega
 have w1:w64 ((t.length:Int) + 1)=((t.length + 1:Nat):Int):=by rw [Xqy (by omega)]; omega
 rw [w1,w2,Int.toNat_natCast,Xuz rfl,List.take_of_length_le (by rw [List.length_append,hm]; exact Nat.le_refl _)]
 refine ⟨true,Yf9 hl,by rw [List.length_append,hm]; omega,?_⟩
 rw [if_pos rfl]
 refine ⟨by rw [List.length_append,hm]; omega,?_⟩
 have e1:ix (t++Xt4) (t.length:Int)=Xt4[0]:=by rw [Xnk (by rw [List.length_append,hm]; omega),List.getElem_append_right (by omega)]; simp
 have e2:ix (t++Xt4) ((t.length + 1:Nat):Int)=Xt4[1]:=by rw [Xnk (by rw [List.length_append,hm]; omega),List.getElem_append_right (by omega)]; simp
 rw [e1,e2,if_pos (by rfl)]
 exact ⟨by rw [List.length_append,hm]; omega,rfl⟩
end Go.Proofs.Ytmekgfcfooghnaa.L
