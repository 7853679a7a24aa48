/- Forests: cursors of the program and of the document; the law TreeWalks. Conditions: the list fits in memory, its numbers are ints. -/
import Derived.Test.YtmekgfcfooghnaaF4
set_option linter.unusedVariables false
namespace Go.Proofs.Ytmekgfcfooghnaa.L
open Go.Proofs.Ytmekgfcfooghnaa.B Go.Proofs.Ytmekgfcfooghnaa.R
theorem en_lt {t:List Xm4} {a j k:Nat} {S:List (Tre × Nat)} (h:At t a S) (hjk:j < k) (hk:k≤S.length):en a (S.take j) < en a (S.take k):=by
 have h1:=(h.nth (j:=j) (by omega)).1.pos
 have h2:=Yff h (show j + 1≤k from hjk) hk
 rw [Xxp (by omega)] at h2
 omega
theorem PR.sub {t:List Xm4} {a m:Nat} {p:Int} {b:Nat} {q:Int} (h:PR t a m p b q):∀ {x:Tre} {e:Nat} {r ts:List (Tre × Nat)} {j i:Nat},At t b ((x,e) :: r)→At t (b + 1) (ts++r)→x.kids=ts.map (·.1)→j < ts.length→en (b + 1) (ts.take j)=i→(∀ {S},At t a S→m≤S.length→PR t a m p i (b:Int)):=by
 induction h with
 | @here a m p =>
  intro x e r ts j i b1 b2 b3 hj hi S hS hm
  obtain ⟨ts2,k1,k2,k3,k4,k5⟩:=b1.kids b1.pos.1
  have hlen:ts.length=ts2.length:=by have:=congrArg List.length (b3.symm.trans k2); simpa using this
  have hts:=b2.uniq k1
  have e1:ts=ts2:=by
   have:=congrArg (List.take ts.length) hts
   rwa [List.take_append_of_le_length (Nat.le_refl _),List.take_length,hlen,List.take_append_of_le_length (Nat.le_refl _),List.take_length] at this
  subst e1
  have lt:=en_lt b2 (j:=j) (k:=ts.length) hj (by rw [List.length_append]; omega)
  rw [List.take_append_of_le_length (by omega),List.take_append_of_le_length (Nat.le_refl _),List.take_length,k3,hi] at lt
  have ge:=(At.skip _ _ rfl b2 j (by rw [List.length_append]; omega)).2.1
  rw [List.take_append_of_le_length (by omega),hi] at ge
  refine .down b1 (by omega) lt ?_
  rw [b3,List.length_map]
  obtain ⟨mj,hmj⟩:∃ mj,ts.length - j=mj + 1:=⟨ts.length - j - 1,by omega⟩
  exact PR.skip j b2 (by omega) (by rw [List.length_append]; omega) (by rw [List.take_append_of_le_length (by omega),hi,hmj]; exact .here)
 | @down a m p x0 e0 r0 b q h h1 h2 k ih =>
  intro x e r ts j i b1 b2 b3 hj hi S hS hm
  obtain ⟨ts2,k1,k2,k3,k4,k5⟩:=h.kids h.pos.1
  have hm2:x0.kids.length≤(ts2++r0).length:=by rw [k2,List.length_map,List.length_append]; omega
  have g:=ih b1 b2 b3 hj hi k1 hm2
  have lt:=g.lt k1 hm2
  rw [k2,List.length_map,List.take_append_of_le_length (Nat.le_refl _),List.take_length,k3] at lt
  exact .down h (by have:=g.le; omega) lt g
 | @next a m p x0 e0 r0 b q h h1 k ih =>
  intro x e r ts j i b1 b2 b3 hj hi S hS hm
  obtain rfl:=hS.uniq h
  simp only [List.length_cons] at hm
  have g:=ih b1 b2 b3 hj hi h.pos.2.2.2.2 (by omega)
  exact .next h g.le g
abbrev cur (f:Xnu) (p:Int):Ydx:=⟨⟨f,p⟩⟩
end Go.Proofs.Ytmekgfcfooghnaa.L
