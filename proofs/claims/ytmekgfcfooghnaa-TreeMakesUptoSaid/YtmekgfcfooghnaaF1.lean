/- Forests as lists of nodes: plain words and laws, no program in sight but its data. No condition. -/
import Derived.Test.YtmekgfcfooghnaaU1
import Derived.Test.YtmekgfcfooghnaaR
set_option linter.unusedVariables false
namespace Go.Proofs.Ytmekgfcfooghnaa.L
open Go.Proofs.Ytmekgfcfooghnaa.B Go.Proofs.Ytmekgfcfooghnaa.R
abbrev Tre:=Xm6
def en (a:Nat) (ts:List (Tre × Nat)):Nat:=(ts.getLast?.map (·.2)).getD a
theorem Xte (a:Nat):en a []=a:=rfl
theorem Xsw (a:Nat) (x:Tre × Nat) (ts:List (Tre × Nat)):en a (x :: ts)=en x.2 ts:=by
 unfold en
 cases ts with
 | nil=>rfl
 | cons y ts=>rw [List.getLast?_cons_cons]; cases h:(y :: ts).getLast? with
  | none=>simp at h
  | some z=>rfl
def sf:List Xm4→Nat→Option (List (Tre × Nat))
 | [],_=>some []
 | n :: l,a=>match sf l (a + 1) with
  | none=>none
  | some ts=>if 0≤n.kids∧n.kids≤(ts.length:Int) then some ((⟨n,(ts.take n.kids.toNat).map (·.1),(a:Int)⟩,en (a + 1) (ts.take n.kids.toNat)) :: ts.drop n.kids.toNat) else none
theorem Yb7 (a:Nat):sf [] a=some []:=rfl
theorem Yad {n:Xm4} {l:List Xm4} {a:Nat} {ts:List (Tre × Nat)} (h:sf l (a + 1)=some ts) (hk:0≤n.kids∧n.kids≤(ts.length:Int)):sf (n :: l) a=some ((⟨n,(ts.take n.kids.toNat).map (·.1),(a:Int)⟩,en (a + 1) (ts.take n.kids.toNat)) :: ts.drop n.kids.toNat):=by
 rw [sf,h]; simp only [hk,and_self,if_true]
theorem Ycf {n:Xm4} {l:List Xm4} {a:Nat} {S:List (Tre × Nat)} (h:sf (n :: l) a=some S):∃ ts,sf l (a + 1)=some ts∧(0≤n.kids∧n.kids≤(ts.length:Int))∧S=(⟨n,(ts.take n.kids.toNat).map (·.1),(a:Int)⟩,en (a + 1) (ts.take n.kids.toNat)) :: ts.drop n.kids.toNat:=by
 rw [sf] at h
 split at h
 ·cases h
 ·rename_i ts e
  split at h
  ·rename_i hk
   injection h with h
   exact ⟨ts,e,hk,h.symm⟩
  ·cases h
theorem sf_app:∀ (l m:List Xm4) (a:Nat) {ts us:List (Tre × Nat)},sf l a=some ts→sf m (a + l.length)=some us→sf (l++m) a=some (ts++us)
 | [],m,a,ts,us,h1,h2=>by
  rw [Yb7] at h1
  injection h1 with h1
  subst h1
  exact h2
 | n :: l,m,a,ts,us,h1,h2=>by
  obtain ⟨ts',e,hk,rfl⟩:=Ycf h1
  have ih:=sf_app l m (a + 1) e (by rw [List.length_cons] at h2; rwa [show a + 1 + l.length=a + (l.length + 1) by omega])
  rw [List.cons_append,Yad ih (by rw [List.length_append]; omega),List.take_append_of_le_length (by omega),List.drop_append_of_le_length (by omega)]
  rfl
theorem Ya3:∀ (l:List Xm4) (a:Nat) {ts:List (Tre × Nat)},sf l a=some ts→en a ts=a + l.length∧ts.length≤l.length
 | [],a,ts,h=>by
  rw [Yb7] at h
  injection h with h
  subst h
  exact ⟨rfl,Nat.le_refl _⟩
 | n :: l,a,ts,h=>by
  obtain ⟨ts',e,hk,rfl⟩:=Ycf h
  obtain ⟨i1,i2⟩:=Ya3 l (a + 1) e
  rw [Xsw]
  have e2:en (a + 1) ts'=en (en (a + 1) (ts'.take n.kids.toNat)) (ts'.drop n.kids.toNat):=by
   generalize n.kids.toNat=k
   generalize a + 1=b
   clear i1 i2 e h hk
   induction ts' generalizing b k with
   | nil=>simp [Xte]
   | cons x ts' ih =>
    cases k with
    | zero=>simp [Xte]
    | succ k=>rw [List.take_succ_cons,List.drop_succ_cons,Xsw,Xsw]; exact ih k x.2
  refine ⟨by rw [← e2,i1]; simp; omega,by simp; omega⟩
theorem en_app (a:Nat) (ts:List (Tre × Nat)) (k:Nat):en a ts=en (en a (ts.take k)) (ts.drop k):=by
 induction ts generalizing a k with
 | nil=>simp [Xte]
 | cons x ts ih =>
  cases k with
  | zero=>simp [Xte]
  | succ k=>rw [List.take_succ_cons,List.drop_succ_cons,Xsw,Xsw]; exact ih x.2 k
def At (t:List Xm4) (a:Nat) (S:List (Tre × Nat)):Prop:=a≤t.length∧sf (t.drop a) a=some S
theorem At.uniq {t:List Xm4} {a:Nat} {S S':List (Tre × Nat)} (h:At t a S) (h':At t a S'):S=S':=by
 have:=h.2.symm.trans h'.2
 injection this
theorem At.next {t:List Xm4} {a:Nat} {S:List (Tre × Nat)} (h:At t a S) (ha:a < t.length):∃ ts,At t (a + 1) ts∧(0≤t[a].kids∧t[a].kids≤(ts.length:Int))∧S=(⟨t[a],(ts.take t[a].kids.toNat).map (·.1),(a:Int)⟩,en (a + 1) (ts.take t[a].kids.toNat)) :: ts.drop t[a].kids.toNat:=by
 have h2:=h.2
 rw [List.drop_eq_getElem_cons ha] at h2
 obtain ⟨ts,e,hk,hS⟩:=Ycf h2
 exact ⟨ts,⟨ha,e⟩,hk,hS⟩
theorem At.last {t:List Xm4}:At t t.length []:=⟨Nat.le_refl _,by rw [List.drop_length]; rfl⟩
theorem At.ens {t:List Xm4} {a:Nat} {S:List (Tre × Nat)} (h:At t a S):en a S=t.length:=by
 have:=(Ya3 _ _ h.2).1
 rw [List.length_drop] at this
 have:=h.1
 omega
theorem At.skip {t:List Xm4}:∀ (m a:Nat) {S:List (Tre × Nat)},t.length - a=m→At t a S→∀ k,k≤S.length→At t (en a (S.take k)) (S.drop k)∧a≤en a (S.take k)∧(1≤k→a < en a (S.take k)):=by
 intro m
 induction m using Nat.strongRecOn with
 | _ m ih =>
  intro a S hm h k hk
  match k with
  | 0=>exact ⟨by simpa [Xte] using h,by simp [Xte],fun h=>by omega⟩
  | k + 1 =>
   have ha:a < t.length:=by
    rcases Nat.lt_or_ge a t.length with g | g
    ·exact g
    ·have h2:=h.2
     rw [List.drop_eq_nil_of_le g,Yb7] at h2
     injection h2 with h2
     subst h2
     simp at hk
   obtain ⟨ts,h1,hkk,rfl⟩:=h.next ha
   obtain ⟨i1,i2,_⟩:=ih (t.length - (a + 1)) (by omega) (a + 1) rfl h1 t[a].kids.toNat (by omega)
   rw [List.take_succ_cons,List.drop_succ_cons,Xsw]
   simp only [List.length_cons] at hk
   obtain ⟨j1,j2,_⟩:=ih (t.length - en (a + 1) (ts.take t[a].kids.toNat)) (by omega) _ rfl i1 k (by omega)
   dsimp only
   exact ⟨j1,by omega,fun _=>by omega⟩
theorem At.from {t:List Xm4} {S0:List (Tre × Nat)} (h:At t 0 S0):∀ i,i≤t.length→∃ S,At t i S
 | 0,_=>⟨S0,h⟩
 | i + 1,hi=>by
  obtain ⟨S,hS⟩:=At.from h i (by omega)
  obtain ⟨ts,h1,_⟩:=hS.next (by omega)
  exact ⟨ts,h1⟩
theorem At.pos {t:List Xm4} {a:Nat} {x:Tre} {e:Nat} {r:List (Tre × Nat)} (h:At t a ((x,e) :: r)):a < t.length∧x.at_=(a:Int)∧a < e∧e≤t.length∧At t e r:=by
 have ha:a < t.length:=by
  rcases Nat.lt_or_ge a t.length with g | g
  ·exact g
  ·have h2:=h.2
   rw [List.drop_eq_nil_of_le g,Yb7] at h2
   injection h2 with h2
   cases h2
 obtain ⟨s1,s2,s3⟩:=At.skip _ _ rfl h 1 (by simp)
 simp only [List.take_succ_cons,List.take_zero,List.drop_succ_cons,List.drop_zero,Xsw,Xte] at s1 s2 s3
 obtain ⟨ts,h1,hkk,hS⟩:=h.next ha
 injection hS with hS1 hS2
 injection hS1 with hS1 hS3
 exact ⟨ha,by rw [hS1],s3 (Nat.le_refl _),s1.1,s1⟩
theorem At.none {t:List Xm4} {a:Nat} (h:At t a []):a=t.length:=by
 have:=h.ens
 rwa [Xte] at this
inductive PR (t:List Xm4):Nat→Nat→Int→Nat→Int→Prop
 | here {a m:Nat} {p:Int}:PR t a (m + 1) p a p
 | down {a m:Nat} {p:Int} {x:Tre} {e:Nat} {r:List (Tre × Nat)} {i:Nat} {q:Int} (h:At t a ((x,e) :: r)) (h1:a < i) (h2:i < e) (k:PR t (a + 1) x.kids.length (a:Int) i q):PR t a (m + 1) p i q
 | next {a m:Nat} {p:Int} {x:Tre} {e:Nat} {r:List (Tre × Nat)} {i:Nat} {q:Int} (h:At t a ((x,e) :: r)) (h1:e≤i) (k:PR t e m p i q):PR t a (m + 1) p i q
theorem PR.uniq {t:List Xm4} {a m:Nat} {p:Int} {i:Nat} {q:Int} (h:PR t a m p i q):∀ {q'},PR t a m p i q'→q=q':=by
 induction h with
 | here =>
  intro q' h'
  cases h' with
  | here=>rfl
  | down h h1 h2 k=>omega
  | next h h1 k=>have:=h.pos; omega
 | down h h1 h2 k ih =>
  intro q' h'
  cases h' with
  | here=>omega
  | down h' h1' h2' k' =>
   have:=h.uniq h'
   injection this with e1 e2
   injection e1 with e1 e3
   subst e1
   exact ih k'
  | next h' h1' k' =>
   have:=h.uniq h'
   injection this with e1 e2
   injection e1 with e1 e3
   omega
 | next h h1 k ih =>
  intro q' h'
  cases h' with
  | here=>have:=h.pos; omega
  | down h' h1' h2' k' =>
   have:=h.uniq h'
   injection this with e1 e2
   injection e1 with e1 e3
   omega
  | next h' h1' k' =>
   have:=h.uniq h'
   injection this with e1 e2
   injection e1 with e1 e3
   subst e3
   exact ih k'
theorem PR.le {t:List Xm4} {a m:Nat} {p:Int} {i:Nat} {q:Int} (h:PR t a m p i q):a≤i:=by
 induction h with
 | here=>exact Nat.le_refl _
 | down h h1 h2 k ih=>omega
 | next h h1 k ih=>have:=h.pos; omega
theorem At.kids {t:List Xm4} {a:Nat} {x:Tre} {e:Nat} {r:List (Tre × Nat)} (h:At t a ((x,e) :: r)) (ha:a < t.length):∃ ts,At t (a + 1) (ts++r)∧x.kids=ts.map (·.1)∧en (a + 1) ts=e∧(ts.length:Int)=t[a].kids∧x.node=t[a]:=by
 obtain ⟨ts,h1,hkk,hS⟩:=h.next ha
 injection hS with hS1 hS2
 injection hS1 with hS1 hS3
 refine ⟨ts.take t[a].kids.toNat,by rw [hS2,List.take_append_drop]; exact h1,by rw [hS1],hS3.symm,by rw [List.length_take]; omega,by rw [hS1]⟩
end Go.Proofs.Ytmekgfcfooghnaa.L
