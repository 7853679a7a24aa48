/- Plain words and their laws, for the relations. No condition. -/
import Derived.Test.YtjookebbmfiidaaDoorP0
import Derived.IntWalk
import Derived.Laws.BitsAllLaws
import Derived.Test.YtjookebbmfiidaaDoorR
set_option linter.unusedVariables false
namespace Go.Proofs.YtjookebbmfiidaaDoor.B
theorem Dn {x:Int} (h:-9223372036854775808≤x∧x≤9223372036854775807):w64 x=x:=by unfold w64; rw [IntKind.wrap_i64]; omega
theorem Xdk {x:Int} (h:0≤x∧x≤255):IntKind.u8.wrap x=x:=by rw [IntKind.wrap_u8]; omega
theorem Xea (x:ByteArray) (i:Int):0≤bt x i∧bt x i≤255:=by
 unfold bt
 cases h:x[i.toNat]? with
 | none=>simp
 | some b=>have:=b.toNat_lt; simp; omega
def Xlw {σ ρ:Type} (st:σ→Sum σ ρ) (d:ρ):Nat→σ→ρ
 | 0,_=>d
 | k + 1,s=>match st s with
  | .inr r=>r
  | .inl s'=>Xlw st d k s'
theorem Bl.many {σ ρ:Type} {B:σ→Sum σ ρ→Prop} (st:σ→Sum σ ρ) (d:ρ) (Inv:σ→Prop) (μ:σ→Nat) (hB:∀ s,Inv s→B s (st s)) (hs:∀ s s',Inv s→st s=.inl s'→Inv s'∧μ s' < μ s) :
  ∀ (k:Nat) (s:σ),Inv s→μ s < k→Bl B s (Xlw st d k s)
 | 0,s,_,h=>by omega
 | k + 1,s,hi,h=>by
  have h1:=hB s hi
  unfold Xlw
  cases e:st s with
  | inr r=>rw [e] at h1; exact .done h1
  | inl s' =>
   rw [e] at h1
   obtain ⟨h2,h3⟩:=hs s s' hi e
   exact .next h1 (Bl.many st d Inv μ hB hs k s' h2 (by omega))
theorem Bl.to {σ ρ:Type} {B:σ→Sum σ ρ→Prop} {r:ρ} (Inv:σ→Prop) (μ:σ→Nat) (h:∀ s,Inv s→B s (.inr r)∨∃ s',B s (.inl s')∧Inv s'∧μ s' < μ s) {s:σ} (hs:Inv s):Bl B s r:=by
 generalize hn:μ s=n
 induction n using Nat.strongRecOn generalizing s with
 | _ n ih =>
  rcases h s hs with h1 | ⟨s',h1,h2,h3⟩
  ·exact .done h1
  ·exact .next h1 (ih (μ s') (by omega) h2 rfl)
def inB (s:ByteArray) (b:Int):Bool:=s.data.toList.any fun c=>(c.toNat:Int) == b
end Go.Proofs.YtjookebbmfiidaaDoor.B
set_option linter.unusedVariables false
namespace Go.Proofs.YtjookebbmfiidaaDoor.B
def Xfv {α σ ρ:Type} (f:α→σ→Sum σ ρ) (e:σ→ρ):List α→σ→ρ
  | [],s=>e s
  | a :: l,s=>match f a s with
    | .inl s'=>Xfv f e l s'
    | .inr r=>r
theorem Xe8 {α σ ρ:Type} {f:α→σ→Sum σ ρ} {e:σ→ρ} {a:α} {l:List α} {s:σ} {r:ρ} (h:f a s=.inr r):Xfv f e (a :: l) s=r:=by simp [Xfv,h]
theorem Xg0 {α σ ρ:Type} {f:α→σ→Sum σ ρ} {e:σ→ρ} {a:α} {l:List α} {s s':σ} (h:f a s=.inl s'):Xfv f e (a :: l) s=Xfv f e l s':=by simp [Xfv,h]
theorem Bl.row {α σ τ ρ : Type} (xs : List α) (mk : σ → Int → τ) {B : τ → Sum τ ρ → Prop} (f : α → σ → Sum σ ρ) (e : σ → ρ) (Inv : Nat → σ → Prop)
    (hB:∀ i (hi:i < xs.length) s,Inv i s→(∀ s',f xs[i] s=.inl s'→B (mk s i) (.inl (mk s' ((i:Int) + 1)))∧Inv (i + 1) s')∧(∀ r,f xs[i] s=.inr r→B (mk s i) (.inr r)))
    (hE:∀ s,Inv xs.length s→B (mk s xs.length) (.inr (e s))) {s:σ} (hs:Inv 0 s):Bl B (mk s 0) (Xfv f e xs s):=by
  have key:∀ (k i:Nat) (s:σ),i + k=xs.length→Inv i s→Bl B (mk s (i:Int)) (Xfv f e (xs.drop i) s):=by
    intro k
    induction k with
    | zero =>
      intro i s hi hs
      obtain rfl:i=xs.length:=by omega
      rw [List.drop_length]
      exact .done (hE s hs)
    | succ k ih =>
      intro i s hi hs
      have hlt:i < xs.length:=by omega
      rw [List.drop_eq_getElem_cons hlt]
      obtain ⟨h1,h2⟩:=hB i hlt s hs
      cases h:f xs[i] s with
      | inl s' =>
        rw [Xg0 h]
        obtain ⟨h3,h4⟩:=h1 s' h
        exact .next h3 (by have:=ih (i + 1) s' (by omega) h4; rwa [show ((i + 1:Nat):Int)=(i:Int) + 1 by omega] at this)
      | inr r =>
        rw [Xe8 h]
        exact .done (h2 r h)
  have:=key xs.length 0 s (by omega) hs
  simpa using this
theorem Xad {α:Type} [Inhabited α] {xs:List α} {i:Nat} (h:i < xs.length):ix xs (i:Int)=xs[i]:=by
  rw [ix,List.getD_eq_getElem?_getD]
  simp [h]
theorem Xby {n:Nat} (h:n < 2 ^ 62):w64 ((n:Int) + 1)=(n:Int) + 1:=Dn (by omega)

theorem Bl.upto {τ ρ:Type} {B:τ→Sum τ ρ→Prop} {r:ρ} (st:Nat→τ) (n:Nat) (h:∀ i,i < n→B (st i) (.inl (st (i + 1)))) (he:B (st n) (.inr r)):Bl B (st 0) r:=by
  have key:∀ k i,i + k=n→Bl B (st i) r:=by
    intro k
    induction k with
    | zero => intro i hi; obtain rfl : i = n := by omega
              exact .done he
    | succ k ih=>intro i hi; exact .next (h i (by omega)) (ih (i + 1) (by omega))
  exact key n 0 (by omega)
theorem Bl.cnt {ρ:Type} {B:Int→Sum Int ρ→Prop} {r:ρ} (n:Nat) (h:∀ i:Nat,i < n→B i (.inl ((i:Int) + 1))) (he:B n (.inr r)):Bl B 0 r:=by
  have:=Bl.upto (B:=B) (r:=r) (fun i=>(i:Int)) n (fun i hi=>by have:=h i hi; rwa [show ((i + 1:Nat):Int)=(i:Int) + 1 by omega]) he
  simpa using this
theorem Bl.some {σ ρ:Type} {B:σ→Sum σ ρ→Prop} {P:ρ→Prop} (Inv:σ→Prop) (μ:σ→Nat) (h:∀ s,Inv s→(∃ r,B s (.inr r)∧P r)∨∃ s',B s (.inl s')∧Inv s'∧μ s' < μ s) {s:σ} (hs:Inv s):∃ r,Bl B s r∧P r:=by
  generalize hn:μ s=n
  induction n using Nat.strongRecOn generalizing s with
  | _ n ih =>
    rcases h s hs with ⟨r,h1,h2⟩ | ⟨s',h1,h2,h3⟩
    · exact ⟨r,.done h1,h2⟩
    · obtain ⟨r, h4, h5⟩ := ih (μ s') (by omega) h2 rfl
      exact ⟨r,.next h1 h4,h5⟩
theorem runL_all {α:Type} (p:α→Bool) (l:List α):Xfv (fun a (_:Unit)=>if p a=true then .inl () else .inr false) (fun _=>true) l ()=l.all p:=by
  induction l with
  | nil=>rfl
  | cons a l ih =>
    cases h:p a with
    | true=>rw [Xg0 (s':=()) (by simp [h]),ih,List.all_cons,h,Bool.true_and]
    | false=>rw [Xe8 (r:=false) (by simp [h]),List.all_cons,h,Bool.false_and]
theorem Bl.all {α:Type} (xs:List α) (p:α→Bool) {B:Int→Sum Int Bool→Prop} (h1:∀ i (hi:i < xs.length),p xs[i]=true→B i (.inl ((i:Int) + 1))) (h2:∀ i (hi:i < xs.length),p xs[i]=false→B i (.inr false)) (h3:B xs.length (.inr true)):Bl B 0 (xs.all p):=by
  rw [← runL_all]
  refine Bl.row xs (fun (_:Unit) i=>i) _ _ (fun _ _=>True) (fun i hi s _=>⟨fun s' hs=>?_,fun r hr=>?_⟩) (fun _ _=>h3) trivial
  · cases hp:p xs[i] with
    | true=>exact ⟨h1 i hi hp,trivial⟩
    | false=>simp [hp] at hs
  · cases hp:p xs[i] with
    | true=>simp [hp] at hr
    | false=>simp [hp] at hr; subst hr; exact h2 i hi hp

theorem Bl.allThen {α ρ:Type} (xs:List α) (p:α→Bool) {B:Int→Sum Int ρ→Prop} {r f:ρ} (h1:∀ i (hi:i < xs.length),p xs[i]=true→B i (.inl ((i:Int) + 1))) (h2:∀ i (hi:i < xs.length),p xs[i]=false→B i (.inr f)) (h3:xs.all p=true→B xs.length (.inr r)):Bl B 0 (if xs.all p=true then r else f):=by
  have e:∀ l:List α,Xfv (fun a (_:Unit)=>if p a=true then .inl () else .inr f) (fun _=>r) l ()=if l.all p=true then r else f:=by
    intro l
    induction l with
    | nil=>rfl
    | cons a l ih =>
      cases h:p a with
      | true=>rw [Xg0 (s':=()) (by simp [h]),ih,List.all_cons,h,Bool.true_and]
      | false=>rw [Xe8 (r:=f) (by simp [h]),List.all_cons,h,Bool.false_and]; rfl
  rw [← e]
  refine Bl.row xs (fun (_:Unit) i=>i) _ _ (fun i _=>∀ j (hj:j < xs.length),j < i→p xs[j]=true) (fun i hi s hs=>⟨fun s' hs'=>?_,fun r hr=>?_⟩) (fun _ hs=>h3 (List.all_eq_true.2 fun x hx=>?_)) (fun j _ hj=>absurd hj (Nat.not_lt_zero _))
  · cases hp:p xs[i] with
    | true=>exact ⟨h1 i hi hp,fun j hj hji=>by
        rcases Nat.lt_or_ge j i with h | h
        · exact hs j hj h
        · have:j=i:=by omega
          subst this; exact hp⟩
    | false=>simp [hp] at hs'
  · cases hp:p xs[i] with
    | true=>simp [hp] at hr
    | false=>simp [hp] at hr; subst hr; exact h2 i hi hp
  · obtain ⟨j,hj,rfl⟩:=List.getElem_of_mem hx
    exact hs j hj hj

def U (x:Int):Prop:=0≤x∧x < 18446744073709551616
def has (x:Int) (t:Nat):Bool:=x.toNat.testBit t
def Sub (x y:Int):Prop:=∀ t,has x t=true→has y t=true
abbrev OR (x y:Int):Int:=bits .or .u64 x y
theorem U.zero:U 0:=⟨by omega,by omega⟩
theorem OR_eq {x y:Int} (hx:U x) (hy:U y):OR x y=((x.toNat ||| y.toNat:Nat):Int):=u64_or x y hx.1 hx.2 hy.1 hy.2
theorem U.or {x y:Int} (hx:U x) (hy:U y):U (OR x y):=by
  rw [OR_eq hx hy]
  have h1:x.toNat < 2 ^ 64:=by have:=hx.1; have:=hx.2; omega
  have h2:y.toNat < 2 ^ 64:=by have:=hy.1; have:=hy.2; omega
  have:=Nat.or_lt_two_pow h1 h2
  exact ⟨by omega,by omega⟩
theorem Xm1 {x y:Int} (hx:U x) (hy:U y) (t:Nat):has (OR x y) t=(has x t || has y t):=by
  rw [OR_eq hx hy]; simp [has,Nat.testBit_or]
theorem has_zero (t:Nat):has 0 t=false:=by simp [has]
theorem has_ext {x y:Int} (hx:U x) (hy:U y) (h:∀ t,has x t=has y t):x=y:=by
  have:x.toNat=y.toNat:=Nat.eq_of_testBit_eq h
  have:=hx.1; have:=hy.1; omega
theorem Sub.refl (x:Int):Sub x x:=fun _ h=>h
theorem Sub.trans {x y z:Int} (h:Sub x y) (k:Sub y z):Sub x z:=fun t ht=>k t (h t ht)
theorem Sub.zero (x:Int):Sub 0 x:=fun t h=>by rw [has_zero] at h; cases h
theorem Sub.or {x y z:Int} (hx:U x) (hy:U y) (h:Sub x z) (k:Sub y z):Sub (OR x y) z:=fun t ht=>by
  rw [Xm1 hx hy,Bool.or_eq_true] at ht
  rcases ht with ht | ht
  · exact h t ht
  · exact k t ht
theorem Sub.l {x y:Int} (hx:U x) (hy:U y):Sub x (OR x y):=fun t ht=>by rw [Xm1 hx hy,ht]; rfl
theorem Sub.r {x y:Int} (hx:U x) (hy:U y):Sub y (OR x y):=fun t ht=>by rw [Xm1 hx hy,ht]; simp
theorem Sub.eq {x y:Int} (hx:U x) (hy:U y) (h:Sub x y) (k:Sub y x):x=y:=has_ext hx hy fun t=>by
  rw [Bool.eq_iff_iff]; exact ⟨h t,k t⟩
theorem U.one {t:Nat} (h:t < 64):U (((2 ^ t:Nat):Int)):=by
  have:2 ^ t < 2 ^ 64:=Nat.pow_lt_pow_right (by omega) h
  exact ⟨Int.natCast_nonneg _,by omega⟩
theorem U.small {x:Int} (h:0≤x) (h2:x≤1000):U x:=⟨h,by omega⟩
end Go.Proofs.YtjookebbmfiidaaDoor.B
set_option linter.unusedVariables false
namespace Go.Proofs.YtjookebbmfiidaaDoor.L
open Go.Proofs.YtjookebbmfiidaaDoor.B Go.Proofs.YtjookebbmfiidaaDoor.R
abbrev Tre:=Vk
def en (a:Nat) (ts:List (Tre × Nat)):Nat:=(ts.getLast?.map (·.2)).getD a
theorem Xx (a:Nat):en a []=a:=rfl
theorem Ui (a:Nat) (x:Tre × Nat) (ts:List (Tre × Nat)):en a (x :: ts)=en x.2 ts:=by
 unfold en
 cases ts with
 | nil=>rfl
 | cons y ts=>rw [List.getLast?_cons_cons]; cases h:(y :: ts).getLast? with
  | none=>simp at h
  | some z=>rfl
def sf:List Az→Nat→Option (List (Tre × Nat))
 | [],_=>some []
 | n :: l,a=>match sf l (a + 1) with
  | none=>none
  | some ts=>if 0≤n.kids∧n.kids≤(ts.length:Int) then some ((⟨n,(ts.take n.kids.toNat).map (·.1),(a:Int)⟩,en (a + 1) (ts.take n.kids.toNat)) :: ts.drop n.kids.toNat) else none
theorem Xm2 (a:Nat):sf [] a=some []:=rfl
theorem sf_cons {n:Az} {l:List Az} {a:Nat} {ts:List (Tre × Nat)} (h:sf l (a + 1)=some ts) (hk:0≤n.kids∧n.kids≤(ts.length:Int)):sf (n :: l) a=some ((⟨n,(ts.take n.kids.toNat).map (·.1),(a:Int)⟩,en (a + 1) (ts.take n.kids.toNat)) :: ts.drop n.kids.toNat):=by
 rw [sf,h]; simp only [hk,and_self,if_true]
theorem sf_inv {n:Az} {l:List Az} {a:Nat} {S:List (Tre × Nat)} (h:sf (n :: l) a=some S):∃ ts,sf l (a + 1)=some ts∧(0≤n.kids∧n.kids≤(ts.length:Int))∧S=(⟨n,(ts.take n.kids.toNat).map (·.1),(a:Int)⟩,en (a + 1) (ts.take n.kids.toNat)) :: ts.drop n.kids.toNat:=by
 rw [sf] at h
 split at h
 ·cases h
 ·rename_i ts e
  split at h
  ·rename_i hk
   injection h with h
   exact ⟨ts,e,hk,h.symm⟩
  ·cases h
theorem sf_en:∀ (l:List Az) (a:Nat) {ts:List (Tre × Nat)},sf l a=some ts→en a ts=a + l.length∧ts.length≤l.length
 | [],a,ts,h=>by
  rw [Xm2] at h
  injection h with h
  subst h
  exact ⟨rfl,Nat.le_refl _⟩
 | n :: l,a,ts,h=>by
  obtain ⟨ts',e,hk,rfl⟩:=sf_inv h
  obtain ⟨i1,i2⟩:=sf_en l (a + 1) e
  rw [Ui]
  have e2:en (a + 1) ts'=en (en (a + 1) (ts'.take n.kids.toNat)) (ts'.drop n.kids.toNat):=by
   generalize n.kids.toNat=k
   generalize a + 1=b
   clear i1 i2 e h hk
   induction ts' generalizing b k with
   | nil=>simp [Xx]
   | cons x ts' ih =>
    cases k with
    | zero=>simp [Xx]
    | succ k=>rw [List.take_succ_cons,List.drop_succ_cons,Ui,Ui]; exact ih k x.2
  refine ⟨by rw [← e2,i1]; simp; omega,by simp; omega⟩
theorem en_app (a:Nat) (ts:List (Tre × Nat)) (k:Nat):en a ts=en (en a (ts.take k)) (ts.drop k):=by
 induction ts generalizing a k with
 | nil=>simp [Xx]
 | cons x ts ih =>
  cases k with
  | zero=>simp [Xx]
  | succ k=>rw [List.take_succ_cons,List.drop_succ_cons,Ui,Ui]; exact ih x.2 k
def At (t:List Az) (a:Nat) (S:List (Tre × Nat)):Prop:=a≤t.length∧sf (t.drop a) a=some S
theorem At.uniq {t:List Az} {a:Nat} {S S':List (Tre × Nat)} (h:At t a S) (h':At t a S'):S=S':=by
 have:=h.2.symm.trans h'.2
 injection this
theorem At.next {t:List Az} {a:Nat} {S:List (Tre × Nat)} (h:At t a S) (ha:a < t.length):∃ ts,At t (a + 1) ts∧(0≤t[a].kids∧t[a].kids≤(ts.length:Int))∧S=(⟨t[a],(ts.take t[a].kids.toNat).map (·.1),(a:Int)⟩,en (a + 1) (ts.take t[a].kids.toNat)) :: ts.drop t[a].kids.toNat:=by
 have h2:=h.2
 rw [List.drop_eq_getElem_cons ha] at h2
 obtain ⟨ts,e,hk,hS⟩:=sf_inv h2
 exact ⟨ts,⟨ha,e⟩,hk,hS⟩
theorem At.last {t:List Az}:At t t.length []:=⟨Nat.le_refl _,by rw [List.drop_length]; rfl⟩
theorem At.ens {t:List Az} {a:Nat} {S:List (Tre × Nat)} (h:At t a S):en a S=t.length:=by
 have:=(sf_en _ _ h.2).1
 rw [List.length_drop] at this
 have:=h.1
 omega
theorem At.skip {t:List Az}:∀ (m a:Nat) {S:List (Tre × Nat)},t.length - a=m→At t a S→∀ k,k≤S.length→At t (en a (S.take k)) (S.drop k)∧a≤en a (S.take k)∧(1≤k→a < en a (S.take k)):=by
 intro m
 induction m using Nat.strongRecOn with
 | _ m ih =>
  intro a S hm h k hk
  match k with
  | 0=>exact ⟨by simpa [Xx] using h,by simp [Xx],fun h=>by omega⟩
  | k + 1 =>
   have ha:a < t.length:=by
    rcases Nat.lt_or_ge a t.length with g | g
    ·exact g
    ·have h2:=h.2
     rw [List.drop_eq_nil_of_le g,Xm2] at h2
     injection h2 with h2
     subst h2
     simp at hk
   obtain ⟨ts,h1,hkk,rfl⟩:=h.next ha
   obtain ⟨i1,i2,_⟩:=ih (t.length - (a + 1)) (by omega) (a + 1) rfl h1 t[a].kids.toNat (by omega)
   rw [List.take_succ_cons,List.drop_succ_cons,Ui]
   simp only [List.length_cons] at hk
   obtain ⟨j1,j2,_⟩:=ih (t.length - en (a + 1) (ts.take t[a].kids.toNat)) (by omega) _ rfl i1 k (by omega)
   dsimp only
   exact ⟨j1,by omega,fun _=>by omega⟩
theorem At.from {t:List Az} {S0:List (Tre × Nat)} (h:At t 0 S0):∀ i,i≤t.length→∃ S,At t i S
 | 0,_=>⟨S0,h⟩
 | i + 1,hi=>by
  obtain ⟨S,hS⟩:=At.from h i (by omega)
  obtain ⟨ts,h1,_⟩:=hS.next (by omega)
  exact ⟨ts,h1⟩
theorem At.pos {t:List Az} {a:Nat} {x:Tre} {e:Nat} {r:List (Tre × Nat)} (h:At t a ((x,e) :: r)):a < t.length∧x.at_=(a:Int)∧a < e∧e≤t.length∧At t e r:=by
 have ha:a < t.length:=by
  rcases Nat.lt_or_ge a t.length with g | g
  ·exact g
  ·have h2:=h.2
   rw [List.drop_eq_nil_of_le g,Xm2] at h2
   injection h2 with h2
   cases h2
 obtain ⟨s1,s2,s3⟩:=At.skip _ _ rfl h 1 (by simp)
 simp only [List.take_succ_cons,List.take_zero,List.drop_succ_cons,List.drop_zero,Ui,Xx] at s1 s2 s3
 obtain ⟨ts,h1,hkk,hS⟩:=h.next ha
 injection hS with hS1 hS2
 injection hS1 with hS1 hS3
 exact ⟨ha,by rw [hS1],s3 (Nat.le_refl _),s1.1,s1⟩
theorem At.none {t:List Az} {a:Nat} (h:At t a []):a=t.length:=by
 have:=h.ens
 rwa [Xx] at this
inductive PR (t:List Az):Nat→Nat→Int→Nat→Int→Prop
 | here {a m:Nat} {p:Int}:PR t a (m + 1) p a p
 | down {a m:Nat} {p:Int} {x:Tre} {e:Nat} {r:List (Tre × Nat)} {i:Nat} {q:Int} (h:At t a ((x,e) :: r)) (h1:a < i) (h2:i < e) (k:PR t (a + 1) x.kids.length (a:Int) i q):PR t a (m + 1) p i q
 | next {a m:Nat} {p:Int} {x:Tre} {e:Nat} {r:List (Tre × Nat)} {i:Nat} {q:Int} (h:At t a ((x,e) :: r)) (h1:e≤i) (k:PR t e m p i q):PR t a (m + 1) p i q
theorem PR.uniq {t:List Az} {a m:Nat} {p:Int} {i:Nat} {q:Int} (h:PR t a m p i q):∀ {q'},PR t a m p i q'→q=q':=by
 induction h with
 | here =>
  intro q' h'
  cases h' with
  | here=>rfl
  | down h h1 h2 k=>omega
  | next h h1 k=>have:=h.pos; omega
 | down h h1 h2 k ih =>
  intro q' h'
  cases h' with
  | here=>omega
  | down h' h1' h2' k' =>
   have:=h.uniq h'
   injection this with e1 e2
   injection e1 with e1 e3
   subst e1
   exact ih k'
  | next h' h1' k' =>
   have:=h.uniq h'
   injection this with e1 e2
   injection e1 with e1 e3
   omega
 | next h h1 k ih =>
  intro q' h'
  cases h' with
  | here=>have:=h.pos; omega
  | down h' h1' h2' k' =>
   have:=h.uniq h'
   injection this with e1 e2
   injection e1 with e1 e3
   omega
  | next h' h1' k' =>
   have:=h.uniq h'
   injection this with e1 e2
   injection e1 with e1 e3
   subst e3
   exact ih k'
theorem PR.le {t:List Az} {a m:Nat} {p:Int} {i:Nat} {q:Int} (h:PR t a m p i q):a≤i:=by
 induction h with
 | here=>exact Nat.le_refl _
 | down h h1 h2 k ih=>omega
 | next h h1 k ih=>have:=h.pos; omega
theorem At.kids {t:List Az} {a:Nat} {x:Tre} {e:Nat} {r:List (Tre × Nat)} (h:At t a ((x,e) :: r)) (ha:a < t.length):∃ ts,At t (a + 1) (ts++r)∧x.kids=ts.map (·.1)∧en (a + 1) ts=e∧(ts.length:Int)=t[a].kids∧x.node=t[a]:=by
 obtain ⟨ts,h1,hkk,hS⟩:=h.next ha
 injection hS with hS1 hS2
 injection hS1 with hS1 hS3
 refine ⟨ts.take t[a].kids.toNat,by rw [hS2,List.take_append_drop]; exact h1,by rw [hS1],hS3.symm,by rw [List.length_take]; omega,by rw [hS1]⟩
end Go.Proofs.YtjookebbmfiidaaDoor.L
