/- Plain words and their laws: rows gone through, sets of tokens as numbers. No condition. -/
import Derived.Test.YtadcichlnacagaaDoorU0
import Derived.Laws.BitsAllLaws
set_option linter.unusedVariables false
namespace Go.Proofs.YtadcichlnacagaaDoor.B
def Zkp {α σ ρ:Type} (f:α→σ→Sum σ ρ) (e:σ→ρ):List α→σ→ρ
  | [],s=>e s
  | a :: l,s=>match f a s with
    | .inl s'=>Zkp f e l s'
    | .inr r=>r
theorem Zhk {α σ ρ:Type} {f:α→σ→Sum σ ρ} {e:σ→ρ} {a:α} {l:List α} {s:σ} {r:ρ} (h:f a s=.inr r):Zkp f e (a :: l) s=r:=by simp [Zkp,h]
theorem Zjh {α σ ρ:Type} {f:α→σ→Sum σ ρ} {e:σ→ρ} {a:α} {l:List α} {s s':σ} (h:f a s=.inl s'):Zkp f e (a :: l) s=Zkp f e l s':=by simp [Zkp,h]
theorem Yui.row {α σ τ ρ : Type} (xs : List α) (mk : σ → Int → τ) {B : τ → Sum τ ρ → Prop} (f : α → σ → Sum σ ρ) (e : σ → ρ) (Inv : Nat → σ → Prop)
    (hB:∀ i (hi:i < xs.length) s,Inv i s→(∀ s',f xs[i] s=.inl s'→B (mk s i) (.inl (mk s' ((i:Int) + 1)))∧Inv (i + 1) s')∧(∀ r,f xs[i] s=.inr r→B (mk s i) (.inr r)))
    (hE:∀ s,Inv xs.length s→B (mk s xs.length) (.inr (e s))) {s:σ} (hs:Inv 0 s):Yui B (mk s 0) (Zkp f e xs s):=by
  have key:∀ (k i:Nat) (s:σ),i + k=xs.length→Inv i s→Yui B (mk s (i:Int)) (Zkp f e (xs.drop i) s):=by
    intro k
    induction k with
    | zero =>
      intro i s hi hs
      obtain rfl:i=xs.length:=by omega
      rw [List.drop_length]
      exact .done (hE s hs)
    | succ k ih =>
      intro i s hi hs
      have hlt:i < xs.length:=by omega
      rw [List.drop_eq_getElem_cons hlt]
      obtain ⟨h1,h2⟩:=hB i hlt s hs
      cases h:f xs[i] s with
      | inl s' =>
        rw [Zjh h]
        obtain ⟨h3,h4⟩:=h1 s' h
        exact .next h3 (by have:=ih (i + 1) s' (by omega) h4; rwa [show ((i + 1:Nat):Int)=(i:Int) + 1 by omega] at this)
      | inr r =>
        rw [Zhk h]
        exact .done (h2 r h)
  have:=key xs.length 0 s (by omega) hs
  simpa using this
theorem Yvv {α:Type} [Inhabited α] {xs:List α} {i:Nat} (h:i < xs.length):ix xs (i:Int)=xs[i]:=by
  rw [ix,List.getD_eq_getElem?_getD]
  simp [h]
theorem Yw3 {n:Nat} (h:n < 2 ^ 62):w64 ((n:Int) + 1)=(n:Int) + 1:=Yyq (by omega)

theorem Yui.upto {τ ρ:Type} {B:τ→Sum τ ρ→Prop} {r:ρ} (st:Nat→τ) (n:Nat) (h:∀ i,i < n→B (st i) (.inl (st (i + 1)))) (he:B (st n) (.inr r)):Yui B (st 0) r:=by
  have key:∀ k i,i + k=n→Yui B (st i) r:=by
    intro k
    induction k with
    | zero => intro i hi; obtain rfl : i = n := by omega
              exact .done he
    | succ k ih=>intro i hi; exact .next (h i (by omega)) (ih (i + 1) (by omega))
  exact key n 0 (by omega)
theorem Yui.cnt {ρ:Type} {B:Int→Sum Int ρ→Prop} {r:ρ} (n:Nat) (h:∀ i:Nat,i < n→B i (.inl ((i:Int) + 1))) (he:B n (.inr r)):Yui B 0 r:=by
  have:=Yui.upto (B:=B) (r:=r) (fun i=>(i:Int)) n (fun i hi=>by have:=h i hi; rwa [show ((i + 1:Nat):Int)=(i:Int) + 1 by omega]) he
  simpa using this
theorem Yui.some {σ ρ:Type} {B:σ→Sum σ ρ→Prop} {P:ρ→Prop} (Inv:σ→Prop) (μ:σ→Nat) (h:∀ s,Inv s→(∃ r,B s (.inr r)∧P r)∨∃ s',B s (.inl s')∧Inv s'∧μ s' < μ s) {s:σ} (hs:Inv s):∃ r,Yui B s r∧P r:=by
  generalize hn:μ s=n
  induction n using Nat.strongRecOn generalizing s with
  | _ n ih =>
    rcases h s hs with ⟨r,h1,h2⟩ | ⟨s',h1,h2,h3⟩
    · exact ⟨r,.done h1,h2⟩
    · obtain ⟨r, h4, h5⟩ := ih (μ s') (by omega) h2 rfl
      exact ⟨r,.next h1 h4,h5⟩
theorem runL_all {α:Type} (p:α→Bool) (l:List α):Zkp (fun a (_:Unit)=>if p a=true then .inl () else .inr false) (fun _=>true) l ()=l.all p:=by
  induction l with
  | nil=>rfl
  | cons a l ih =>
    cases h:p a with
    | true=>rw [Zjh (s':=()) (by simp [h]),ih,List.all_cons,h,Bool.true_and]
    | false=>rw [Zhk (r:=false) (by simp [h]),List.all_cons,h,Bool.false_and]
theorem Yui.all {α:Type} (xs:List α) (p:α→Bool) {B:Int→Sum Int Bool→Prop} (h1:∀ i (hi:i < xs.length),p xs[i]=true→B i (.inl ((i:Int) + 1))) (h2:∀ i (hi:i < xs.length),p xs[i]=false→B i (.inr false)) (h3:B xs.length (.inr true)):Yui B 0 (xs.all p):=by
  rw [← runL_all]
  refine Yui.row xs (fun (_:Unit) i=>i) _ _ (fun _ _=>True) (fun i hi s _=>⟨fun s' hs=>?_,fun r hr=>?_⟩) (fun _ _=>h3) trivial
  · cases hp:p xs[i] with
    | true=>exact ⟨h1 i hi hp,trivial⟩
    | false=>simp [hp] at hs
  · cases hp:p xs[i] with
    | true=>simp [hp] at hr
    | false=>simp [hp] at hr; subst hr; exact h2 i hi hp

theorem Yui.allThen {α ρ:Type} (xs:List α) (p:α→Bool) {B:Int→Sum Int ρ→Prop} {r f:ρ} (h1:∀ i (hi:i < xs.length),p xs[i]=true→B i (.inl ((i:Int) + 1))) (h2:∀ i (hi:i < xs.length),p xs[i]=false→B i (.inr f)) (h3:xs.all p=true→B xs.length (.inr r)):Yui B 0 (if xs.all p=true then r else f):=by
  have e:∀ l:List α,Zkp (fun a (_:Unit)=>if p a=true then .inl () else .inr f) (fun _=>r) l ()=if l.all p=true then r else f:=by
    intro l
    induction l with
    | nil=>rfl
    | cons a l ih =>
      cases h:p a with
      | true=>rw [Zjh (s':=()) (by simp [h]),ih,List.all_cons,h,Bool.true_and]
      | false=>rw [Zhk (r:=f) (by simp [h]),List.all_cons,h,Bool.false_and]; rfl
  rw [← e]
  refine Yui.row xs (fun (_:Unit) i=>i) _ _ (fun i _=>∀ j (hj:j < xs.length),j < i→p xs[j]=true) (fun i hi s hs=>⟨fun s' hs'=>?_,fun r hr=>?_⟩) (fun _ hs=>h3 (List.all_eq_true.2 fun x hx=>?_)) (fun j _ hj=>absurd hj (Nat.not_lt_zero _))
  · cases hp:p xs[i] with
    | true=>exact ⟨h1 i hi hp,fun j hj hji=>by
        rcases Nat.lt_or_ge j i with h | h
        · exact hs j hj h
        · have:j=i:=by omega
          subst this; exact hp⟩
    | false=>simp [hp] at hs'
  · cases hp:p xs[i] with
    | true=>simp [hp] at hr
    | false=>simp [hp] at hr; subst hr; exact h2 i hi hp
  · obtain ⟨j,hj,rfl⟩:=List.getElem_of_mem hx
    exact hs j hj hj

def U (x:Int):Prop:=0≤x∧x < 18446744073709551616
def has (x:Int) (t:Nat):Bool:=x.toNat.testBit t
def Sub (x y:Int):Prop:=∀ t,has x t=true→has y t=true
abbrev OR (x y:Int):Int:=bits .or .u64 x y
theorem U.zero:U 0:=⟨by omega,by omega⟩
theorem OR_eq {x y:Int} (hx:U x) (hy:U y):OR x y=((x.toNat ||| y.toNat:Nat):Int):=u64_or x y hx.1 hx.2 hy.1 hy.2
theorem U.or {x y:Int} (hx:U x) (hy:U y):U (OR x y):=by
  rw [OR_eq hx hy]
  have h1:x.toNat < 2 ^ 64:=by have:=hx.1; have:=hx.2; omega
  have h2:y.toNat < 2 ^ 64:=by have:=hy.1; have:=hy.2; omega
  have:=Nat.or_lt_two_pow h1 h2
  exact ⟨by omega,by omega⟩
theorem Zgl {x y:Int} (hx:U x) (hy:U y) (t:Nat):has (OR x y) t=(has x t || has y t):=by
  rw [OR_eq hx hy]; simp [has,Nat.testBit_or]
theorem Zaj (t:Nat):has 0 t=false:=by simp [has]
theorem Zh2 {x y:Int} (hx:U x) (hy:U y) (h:∀ t,has x t=has y t):x=y:=by
  have:x.toNat=y.toNat:=Nat.eq_of_testBit_eq h
  have:=hx.1; have:=hy.1; omega
theorem le_or {x y:Int} (hx:U x) (hy:U y):x≤OR x y:=by
  rw [OR_eq hx hy]
  have:x.toNat≤x.toNat ||| y.toNat:=Nat.left_le_or
  have:=hx.1; omega
theorem Zsk {x y:Int} (hx:U x) (hy:U y) (h:OR x y=x):Sub y x:=fun t ht=>by
  have:=Zgl hx hy t
  rw [h,ht] at this
  simpa using this
theorem Sub.refl (x:Int):Sub x x:=fun _ h=>h
theorem Sub.trans {x y z:Int} (h:Sub x y) (k:Sub y z):Sub x z:=fun t ht=>k t (h t ht)
theorem Sub.zero (x:Int):Sub 0 x:=fun t h=>by rw [Zaj] at h; cases h
theorem Sub.or {x y z:Int} (hx:U x) (hy:U y) (h:Sub x z) (k:Sub y z):Sub (OR x y) z:=fun t ht=>by
  rw [Zgl hx hy,Bool.or_eq_true] at ht
  rcases ht with ht | ht
  · exact h t ht
  · exact k t ht
theorem Sub.l {x y:Int} (hx:U x) (hy:U y):Sub x (OR x y):=fun t ht=>by rw [Zgl hx hy,ht]; rfl
theorem Sub.r {x y:Int} (hx:U x) (hy:U y):Sub y (OR x y):=fun t ht=>by rw [Zgl hx hy,ht]; simp
theorem Sub.eq {x y:Int} (hx:U x) (hy:U y) (h:Sub x y) (k:Sub y x):x=y:=Zh2 hx hy fun t=>by
  rw [Bool.eq_iff_iff]; exact ⟨h t,k t⟩
theorem has_lt {x:Int} (hx:U x) {t:Nat} (h:has x t=true):t < 64:=by
  rcases Nat.lt_or_ge t 64 with h1 | h1
  · exact h1
  · have h2 : x.toNat < 2 ^ t := Nat.lt_of_lt_of_le (show x.toNat < 2 ^ 64 by have := hx.1; have := hx.2; omega) (Nat.pow_le_pow_right (by omega) h1)
    unfold has at h
    rw [Nat.testBit_lt_two_pow h2] at h
    cases h
theorem Zre {x:Int} (h:U x):IntKind.u64.wrap x=x:=by rw [IntKind.wrap_u64]; have:=h.1; have:=h.2; omega
theorem U.one {t:Nat} (h:t < 64):U (((2 ^ t:Nat):Int)):=by
  have:2 ^ t < 2 ^ 64:=Nat.pow_lt_pow_right (by omega) h
  exact ⟨Int.natCast_nonneg _,by omega⟩
theorem Zmy {t:Nat} (h:t < 64):Zim .u64 1 (t:Int)=((2 ^ t:Nat):Int):=by
  unfold Zim
  rw [show min ((t:Int)).toNat IntKind.u64.bits=t by simp [IntKind.bits]; omega,Int.one_mul,show ((2:Int) ^ t)=((2 ^ t:Nat):Int) by simp]
  exact Zre (U.one h)
theorem Zi3 {t i:Nat}:has ((2 ^ t:Nat):Int) i=decide (t=i):=by
  simp only [has,Int.toNat_natCast,Nat.testBit_two_pow]
end Go.Proofs.YtadcichlnacagaaDoor.B
