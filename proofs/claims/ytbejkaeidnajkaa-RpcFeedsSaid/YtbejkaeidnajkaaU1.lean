/- Plain words and their laws: rows gone through, sets of tokens as numbers. No condition. -/
import Derived.Test.YtbejkaeidnajkaaU0
import Derived.Laws.BitsAllLaws
set_option linter.unusedVariables false
namespace Go.Proofs.Ytbejkaeidnajkaa.B
def runL {α σ ρ : Type} (f : α → σ → Sum σ ρ) (e : σ → ρ) : List α → σ → ρ
  | [], s => e s
  | a :: l, s => match f a s with
    | .inl s' => runL f e l s'
    | .inr r => r
theorem runL_end {α σ ρ : Type} {f : α → σ → Sum σ ρ} {e : σ → ρ} {a : α} {l : List α} {s : σ} {r : ρ} (h : f a s = .inr r) : runL f e (a :: l) s = r := by simp [runL, h]
theorem runL_go {α σ ρ : Type} {f : α → σ → Sum σ ρ} {e : σ → ρ} {a : α} {l : List α} {s s' : σ} (h : f a s = .inl s') : runL f e (a :: l) s = runL f e l s' := by simp [runL, h]
theorem Rounds.row {α σ τ ρ : Type} (xs : List α) (mk : σ → Int → τ) {B : τ → Sum τ ρ → Prop} (f : α → σ → Sum σ ρ) (e : σ → ρ) (Inv : Nat → σ → Prop)
    (hB : ∀ i (hi : i < xs.length) s, Inv i s → (∀ s', f xs[i] s = .inl s' → B (mk s i) (.inl (mk s' ((i : Int) + 1))) ∧ Inv (i + 1) s') ∧ (∀ r, f xs[i] s = .inr r → B (mk s i) (.inr r)))
    (hE : ∀ s, Inv xs.length s → B (mk s xs.length) (.inr (e s))) {s : σ} (hs : Inv 0 s) : Rounds B (mk s 0) (runL f e xs s) := by
  have key : ∀ (k i : Nat) (s : σ), i + k = xs.length → Inv i s → Rounds B (mk s (i : Int)) (runL f e (xs.drop i) s) := by
    intro k
    induction k with
    | zero =>
      intro i s hi hs
      obtain rfl : i = xs.length := by omega
      rw [List.drop_length]
      exact .done (hE s hs)
    | succ k ih =>
      intro i s hi hs
      have hlt : i < xs.length := by omega
      rw [List.drop_eq_getElem_cons hlt]
      obtain ⟨h1, h2⟩ := hB i hlt s hs
      cases h : f xs[i] s with
      | inl s' =>
        rw [runL_go h]
        obtain ⟨h3, h4⟩ := h1 s' h
        exact .next h3 (by have := ih (i + 1) s' (by omega) h4; rwa [show ((i + 1 : Nat) : Int) = (i : Int) + 1 by omega] at this)
      | inr r =>
        rw [runL_end h]
        exact .done (h2 r h)
  have := key xs.length 0 s (by omega) hs
  simpa using this
theorem ix_nat {α : Type} [Inhabited α] {xs : List α} {i : Nat} (h : i < xs.length) : ix xs (i : Int) = xs[i] := by
  rw [ix, List.getD_eq_getElem?_getD]
  simp [h]
theorem w64_nat {n : Nat} (h : n < 2 ^ 62) : w64 ((n : Int) + 1) = (n : Int) + 1 := w64_id (by omega)

theorem Rounds.upto {τ ρ : Type} {B : τ → Sum τ ρ → Prop} {r : ρ} (st : Nat → τ) (n : Nat) (h : ∀ i, i < n → B (st i) (.inl (st (i + 1)))) (he : B (st n) (.inr r)) : Rounds B (st 0) r := by
  have key : ∀ k i, i + k = n → Rounds B (st i) r := by
    intro k
    induction k with
    | zero => intro i hi; obtain rfl : i = n := by omega
              exact .done he
    | succ k ih => intro i hi; exact .next (h i (by omega)) (ih (i + 1) (by omega))
  exact key n 0 (by omega)
theorem Rounds.cnt {ρ : Type} {B : Int → Sum Int ρ → Prop} {r : ρ} (n : Nat) (h : ∀ i : Nat, i < n → B i (.inl ((i : Int) + 1))) (he : B n (.inr r)) : Rounds B 0 r := by
  have := Rounds.upto (B := B) (r := r) (fun i => (i : Int)) n (fun i hi => by have := h i hi; rwa [show ((i + 1 : Nat) : Int) = (i : Int) + 1 by omega]) he
  simpa using this
theorem Rounds.some {σ ρ : Type} {B : σ → Sum σ ρ → Prop} {P : ρ → Prop} (Inv : σ → Prop) (μ : σ → Nat) (h : ∀ s, Inv s → (∃ r, B s (.inr r) ∧ P r) ∨ ∃ s', B s (.inl s') ∧ Inv s' ∧ μ s' < μ s) {s : σ} (hs : Inv s) : ∃ r, Rounds B s r ∧ P r := by
  generalize hn : μ s = n
  induction n using Nat.strongRecOn generalizing s with
  | _ n ih =>
    rcases h s hs with ⟨r, h1, h2⟩ | ⟨s', h1, h2, h3⟩
    · exact ⟨r, .done h1, h2⟩
    · obtain ⟨r, h4, h5⟩ := ih (μ s') (by omega) h2 rfl
      exact ⟨r, .next h1 h4, h5⟩
theorem runL_all {α : Type} (p : α → Bool) (l : List α) : runL (fun a (_ : Unit) => if p a = true then .inl () else .inr false) (fun _ => true) l () = l.all p := by
  induction l with
  | nil => rfl
  | cons a l ih =>
    cases h : p a with
    | true => rw [runL_go (s' := ()) (by simp [h]), ih, List.all_cons, h, Bool.true_and]
    | false => rw [runL_end (r := false) (by simp [h]), List.all_cons, h, Bool.false_and]
theorem Rounds.all {α : Type} (xs : List α) (p : α → Bool) {B : Int → Sum Int Bool → Prop} (h1 : ∀ i (hi : i < xs.length), p xs[i] = true → B i (.inl ((i : Int) + 1))) (h2 : ∀ i (hi : i < xs.length), p xs[i] = false → B i (.inr false)) (h3 : B xs.length (.inr true)) : Rounds B 0 (xs.all p) := by
  rw [← runL_all]
  refine Rounds.row xs (fun (_ : Unit) i => i) _ _ (fun _ _ => True) (fun i hi s _ => ⟨fun s' hs => ?_, fun r hr => ?_⟩) (fun _ _ => h3) trivial
  · cases hp : p xs[i] with
    | true => exact ⟨h1 i hi hp, trivial⟩
    | false => simp [hp] at hs
  · cases hp : p xs[i] with
    | true => simp [hp] at hr
    | false => simp [hp] at hr; subst hr; exact h2 i hi hp

theorem Rounds.allThen {α ρ : Type} (xs : List α) (p : α → Bool) {B : Int → Sum Int ρ → Prop} {r f : ρ} (h1 : ∀ i (hi : i < xs.length), p xs[i] = true → B i (.inl ((i : Int) + 1))) (h2 : ∀ i (hi : i < xs.length), p xs[i] = false → B i (.inr f)) (h3 : xs.all p = true → B xs.length (.inr r)) : Rounds B 0 (if xs.all p = true then r else f) := by
  have e : ∀ l : List α, runL (fun a (_ : Unit) => if p a = true then .inl () else .inr f) (fun _ => r) l () = if l.all p = true then r else f := by
    intro l
    induction l with
    | nil => rfl
    | cons a l ih =>
      cases h : p a with
      | true => rw [runL_go (s' := ()) (by simp [h]), ih, List.all_cons, h, Bool.true_and]
      | false => rw [runL_end (r := f) (by simp [h]), List.all_cons, h, Bool.false_and]; rfl
  rw [← e]
  refine Rounds.row xs (fun (_ : Unit) i => i) _ _ (fun i _ => ∀ j (hj : j < xs.length), j < i → p xs[j] = true) (fun i hi s hs => ⟨fun s' hs' => ?_, fun r hr => ?_⟩) (fun _ hs => h3 (List.all_eq_true.2 fun x hx => ?_)) (fun j _ hj => absurd hj (Nat.not_lt_zero _))
  · cases hp : p xs[i] with
    | true => exact ⟨h1 i hi hp, fun j hj hji => by
        rcases Nat.lt_or_ge j i with h | h
        · exact hs j hj h
        · have : j = i := by omega
          subst this; exact hp⟩
    | false => simp [hp] at hs'
  · cases hp : p xs[i] with
    | true => simp [hp] at hr
    | false => simp [hp] at hr; subst hr; exact h2 i hi hp
  · obtain ⟨j, hj, rfl⟩ := List.getElem_of_mem hx
    exact hs j hj hj

def U (x : Int) : Prop := 0 ≤ x ∧ x < 18446744073709551616
def has (x : Int) (t : Nat) : Bool := x.toNat.testBit t
def Sub (x y : Int) : Prop := ∀ t, has x t = true → has y t = true
abbrev OR (x y : Int) : Int := bits .or .u64 x y
abbrev AN (x y : Int) : Int := bits .andNot .u64 x y
theorem U.of_wf {x : Int} (h : (Lit.int .u64 x).wf = true) : U x := by
  simp only [Lit.wf, Bool.and_eq_true, decide_eq_true_eq] at h
  have h1 : IntKind.u64.min = 0 := rfl
  have h2 : IntKind.u64.max = 18446744073709551615 := rfl
  rw [h1, h2] at h
  exact ⟨h.1, by omega⟩
theorem U.zero : U 0 := ⟨by omega, by omega⟩
theorem OR_eq {x y : Int} (hx : U x) (hy : U y) : OR x y = ((x.toNat ||| y.toNat : Nat) : Int) := u64_or x y hx.1 hx.2 hy.1 hy.2
theorem U.or {x y : Int} (hx : U x) (hy : U y) : U (OR x y) := by
  rw [OR_eq hx hy]
  have h1 : x.toNat < 2 ^ 64 := by have := hx.1; have := hx.2; omega
  have h2 : y.toNat < 2 ^ 64 := by have := hy.1; have := hy.2; omega
  have := Nat.or_lt_two_pow h1 h2
  exact ⟨by omega, by omega⟩
theorem has_or {x y : Int} (hx : U x) (hy : U y) (t : Nat) : has (OR x y) t = (has x t || has y t) := by
  rw [OR_eq hx hy]; simp [has, Nat.testBit_or]
theorem has_zero (t : Nat) : has 0 t = false := by simp [has]
theorem has_ext {x y : Int} (hx : U x) (hy : U y) (h : ∀ t, has x t = has y t) : x = y := by
  have : x.toNat = y.toNat := Nat.eq_of_testBit_eq h
  have := hx.1; have := hy.1; omega
theorem le_or {x y : Int} (hx : U x) (hy : U y) : x ≤ OR x y := by
  rw [OR_eq hx hy]
  have : x.toNat ≤ x.toNat ||| y.toNat := Nat.left_le_or
  have := hx.1; omega
theorem or_same {x y : Int} (hx : U x) (hy : U y) (h : OR x y = x) : Sub y x := fun t ht => by
  have := has_or hx hy t
  rw [h, ht] at this
  simpa using this
theorem Sub.refl (x : Int) : Sub x x := fun _ h => h
theorem Sub.trans {x y z : Int} (h : Sub x y) (k : Sub y z) : Sub x z := fun t ht => k t (h t ht)
theorem Sub.zero (x : Int) : Sub 0 x := fun t h => by rw [has_zero] at h; cases h
theorem Sub.or {x y z : Int} (hx : U x) (hy : U y) (h : Sub x z) (k : Sub y z) : Sub (OR x y) z := fun t ht => by
  rw [has_or hx hy, Bool.or_eq_true] at ht
  rcases ht with ht | ht
  · exact h t ht
  · exact k t ht
theorem Sub.l {x y : Int} (hx : U x) (hy : U y) : Sub x (OR x y) := fun t ht => by rw [has_or hx hy, ht]; rfl
theorem Sub.r {x y : Int} (hx : U x) (hy : U y) : Sub y (OR x y) := fun t ht => by rw [has_or hx hy, ht]; simp
theorem Sub.eq {x y : Int} (hx : U x) (hy : U y) (h : Sub x y) (k : Sub y x) : x = y := has_ext hx hy fun t => by
  rw [Bool.eq_iff_iff]; exact ⟨h t, k t⟩
theorem has_lt {x : Int} (hx : U x) {t : Nat} (h : has x t = true) : t < 64 := by
  rcases Nat.lt_or_ge t 64 with h1 | h1
  · exact h1
  · have h2 : x.toNat < 2 ^ t := Nat.lt_of_lt_of_le (show x.toNat < 2 ^ 64 by have := hx.1; have := hx.2; omega) (Nat.pow_le_pow_right (by omega) h1)
    unfold has at h
    rw [Nat.testBit_lt_two_pow h2] at h
    cases h
theorem an_zero {x y : Int} (hx : U x) (hy : U y) : AN x y = 0 ↔ Sub x y := by
  have e := u64_andNot x y hx.1 hx.2 hy.1 hy.2
  have hy2 : y.toNat < 2 ^ 64 := by have := hy.1; have := hy.2; omega
  have hb : ∀ t, (18446744073709551615 - y.toNat).testBit t = (decide (t < 64) && !(y.toNat.testBit t)) := fun t => by
    have := Nat.testBit_two_pow_sub_succ hy2 t
    rwa [show 2 ^ 64 - (y.toNat + 1) = 18446744073709551615 - y.toNat by omega] at this
  show bits .andNot .u64 x y = 0 ↔ _
  rw [e]
  constructor
  · intro h t ht
    have h0 : x.toNat &&& (18446744073709551615 - y.toNat) = 0 := by omega
    have h1 := congrArg (fun n => Nat.testBit n t) h0
    simp only [Nat.testBit_and, hb, Nat.zero_testBit] at h1
    have h3 := has_lt hx ht
    unfold has at ht ⊢
    rw [ht] at h1
    simpa [h3] using h1
  · intro h
    have h0 : x.toNat &&& (18446744073709551615 - y.toNat) = 0 := Nat.eq_of_testBit_eq fun t => by
      simp only [Nat.testBit_and, hb, Nat.zero_testBit]
      cases hx' : x.toNat.testBit t with
      | false => rfl
      | true =>
        have := h t hx'
        unfold has at this
        simp [this]
    rw [h0]; rfl
theorem wrapU {x : Int} (h : U x) : IntKind.u64.wrap x = x := by rw [IntKind.wrap_u64]; have := h.1; have := h.2; omega
theorem U.one {t : Nat} (h : t < 64) : U (((2 ^ t : Nat) : Int)) := by
  have : 2 ^ t < 2 ^ 64 := Nat.pow_lt_pow_right (by omega) h
  exact ⟨Int.natCast_nonneg _, by omega⟩
theorem shl_one {t : Nat} (h : t < 64) : shlV .u64 1 (t : Int) = ((2 ^ t : Nat) : Int) := by
  unfold shlV
  rw [show min ((t : Int)).toNat IntKind.u64.bits = t by simp [IntKind.bits]; omega, Int.one_mul, show ((2 : Int) ^ t) = ((2 ^ t : Nat) : Int) by simp]
  exact wrapU (U.one h)
theorem has_one {t i : Nat} : has ((2 ^ t : Nat) : Int) i = decide (t = i) := by
  simp only [has, Int.toNat_natCast, Nat.testBit_two_pow]
theorem U.small {x : Int} (h : 0 ≤ x) (h2 : x ≤ 1000) : U x := ⟨h, by omega⟩
theorem bit_one {x : Int} (hx : U x) {t : Nat} (h : t < 64) : bits .and .u64 (shrV .u64 x (t : Int)) 1 = 1 ↔ has x t = true := by
  unfold shrV
  rw [show min ((t : Int)).toNat IntKind.u64.bits = t by simp [IntKind.bits]; omega]
  have e : x.fdiv (2 ^ t) = ((x.toNat / 2 ^ t : Nat) : Int) := by
    rw [show x = ((x.toNat : Nat) : Int) by have := hx.1; omega, show ((2 : Int) ^ t) = ((2 ^ t : Nat) : Int) by simp]
    rw [Int.fdiv_eq_ediv_of_nonneg _ (Int.natCast_nonneg _)]
    simp
  have hlt : x.toNat / 2 ^ t < 18446744073709551616 := Nat.lt_of_le_of_lt (Nat.div_le_self _ _) (by have := hx.1; have := hx.2; omega)
  rw [e, show (1 : Int) = ((1 : Nat) : Int) by rfl, u64_and_nat _ _ hlt (by omega), Nat.and_one_is_mod]
  unfold has
  rw [Nat.testBit_eq_decide_div_mod_eq, decide_eq_true_eq]
  omega
end Go.Proofs.Ytbejkaeidnajkaa.B
