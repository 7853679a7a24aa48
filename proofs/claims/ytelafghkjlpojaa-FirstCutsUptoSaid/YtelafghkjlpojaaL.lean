/- The plain side of chapter 11: what 'first' answers is closed under the productions, and least. No condition. -/
import Derived.Test.YtelafghkjlpojaaU1
import Derived.Test.YtelafghkjlpojaaR
import Derived.SizedLaws
set_option linter.unusedVariables false
namespace Go.Proofs.Ytelafghkjlpojaa.L
open Go.Proofs.Ytelafghkjlpojaa.B Go.Proofs.Ytelafghkjlpojaa.R

structure Lg (g : api_Gram) : Prop where
  t : g.terms.length < 2 ^ 60
  s : g.syms.length < 2 ^ 60
  p : g.prods.length < 2 ^ 60
  r : ∀ p ∈ g.prods, p.rhs.length < 2 ^ 60
def symOk (g : api_Gram) (r : api_Ref) : Bool := decide (0 ≤ r.sym) && decide (r.sym < (g.terms.length : Int) + (g.syms.length : Int))
def rowOk (g : api_Gram) (row : List api_Ref) : Bool := row.all (symOk g)
def prodOk (g : api_Gram) (p : api_Prod) : Bool := decide (-1 ≤ p.lhs) && decide (p.lhs < (g.syms.length : Int)) && rowOk g p.rhs
def soundB (g : api_Gram) : Bool := decide (1 ≤ g.terms.length) && decide (g.terms.length ≤ 64) && decide (g.syms.length ≤ 128) && g.prods.all (prodOk g)
theorem wA {g : api_Gram} (h : Lg g) : w64 ((g.terms.length : Int) + (g.syms.length : Int)) = (g.terms.length : Int) + (g.syms.length : Int) := w64_id (by have := h.t; have := h.s; omega)
theorem symbols1 {g : api_Gram} (h : Lg g) {row : List api_Ref} (hr : row.length < 2 ^ 60) : first_symbols g row (rowOk g row) := by
  unfold first_symbols rowOk
  refine Rounds.all row (symOk g) (fun i hi hp => ?_) (fun i hi hp => ?_) ?_ <;> unfold first_symbols_b1
  · rw [if_pos (by omega), ix_nat hi, wA h, w64_nat (by omega)]
    simp only [symOk, Bool.and_eq_true, decide_eq_true_eq] at hp
    exact ⟨by omega, by rw [if_neg (by omega), if_neg (by omega)]⟩
  · rw [if_pos (by omega), ix_nat hi, wA h]
    refine ⟨by omega, ?_⟩
    split
    · rfl
    · rw [if_pos]
      simp only [symOk, Bool.and_eq_false_iff, decide_eq_false_iff_not] at hp
      omega
  · rw [if_neg (by omega)]
theorem symbols2 {g : api_Gram} (h : Lg g) {row : List api_Ref} (hr : row.length < 2 ^ 60) : trellislaw11_symbols g row (rowOk g row) := by
  unfold trellislaw11_symbols rowOk
  refine Rounds.all row (symOk g) (fun i hi hp => ?_) (fun i hi hp => ?_) ?_ <;> unfold trellislaw11_symbols_b1
  · rw [if_pos (by omega), ix_nat hi, wA h, w64_nat (by omega)]
    simp only [symOk, Bool.and_eq_true, decide_eq_true_eq] at hp
    exact ⟨by omega, by rw [if_neg (by omega), if_neg (by omega)]⟩
  · rw [if_pos (by omega), ix_nat hi, wA h]
    refine ⟨by omega, ?_⟩
    split
    · rfl
    · rw [if_pos]
      simp only [symOk, Bool.and_eq_false_iff, decide_eq_false_iff_not] at hp
      omega
  · rw [if_neg (by omega)]
theorem prods1 {g : api_Gram} (h : Lg g) : Rounds (fun (s : Int) o => first_sound_b2 g s o) 0 (g.prods.all (prodOk g)) := by
  refine Rounds.all g.prods (prodOk g) (fun i hi hp => ?_) (fun i hi hp => ?_) ?_ <;> unfold first_sound_b2
  · rw [if_pos (by omega), ix_nat hi, w64_nat (by have := h.p; omega)]
    simp only [prodOk, Bool.and_eq_true, decide_eq_true_eq] at hp
    exact ⟨by omega, by rw [if_neg (by omega), if_neg (by omega)]; exact ⟨_, symbols1 h (h.r _ (List.getElem_mem hi)), by rw [if_pos hp.2]⟩⟩
  · rw [if_pos (by omega), ix_nat hi]
    refine ⟨by omega, ?_⟩
    split
    · rfl
    · split
      · rfl
      · refine ⟨_, symbols1 h (h.r _ (List.getElem_mem hi)), ?_⟩
        rw [if_neg]
        simp only [prodOk, Bool.and_eq_false_iff, decide_eq_false_iff_not] at hp
        rcases hp with (hp | hp) | hp
        · omega
        · omega
        · rw [hp]; simp
  · rw [if_neg (by omega)]
theorem prods2 {g : api_Gram} (h : Lg g) : Rounds (fun (s : Int) o => trellislaw11_sound_b2 g s o) 0 (g.prods.all (prodOk g)) := by
  refine Rounds.all g.prods (prodOk g) (fun i hi hp => ?_) (fun i hi hp => ?_) ?_ <;> unfold trellislaw11_sound_b2
  · rw [if_pos (by omega), ix_nat hi, w64_nat (by have := h.p; omega)]
    simp only [prodOk, Bool.and_eq_true, decide_eq_true_eq] at hp
    exact ⟨by omega, by rw [if_neg (by omega), if_neg (by omega)]; exact ⟨_, symbols2 h (h.r _ (List.getElem_mem hi)), by rw [if_pos hp.2]⟩⟩
  · rw [if_pos (by omega), ix_nat hi]
    refine ⟨by omega, ?_⟩
    split
    · rfl
    · split
      · rfl
      · refine ⟨_, symbols2 h (h.r _ (List.getElem_mem hi)), ?_⟩
        rw [if_neg]
        simp only [prodOk, Bool.and_eq_false_iff, decide_eq_false_iff_not] at hp
        rcases hp with (hp | hp) | hp
        · omega
        · omega
        · rw [hp]; simp
  · rw [if_neg (by omega)]
theorem sound1 {g : api_Gram} (h : Lg g) : first_sound g (soundB g) := by
  unfold first_sound first_sound_j1 soundB
  by_cases h1 : g.terms.length < 1
  · rw [if_pos (by omega), if_pos rfl]; simp; omega
  · rw [if_neg (by omega)]
    by_cases h2 : g.terms.length > 64
    · rw [if_pos (by omega), if_pos rfl]; simp; omega
    · rw [if_neg (by omega)]
      by_cases h3 : g.syms.length > 128
      · rw [if_pos (by simp; omega)]; simp; omega
      · rw [if_neg (by simp; omega)]
        have : (decide (1 ≤ g.terms.length) && decide (g.terms.length ≤ 64) && decide (g.syms.length ≤ 128) && g.prods.all (prodOk g)) = g.prods.all (prodOk g) := by
          rw [decide_eq_true (by omega), decide_eq_true (by omega), decide_eq_true (by omega)]; rfl
        rw [this]
        exact prods1 h
theorem sound2 {g : api_Gram} (h : Lg g) : trellislaw11_sound g (soundB g) := by
  unfold trellislaw11_sound trellislaw11_sound_j1 soundB
  by_cases h1 : g.terms.length < 1
  · rw [if_pos (by omega), if_pos rfl]; simp; omega
  · rw [if_neg (by omega)]
    by_cases h2 : g.terms.length > 64
    · rw [if_pos (by omega), if_pos rfl]; simp; omega
    · rw [if_neg (by omega)]
      by_cases h3 : g.syms.length > 128
      · rw [if_pos (by simp; omega)]; simp; omega
      · rw [if_neg (by simp; omega)]
        have : (decide (1 ≤ g.terms.length) && decide (g.terms.length ≤ 64) && decide (g.syms.length ≤ 128) && g.prods.all (prodOk g)) = g.prods.all (prodOk g) := by
          rw [decide_eq_true (by omega), decide_eq_true (by omega), decide_eq_true (by omega)]; rfl
        rw [this]
        exact prods2 h

/-! ### what begins a row -/
def ofF (s : first_sets) (r : api_Ref) (out : Int) : Sum Int (Int × Bool) := if s.vanishes r.sym = true then .inl (OR out (s.first r.sym)) else .inr (OR out (s.first r.sym), false)
def ofS (s : first_sets) (row : List api_Ref) (out : Int) : Int × Bool := runL (ofF s) (fun out => (out, true)) row out
theorem ofS_nil (s : first_sets) (out : Int) : ofS s [] out = (out, true) := rfl
theorem ofS_go {s : first_sets} {r : api_Ref} {l : List api_Ref} {out : Int} (h : s.vanishes r.sym = true) : ofS s (r :: l) out = ofS s l (OR out (s.first r.sym)) := runL_go (by simp [ofF, h])
theorem ofS_end {s : first_sets} {r : api_Ref} {l : List api_Ref} {out : Int} (h : s.vanishes r.sym = false) : ofS s (r :: l) out = (OR out (s.first r.sym), false) := runL_end (by simp [ofF, h])
def Ok (s : first_sets) : Prop := ∀ j, U (s.first j)
theorem ofS_U {s : first_sets} (hs : Ok s) : ∀ {row : List api_Ref} {out : Int}, U out → U (ofS s row out).1
  | [], out, h => h
  | r :: l, out, h => by
    cases hv : s.vanishes r.sym with
    | true => rw [ofS_go hv]; exact ofS_U hs (h.or (hs _))
    | false => rw [ofS_end hv]; exact h.or (hs _)
theorem rowOk_mem {g : api_Gram} {row : List api_Ref} (h : rowOk g row = true) {r : api_Ref} (hr : r ∈ row) : 0 ≤ r.sym ∧ r.sym < (g.terms.length : Int) + (g.syms.length : Int) := by
  have := List.all_eq_true.1 h r hr
  simpa [symOk] using this
theorem soundB_T {g : api_Gram} (h : soundB g = true) : 1 ≤ g.terms.length ∧ g.terms.length ≤ 64 ∧ g.syms.length ≤ 128 := by
  simp only [soundB, Bool.and_eq_true, decide_eq_true_eq] at h
  exact ⟨h.1.1.1, h.1.1.2, h.1.2⟩
theorem soundB_p {g : api_Gram} (h : soundB g = true) {p : api_Prod} (hp : p ∈ g.prods) : -1 ≤ p.lhs ∧ p.lhs < (g.syms.length : Int) ∧ rowOk g p.rhs = true := by
  simp only [soundB, Bool.and_eq_true, decide_eq_true_eq] at h
  have := List.all_eq_true.1 h.2 p hp
  simp only [prodOk, Bool.and_eq_true, decide_eq_true_eq] at this
  exact ⟨this.1.1, this.1.2, this.2⟩
theorem Rounds.pair {α σ τ ρ : Type} (xs : List α) (mk : σ → Int → τ) {B : τ → Sum τ ρ → Prop} {κ : Type} (f : α → σ → Sum σ κ) (e : σ → κ) (g : κ → ρ)
    (hB : ∀ i (hi : i < xs.length) s, (∀ s', f xs[i] s = .inl s' → B (mk s i) (.inl (mk s' ((i : Int) + 1)))) ∧ (∀ r, f xs[i] s = .inr r → B (mk s i) (.inr (g r))))
    (hE : ∀ s, B (mk s xs.length) (.inr (g (e s)))) (s : σ) : Rounds B (mk s 0) (g (runL f e xs s)) := by
  have h1 : ∀ (l : List α) (s : σ), g (runL f e l s) = runL (fun a s => match f a s with | .inl s' => .inl s' | .inr r => .inr (g r)) (fun s => g (e s)) l s := by
    intro l
    induction l with
    | nil => intro s; rfl
    | cons a l ih =>
      intro s
      cases h : f a s with
      | inl s' => rw [runL_go h, runL_go (s' := s') (by simp [h]), ih]
      | inr r => rw [runL_end h, runL_end (r := g r) (by simp [h])]
  rw [h1]
  refine Rounds.row xs mk _ _ (fun _ _ => True) (fun i hi s _ => ⟨fun s' hs => ⟨(hB i hi s).1 s' ?_, trivial⟩, fun r hr => ?_⟩) (fun s _ => hE s) trivial
  · cases h : f xs[i] s with
    | inl x => simp [h] at hs; rw [hs]
    | inr x => simp [h] at hs
  · cases h : f xs[i] s with
    | inl x => simp [h] at hr
    | inr x => simp [h] at hr; rw [← hr]; exact (hB i hi s).2 x h
theorem of1 {g : api_Gram} (hg : soundB g = true) (s : first_sets) {row : List api_Ref} (hl : row.length < 2 ^ 60) (hr : rowOk g row = true) : first_sets_of s row ((ofS s row 0).1, (ofS s row 0).2, s) := by
  obtain ⟨_, t1, t2⟩ := soundB_T hg
  unfold first_sets_of
  refine Rounds.pair row (fun out i => ((out, i) : Int × Int)) (ofF s) (fun out => (out, true)) (fun x => (x.1, x.2, s)) (fun i hi out => ?_) (fun out => ?_) 0
  · obtain ⟨h1, h2⟩ := rowOk_mem hr (List.getElem_mem hi)
    constructor
    · intro s' h
      unfold ofF at h
      split at h
      · rename_i hv
        injection h with h
        subst h
        unfold first_sets_of_b1
        simp only
        rw [if_pos (by omega), ix_nat hi, w64_nat (by omega)]
        exact ⟨by omega, by omega, by rw [if_pos hv]⟩
      · cases h
    · intro r h
      unfold ofF at h
      split at h
      · cases h
      · rename_i hv
        injection h with h
        subst h
        unfold first_sets_of_b1
        simp only
        rw [if_pos (by omega), ix_nat hi]
        exact ⟨by omega, by omega, by rw [if_neg hv]⟩
  · unfold first_sets_of_b1
    rw [if_neg (by show ¬ _ < _; omega)]

/-! ### one below the other -/
def LeS (s s' : first_sets) : Prop := ∀ j, Sub (s.first j) (s'.first j) ∧ (s.vanishes j = true → s'.vanishes j = true)
theorem LeS.refl (s : first_sets) : LeS s s := fun j => ⟨Sub.refl _, id⟩
theorem LeS.trans {a b c : first_sets} (h : LeS a b) (k : LeS b c) : LeS a c := fun j => ⟨(h j).1.trans (k j).1, fun hv => (k j).2 ((h j).2 hv)⟩
theorem ofS_acc {s : first_sets} (hs : Ok s) : ∀ {row : List api_Ref} {out : Int}, U out → Sub out (ofS s row out).1
  | [], out, h => Sub.refl _
  | r :: l, out, h => by
    cases hv : s.vanishes r.sym with
    | true => rw [ofS_go hv]; exact (Sub.l h (hs _)).trans (ofS_acc hs (h.or (hs _)))
    | false => rw [ofS_end hv]; exact Sub.l h (hs _)
theorem ofS_le {s s' : first_sets} (hs : Ok s) (hs' : Ok s') (h : LeS s s') : ∀ {row : List api_Ref} {out out' : Int}, U out → U out' → Sub out out' → Sub (ofS s row out).1 (ofS s' row out').1 ∧ ((ofS s row out).2 = true → (ofS s' row out').2 = true)
  | [], out, out', _, _, k => ⟨k, fun _ => rfl⟩
  | r :: l, out, out', u, u', k => by
    have k2 : Sub (OR out (s.first r.sym)) (OR out' (s'.first r.sym)) := Sub.or u (hs _) (k.trans (Sub.l u' (hs' _))) ((h r.sym).1.trans (Sub.r u' (hs' _)))
    cases hv : s.vanishes r.sym with
    | true => rw [ofS_go hv, ofS_go ((h r.sym).2 hv)]; exact ofS_le hs hs' h (u.or (hs _)) (u'.or (hs' _)) k2
    | false =>
      rw [ofS_end hv]
      refine ⟨?_, fun hc => by cases hc⟩
      cases hv' : s'.vanishes r.sym with
      | true => rw [ofS_go hv']; exact k2.trans (ofS_acc hs' (u'.or (hs' _)))
      | false => rw [ofS_end hv']; exact k2
def Agree (n : Nat) (s s' : first_sets) : Prop := ∀ j : Int, 0 ≤ j → j < n → s.first j = s'.first j ∧ s.vanishes j = s'.vanishes j
theorem ofS_agree {n : Nat} {s s' : first_sets} (h : Agree n s s') : ∀ {row : List api_Ref} {out : Int}, (∀ r ∈ row, 0 ≤ r.sym ∧ r.sym < n) → ofS s row out = ofS s' row out
  | [], out, _ => rfl
  | r :: l, out, hr => by
    obtain ⟨h1, h2⟩ := h r.sym (hr r (by simp)).1 (hr r (by simp)).2
    have ih := fun out => ofS_agree (out := out) h (fun x hx => hr x (by simp [hx]) : ∀ x ∈ l, 0 ≤ x.sym ∧ x.sym < n)
    cases hv : s.vanishes r.sym with
    | true => rw [ofS_go hv, ofS_go (h2 ▸ hv), ih, h1]
    | false => rw [ofS_end hv, ofS_end (h2 ▸ hv), h1]

/-! ### a step, a pass -/
def xOf (g : api_Gram) (p : api_Prod) : Int := (g.terms.length : Int) + p.lhs
def step (g : api_Gram) (s : first_sets) (p : api_Prod) : first_sets :=
  if p.lhs < 0 then s else
    ⟨upd s.first (xOf g p) (OR (s.first (xOf g p)) (ofS s p.rhs 0).1), upd s.vanishes (xOf g p) (if s.vanishes (xOf g p) = true then true else (ofS s p.rhs 0).2)⟩
def pass (g : api_Gram) (s : first_sets) (l : List api_Prod) : first_sets := l.foldl (step g) s
def ClAt (g : api_Gram) (s : first_sets) (p : api_Prod) : Prop := 0 ≤ p.lhs → Sub (ofS s p.rhs 0).1 (s.first (xOf g p)) ∧ ((ofS s p.rhs 0).2 = true → s.vanishes (xOf g p) = true)
def Cl (g : api_Gram) (s : first_sets) : Prop := ∀ p ∈ g.prods, ClAt g s p
theorem upd_same {α : Type} (f : Int → α) (i : Int) (y : α) : upd f i y i = y := by simp [upd]
theorem upd_ne {α : Type} (f : Int → α) {i j : Int} (y : α) (h : j ≠ i) : upd f i y j = f j := by simp [upd, h]
theorem step_ok {g : api_Gram} {s : first_sets} {p : api_Prod} (hs : Ok s) : Ok (step g s p) := by
  unfold step
  split
  · exact hs
  · intro j
    show U (upd _ _ _ j)
    by_cases hj : j = xOf g p
    · subst hj; rw [upd_same]; exact (hs _).or (ofS_U hs U.zero)
    · rw [upd_ne _ _ hj]; exact hs j
theorem step_le {g : api_Gram} {s : first_sets} {p : api_Prod} (hs : Ok s) : LeS s (step g s p) := by
  unfold step
  split
  · exact LeS.refl _
  · intro j
    show Sub _ (upd _ _ _ j) ∧ (_ → upd _ _ _ j = true)
    by_cases hj : j = xOf g p
    · subst hj; rw [upd_same, upd_same]; exact ⟨Sub.l (hs _) (ofS_U hs U.zero), fun h => by rw [if_pos h]⟩
    · rw [upd_ne _ _ hj, upd_ne _ _ hj]; exact ⟨Sub.refl _, id⟩
theorem step_below {g : api_Gram} {s s' : first_sets} {p : api_Prod} (hs : Ok s) (hs' : Ok s') (h : LeS s s') (hc : ClAt g s' p) : LeS (step g s p) s' := by
  unfold step
  split
  · exact h
  · rename_i hp
    obtain ⟨c1, c2⟩ := hc (by omega)
    obtain ⟨l1, l2⟩ := ofS_le hs hs' h (row := p.rhs) U.zero U.zero (Sub.refl 0)
    intro j
    show Sub (upd _ _ _ j) _ ∧ (upd _ _ _ j = true → _)
    by_cases hj : j = xOf g p
    · subst hj
      rw [upd_same, upd_same]
      refine ⟨Sub.or (hs _) (ofS_U hs U.zero) (h _).1 (l1.trans c1), fun hv => ?_⟩
      split at hv
      · rename_i hv2; exact (h _).2 hv2
      · exact c2 (l2 hv)
    · rw [upd_ne _ _ hj, upd_ne _ _ hj]; exact h j
theorem step_agree {g : api_Gram} {s : first_sets} {p : api_Prod} {n : Nat} (hs : Ok s) (ha : Agree n (step g s p) s) (hx : 0 ≤ xOf g p ∧ xOf g p < n) : ClAt g s p := by
  intro hp
  obtain ⟨h1, h2⟩ := ha _ hx.1 hx.2
  unfold step at h1 h2
  rw [if_neg (by omega)] at h1 h2
  have h1 : upd _ _ _ (xOf g p) = _ := h1
  have h2 : upd _ _ _ (xOf g p) = _ := h2
  rw [upd_same] at h1 h2
  refine ⟨or_same (hs _) (ofS_U hs U.zero) h1, fun hv => ?_⟩
  rw [hv] at h2
  rw [← h2]
  split <;> rfl
theorem pass_ok {g : api_Gram} : ∀ {l : List api_Prod} {s : first_sets}, Ok s → Ok (pass g s l)
  | [], s, h => h
  | p :: l, s, h => pass_ok (l := l) (step_ok h)
theorem pass_le {g : api_Gram} : ∀ {l : List api_Prod} {s : first_sets}, Ok s → LeS s (pass g s l)
  | [], s, h => LeS.refl _
  | p :: l, s, h => (step_le h).trans (pass_le (l := l) (step_ok h))
theorem pass_below {g : api_Gram} {s' : first_sets} (hs' : Ok s') : ∀ {l : List api_Prod} {s : first_sets}, Ok s → LeS s s' → (∀ p ∈ l, ClAt g s' p) → LeS (pass g s l) s'
  | [], s, h, k, c => k
  | p :: l, s, h, k, c => pass_below (l := l) hs' (step_ok h) (step_below h hs' k (c p (by simp))) fun q hq => c q (by simp [hq])
theorem agree_mid {n : Nat} {a b c : first_sets} (ha : Ok a) (hb : Ok b) (h1 : LeS a b) (h2 : LeS b c) (h : Agree n c a) : Agree n b a := fun j j0 j1 => by
  obtain ⟨e1, e2⟩ := h j j0 j1
  have k1 := (h1 j); have k2 := (h2 j)
  rw [e1, e2] at k2
  refine ⟨Sub.eq (hb j) (ha j) k2.1 k1.1, ?_⟩
  rw [Bool.eq_iff_iff]
  exact ⟨k2.2, k1.2⟩
theorem ClAt.agree {g : api_Gram} {n : Nat} {s u : first_sets} {p : api_Prod} (h : Agree n u s) (hx : 0 ≤ p.lhs → 0 ≤ xOf g p ∧ xOf g p < n) (hr : ∀ r ∈ p.rhs, 0 ≤ r.sym ∧ r.sym < n) (hc : ClAt g u p) : ClAt g s p := fun hp => by
  obtain ⟨x0, x1⟩ := hx hp
  obtain ⟨e1, e2⟩ := h _ x0 x1
  have := hc hp
  rwa [ofS_agree h hr, e1, e2] at this
theorem pass_closed {g : api_Gram} {n : Nat} {s : first_sets} (hs : Ok s) : ∀ {l : List api_Prod} {u : first_sets}, Ok u → LeS s u → Agree n (pass g u l) s → (∀ p ∈ l, (0 ≤ p.lhs → 0 ≤ xOf g p ∧ xOf g p < n) ∧ ∀ r ∈ p.rhs, 0 ≤ r.sym ∧ r.sym < n) → ∀ p ∈ l, ClAt g s p
  | [], u, hu, hle, ha, hb, p, hp => by simp at hp
  | p0 :: l, u, hu, hle, ha, hb, p, hp => by
    have hl1 : LeS u (step g u p0) := step_le hu
    have ho1 : Ok (step g u p0) := step_ok hu
    have ha1 : Agree n (step g u p0) s := agree_mid hs ho1 (hle.trans hl1) (pass_le (l := l) ho1) ha
    have ha0 : Agree n u s := agree_mid hs hu hle ((step_le hu).trans (pass_le (l := l) ho1)) ha
    rcases List.mem_cons.1 hp with rfl | hp
    · obtain ⟨b1, b2⟩ := hb p (by simp)
      refine ClAt.agree (n := n) ha0 b1 b2 fun h0 => ?_
      refine step_agree (n := n) hu (fun j j0 j1 => ?_) (b1 h0) h0
      obtain ⟨e1, e2⟩ := ha1 j j0 j1
      obtain ⟨e3, e4⟩ := ha0 j j0 j1
      exact ⟨e1.trans e3.symm, e2.trans e4.symm⟩
    · exact pass_closed hs (l := l) ho1 (hle.trans hl1) ha (fun q hq => hb q (by simp [hq])) p hp

/-! ### solve -/
def s0 (i : Nat) : first_sets := ⟨fun j => if 0 ≤ j ∧ j < (i : Int) then ((2 ^ j.toNat : Nat) : Int) else 0, fun _ => false⟩
theorem s0_succ {i : Nat} (hi : i < 64) : ({ s0 i with first := upd (s0 i).first i (shlV .u64 1 i) } : first_sets) = s0 (i + 1) := by
  unfold s0
  simp only [first_sets.mk.injEq, and_true]
  funext j
  by_cases hj : j = (i : Int)
  · subst hj; rw [upd_same, shl_one hi, if_pos (by omega)]; simp
  · rw [upd_ne _ _ hj]
    by_cases h : 0 ≤ j ∧ j < (i : Int)
    · rw [if_pos h, if_pos (by omega)]
    · rw [if_neg h, if_neg (by omega)]
theorem s0_ok {i : Nat} (hi : i ≤ 64) : Ok (s0 i) := fun j => by
  unfold s0
  show U (if _ then _ else _)
  split
  · exact U.one (by omega)
  · exact U.zero
structure Start (g : api_Gram) (s : first_sets) : Prop where
  ok : Ok s
  f : ∀ t : Nat, t < g.terms.length → s.first t = ((2 ^ t : Nat) : Int)
  v : ∀ t : Nat, t < g.terms.length → s.vanishes t = false
  least : ∀ s', Ok s' → (∀ t : Nat, t < g.terms.length → has (s'.first t) t = true) → Cl g s' → LeS s s'
theorem step_start {g : api_Gram} {s : first_sets} {p : api_Prod} (h : Start g s) (hp : p ∈ g.prods) : Start g (step g s p) := by
  have hne : 0 ≤ p.lhs → ∀ t : Nat, t < g.terms.length → (t : Int) ≠ xOf g p := fun h0 t ht => by unfold xOf; omega
  refine ⟨step_ok h.ok, fun t ht => ?_, fun t ht => ?_, fun s' o1 o2 o3 => step_below h.ok o1 (h.least s' o1 o2 o3) (o3 p hp)⟩
  · unfold step
    split
    · exact h.f t ht
    · rw [← h.f t ht]; exact upd_ne _ _ (hne (by omega) t ht)
  · unfold step
    split
    · exact h.v t ht
    · rw [← h.v t ht]; exact upd_ne _ _ (hne (by omega) t ht)
theorem pass_start {g : api_Gram} : ∀ {l : List api_Prod} {s : first_sets}, Start g s → (∀ p ∈ l, p ∈ g.prods) → Start g (pass g s l)
  | [], s, h, _ => h
  | p :: l, s, h, hl => pass_start (l := l) (step_start h (hl p (by simp))) fun q hq => hl q (by simp [hq])
def mu1 (s : first_sets) (j : Nat) : Nat := (18446744073709551616 - s.first j).toNat + (if s.vanishes j = true then 0 else 1)
def mu (s : first_sets) : Nat → Nat
  | 0 => 0
  | n + 1 => mu s n + mu1 s n
theorem mu1_le {s s' : first_sets} (hs : Ok s) (hs' : Ok s') (h : LeS s s') (j : Nat) : mu1 s' j ≤ mu1 s j := by
  obtain ⟨h1, h2⟩ := h j
  have h3 : s.first j ≤ s'.first j := by
    have e : OR (s.first j) (s'.first j) = s'.first j := Sub.eq ((hs _).or (hs' _)) (hs' _) (Sub.or (hs _) (hs' _) h1 (Sub.refl _)) (Sub.r (hs _) (hs' _))
    rw [← e]; exact le_or (hs _) (hs' _)
  unfold mu1
  cases hv : s.vanishes j with
  | true => rw [h2 hv]; simp; omega
  | false => split <;> simp <;> omega
theorem mu1_eq {s s' : first_sets} (hs : Ok s) (hs' : Ok s') (h : LeS s s') (j : Nat) (he : mu1 s' j = mu1 s j) : s'.first j = s.first j ∧ s'.vanishes j = s.vanishes j := by
  obtain ⟨h1, h2⟩ := h j
  have h3 : s.first j ≤ s'.first j := by
    have e : OR (s.first j) (s'.first j) = s'.first j := Sub.eq ((hs _).or (hs' _)) (hs' _) (Sub.or (hs _) (hs' _) h1 (Sub.refl _)) (Sub.r (hs _) (hs' _))
    rw [← e]; exact le_or (hs _) (hs' _)
  have u := hs j; have u' := hs' j
  unfold U at u u'
  unfold mu1 at he
  cases hv : s.vanishes j with
  | true => rw [hv, h2 hv] at he; simp at he; exact ⟨by omega, h2 hv⟩
  | false =>
    rw [hv] at he
    cases hv' : s'.vanishes j with
    | true => rw [hv'] at he; simp at he; omega
    | false => rw [hv'] at he; simp at he; exact ⟨by omega, rfl⟩
theorem mu_le {s s' : first_sets} (hs : Ok s) (hs' : Ok s') (h : LeS s s') : ∀ n, mu s' n ≤ mu s n
  | 0 => Nat.le_refl _
  | n + 1 => Nat.add_le_add (mu_le hs hs' h n) (mu1_le hs hs' h n)
theorem mu_eq {s s' : first_sets} (hs : Ok s) (hs' : Ok s') (h : LeS s s') : ∀ n, mu s' n = mu s n → ∀ j, j < n → s'.first j = s.first j ∧ s'.vanishes j = s.vanishes j
  | 0, _, j, hj => by omega
  | n + 1, he, j, hj => by
    have k1 := mu_le hs hs' h n; have k2 := mu1_le hs hs' h n
    simp only [mu] at he
    rcases Nat.lt_or_ge j n with hj2 | hj2
    · exact mu_eq hs hs' h n (by omega) j hj2
    · obtain rfl : j = n := by omega
      exact mu1_eq hs hs' h j (by omega)
theorem aeq_iff {α : Type} [DecidableEq α] {n : Nat} {f g : Int → α} : aeq n f g = true ↔ ∀ j : Nat, j < n → f j = g j := by
  simp [aeq]
theorem pass_take {g : api_Gram} {s : first_sets} {i : Nat} (h : i < g.prods.length) : pass g s (g.prods.take (i + 1)) = step g (pass g s (g.prods.take i)) g.prods[i] := by
  show List.foldl _ _ _ = _
  rw [show g.prods.take (i + 1) = g.prods.take i ++ [g.prods[i]] from List.take_succ_eq_append_getElem h, List.foldl_append]
  rfl
theorem loop3 {g : api_Gram} (hl : Lg g) (hg : soundB g = true) (s : first_sets) {o : Sum first_sets (Sum (Int × first_sets) first_sets)} (he : first_solve_b3 g s g.prods.length (pass g s g.prods) (.inr o)) : Rounds (fun (q : Int × first_sets) o => first_solve_b3 g s q.1 q.2 o) (0, s) o := by
  have h := Rounds.upto (B := fun (q : Int × first_sets) o => first_solve_b3 g s q.1 q.2 o) (r := o) (fun i => ((i : Int), pass g s (g.prods.take i))) g.prods.length (fun i hi => ?_) (by rw [List.take_length]; exact he)
  · simpa [pass] using h
  · show first_solve_b3 g s (i : Int) _ _
    obtain ⟨p1, p2, p3⟩ := soundB_p hg (List.getElem_mem hi)
    obtain ⟨_, t1, t2⟩ := soundB_T hg
    rw [pass_take hi]
    unfold first_solve_b3
    rw [if_pos (by omega), ix_nat hi, w64_nat (by have := hl.p; omega)]
    refine ⟨by omega, ?_⟩
    by_cases h0 : g.prods[i].lhs < 0
    · rw [if_pos h0]; unfold step; rw [if_pos h0]; rfl
    · rw [if_neg h0]
      have hw : w64 ((g.terms.length : Int) + g.prods[i].lhs) = xOf g g.prods[i] := w64_id (by omega)
      refine ⟨_, of1 hg _ (hl.r _ (List.getElem_mem hi)) p3, ?_⟩
      rw [hw]
      refine ⟨by unfold xOf; omega, _, rfl, ?_⟩
      unfold step
      rw [if_neg h0]
      split
      · rename_i hv
        refine ⟨_, rfl, ?_⟩
        have hv : (pass g s (List.take i g.prods)).vanishes (xOf g g.prods[i]) = true := hv
        first | rfl | (rw [if_pos hv]; rfl)
      · rename_i hv
        refine ⟨_, rfl, ?_⟩
        have hv : ¬ (pass g s (List.take i g.prods)).vanishes (xOf g g.prods[i]) = true := hv
        first | rfl | (rw [if_neg hv]; rfl)
structure Good (g : api_Gram) (s : first_sets) : Prop extends Start g s where
  cl : Cl g s
theorem inA {g : api_Gram} (hg : soundB g = true) : ∀ p ∈ g.prods, (0 ≤ p.lhs → 0 ≤ xOf g p ∧ xOf g p < (192 : Nat)) ∧ ∀ r ∈ p.rhs, 0 ≤ r.sym ∧ r.sym < (192 : Nat) := fun p hp => by
  obtain ⟨p1, p2, p3⟩ := soundB_p hg hp
  obtain ⟨_, t1, t2⟩ := soundB_T hg
  refine ⟨fun h0 => by unfold xOf; omega, fun r hr => ?_⟩
  have := rowOk_mem p3 hr
  omega
theorem solve_ok {g : api_Gram} (hl : Lg g) (hg : soundB g = true) : ∃ s, first_solve g s ∧ Good g s := by
  obtain ⟨t0, t1, t2⟩ := soundB_T hg
  have hst : Start g (s0 g.terms.length) := by
    refine ⟨s0_ok t1, fun t ht => ?_, fun t ht => rfl, fun s' o1 o2 o3 j => ⟨?_, fun h => by cases h⟩⟩
    · show (if _ then _ else _) = _
      rw [if_pos (by omega)]; simp
    · show Sub (if _ then _ else _) _
      split
      · rename_i h
        intro i hi
        rw [has_one, decide_eq_true_eq] at hi
        have := o2 j.toNat (by omega)
        rw [show ((j.toNat : Nat) : Int) = j by omega] at this
        rw [← hi]; exact this
      · exact Sub.zero _
  have h2 := Rounds.some (B := fun (s : first_sets) o => first_solve_b2 g s o) (P := fun r : Sum (Int × first_sets) first_sets => ∃ s, r = .inr s ∧ Good g s) (Start g) (fun s => mu s 192) (fun s hs => ?_) hst
  · obtain ⟨r, h3, s, rfl, h4⟩ := h2
    refine ⟨s, ?_, h4⟩
    unfold first_solve
    have := Rounds.upto (B := fun (q : Int × first_sets) o => first_solve_b1 g q.1 q.2 o) (r := s) (fun i => ((i : Int), s0 i)) g.terms.length (fun i hi => ?_) ?_
    · have e : s0 0 = (⟨(fun _ => 0), (fun _ => false)⟩ : first_sets) := by
        unfold s0
        simp only [first_sets.mk.injEq, and_true]
        funext j
        rw [if_neg (by omega)]
      rw [← e]; simpa using this
    · show first_solve_b1 g (i : Int) _ _
      unfold first_solve_b1
      rw [if_pos (by omega), w64_nat (by omega), s0_succ (by omega)]
      exact ⟨by omega, by omega, _, rfl, rfl⟩
    · show first_solve_b1 g (g.terms.length : Int) _ _
      unfold first_solve_b1
      rw [if_neg (by omega)]
      exact h3
  · have hp := pass_start (l := g.prods) hs fun _ h => h
    have hle := pass_le (g := g) (l := g.prods) hs.ok
    by_cases ha : Agree 192 (pass g s g.prods) s
    · left
      refine ⟨.inr s, ?_, s, rfl, { hs with cl := pass_closed (n := 192) hs.ok hs.ok (LeS.refl s) ha (inA hg) }⟩
      unfold first_solve_b2
      refine ⟨_, rfl, loop3 hl hg s ?_⟩
      unfold first_solve_b3
      rw [if_neg (by omega), if_pos (aeq_iff.2 fun j hj => (ha j (by omega) (by omega)).1), if_pos (aeq_iff.2 fun j hj => (ha j (by omega) (by omega)).2)]
      exact ⟨_, rfl, rfl⟩
    · right
      refine ⟨pass g s g.prods, ?_, hp, ?_⟩
      · unfold first_solve_b2
        refine ⟨_, rfl, loop3 hl hg s ?_⟩
        unfold first_solve_b3
        rw [if_neg (by omega)]
        by_cases h5 : aeq 192 (pass g s g.prods).first s.first = true
        · rw [if_pos h5, if_neg]
          · exact ⟨_, rfl, rfl⟩
          · intro h6
            apply ha
            intro j j0 j1
            have e1 := aeq_iff.1 h5 j.toNat (by omega)
            have e2 := aeq_iff.1 h6 j.toNat (by omega)
            rw [show ((j.toNat : Nat) : Int) = j by omega] at e1 e2
            exact ⟨e1, e2⟩
        · rw [if_neg h5]
          exact ⟨_, rfl, rfl⟩
      · show mu (pass g s g.prods) 192 < mu s 192
        rcases Nat.lt_or_ge (mu (pass g s g.prods) 192) (mu s 192) with h | h
        · exact h
        · exact absurd (fun j j0 j1 => by
            have := mu_eq hs.ok hp.ok hle 192 (Nat.le_antisymm (mu_le hs.ok hp.ok hle 192) h) j.toNat (by omega)
            rw [show ((j.toNat : Nat) : Int) = j by omega] at this
            exact this) ha

/-! ### what is told -/
def nA (g : api_Gram) : Nat := g.terms.length + g.syms.length
theorem wN {g : api_Gram} (hl : Lg g) : w64 ((g.terms.length : Int) + (g.syms.length : Int)) = (nA g : Int) := by rw [wA hl]; unfold nA; omega
def vansL (g : api_Gram) (s : first_sets) : List Bool := (List.range (nA g)).map fun j : Nat => s.vanishes (j : Int)
def firstL (g : api_Gram) (s : first_sets) : List Int := (List.range (nA g)).map fun j : Nat => s.first (j : Int)
theorem nullable_ok {g : api_Gram} (hl : Lg g) (hg : soundB g = true) {s : first_sets} (hs : first_solve g s) : first_Nullable g (vansL g s) := by
  obtain ⟨t0, t1, t2⟩ := soundB_T hg
  have hn : nA g ≤ 192 := by unfold nA; omega
  unfold first_Nullable
  refine ⟨true, hg ▸ sound1 hl, ?_⟩
  rw [if_pos rfl, wN hl]
  refine ⟨s, hs, _, rfl, by omega, vansL g s, ?_, ?_, rfl⟩
  · simp [vansL]
  · simp [vansL]; omega
theorem first_ok {g : api_Gram} (hl : Lg g) (hg : soundB g = true) {s : first_sets} (hs : first_solve g s) : first_First g (firstL g s) := by
  obtain ⟨t0, t1, t2⟩ := soundB_T hg
  have hn : nA g ≤ 192 := by unfold nA; omega
  unfold first_First
  refine ⟨true, hg ▸ sound1 hl, ?_⟩
  rw [if_pos rfl, wN hl]
  refine ⟨s, hs, _, rfl, by omega, firstL g s, ?_, ?_, rfl⟩
  · simp [firstL]
  · simp [firstL]; omega
theorem nullable_no {g : api_Gram} (hl : Lg g) (hg : soundB g = false) : first_Nullable g [] := by
  unfold first_Nullable
  exact ⟨false, hg ▸ sound1 hl, by rw [if_neg (by simp)]⟩
theorem first_no {g : api_Gram} (hl : Lg g) (hg : soundB g = false) : first_First g [] := by
  unfold first_First
  exact ⟨false, hg ▸ sound1 hl, by rw [if_neg (by simp)]⟩
def ofV (s : first_sets) (row : List api_Ref) (behind : Int) : Int := if (ofS s row 0).2 = true then OR (ofS s row 0).1 behind else (ofS s row 0).1
theorem of_ok {g : api_Gram} (hl : Lg g) (hg : soundB g = true) {s : first_sets} (hs : first_solve g s) {row : List api_Ref} (hr : row.length < 2 ^ 60) (hk : rowOk g row = true) (behind : Int) : first_Of g row behind (ofV s row behind) := by
  unfold first_Of first_Of_j1
  refine ⟨true, hg ▸ sound1 hl, ?_⟩
  rw [if_pos rfl]
  refine ⟨true, hk ▸ symbols1 hl hr, ?_⟩
  rw [if_neg (by simp)]
  refine ⟨s, hs, _, rfl, _, of1 hg s hr hk, ?_⟩
  unfold ofV
  show if (ofS s row 0).2 = true then _ else _
  split <;> rfl
theorem of_no {g : api_Gram} (hl : Lg g) {row : List api_Ref} (hr : row.length < 2 ^ 60) (hk : soundB g = false ∨ rowOk g row = false) (behind : Int) : first_Of g row behind 0 := by
  unfold first_Of first_Of_j1
  refine ⟨soundB g, sound1 hl, ?_⟩
  by_cases h : soundB g = true
  · rw [if_pos h]
    rcases hk with hk | hk
    · rw [h] at hk; cases hk
    · exact ⟨false, hk ▸ symbols1 hl hr, by rw [if_pos (show (!false) = true from rfl)]⟩
  · rw [if_neg h, if_pos rfl]
theorem ix_vans {g : api_Gram} {s : first_sets} {j : Nat} (h : j < nA g) : ix (vansL g s) (j : Int) = s.vanishes j := by
  rw [ix_nat (by simp [vansL]; omega)]; simp [vansL]
theorem ix_first {g : api_Gram} {s : first_sets} {j : Nat} (h : j < nA g) : ix (firstL g s) (j : Int) = s.first j := by
  rw [ix_nat (by simp [firstL]; omega)]; simp [firstL]

/-! ### no idle program -/
def g1 : api_Gram := ⟨[(⟨(⟨#[]⟩ : ByteArray), false⟩ : api_TermDef), (⟨(⟨#[97]⟩ : ByteArray), false⟩ : api_TermDef)], [(⟨(⟨#[115]⟩ : ByteArray), 1⟩ : api_Sym)], [(⟨-1, [(⟨2, (⟨#[]⟩ : ByteArray), (⟨#[]⟩ : ByteArray)⟩ : api_Ref)]⟩ : api_Prod), (⟨0, []⟩ : api_Prod), (⟨0, [(⟨1, (⟨#[]⟩ : ByteArray), (⟨#[]⟩ : ByteArray)⟩ : api_Ref), (⟨2, (⟨#[]⟩ : ByteArray), (⟨#[]⟩ : ByteArray)⟩ : api_Ref)]⟩ : api_Prod)]⟩
theorem g1_lg : Lg g1 := ⟨by decide, by decide, by decide, fun p hp => by simp [g1] at hp; rcases hp with rfl | rfl | rfl <;> decide⟩
theorem g1_sound : soundB g1 = true := by decide
def s1 : first_sets := ⟨fun j => if j = 0 then 1 else if j = 1 ∨ j = 2 then 2 else 0, fun j => decide (j = 2)⟩
theorem s1_ok : Ok s1 := fun j => by
  unfold s1
  show U (if _ then _ else _)
  split
  · exact ⟨by omega, by omega⟩
  · split
    · exact ⟨by omega, by omega⟩
    · exact U.zero
theorem or1 : OR 0 2 = 2 := by decide +kernel
theorem or2 : OR 2 1 = 3 := by decide +kernel
theorem s1_cl : Cl g1 s1 := fun p hp => by
  simp [g1] at hp
  rcases hp with rfl | rfl | rfl
  · intro h; simp at h
  · intro _
    rw [ofS_nil]
    exact ⟨Sub.zero _, fun _ => by simp [s1, xOf, g1]⟩
  · intro _
    rw [ofS_end (by simp [s1])]
    refine ⟨?_, fun h => by cases h⟩
    show Sub (OR 0 2) _
    rw [or1]
    exact Sub.refl _
theorem started_ok : trellislaw11_started true := by
  obtain ⟨s, hs, hG⟩ := solve_ok g1_lg g1_sound
  have f0 : s.first 0 = 1 := hG.f 0 (by decide)
  have f1 : s.first 1 = 2 := hG.f 1 (by decide)
  have v1 : s.vanishes 1 = false := hG.v 1 (by decide)
  have v0 : s.vanishes 0 = false := hG.v 0 (by decide)
  have c1 := hG.cl ⟨0, []⟩ (by simp [g1]) (by simp)
  have c2 := hG.cl ⟨0, [(⟨1, (⟨#[]⟩ : ByteArray), (⟨#[]⟩ : ByteArray)⟩ : api_Ref), (⟨2, (⟨#[]⟩ : ByteArray), (⟨#[]⟩ : ByteArray)⟩ : api_Ref)]⟩ (by simp [g1]) (by simp)
  have v2 : s.vanishes 2 = true := c1.2 rfl
  have hle := hG.least s1 s1_ok (fun t ht => by
    have : t = 0 ∨ t = 1 := by have : t < 2 := ht; omega
    rcases this with rfl | rfl <;> decide +kernel) s1_cl
  have f2 : s.first 2 = 2 := by
    have k1 : Sub (s.first 2) 2 := (hle 2).1
    have k2 := c2.1
    rw [ofS_end v1] at k2
    have k2 : Sub (OR 0 (s.first 1)) (s.first 2) := k2
    rw [f1, or1] at k2
    exact Sub.eq (hG.ok _) ⟨by omega, by omega⟩ k1 k2
  have hn : nA g1 = 3 := rfl
  have eA : vansL g1 s = [s.vanishes 0, s.vanishes 1, s.vanishes 2] := rfl
  have eB : firstL g1 s = [s.first 0, s.first 1, s.first 2] := rfl
  unfold trellislaw11_started
  refine ⟨_, nullable_ok g1_lg g1_sound hs, _, first_ok g1_lg g1_sound hs, ?_⟩
  rw [eA, eB, v0, v1, v2, f0, f1, f2]
  rw [if_pos (by rfl)]
  refine ⟨by decide, ?_⟩
  rw [if_pos (by rfl)]
  refine ⟨by decide, ?_⟩
  rw [if_neg (by decide), if_pos (by rfl)]
  refine ⟨by decide, ?_⟩
  rw [if_pos (by rfl)]
  refine ⟨by decide, ?_⟩
  rw [if_pos (by rfl)]
  refine ⟨_, of_ok g1_lg g1_sound hs (by decide) (by decide) 1, ?_⟩
  have : ofV s [(⟨2, (⟨#[]⟩ : ByteArray), (⟨#[]⟩ : ByteArray)⟩ : api_Ref)] 1 = 3 := by
    unfold ofV
    rw [ofS_go (show s.vanishes 2 = true from v2), ofS_nil]
    show (if true = true then OR (OR 0 (s.first 2)) 1 else _) = _
    rw [if_pos rfl, f2, or1, or2]
  rw [this]; rfl
theorem lg_of {g : api_Gram} (h1 : g.terms.length * 24 ≤ reachBytes) (h2 : g.syms.length * 24 ≤ reachBytes) (h3 : g.prods.length * 32 ≤ reachBytes) (h4 : ∀ p ∈ g.prods, p.rhs.length * 40 ≤ reachBytes) : Lg g := by
  have := reachBytes_lt
  exact ⟨by omega, by omega, by omega, fun p hp => by have := h4 p hp; omega⟩
end Go.Proofs.Ytelafghkjlpojaa.L
