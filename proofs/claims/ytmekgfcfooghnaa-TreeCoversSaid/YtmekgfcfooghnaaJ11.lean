/- What a maker of trees builds, as plain facts: rows of roots, nested places, leaves. Conditions: sizes. -/
import Derived.Test.YtmekgfcfooghnaaJ10
set_option linter.unusedVariables false
namespace Go.Proofs.Ytmekgfcfooghnaa.L
open Go.Proofs.Ytmekgfcfooghnaa.B Go.Proofs.Ytmekgfcfooghnaa.R
structure Key where
 f : Int
 t : Int
 k : Int
 l : Int
def key (n : api_Node) : Key := ⟨n.from_, n.to, n.kids, n.leaf⟩
def keys (t : List api_Node) : List Key := t.map key
def gr : List Key → List Key
 | [] => []
 | n :: l => n :: (gr l).drop n.k.toNat
def Span : Int → Int → List Key → Prop
 | lo, hi, [] => lo ≤ hi
 | lo, hi, n :: R => lo ≤ n.f ∧ n.f ≤ n.t ∧ Span n.t hi R
def RowK (n : Key) (R : List Key) : Prop := ∀ h : 0 < R.length, Span n.f n.t R ∧ R[0].f = n.f ∧ R[R.length - 1].t = n.t
def Nice : List Key → Prop
 | [] => True
 | n :: l => Nice l ∧ (0 ≤ n.k ∧ n.k ≤ ((gr l).length : Int)) ∧ n.f ≤ n.t ∧ RowK n ((gr l).take n.k.toNat)
theorem Span.le : ∀ {R : List Key} {lo hi : Int}, Span lo hi R → lo ≤ hi
 | [], _, _, h => h
 | n :: R, lo, hi, h => by have := h.2.2.le; have := h.1; have := h.2.1; omega
theorem Span.widen : ∀ {R : List Key} {lo hi lo' hi' : Int}, Span lo hi R → lo' ≤ lo → hi ≤ hi' → Span lo' hi' R
 | [], lo, hi, lo', hi', h, a, b => by have : lo ≤ hi := h; show lo' ≤ hi'; omega
 | n :: R, lo, hi, lo', hi', h, a, b => ⟨by have := h.1; omega, h.2.1, h.2.2.widen (Int.le_refl _) b⟩
theorem Span.app : ∀ {A B : List Key} {lo mid hi : Int}, Span lo mid A → Span mid hi B → Span lo hi (A ++ B)
 | [], B, lo, mid, hi, h1, h2 => h2.widen h1 (Int.le_refl _)
 | n :: A, B, lo, mid, hi, h1, h2 => ⟨h1.1, h1.2.1, h1.2.2.app h2⟩
theorem Span.inner : ∀ {R : List Key} {lo hi : Int}, Span lo hi R → ∀ h : 0 < R.length, Span R[0].f R[R.length - 1].t R ∧ lo ≤ R[0].f ∧ R[R.length - 1].t ≤ hi
 | [n], lo, hi, h, _ => ⟨⟨Int.le_refl _, h.2.1, Int.le_refl _⟩, h.1, h.2.2⟩
 | n :: m :: R, lo, hi, h, _ => by
  obtain ⟨i1, i2, i3⟩ := Span.inner h.2.2 (by simp)
  have e : (n :: m :: R)[(n :: m :: R).length - 1] = (m :: R)[(m :: R).length - 1] := by simp [List.getElem_cons]
  rw [e]
  exact ⟨⟨Int.le_refl _, h.2.1, i1.widen i2 (Int.le_refl _)⟩, h.1, i3⟩
theorem Span.nth : ∀ {R : List Key} {lo hi : Int}, Span lo hi R → ∀ i (hi' : i < R.length), lo ≤ R[i].f ∧ R[i].f ≤ R[i].t ∧ R[i].t ≤ hi ∧ ∀ j (hj : j < R.length), i < j → R[i].t ≤ R[j].f
 | n :: R, lo, hi, h, 0, _ => ⟨h.1, h.2.1, h.2.2.le, fun j hj hij => by
   obtain ⟨j, rfl⟩ : ∃ j', j = j' + 1 := ⟨j - 1, by omega⟩
   exact (h.2.2.nth j (by simpa using hj)).1⟩
 | n :: R, lo, hi, h, i + 1, hi' => by
   obtain ⟨a, b, c, d⟩ := h.2.2.nth i (by simpa using hi')
   have h1 := h.1
   have h2 := h.2.1
   refine ⟨?_, b, c, fun j hj hij => ?_⟩
   ·exact Int.le_trans h1 (Int.le_trans h2 a)
   ·obtain ⟨j, rfl⟩ : ∃ j', j = j' + 1 := ⟨j - 1, by omega⟩
    exact d j (by simpa using hj) (by omega)
theorem gr_app : ∀ {A : List Key} (B : List Key), Nice A → gr (A ++ B) = gr A ++ gr B
 | [], B, _ => rfl
 | n :: A, B, h => by
  show n :: (gr (A ++ B)).drop n.k.toNat = n :: (gr A).drop n.k.toNat ++ gr B
  have := h.2.1
  rw [gr_app B h.1, List.drop_append_of_le_length (by omega), List.cons_append]
theorem Nice.app : ∀ {A B : List Key}, Nice A → Nice B → Nice (A ++ B)
 | [], B, _, h => h
 | n :: A, B, h, h' => by
  have h2 := h.2.1
  refine ⟨h.1.app h', ⟨h2.1, ?_⟩, h.2.2.1, ?_⟩
  ·show n.k ≤ ((gr (A ++ B)).length : Int)
   rw [gr_app B h.1, List.length_append]; omega
  ·show RowK n ((gr (A ++ B)).take n.k.toNat)
   rw [gr_app B h.1, List.take_append_of_le_length (by omega)]; exact h.2.2.2
theorem Nice.drop : ∀ {A : List Key} (i : Nat), Nice A → Nice (A.drop i)
 | A, 0, h => by rwa [List.drop_zero]
 | [], i + 1, h => h
 | n :: A, i + 1, h => h.1.drop i
theorem keys_app (a b : List api_Node) : keys (a ++ b) = keys a ++ keys b := List.map_append
theorem sfN : ∀ (l : List api_Node), Nice (keys l) → ∀ a, ∃ S, sf l a = some S ∧ S.map (fun y => key y.1.node) = gr (keys l)
 | [], _, a => ⟨[], rfl, rfl⟩
 | n :: l, h, a => by
  obtain ⟨S, s1, s2⟩ := sfN l h.1 (a + 1)
  have hk : 0 ≤ n.kids ∧ n.kids ≤ (S.length : Int) := by
   have h2 := h.2.1
   have e : S.length = (gr (keys l)).length := by rw [← s2, List.length_map]
   rw [e]; exact h2
  refine ⟨_, sf_cons s1 hk, ?_⟩
  rw [List.map_cons, List.map_drop, s2]
  rfl
theorem roots_key {t : List api_Node} (h : Nice (keys t)) : ∃ S, sf t 0 = some S ∧ S.map (fun y => key y.1.node) = gr (keys t) ∧ (rootsF t).length = (gr (keys t)).length ∧ numF t = ((gr (keys t)).length : Int) ∧ ∀ j (hj : j < (gr (keys t)).length), key (ix t (ix (rootsF t) (j : Int))) = (gr (keys t))[j] := by
 obtain ⟨S, s1, s2⟩ := sfN t h 0
 have hA : At t 0 S := ⟨Nat.zero_le _, s1⟩
 have e : rootsF t = S.map (·.1.at_) := by unfold rootsF; rw [s1]; rfl
 have hlen : S.length = (gr (keys t)).length := by rw [← s2, List.length_map]
 have hr : (rootsF t).length = (gr (keys t)).length := by rw [e, List.length_map, hlen]
 refine ⟨S, s1, s2, hr, by unfold numF; rw [s1, hr]; rfl, fun j hj => ?_⟩
 have hn := (hA.nth (j := j) (by omega)).1
 have hp := hn.pos
 obtain ⟨_, _, _, _, _, k5⟩ := hn.kids hp.1
 have e2 : ix (rootsF t) (j : Int) = (en 0 (S.take j) : Int) := by
  rw [e, ix_nat (by rw [List.length_map]; omega), List.getElem_map]
  exact hp.2.1
 have e3 : (gr (keys t))[j] = key S[j].1.node := by
  have : (gr (keys t))[j] = (S.map (fun y => key y.1.node))[j]'(by rw [List.length_map]; omega) := by congr 1; exact s2.symm
  rw [this, List.getElem_map]
 rw [e2, ix_nat hp.1, e3, k5]
def ovK (K : List Key) (e : Int) : Key := if h : 0 < (gr K).length then ⟨(gr K)[0].f, (gr K)[(gr K).length - 1].t, ((gr K).length : Int), -1⟩ else ⟨e, e, 0, -1⟩
theorem over_keys {t : List api_Node} (h : Nice (keys t)) (name : ByteArray) (e : Int) : keys (overF name t e) = ovK (keys t) e :: keys t := by
 obtain ⟨S, s1, s2, s3, s4, s5⟩ := roots_key h
 unfold overF ovK
 rw [s3]
 by_cases g : 0 < (gr (keys t)).length
 ·rw [if_pos (by exact g), dif_pos g]
  have e1 := s5 0 g
  have e2 := s5 ((gr (keys t)).length - 1) (by omega)
  show _ :: keys t = _ :: keys t
  congr 1
  rw [← e1, ← e2]
  rfl
 ·rw [if_neg (by exact g), dif_neg g]
  rfl
theorem ov_nice {K : List Key} {lo hi e : Int} (h : Nice K) (hs : Span lo hi (gr K)) (h1 : lo ≤ e) (h2 : e ≤ hi) : Nice (ovK K e :: K) ∧ Span lo hi (gr (ovK K e :: K)) ∧ (gr (ovK K e :: K)).length = 1 := by
 unfold ovK
 by_cases g : 0 < (gr K).length
 ·rw [dif_pos g]
  obtain ⟨i1, i2, i3⟩ := hs.inner g
  have i4 := i1.le
  have eg : gr ((⟨(gr K)[0].f, (gr K)[(gr K).length - 1].t, ((gr K).length : Int), -1⟩ : Key) :: K) = [(⟨(gr K)[0].f, (gr K)[(gr K).length - 1].t, ((gr K).length : Int), -1⟩ : Key)] := by
   show _ :: (gr K).drop ((gr K).length : Int).toNat = _
   rw [Int.toNat_natCast, List.drop_length]
  refine ⟨⟨h, ⟨by show (0 : Int) ≤ ((gr K).length : Int); omega, Int.le_refl _⟩, i4, ?_⟩, ?_, by rw [eg]; rfl⟩
  ·show RowK _ ((gr K).take ((gr K).length : Int).toNat)
   rw [Int.toNat_natCast, List.take_length]
   exact fun _ => ⟨i1, rfl, rfl⟩
  ·rw [eg]; exact ⟨i2, i4, i3⟩
 ·rw [dif_neg g]
  have e0 : gr K = [] := List.length_eq_zero_iff.1 (by omega)
  have eg : gr ((⟨e, e, 0, -1⟩ : Key) :: K) = [⟨e, e, 0, -1⟩] := by
   show _ :: (gr K).drop 0 = _
   rw [e0]; rfl
  refine ⟨⟨h, ⟨Int.le_refl _, by show (0 : Int) ≤ ((gr K).length : Int); omega⟩, Int.le_refl _, fun hh => ?_⟩, ?_, by rw [eg]; rfl⟩
  ·exact absurd hh (by show ¬ 0 < ((gr K).take 0).length; simp)
  ·rw [eg]; exact ⟨h1, Int.le_refl _, h2⟩
theorem set_keys {g : api_Node → api_Node} (hg : ∀ n, key (g n) = key n) : ∀ (l : List Int) (t : List api_Node), (∀ i ∈ l, 0 ≤ i) → keys (setRF g l t) = keys t
 | [], t, _ => rfl
 | i :: l, t, hl => by
  unfold setRF
  rw [set_keys hg l _ fun j hj => hl j (List.mem_cons_of_mem _ hj)]
  unfold keys
  have hi := hl i List.mem_cons_self
  rw [List.map_set, hg]
  by_cases g : i.toNat < t.length
  ·have : key (ix t i) = (t.map key)[i.toNat]'(by rw [List.length_map]; exact g) := by
    rw [List.getElem_map]
    obtain ⟨n, rfl⟩ : ∃ n : Nat, i = n := ⟨i.toNat, by omega⟩
    rw [ix_nat (by simpa using g)]
    rfl
   rw [this]
   exact List.set_getElem_self _
  ·rw [List.set_eq_of_length_le (by rw [List.length_map]; omega)]
theorem fld_key (f : ByteArray) (n : api_Node) : key (fldG f n) = key n := by unfold fldG; split <;> rfl
theorem name_key (a : ByteArray) (n : api_Node) : key (nameG a n) = key n := rfl
theorem roots_ge (t : List api_Node) : ∀ i ∈ rootsF t, 0 ≤ i := fun i hi => (rootsF_at hi).1
def lv (K : List Key) : List Key := K.filter fun n => decide (0 ≤ n.l)
inductive Lv (tk : List api_Node) : Nat → Nat → List Key → Prop
 | nil {a : Nat} : Lv tk a a []
 | take {a b : Nat} {L : List Key} (h : a < tk.length) (r : Lv tk (a + 1) b L) : Lv tk a b (⟨(ix tk (a : Int)).from_, (ix tk (a : Int)).to, 0, (a : Int)⟩ :: L)
 | skip {a b : Nat} {L : List Key} (h : a < tk.length) (g : pre95 (ix tk (a : Int)).name = true) (r : Lv tk (a + 1) b L) : Lv tk a b L
theorem Lv.app {tk : List api_Node} {a b : Nat} {A : List Key} (h : Lv tk a b A) : ∀ {c : Nat} {B : List Key}, Lv tk b c B → Lv tk a c (A ++ B) := by
 induction h with
 | nil => exact fun h => h
 | take h r ih => exact fun h' => .take h (ih h')
 | skip h g r ih => exact fun h' => .skip h g (ih h')
theorem ix_ext {tk : List api_Node} {x : api_Node} {a : Nat} (h : a < tk.length) : ix (tk ++ [x]) (a : Int) = ix tk (a : Int) := by
 rw [ix_nat h, ix_nat (by rw [List.length_append]; omega), List.getElem_append_left h]
theorem Lv.ext {tk : List api_Node} {x : api_Node} {a b : Nat} {A : List Key} (h : Lv tk a b A) : Lv (tk ++ [x]) a b A := by
 induction h with
 | nil => exact .nil
 | take h r ih =>
  rw [← ix_ext (x := x) h]
  exact .take (by rw [List.length_append]; omega) ih
 | skip h g r ih => exact .skip (by rw [List.length_append]; omega) (by rwa [ix_ext h]) ih
theorem lv_ov (K : List Key) (e : Int) : lv (ovK K e :: K) = lv K := by
 unfold lv
 rw [List.filter_cons_of_neg]
 unfold ovK
 split <;> simp
abbrev Made := trellislaw15_Made
structure En (l : api_Lang) (tk : List api_Node) (m : Made) (lo : Int) (a c : Nat) : Prop where
 wf : Wf m.t
 nice : Nice (keys m.t)
 span : Span lo m.ends (gr (keys m.t))
 leaf : Lv tk a c (lv (keys m.t))
 tok : 0 ≤ m.sym ∧ m.sym < (l.gram.terms.length : Int) → c = a + 1 ∧ a < tk.length ∧ (ix tk (a : Int)).name = (ix l.gram.terms m.sym).name
 one : 0 ≤ w64 (m.sym - (l.gram.terms.length : Int)) → w64 (m.sym - (l.gram.terms.length : Int)) < (l.gram.syms.length : Int) → (ix l.gram.syms (w64 (m.sym - (l.gram.terms.length : Int)))).kind = 1 → (gr (keys m.t)).length = 1
def Stk (l : api_Lang) (tk : List api_Node) : List Made → Int → Nat → Int → Nat → Prop
 | [], lo, a, hi, b => lo = hi ∧ a = b
 | m :: s, lo, a, hi, b => ∃ c, En l tk m lo a c ∧ Stk l tk s m.ends c hi b
theorem Stk.app {l : api_Lang} {tk : List api_Node} : ∀ {s1 s2 : List Made} {lo hi : Int} {a b : Nat}, Stk l tk (s1 ++ s2) lo a hi b ↔ ∃ mid c, Stk l tk s1 lo a mid c ∧ Stk l tk s2 mid c hi b
 | [], s2, lo, hi, a, b => ⟨fun h => ⟨lo, a, ⟨rfl, rfl⟩, h⟩, fun ⟨_, _, ⟨h1, h2⟩, h⟩ => by subst h1 h2; exact h⟩
 | m :: s1, s2, lo, hi, a, b => by
  constructor
  ·rintro ⟨c, h1, h2⟩
   obtain ⟨mid, d, h3, h4⟩ := Stk.app.1 h2
   exact ⟨mid, d, ⟨c, h1, h3⟩, h4⟩
  ·rintro ⟨mid, d, ⟨c, h1, h3⟩, h4⟩
   exact ⟨c, h1, Stk.app.2 ⟨mid, d, h3, h4⟩⟩
theorem Stk.ext {l : api_Lang} {tk : List api_Node} {x : api_Node} : ∀ {s : List Made} {lo hi : Int} {a b : Nat}, Stk l tk s lo a hi b → Stk l (tk ++ [x]) s lo a hi b
 | [], _, _, _, _, h => h
 | m :: s, _, _, _, _, ⟨c, h1, h2⟩ => ⟨c, ⟨h1.wf, h1.nice, h1.span, h1.leaf.ext, fun g => by
   obtain ⟨g1, g2, g3⟩ := h1.tok g
   exact ⟨g1, by rw [List.length_append]; omega, by rw [ix_ext g2]; exact g3⟩, h1.one⟩, Stk.ext h2⟩
theorem Stk.le {l : api_Lang} {tk : List api_Node} : ∀ {s : List Made} {lo hi : Int} {a b : Nat}, Stk l tk s lo a hi b → lo ≤ hi
 | [], _, _, _, _, h => by rw [h.1]; exact Int.le_refl _
 | m :: s, _, _, _, _, ⟨c, h1, h2⟩ => Int.le_trans h1.span.le (Stk.le h2)
theorem Stk.last {l : api_Lang} {tk : List api_Node} {s : List Made} {m : Made} {lo hi : Int} {a b : Nat} (h : Stk l tk (s ++ [m]) lo a hi b) : m.ends = hi := by
 obtain ⟨mid, c, _, _, _, h2, _⟩ := Stk.app.1 h
 exact h2
def wt (s : List Made) : Nat := (s.map fun m => m.t.length + 1).sum
theorem wt_app (a b : List Made) : wt (a ++ b) = wt a + wt b := by unfold wt; rw [List.map_append, List.sum_append]
theorem wt_mem {s : List Made} {m : Made} (h : m ∈ s) : m.t.length + 1 ≤ wt s := le_sum (List.mem_map.2 ⟨m, h, rfl⟩)
theorem wt_len (s : List Made) : s.length ≤ wt s := by
 induction s with
 | nil => exact Nat.zero_le _
 | cons m s ih =>
  have : wt (m :: s) = (m.t.length + 1) + wt s := rfl
  rw [List.length_cons]; omega
theorem part_en {l : api_Lang} {tk : List api_Node} {m : Made} {lo : Int} {a c : Nat} {r : api_Ref} (h : En l tk m lo a c) (hs : m.t.length ≤ 2 ^ 39) (hr : r.sym = m.sym) : Nice (keys (partF l r m.t m.ends)) ∧ Span lo m.ends (gr (keys (partF l r m.t m.ends))) ∧ Lv tk a c (lv (keys (partF l r m.t m.ends))) := by
 have hle := h.span.le
 have e : keys (partF l r m.t m.ends) = keys (part1 l r m.t m.ends) := set_keys (fld_key _) _ _ (roots_ge _)
 rw [e]
 unfold part1
 by_cases g1 : r.as = (⟨#[]⟩ : ByteArray)
 ·rw [if_pos g1]
  unfold showF
  by_cases g2 : hiddenF l.gram r.sym = true
  ·rw [if_pos g2]
   refine ⟨trivial, hle, ?_⟩
   unfold hiddenF tokF at g2
   rw [hr] at g2
   simp only [Bool.and_eq_true, decide_eq_true_eq] at g2
   obtain ⟨t1, t2, t3⟩ := h.tok g2.1
   rw [t1]
   exact .skip t2 (by rw [t3]; exact g2.2.2) .nil
  ·rw [if_neg g2]
   exact ⟨h.nice, h.span, h.leaf⟩
 ·rw [if_neg g1]
  by_cases g2 : tokF l.gram r.sym = false ∧ shownF l.gram r.sym = false
  ·rw [if_pos g2, over_keys h.nice, lv_ov]
   obtain ⟨o1, o2, _⟩ := ov_nice h.nice h.span hle (Int.le_refl _)
   exact ⟨o1, o2, h.leaf⟩
  ·rw [if_neg g2, set_keys (name_key _) _ _ (roots_ge _)]
   exact ⟨h.nice, h.span, h.leaf⟩
theorem runL_inv {σ ρ : Type} {f : Nat → σ → Sum σ ρ} {e : σ → ρ} (Inv : Nat → σ → Prop) : ∀ (k i : Nat) (s : σ), (∀ j s, i ≤ j → j < i + k → Inv j s → ∃ s', f j s = .inl s' ∧ Inv (j + 1) s') → Inv i s → ∃ s', Inv (i + k) s' ∧ runL f e (List.range' i k) s = e s'
 | 0, i, s, _, h0 => ⟨s, h0, rfl⟩
 | k + 1, i, s, h, h0 => by
  obtain ⟨s1, h1, h2⟩ := h i s (Nat.le_refl _) (by omega) h0
  obtain ⟨s2, h3, h4⟩ := runL_inv Inv k (i + 1) s1 (fun j s g1 g2 g3 => h j s (by omega) (by omega) g3) h2
  refine ⟨s2, by rwa [show i + (k + 1) = i + 1 + k by omega], ?_⟩
  rw [List.range'_succ, runL_go h1]
  exact h4
end Go.Proofs.Ytmekgfcfooghnaa.L
