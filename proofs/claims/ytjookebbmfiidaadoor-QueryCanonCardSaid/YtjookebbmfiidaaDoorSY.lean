/- The plain side of chapter 8, more: what is spelt is cut as just that word; words put together are cut as they are. No condition. -/
import Derived.Test.YtjookebbmfiidaaDoorSV
import Derived.Lib.Join
set_option linter.unusedVariables false
namespace Go.Proofs.YtjookebbmfiidaaDoor.L
open Go.Proofs.YtjookebbmfiidaaDoor.B Go.Proofs.YtjookebbmfiidaaDoor.R
def Tl (r : List Int) : Prop := r = [] ∨ ∃ r', r = 32 :: r'
theorem Xhu {p : Int → Bool} (hp : p 32 = false) {r : List Int} (hr : Tl r) : ∀ {l : List Int}, (∀ x ∈ l, p x = true) → twl p (l ++ r) = l.length
 | [], h => by
  rcases hr with rfl | ⟨r', rfl⟩
  ·rfl
  ·simp [twl, hp]
 | c :: l, h => by
  rw [List.cons_append, twl, if_pos (h c (by simp)), Xhu hp hr fun x hx => h x (by simp [hx])]
  simp
theorem slF_all (r : List Int) : ∀ (n : Nat) {l : List Int}, l.length = n → Yr l = true → slF (l ++ 47 :: r) = some l.length := by
 intro n
 induction n using Nat.strongRecOn with
 | _ n ih =>
  intro l hn h
  match l with
  | [] => rw [List.nil_append, Yv, if_neg (by decide), if_pos rfl]; rfl
  | c :: l =>
   simp only [List.length_cons] at hn
   rw [Zn] at h
   rw [List.cons_append, Yv]
   by_cases c47 : c = 47
   ·rw [if_pos c47] at h; cases h
   rw [if_neg c47] at h
   by_cases c10 : c = 10
   ·rw [if_pos c10] at h; cases h
   rw [if_neg c10] at h
   rw [if_neg c10, if_neg c47]
   by_cases c92 : c = 92
   ·rw [if_pos c92] at h ⊢
    match l with
    | [] => cases h
    | d :: l =>
     simp only [List.cons_append] at h ⊢
     by_cases d10 : d = 10
     ·rw [if_pos d10] at h; cases h
     rw [if_neg d10] at h ⊢
     rw [ih l.length (by simp at hn; omega) rfl h]
     simp
   ·rw [if_neg c92] at h ⊢
    rw [ih l.length (by omega) rfl h]
    simp
theorem slF_reg : ∀ (n : Nat) {l : List Int} {k : Nat}, l.length = n → slF l = some k → Yr (l.take k) = true := by
 intro n
 induction n using Nat.strongRecOn with
 | _ n ih =>
  intro l k hn h
  match l with
  | [] => simp [slF] at h
  | c :: l =>
   simp only [List.length_cons] at hn
   rw [Yv] at h
   by_cases c10 : c = 10
   ·rw [if_pos c10] at h; cases h
   rw [if_neg c10] at h
   by_cases c47 : c = 47
   ·rw [if_pos c47] at h
    injection h with h
    subst h; rfl
   rw [if_neg c47] at h
   by_cases c92 : c = 92
   ·rw [if_pos c92] at h
    match l with
    | [] => cases h
    | d :: l =>
     simp only at h
     by_cases d10 : d = 10
     ·rw [if_pos d10] at h; cases h
     rw [if_neg d10] at h
     obtain ⟨z, hz, hz2⟩ := Option.map_eq_some_iff.1 h
     subst hz2
     rw [show z + 2 = (z + 1) + 1 from rfl, List.take_succ_cons, List.take_succ_cons, Zn, if_neg c47, if_neg c10, if_pos c92]
     simp only [if_neg d10]
     exact ih l.length (by simp at hn; omega) rfl hz
   ·rw [if_neg c92] at h
    obtain ⟨z, hz, hz2⟩ := Option.map_eq_some_iff.1 h
    subst hz2
    rw [List.take_succ_cons, Zn, if_neg c47, if_neg c10, if_neg c92]
    exact ih l.length (by omega) rfl hz
theorem hexB_ok : ∀ i : Fin 16, Zx (bt hxB ((i.val : Nat) : Int)) = (((i.val : Nat) : Int), true) := by decide +kernel
theorem Xl4 {c : Int} (h0 : 0 ≤ c) (h1 : c < 16) : Zx (bt hxB c) = (c, true) := by
 have := hexB_ok ⟨c.toNat, by omega⟩
 simpa [Int.toNat_of_nonneg h0] using this
theorem quF_put {c : Int} (h0 : 0 ≤ c) (h1 : c ≤ 255) (r : List Int) : quF (Wh c ++ r) = quE c (Wh c).length (quF r) := by
 have two : ∀ x : Int, Xek x r = (c, 2) → quF (92 :: x :: r) = quE c 2 (quF r) := fun x h => by
  have e : Qb (x :: r) = (c, 2) := by rw [Yh, h]
  rw [quF_e (by rw [e]; simp), e]
  rfl
 unfold Wh
 by_cases c34 : c = 34
 ·subst c34
  simp only [if_true]
  exact two 34 (by simp [Xek])
 rw [if_neg c34]
 by_cases c92 : c = 92
 ·subst c92
  simp only [if_true]
  exact two 92 (by simp [Xek])
 rw [if_neg c92]
 by_cases c10 : c = 10
 ·subst c10
  simp only [if_true]
  exact two 110 (by simp [Xek])
 rw [if_neg c10]
 by_cases c9 : c = 9
 ·subst c9
  simp only [if_true]
  exact two 116 (by simp [Xek])
 rw [if_neg c9]
 by_cases c13 : c = 13
 ·subst c13
  simp only [if_true]
  exact two 114 (by simp [Xek])
 rw [if_neg c13]
 by_cases g : c < 32 ∨ c > 126
 ·rw [if_pos g]
  have e : Qb (120 :: bt hxB (c / 16) :: bt hxB (c % 16) :: r) = (c, 4) := by
   rw [Yh]
   unfold Xek
   simp only [show ¬ (120 : Int) = 34 by decide, show ¬ (120 : Int) = 92 by decide, show ¬ (120 : Int) = 110 by decide, show ¬ (120 : Int) = 116 by decide, show ¬ (120 : Int) = 114 by decide, if_false, if_true]
   rw [Xb0, Xl4 (by omega) (by omega), Xl4 (by omega) (by omega)]
   simp only [if_true]
   rw [show 16 * (c / 16) + c % 16 = c by omega]
  show quF (92 :: 120 :: bt hxB (c / 16) :: bt hxB (c % 16) :: r) = _
  rw [quF_e (by rw [e]; simp), e]
  rfl
 ·rw [if_neg g]
  exact quF_o c10 c34 c92
theorem Xgu (r : List Int) : ∀ {l : List Int}, Bts l → quF (l.flatMap Wh ++ 34 :: r) = .inl (l, (l.flatMap Wh).length + 1)
 | [], h => by rw [List.flatMap_nil, List.nil_append, Xeq]; rfl
 | c :: l, h => by
  obtain ⟨h0, h1⟩ := h c (by simp)
  rw [List.flatMap_cons, List.append_assoc, quF_put h0 h1, Xgu r fun x hx => h x (by simp [hx])]
  simp only [quE, List.length_append]
  rw [show (Wh c).length + (l.flatMap Wh).length + 1 = (l.flatMap Wh).length + 1 + (Wh c).length by omega]
def dd (n : Nat) : List Int := (Lib.decDigits n).map fun b => (b.toNat : Int)
theorem u8d {n : Nat} (h : n < 10) : (((UInt8.ofNat (48 + n)).toNat : Nat) : Int) = 48 + (n : Int) := by
 rw [UInt8.toNat_ofNat']; omega
theorem Xfi {n : Nat} (h : n < 10) : dd n = [48 + (n : Int)] := by
 unfold dd
 rw [Lib.decDigits, dif_pos h, List.map_cons, List.map_nil, u8d h]
theorem Xk0 {n : Nat} (h : ¬ n < 10) : dd n = dd (n / 10) ++ [48 + ((n % 10 : Nat) : Int)] := by
 unfold dd
 rw [Lib.decDigits, dif_neg h, List.map_append, List.map_cons, List.map_nil, u8d (by omega)]
theorem dd_ok (n : Nat) : (∀ x ∈ dd n, F9 x = true) ∧ dd n ≠ [] ∧ Xab (dd n) 0 = min (n : Int) 65536 ∧ (n < 10 ^ 5 → (dd n).length ≤ 5) := by
 induction n using Nat.strongRecOn with
 | _ n ih =>
  by_cases h : n < 10
  ·rw [Xfi h]
   refine ⟨fun x hx => ?_, by simp, ?_, by simp⟩
   ·simp only [List.mem_singleton] at hx
    subst hx
    simp only [F9, Bool.and_eq_true, decide_eq_true_eq]
    omega
   ·simp only [Xab, List.foldl_cons, List.foldl_nil]; omega
  ·obtain ⟨i1, i2, i3, i4⟩ := ih (n / 10) (by omega)
   rw [Xk0 h]
   refine ⟨fun x hx => ?_, by simp, ?_, fun hn => ?_⟩
   ·rcases List.mem_append.1 hx with hx | hx
    ·exact i1 x hx
    ·simp only [List.mem_singleton] at hx
     subst hx
     simp only [F9, Bool.and_eq_true, decide_eq_true_eq]
     omega
   ·rw [Xgo, i3]; omega
   ·have hl : ∀ (k m : Nat), m < 10 ^ (k + 1) → (dd m).length ≤ k + 1 := by
     intro k
     induction k with
     | zero => intro m hm; rw [Xfi (by simpa using hm)]; simp
     | succ k ik =>
      intro m hm
      by_cases g : m < 10
      ·rw [Xfi g]; simp
      ·rw [Xk0 g, List.length_append]
       have := ik (m / 10) (by rw [Nat.pow_succ] at hm; omega)
       simp only [List.length_cons, List.length_nil]
       omega
    rw [← Xk0 h]
    exact hl 4 n hn
theorem Xlg {n : Int} (h : 0 ≤ n) : Dh (itoaB n) = dd n.toNat := by
 unfold Dh itoaB Lib.itoa dd
 rw [if_neg (by omega)]
theorem sign_all : ∀ n : Fin 256, Xe3 Xai ((n.val : Nat) : Int) ≥ 0 → Ur ((n.val : Nat) : Int) = false ∧ ((n.val : Nat) : Int) ≠ 35 ∧ Nj ((n.val : Nat) : Int) = false ∧ F9 ((n.val : Nat) : Int) = false ∧ ((n.val : Nat) : Int) ≠ 34 ∧ ((n.val : Nat) : Int) ≠ 47 := by decide +kernel
theorem sign_at {c : Int} (h0 : 0 ≤ c) (h1 : c ≤ 255) (h : Xe3 Xai c ≥ 0) : Ur c = false ∧ c ≠ 35 ∧ Nj c = false ∧ F9 c = false ∧ c ≠ 34 ∧ c ≠ 47 := by
 have := sign_all ⟨c.toNat, by omega⟩
 simp only [Int.toNat_of_nonneg h0] at this
 exact this h
theorem Xj5 {t : ByteArray} {c : Int} (h : Dh t = [c]) : hasB Xai t = decide (0 ≤ Xe3 Xai c) := by
 unfold hasB Xe3
 have hl := congrArg List.length h
 rw [Gf] at hl
 unfold Dh at h
 match hd : t.data.toList, h with
 | [b], h =>
  simp only [List.map_cons, List.map_nil, List.cons.injEq, and_true] at h
  rw [← h]
  simp
theorem Xcn {c : Int} (h : Nj c = true) : Ur c = false ∧ c ≠ 35 ∧ F9 c = false := by
 simp only [Nj, Ur, F9, Bool.or_eq_true, Bool.and_eq_true, decide_eq_true_eq, beq_iff_eq, Bool.or_eq_false_iff, Bool.and_eq_false_iff, decide_eq_false_iff_not, beq_eq_false_iff_ne] at h ⊢
 omega
theorem Xik {c : Int} (h : F9 c = true) : Ur c = false ∧ c ≠ 35 ∧ Nj c = false := by
 simp only [Nj, Ur, F9, Bool.and_eq_true, decide_eq_true_eq, Bool.or_eq_false_iff, Bool.and_eq_false_iff, decide_eq_false_iff_not, beq_eq_false_iff_ne] at h ⊢
 omega
def txF (w : Aj) : List Int := if w.kind = 4 then [] else Dh w.text
def nF (w : Aj) : Int := if w.kind = 4 then w.n else 0
theorem Xdm {w : Aj} (h : Jg w = true) : ∃ c l, Dh (Ll w) = c :: l ∧ ∀ r, Tl r → Pz c (l ++ r) = .word w.kind (txF w) (nF w) (l.length + 1) := by
 unfold Ll
 rw [if_pos h]
 unfold Jg at h
 have hbt := Xf2 w.text
 by_cases k1 : w.kind = 1
 ·rw [if_pos k1] at h
  rw [if_neg (by omega), if_neg (by omega), if_neg (by omega)]
  unfold txF nF
  rw [if_neg (by omega), if_neg (by omega), k1]
  unfold Xg3 at h
  simp only [Bool.and_eq_true, decide_eq_true_eq, Bool.not_eq_true'] at h
  obtain ⟨g1, g2, g3, g4⟩ := h
  match hd : Dh w.text, g1 with
  | c :: l, _ =>
   rw [hd] at g2 g3 g4
   refine ⟨c, l, rfl, fun r hr => ?_⟩
   have hn := List.all_eq_true.1 g4
   have hcl : Nj c = true := by
    have := hn c (by simp)
    rw [Kv, Bool.or_eq_true] at this
    exact this.resolve_right (by rw [show F9 c = false from g3]; simp)
   obtain ⟨a1, a2, a3⟩ := Xcn hcl
   have e : twl Kv (c :: (l ++ r)) = l.length + 1 := by rw [← List.cons_append, Xhu (by decide) hr hn]; rfl
   unfold Pz
   rw [a1, if_neg (by simp), if_neg a2, if_pos hcl, e, if_neg (by simp at g2; omega), ← List.cons_append, List.take_append_of_le_length (by simp), List.take_of_length_le (by simp)]
 rw [if_neg k1] at h
 by_cases k2 : w.kind = 2
 ·rw [if_pos k2]
  unfold txF nF
  rw [if_neg (by omega), if_neg (by omega), k2]
  have hB : Bts (Zc (Dh w.text)) := by
   intro x hx
   unfold Zc at hx
   rcases List.mem_cons.1 hx with rfl | hx
   ·omega
   rcases List.mem_append.1 hx with hx | hx
   ·obtain ⟨c, hc, hx⟩ := List.mem_flatMap.1 hx
    obtain ⟨c0, c1⟩ := hbt c hc
    have b1 := Xcz hxB (c / 16)
    have b2 := Xcz hxB (c % 16)
    unfold Wh at hx
    repeat' split at hx
    all_goals (simp only [List.mem_cons, List.not_mem_nil, or_false] at hx; omega)
   ·simp only [List.mem_cons, List.not_mem_nil, or_false] at hx; omega
  rw [Wy hB]
  refine ⟨34, (Dh w.text).flatMap Wh ++ [34], rfl, fun r hr => ?_⟩
  rw [List.append_assoc, List.singleton_append]
  unfold Pz
  simp only [show Ur 34 = false by decide, show ¬ (34 : Int) = 35 by decide, show Nj 34 = false by decide, show F9 34 = false by decide, if_false, if_true, Xgu r hbt]
  simp
 rw [if_neg k2] at h
 rw [if_neg k2]
 by_cases k3 : w.kind = 3
 ·rw [if_pos k3] at h
  rw [if_pos k3]
  unfold txF nF
  rw [if_neg (by omega), if_neg (by omega), k3]
  refine ⟨47, Dh w.text ++ [47], by rw [Xga, Xga]; rfl, fun r hr => ?_⟩
  rw [List.append_assoc, List.singleton_append]
  unfold Pz
  simp only [show Ur 47 = false by decide, show ¬ (47 : Int) = 35 by decide, show Nj 47 = false by decide, show F9 47 = false by decide, show ¬ (47 : Int) = 34 by decide, if_false, if_true, slF_all r _ rfl h]
  rw [List.take_append_of_le_length (Nat.le_refl _), List.take_length]
  simp
 rw [if_neg k3] at h
 rw [if_neg k3]
 by_cases k4 : w.kind = 4
 ·rw [if_pos k4] at h
  rw [if_pos k4]
  unfold txF nF
  rw [if_pos k4, if_pos k4, k4]
  have hn : 0 ≤ w.n ∧ w.n ≤ 65535 := by
   by_cases g : w.n ≥ 0
   ·rw [if_pos g] at h; exact ⟨g, by simpa using h⟩
   ·rw [if_neg g] at h; cases h
  obtain ⟨d1, d2, d3, d4⟩ := dd_ok w.n.toNat
  rw [Xlg hn.1]
  match hd : dd w.n.toNat, d2 with
  | c :: l, _ =>
   rw [hd] at d1 d3
   refine ⟨c, l, rfl, fun r hr => ?_⟩
   have hcd := d1 c (by simp)
   obtain ⟨a1, a2, a3⟩ := Xik hcd
   have e : twl F9 (c :: (l ++ r)) = l.length + 1 := by rw [← List.cons_append, Xhu (by decide) hr d1]; rfl
   have e2 : (c :: (l ++ r)).take (l.length + 1) = c :: l := by rw [← List.cons_append, List.take_append_of_le_length (by simp), List.take_of_length_le (by simp)]
   unfold Pz
   rw [a1, if_neg (by simp), if_neg a2, a3, if_neg (by simp), if_pos hcd, e, e2, d3, if_neg (by omega), show min ((w.n.toNat : Nat) : Int) 65536 = w.n by omega]
 rw [if_neg k4] at h
 rw [if_neg k4]
 by_cases k5 : w.kind = 5
 ·rw [if_pos k5] at h
  unfold txF nF
  rw [if_neg (by omega), if_neg (by omega), k5]
  by_cases g : (w.text.size : Int) = 1
  ·rw [if_pos g] at h
   have hl := Gf w.text
   match hd : Dh w.text, (show (Dh w.text).length = 1 by omega) with
   | [c], _ =>
    rw [Xj5 hd, decide_eq_true_eq] at h
    obtain ⟨c0, c1⟩ := hbt c (by rw [hd]; simp)
    obtain ⟨a1, a2, a3, a4, a5, a6⟩ := sign_at c0 c1 h
    refine ⟨c, [], rfl, fun r hr => ?_⟩
    unfold Pz
    rw [a1, if_neg (by simp), if_neg a2, a3, if_neg (by simp), a4, if_neg (by simp), if_neg a5, if_neg a6, if_pos h]
    rfl
  ·rw [if_neg g] at h; cases h
 ·rw [if_neg k5] at h; cases h
def jn : List (List Int) → List Int
 | [] => []
 | [x] => x
 | x :: y :: r => x ++ 32 :: jn (y :: r)
theorem Xkt (l : List UInt8) : Dh ⟨l.toArray⟩ = l.map fun b => (b.toNat : Int) := by simp [Dh]
theorem Xaz : ∀ xs : List ByteArray, Dh (X5 xs sp) = jn (xs.map Dh)
 | [] => rfl
 | [x] => by
  unfold X5
  rw [Xkt, List.map_cons, List.map_nil, Lib.join_one]
  rfl
 | x :: y :: r => by
  have ih := Xaz (y :: r)
  unfold X5 at ih ⊢
  rw [Xkt] at ih ⊢
  simp only [List.map_cons] at ih ⊢
  rw [Lib.join_cons] at ih ⊢
  unfold Lib.joinTail at ih ⊢
  simp only [List.map_cons, List.flatten_cons, List.map_append] at ih ⊢
  rw [jn, ← ih]
  simp only [List.append_assoc]
  rfl
def placed : List Aj → Nat → List Aj
 | [], _ => []
 | w :: ws, pos => (⟨w.kind, Jw (txF w), nF w, (pos : Int)⟩ : Aj) :: placed ws (pos + (Ll w).size + 1)
theorem Xgw : ∀ (ws : List Aj) (pos : Nat), (∀ w ∈ ws, Jg w = true) → cutF (jn ((ws.map Ll).map Dh)) pos = (placed ws pos, 0, 0)
 | [], pos, h => Vf pos
 | [w], pos, h => by
  obtain ⟨c, l, e, ht⟩ := Xdm (h w (by simp))
  simp only [List.map_cons, List.map_nil, jn, placed]
  rw [e]
  refine Tm (by have := ht [] (.inl rfl); rwa [List.append_nil] at this) ?_
  rw [List.drop_eq_nil_of_le (by simp), Vf]
 | w :: v :: ws, pos, h => by
  obtain ⟨c, l, e, ht⟩ := Xdm (h w (by simp))
  have ih := Xgw (v :: ws) (pos + (Ll w).size + 1) fun x hx => h x (by simp [hx])
  have hl : l.length + 1 = (Ll w).size := by rw [← Gf, e]; rfl
  simp only [List.map_cons, jn] at ih ⊢
  rw [placed, e, List.cons_append]
  refine Tm (ht _ (.inr ⟨_, rfl⟩)) ?_
  rw [Nat.add_sub_cancel, List.drop_append_of_le_length (Nat.le_refl _), List.drop_length, List.nil_append, hl]
  exact Xbt (k := 1) (by unfold Pz; rw [if_pos (by decide)]) ih
theorem jn_len (M : Nat) : ∀ xs : List (List Int), (∀ x ∈ xs, x.length ≤ M) → (jn xs).length ≤ xs.length * (M + 1)
 | [], h => by simp [jn]
 | [x], h => by have := h x (by simp); simp [jn]; omega
 | x :: y :: r, h => by
  have ih := jn_len M (y :: r) fun z hz => h z (by simp [hz])
  have := h x (by simp)
  rw [jn, List.length_append, List.length_cons, List.length_cons, Nat.succ_mul]
  omega
theorem Xka {w : Aj} : (Ll w).size ≤ 4 * w.text.size + 8 := by
 unfold Ll
 by_cases h : Jg w = true
 ·rw [if_pos h]
  split
  ·rw [← Gf]
   have h1 := Xce (Dh w.text)
   rw [Gf] at h1
   have : (Dh (Jw (Zc (Dh w.text)))).length = (Zc (Dh w.text)).length := by rw [Gf]; simp [Jw, ByteArray.size]
   rw [this]
   simp only [Zc, List.length_cons, List.length_append, List.length_nil]
   omega
  ·split
   ·simp only [ByteArray.size_append, show (⟨#[47]⟩ : ByteArray).size = 1 from rfl]; omega
   ·split
    ·rename_i k4
     unfold Jg at h
     rw [if_neg (by omega), if_neg (by omega), if_neg (by omega), if_pos k4] at h
     have hn : 0 ≤ w.n ∧ w.n ≤ 65535 := by
      by_cases g : w.n ≥ 0
      ·rw [if_pos g] at h; exact ⟨g, by simpa using h⟩
      ·rw [if_neg g] at h; cases h
     have := (dd_ok w.n.toNat).2.2.2 (by omega)
     rw [← Gf, Xlg hn.1]
     omega
    ·omega
 ·rw [if_neg h, show (⟨#[]⟩ : ByteArray).size = 0 from rfl]; omega
theorem Xlt {ws : List Aj} {M : Nat} (h : ∀ w ∈ ws, w.text.size ≤ M) : (X5 (ws.map Ll) sp).size ≤ ws.length * (4 * M + 9) := by
 rw [← Gf, Xaz]
 have := jn_len (4 * M + 8) ((ws.map Ll).map Dh) (fun x hx => by
  obtain ⟨y, hy, rfl⟩ := List.mem_map.1 hx
  obtain ⟨w, hw, rfl⟩ := List.mem_map.1 hy
  rw [Gf]
  have := h w hw
  have := Xka (w := w)
  omega)
 simpa using this
theorem escF_bts {l : List Int} (h : Bts l) : 0 ≤ (Qb l).1 ∧ (Qb l).1 ≤ 255 := by
 match l with
 | [] => simp [Qb]
 | c :: l =>
  have := h c (by simp)
  rw [Yh]
  unfold Xek
  repeat' split
  all_goals (first | (simp only; omega) | skip)
  match l with
  | [] => simp [escX]
  | [a] => simp [escX]
  | a :: b :: r =>
   rw [Xb0]
   split
   ·split
    ·rename_i g1 g2
     have := Zl _ g1
     have := Zl _ g2
     simp only; omega
    ·simp
   ·simp
theorem quF_bts : ∀ (n : Nat) {l t : List Int} {k : Nat}, l.length = n → Bts l → quF l = .inl (t, k) → Bts t ∧ t.length + 1 ≤ k := by
 intro n
 induction n using Nat.strongRecOn with
 | _ n ih =>
  intro l t k hn hB h
  match l with
  | [] => rw [Xev] at h; cases h
  | c :: l =>
   simp only [List.length_cons] at hn
   have hB2 : Bts l := fun x hx => hB x (by simp [hx])
   by_cases c10 : c = 10
   ·subst c10; rw [quF_nl] at h; cases h
   by_cases c34 : c = 34
   ·subst c34
    rw [Xeq] at h
    simp only [Sum.inl.injEq, Prod.mk.injEq] at h
    rw [← h.1, ← h.2]
    exact ⟨fun x hx => (by cases hx), by simp⟩
   by_cases c92 : c = 92
   ·subst c92
    by_cases e0 : (Qb l).2 = 0
    ·rw [Xli e0] at h; cases h
    ·rw [quF_e e0] at h
     have hle := Xes _ e0
     obtain ⟨t', k', h1, rfl, rfl⟩ := Xlf h
     obtain ⟨i1, i2⟩ := ih (l.drop ((Qb l).2 - 1)).length (by simp; omega) rfl (hB2.drop _) h1
     refine ⟨fun x hx => ?_, by simp; omega⟩
     rcases List.mem_cons.1 hx with rfl | hx
     ·exact escF_bts hB2
     ·exact i1 x hx
   ·rw [quF_o c10 c34 c92] at h
    obtain ⟨t', k', h1, rfl, rfl⟩ := Xlf h
    obtain ⟨i1, i2⟩ := ih l.length (by omega) rfl hB2 h1
    refine ⟨fun x hx => ?_, by simp; omega⟩
    rcases List.mem_cons.1 hx with rfl | hx
    ·exact hB x (by simp)
    ·exact i1 x hx
def Canon (w : Aj) : Prop := Jg w = true ∧ Jw (txF w) = w.text ∧ nF w = w.n
theorem Xls {c : Int} {l t : List Int} {kd n : Int} {k : Nat} (pos : Int) (hB : Bts (c :: l)) (h : Pz c l = .word kd t n k) : Canon ⟨kd, Jw t, n, pos⟩ ∧ t.length ≤ k ∧ (0 ≤ n ∧ n ≤ 65535) := by
 have hB2 : Bts l := fun x hx => hB x (by simp [hx])
 have tx : ∀ kd : Int, kd ≠ 4 → ∀ t : List Int, Bts t → Jw (txF ⟨kd, Jw t, 0, pos⟩) = Jw t ∧ nF ⟨kd, Jw t, 0, pos⟩ = 0 := fun kd hk t ht => by
  unfold txF nF
  rw [if_neg hk, if_neg hk, Wy ht]
  exact ⟨rfl, rfl⟩
 unfold Pz at h
 by_cases cb : Ur c = true
 ·rw [if_pos cb] at h; cases h
 rw [if_neg cb] at h
 by_cases c35 : c = 35
 ·rw [if_pos c35] at h; cases h
 rw [if_neg c35] at h
 by_cases cl : Nj c = true
 ·rw [if_pos cl] at h
  by_cases g : twl Kv (c :: l) > 24
  ·rw [if_pos g] at h; cases h
  rw [if_neg g] at h
  injection h with h1 h2 h3 h4
  subst h1 h3
  have hle := Xhy Kv (c :: l)
  have h1' : 1 ≤ twl Kv (c :: l) := by rw [twl, if_pos (by rw [Kv, cl]; rfl)]; omega
  have hBt : Bts t := by rw [← h2]; exact hB.take _
  obtain ⟨q1, q2⟩ := tx 1 (by decide) t hBt
  have ht : t.length = twl Kv (c :: l) := by rw [← h2, List.length_take]; omega
  refine ⟨⟨?_, q1, q2⟩, by omega, by omega, by omega⟩
  unfold Jg
  rw [if_pos rfl]
  show Xg3 (Dh (Jw t)) = true
  rw [Wy hBt]
  unfold Xg3
  simp only [Bool.and_eq_true, decide_eq_true_eq, Bool.not_eq_true']
  refine ⟨by omega, by omega, ?_, List.all_eq_true.2 fun x hx => ?_⟩
  ·obtain ⟨j, hj⟩ : ∃ j, twl Kv (c :: l) = j + 1 := ⟨twl Kv (c :: l) - 1, by omega⟩
   rw [← h2, hj, List.take_succ_cons]
   exact (Xcn cl).2.2
  ·obtain ⟨j, hj, rfl⟩ := List.getElem_of_mem hx
   obtain ⟨z1, z2⟩ := Xfj Kv (l := c :: l) (j := j) (by omega)
   simp only [← h2, List.getElem_take]
   exact z2
 rw [if_neg cl] at h
 by_cases cd : F9 c = true
 ·rw [if_pos cd] at h
  by_cases g : Xab ((c :: l).take (twl F9 (c :: l))) 0 > 65535
  ·rw [if_pos g] at h; cases h
  rw [if_neg g] at h
  injection h with h1 h2 h3 h4
  subst h1 h2
  have hnn : 0 ≤ n := by
   rw [← h3]
   refine Xkr _ (Int.le_refl 0) fun d hd => ?_
   obtain ⟨q, hq, rfl⟩ := List.getElem_of_mem hd
   simp only [List.length_take] at hq
   obtain ⟨q1, q2⟩ := Xfj F9 (l := c :: l) (j := q) (by omega)
   rw [List.getElem_take]
   simp only [F9, Bool.and_eq_true, decide_eq_true_eq] at q2
   exact q2.1
  refine ⟨⟨?_, rfl, rfl⟩, by simp, hnn, by omega⟩
  unfold Jg
  show (if n ≥ 0 then decide (n ≤ 65535) else false) = true
  rw [if_pos hnn]
  exact decide_eq_true (by omega)
 rw [if_neg cd] at h
 by_cases c34 : c = 34
 ·rw [if_pos c34] at h
  cases hm : quF l with
  | inl x =>
   obtain ⟨t', k'⟩ := x
   rw [hm] at h
   injection h with h1 h2 h3 h4
   subst h1 h2 h3
   obtain ⟨z1, z2⟩ := quF_bts _ rfl hB2 hm
   obtain ⟨q1, q2⟩ := tx 2 (by decide) _ z1
   exact ⟨⟨rfl, q1, q2⟩, by omega, by omega, by omega⟩
  | inr y => rw [hm] at h; cases y <;> cases h
 rw [if_neg c34] at h
 by_cases c47 : c = 47
 ·rw [if_pos c47] at h
  cases hm : slF l with
  | none => rw [hm] at h; cases h
  | some k' =>
   rw [hm] at h
   injection h with h1 h2 h3 h4
   subst h1 h2 h3
   obtain ⟨q1, q2⟩ := tx 3 (by decide) _ (hB2.take k')
   refine ⟨⟨?_, q1, q2⟩, by simp; omega, by omega, by omega⟩
   show Yr (Dh (Jw (l.take k'))) = true
   rw [Wy (hB2.take k')]
   exact slF_reg _ rfl hm
 rw [if_neg c47] at h
 by_cases cs : Xe3 Xai c ≥ 0
 ·rw [if_pos cs] at h
  injection h with h1 h2 h3 h4
  subst h1 h2 h3
  have hc : Bts [c] := fun x hx => by simp only [List.mem_singleton] at hx; subst hx; exact hB _ (by simp)
  obtain ⟨q1, q2⟩ := tx 5 (by decide) _ hc
  refine ⟨⟨?_, q1, q2⟩, by simp; omega, by omega, by omega⟩
  show (if ((Jw [c]).size : Int) = 1 then hasB Xai (Jw [c]) else false) = true
  rw [if_pos (by rfl), Xj5 (Wy hc)]
  exact decide_eq_true cs
 ·rw [if_neg cs] at h; cases h
theorem Xke : ∀ (n : Nat) {b : List Int} {pos : Nat}, b.length = n → Bts b → ∀ w ∈ (cutF b pos).1, Canon w ∧ w.text.size ≤ n ∧ (0 ≤ w.n ∧ w.n ≤ 65535) := by
 intro n
 induction n using Nat.strongRecOn with
 | _ n ih =>
  intro b pos hn hB
  match b with
  | [] => rw [Vf]; simp
  | c :: l =>
   simp only [List.length_cons] at hn
   have hB2 : Bts l := fun x hx => hB x (by simp [hx])
   cases ht : Pz c l with
   | skip k =>
    rw [Wu ht]
    intro w hw
    obtain ⟨q1, q2, q3⟩ := ih (l.drop (k - 1)).length (by simp; omega) rfl (hB2.drop _) w hw
    rw [List.length_drop] at q2
    exact ⟨q1, by omega, q3⟩
   | word kd tx m k =>
    obtain ⟨k1, k2⟩ := Xam.2 kd tx m k ht
    obtain ⟨t1, t2, t3⟩ := Xls (pos : Int) hB ht
    rw [Wv ht]
    intro w hw
    split at hw
    ·rcases List.mem_cons.1 hw with rfl | hw
     ·exact ⟨t1, (by have : (Jw tx).size = tx.length := (by simp [Jw, ByteArray.size]); show (Jw tx).size ≤ n; omega), t3⟩
     ·obtain ⟨q1, q2, q3⟩ := ih (l.drop (k - 1)).length (by simp; omega) rfl (hB2.drop _) w hw
      rw [List.length_drop] at q2
      exact ⟨q1, by omega, q3⟩
    ·cases hw
   | err e off => rw [Xau ht]; simp
theorem Xfb : ∀ (ws : List Aj) (pos : Nat), (placed ws pos).length = ws.length
 | [], _ => rfl
 | w :: ws, pos => by rw [placed, List.length_cons, List.length_cons, Xfb ws]
end Go.Proofs.YtjookebbmfiidaaDoor.L
