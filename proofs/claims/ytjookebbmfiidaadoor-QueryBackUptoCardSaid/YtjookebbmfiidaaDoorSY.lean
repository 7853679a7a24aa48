/- The plain side of chapter 8, more: what is spelt is cut as just that word; words put together are cut as they are. No condition. -/
import Derived.Test.YtjookebbmfiidaaDoorSV
import Derived.Lib.Join
set_option linter.unusedVariables false
namespace Go.Proofs.YtjookebbmfiidaaDoor.L
open Go.Proofs.YtjookebbmfiidaaDoor.B Go.Proofs.YtjookebbmfiidaaDoor.R
def Tl (r : List Int) : Prop := r = [] ∨ ∃ r', r = 32 :: r'
theorem Xjp {p : Int → Bool} (hp : p 32 = false) {r : List Int} (hr : Tl r) : ∀ {l : List Int}, (∀ x ∈ l, p x = true) → twl p (l ++ r) = l.length
 | [], h => by
  rcases hr with rfl | ⟨r', rfl⟩
  ·rfl
  ·simp [twl, hp]
 | c :: l, h => by
  rw [List.cons_append, twl, if_pos (h c (by simp)), Xjp hp hr fun x hx => h x (by simp [hx])]
  simp
theorem Xmq (r : List Int) : ∀ (n : Nat) {l : List Int}, l.length = n → Xa9 l = true → slF (l ++ 47 :: r) = some l.length := by
 intro n
 induction n using Nat.strongRecOn with
 | _ n ih =>
  intro l hn h
  match l with
  | [] => rw [List.nil_append, X9, if_neg (by decide), if_pos rfl]; rfl
  | c :: l =>
   simp only [List.length_cons] at hn
   rw [Xan] at h
   rw [List.cons_append, X9]
   by_cases c47 : c = 47
   ·rw [if_pos c47] at h; cases h
   rw [if_neg c47] at h
   by_cases c10 : c = 10
   ·rw [if_pos c10] at h; cases h
   rw [if_neg c10] at h
   rw [if_neg c10, if_neg c47]
   by_cases c92 : c = 92
   ·rw [if_pos c92] at h ⊢
    match l with
    | [] => cases h
    | d :: l =>
     simp only [List.cons_append] at h ⊢
     by_cases d10 : d = 10
     ·rw [if_pos d10] at h; cases h
     rw [if_neg d10] at h ⊢
     rw [ih l.length (by simp at hn; omega) rfl h]
     simp
   ·rw [if_neg c92] at h ⊢
    rw [ih l.length (by omega) rfl h]
    simp
theorem slF_reg : ∀ (n : Nat) {l : List Int} {k : Nat}, l.length = n → slF l = some k → Xa9 (l.take k) = true := by
 intro n
 induction n using Nat.strongRecOn with
 | _ n ih =>
  intro l k hn h
  match l with
  | [] => simp [slF] at h
  | c :: l =>
   simp only [List.length_cons] at hn
   rw [X9] at h
   by_cases c10 : c = 10
   ·rw [if_pos c10] at h; cases h
   rw [if_neg c10] at h
   by_cases c47 : c = 47
   ·rw [if_pos c47] at h
    injection h with h
    subst h; rfl
   rw [if_neg c47] at h
   by_cases c92 : c = 92
   ·rw [if_pos c92] at h
    match l with
    | [] => cases h
    | d :: l =>
     simp only at h
     by_cases d10 : d = 10
     ·rw [if_pos d10] at h; cases h
     rw [if_neg d10] at h
     obtain ⟨z, hz, hz2⟩ := Option.map_eq_some_iff.1 h
     subst hz2
     rw [show z + 2 = (z + 1) + 1 from rfl, List.take_succ_cons, List.take_succ_cons, Xan, if_neg c47, if_neg c10, if_pos c92]
     simp only [if_neg d10]
     exact ih l.length (by simp at hn; omega) rfl hz
   ·rw [if_neg c92] at h
    obtain ⟨z, hz, hz2⟩ := Option.map_eq_some_iff.1 h
    subst hz2
    rw [List.take_succ_cons, Xan, if_neg c47, if_neg c10, if_neg c92]
    exact ih l.length (by omega) rfl hz
theorem hexB_ok : ∀ i : Fin 16, Xb2 (bt hxB ((i.val : Nat) : Int)) = (((i.val : Nat) : Int), true) := by decide +kernel
theorem Xme {c : Int} (h0 : 0 ≤ c) (h1 : c < 16) : Xb2 (bt hxB c) = (c, true) := by
 have := hexB_ok ⟨c.toNat, by omega⟩
 simpa [Int.toNat_of_nonneg h0] using this
theorem quF_put {c : Int} (h0 : 0 ≤ c) (h1 : c ≤ 255) (r : List Int) : quF (Xq c ++ r) = quE c (Xq c).length (quF r) := by
 have two : ∀ x : Int, Xhl x r = (c, 2) → quF (92 :: x :: r) = quE c 2 (quF r) := fun x h => by
  have e : Uh (x :: r) = (c, 2) := by rw [Xbu, h]
  rw [quF_e (by rw [e]; simp), e]
  rfl
 unfold Xq
 by_cases c34 : c = 34
 ·subst c34
  simp only [if_true]
  exact two 34 (by simp [Xhl])
 rw [if_neg c34]
 by_cases c92 : c = 92
 ·subst c92
  simp only [if_true]
  exact two 92 (by simp [Xhl])
 rw [if_neg c92]
 by_cases c10 : c = 10
 ·subst c10
  simp only [if_true]
  exact two 110 (by simp [Xhl])
 rw [if_neg c10]
 by_cases c9 : c = 9
 ·subst c9
  simp only [if_true]
  exact two 116 (by simp [Xhl])
 rw [if_neg c9]
 by_cases c13 : c = 13
 ·subst c13
  simp only [if_true]
  exact two 114 (by simp [Xhl])
 rw [if_neg c13]
 by_cases g : c < 32 ∨ c > 126
 ·rw [if_pos g]
  have e : Uh (120 :: bt hxB (c / 16) :: bt hxB (c % 16) :: r) = (c, 4) := by
   rw [Xbu]
   unfold Xhl
   simp only [show ¬ (120 : Int) = 34 by decide, show ¬ (120 : Int) = 92 by decide, show ¬ (120 : Int) = 110 by decide, show ¬ (120 : Int) = 116 by decide, show ¬ (120 : Int) = 114 by decide, if_false, if_true]
   rw [Xej, Xme (by omega) (by omega), Xme (by omega) (by omega)]
   simp only [if_true]
   rw [show 16 * (c / 16) + c % 16 = c by omega]
  show quF (92 :: 120 :: bt hxB (c / 16) :: bt hxB (c % 16) :: r) = _
  rw [quF_e (by rw [e]; simp), e]
  rfl
 ·rw [if_neg g]
  exact quF_o c10 c34 c92
theorem Xii (r : List Int) : ∀ {l : List Int}, Bts l → quF (l.flatMap Xq ++ 34 :: r) = .inl (l, (l.flatMap Xq).length + 1)
 | [], h => by rw [List.flatMap_nil, List.nil_append, Xjv]; rfl
 | c :: l, h => by
  obtain ⟨h0, h1⟩ := h c (by simp)
  rw [List.flatMap_cons, List.append_assoc, quF_put h0 h1, Xii r fun x hx => h x (by simp [hx])]
  simp only [quE, List.length_append]
  rw [show (Xq c).length + (l.flatMap Xq).length + 1 = (l.flatMap Xq).length + 1 + (Xq c).length by omega]
def dd (n : Nat) : List Int := (Lib.decDigits n).map fun b => (b.toNat : Int)
theorem u8d {n : Nat} (h : n < 10) : (((UInt8.ofNat (48 + n)).toNat : Nat) : Int) = 48 + (n : Int) := by
 rw [UInt8.toNat_ofNat']; omega
theorem Xh5 {n : Nat} (h : n < 10) : dd n = [48 + (n : Int)] := by
 unfold dd
 rw [Lib.decDigits, dif_pos h, List.map_cons, List.map_nil, u8d h]
theorem Xlm {n : Nat} (h : ¬ n < 10) : dd n = dd (n / 10) ++ [48 + ((n % 10 : Nat) : Int)] := by
 unfold dd
 rw [Lib.decDigits, dif_neg h, List.map_append, List.map_cons, List.map_nil, u8d (by omega)]
theorem dd_ok (n : Nat) : (∀ x ∈ dd n, Fe x = true) ∧ dd n ≠ [] ∧ Xcf (dd n) 0 = min (n : Int) 65536 ∧ (n < 10 ^ 5 → (dd n).length ≤ 5) := by
 induction n using Nat.strongRecOn with
 | _ n ih =>
  by_cases h : n < 10
  ·rw [Xh5 h]
   refine ⟨fun x hx => ?_, by simp, ?_, by simp⟩
   ·simp only [List.mem_singleton] at hx
    subst hx
    simp only [Fe, Bool.and_eq_true, decide_eq_true_eq]
    omega
   ·simp only [Xcf, List.foldl_cons, List.foldl_nil]; omega
  ·obtain ⟨i1, i2, i3, i4⟩ := ih (n / 10) (by omega)
   rw [Xlm h]
   refine ⟨fun x hx => ?_, by simp, ?_, fun hn => ?_⟩
   ·rcases List.mem_append.1 hx with hx | hx
    ·exact i1 x hx
    ·simp only [List.mem_singleton] at hx
     subst hx
     simp only [Fe, Bool.and_eq_true, decide_eq_true_eq]
     omega
   ·rw [Xih, i3]; omega
   ·have hl : ∀ (k m : Nat), m < 10 ^ (k + 1) → (dd m).length ≤ k + 1 := by
     intro k
     induction k with
     | zero => intro m hm; rw [Xh5 (by simpa using hm)]; simp
     | succ k ik =>
      intro m hm
      by_cases g : m < 10
      ·rw [Xh5 g]; simp
      ·rw [Xlm g, List.length_append]
       have := ik (m / 10) (by rw [Nat.pow_succ] at hm; omega)
       simp only [List.length_cons, List.length_nil]
       omega
    rw [← Xlm h]
    exact hl 4 n hn
theorem Xmd {n : Int} (h : 0 ≤ n) : Dc (itoaB n) = dd n.toNat := by
 unfold Dc itoaB Lib.itoa dd
 rw [if_neg (by omega)]
theorem sign_all : ∀ n : Fin 256, Xe9 Zg ((n.val : Nat) : Int) ≥ 0 → Xj ((n.val : Nat) : Int) = false ∧ ((n.val : Nat) : Int) ≠ 35 ∧ Ox ((n.val : Nat) : Int) = false ∧ Fe ((n.val : Nat) : Int) = false ∧ ((n.val : Nat) : Int) ≠ 34 ∧ ((n.val : Nat) : Int) ≠ 47 := by decide +kernel
theorem sign_at {c : Int} (h0 : 0 ≤ c) (h1 : c ≤ 255) (h : Xe9 Zg c ≥ 0) : Xj c = false ∧ c ≠ 35 ∧ Ox c = false ∧ Fe c = false ∧ c ≠ 34 ∧ c ≠ 47 := by
 have := sign_all ⟨c.toNat, by omega⟩
 simp only [Int.toNat_of_nonneg h0] at this
 exact this h
theorem Xkl {t : ByteArray} {c : Int} (h : Dc t = [c]) : hasB Zg t = decide (0 ≤ Xe9 Zg c) := by
 unfold hasB Xe9
 have hl := congrArg List.length h
 rw [Fv] at hl
 unfold Dc at h
 match hd : t.data.toList, h with
 | [b], h =>
  simp only [List.map_cons, List.map_nil, List.cons.injEq, and_true] at h
  rw [← h]
  simp
theorem Xit {c : Int} (h : Ox c = true) : Xj c = false ∧ c ≠ 35 ∧ Fe c = false := by
 simp only [Ox, Xj, Fe, Bool.or_eq_true, Bool.and_eq_true, decide_eq_true_eq, beq_iff_eq, Bool.or_eq_false_iff, Bool.and_eq_false_iff, decide_eq_false_iff_not, beq_eq_false_iff_ne] at h ⊢
 omega
theorem Xks {c : Int} (h : Fe c = true) : Xj c = false ∧ c ≠ 35 ∧ Ox c = false := by
 simp only [Ox, Xj, Fe, Bool.and_eq_true, decide_eq_true_eq, Bool.or_eq_false_iff, Bool.and_eq_false_iff, decide_eq_false_iff_not, beq_eq_false_iff_ne] at h ⊢
 omega
def txF (w : Ah) : List Int := if w.kind = 4 then [] else Dc w.text
def nF (w : Ah) : Int := if w.kind = 4 then w.n else 0
theorem Xef {w : Ah} (h : N8 w = true) : ∃ c l, Dc (Nh w) = c :: l ∧ ∀ r, Tl r → We c (l ++ r) = .word w.kind (txF w) (nF w) (l.length + 1) := by
 unfold Nh
 rw [if_pos h]
 unfold N8 at h
 have hbt := Xhm w.text
 by_cases k1 : w.kind = 1
 ·rw [if_pos k1] at h
  rw [if_neg (by omega), if_neg (by omega), if_neg (by omega)]
  unfold txF nF
  rw [if_neg (by omega), if_neg (by omega), k1]
  unfold Xis at h
  simp only [Bool.and_eq_true, decide_eq_true_eq, Bool.not_eq_true'] at h
  obtain ⟨g1, g2, g3, g4⟩ := h
  match hd : Dc w.text, g1 with
  | c :: l, _ =>
   rw [hd] at g2 g3 g4
   refine ⟨c, l, rfl, fun r hr => ?_⟩
   have hn := List.all_eq_true.1 g4
   have hcl : Ox c = true := by
    have := hn c (by simp)
    rw [Nl, Bool.or_eq_true] at this
    exact this.resolve_right (by rw [show Fe c = false from g3]; simp)
   obtain ⟨a1, a2, a3⟩ := Xit hcl
   have e : twl Nl (c :: (l ++ r)) = l.length + 1 := by rw [← List.cons_append, Xjp (by decide) hr hn]; rfl
   unfold We
   rw [a1, if_neg (by simp), if_neg a2, if_pos hcl, e, if_neg (by simp at g2; omega), ← List.cons_append, List.take_append_of_le_length (by simp), List.take_of_length_le (by simp)]
 rw [if_neg k1] at h
 by_cases k2 : w.kind = 2
 ·rw [if_pos k2]
  unfold txF nF
  rw [if_neg (by omega), if_neg (by omega), k2]
  have hB : Bts (Xao (Dc w.text)) := by
   intro x hx
   unfold Xao at hx
   rcases List.mem_cons.1 hx with rfl | hx
   ·omega
   rcases List.mem_append.1 hx with hx | hx
   ·obtain ⟨c, hc, hx⟩ := List.mem_flatMap.1 hx
    obtain ⟨c0, c1⟩ := hbt c hc
    have b1 := X8 hxB (c / 16)
    have b2 := X8 hxB (c % 16)
    unfold Xq at hx
    repeat' split at hx
    all_goals (simp only [List.mem_cons, List.not_mem_nil, or_false] at hx; omega)
   ·simp only [List.mem_cons, List.not_mem_nil, or_false] at hx; omega
  rw [Xib hB]
  refine ⟨34, (Dc w.text).flatMap Xq ++ [34], rfl, fun r hr => ?_⟩
  rw [List.append_assoc, List.singleton_append]
  unfold We
  simp only [show Xj 34 = false by decide, show ¬ (34 : Int) = 35 by decide, show Ox 34 = false by decide, show Fe 34 = false by decide, if_false, if_true, Xii r hbt]
  simp
 rw [if_neg k2] at h
 rw [if_neg k2]
 by_cases k3 : w.kind = 3
 ·rw [if_pos k3] at h
  rw [if_pos k3]
  unfold txF nF
  rw [if_neg (by omega), if_neg (by omega), k3]
  refine ⟨47, Dc w.text ++ [47], by rw [Xb6, Xb6]; rfl, fun r hr => ?_⟩
  rw [List.append_assoc, List.singleton_append]
  unfold We
  simp only [show Xj 47 = false by decide, show ¬ (47 : Int) = 35 by decide, show Ox 47 = false by decide, show Fe 47 = false by decide, show ¬ (47 : Int) = 34 by decide, if_false, if_true, Xmq r _ rfl h]
  rw [List.take_append_of_le_length (Nat.le_refl _), List.take_length]
  simp
 rw [if_neg k3] at h
 rw [if_neg k3]
 by_cases k4 : w.kind = 4
 ·rw [if_pos k4] at h
  rw [if_pos k4]
  unfold txF nF
  rw [if_pos k4, if_pos k4, k4]
  have hn : 0 ≤ w.n ∧ w.n ≤ 65535 := by
   by_cases g : w.n ≥ 0
   ·rw [if_pos g] at h; exact ⟨g, by simpa using h⟩
   ·rw [if_neg g] at h; cases h
  obtain ⟨d1, d2, d3, d4⟩ := dd_ok w.n.toNat
  rw [Xmd hn.1]
  match hd : dd w.n.toNat, d2 with
  | c :: l, _ =>
   rw [hd] at d1 d3
   refine ⟨c, l, rfl, fun r hr => ?_⟩
   have hcd := d1 c (by simp)
   obtain ⟨a1, a2, a3⟩ := Xks hcd
   have e : twl Fe (c :: (l ++ r)) = l.length + 1 := by rw [← List.cons_append, Xjp (by decide) hr d1]; rfl
   have e2 : (c :: (l ++ r)).take (l.length + 1) = c :: l := by rw [← List.cons_append, List.take_append_of_le_length (by simp), List.take_of_length_le (by simp)]
   unfold We
   rw [a1, if_neg (by simp), if_neg a2, a3, if_neg (by simp), if_pos hcd, e, e2, d3, if_neg (by omega), show min ((w.n.toNat : Nat) : Int) 65536 = w.n by omega]
 rw [if_neg k4] at h
 rw [if_neg k4]
 by_cases k5 : w.kind = 5
 ·rw [if_pos k5] at h
  unfold txF nF
  rw [if_neg (by omega), if_neg (by omega), k5]
  by_cases g : (w.text.size : Int) = 1
  ·rw [if_pos g] at h
   have hl := Fv w.text
   match hd : Dc w.text, (show (Dc w.text).length = 1 by omega) with
   | [c], _ =>
    rw [Xkl hd, decide_eq_true_eq] at h
    obtain ⟨c0, c1⟩ := hbt c (by rw [hd]; simp)
    obtain ⟨a1, a2, a3, a4, a5, a6⟩ := sign_at c0 c1 h
    refine ⟨c, [], rfl, fun r hr => ?_⟩
    unfold We
    rw [a1, if_neg (by simp), if_neg a2, a3, if_neg (by simp), a4, if_neg (by simp), if_neg a5, if_neg a6, if_pos h]
    rfl
  ·rw [if_neg g] at h; cases h
 ·rw [if_neg k5] at h; cases h
def jn : List (List Int) → List Int
 | [] => []
 | [x] => x
 | x :: y :: r => x ++ 32 :: jn (y :: r)
theorem Xmc (l : List UInt8) : Dc ⟨l.toArray⟩ = l.map fun b => (b.toNat : Int) := by simp [Dc]
theorem Xc2 : ∀ xs : List ByteArray, Dc (Ya xs sp) = jn (xs.map Dc)
 | [] => rfl
 | [x] => by
  unfold Ya
  rw [Xmc, List.map_cons, List.map_nil, Lib.join_one]
  rfl
 | x :: y :: r => by
  have ih := Xc2 (y :: r)
  unfold Ya at ih ⊢
  rw [Xmc] at ih ⊢
  simp only [List.map_cons] at ih ⊢
  rw [Lib.join_cons] at ih ⊢
  unfold Lib.joinTail at ih ⊢
  simp only [List.map_cons, List.flatten_cons, List.map_append] at ih ⊢
  rw [jn, ← ih]
  simp only [List.append_assoc]
  rfl
def placed : List Ah → Nat → List Ah
 | [], _ => []
 | w :: ws, pos => (⟨w.kind, Px (txF w), nF w, (pos : Int)⟩ : Ah) :: placed ws (pos + (Nh w).size + 1)
theorem Xhy : ∀ (ws : List Ah) (pos : Nat), (∀ w ∈ ws, N8 w = true) → cutF (jn ((ws.map Nh).map Dc)) pos = (placed ws pos, 0, 0)
 | [], pos, h => Xbp pos
 | [w], pos, h => by
  obtain ⟨c, l, e, ht⟩ := Xef (h w (by simp))
  simp only [List.map_cons, List.map_nil, jn, placed]
  rw [e]
  refine Uf (by have := ht [] (.inl rfl); rwa [List.append_nil] at this) ?_
  rw [List.drop_eq_nil_of_le (by simp), Xbp]
 | w :: v :: ws, pos, h => by
  obtain ⟨c, l, e, ht⟩ := Xef (h w (by simp))
  have ih := Xhy (v :: ws) (pos + (Nh w).size + 1) fun x hx => h x (by simp [hx])
  have hl : l.length + 1 = (Nh w).size := by rw [← Fv, e]; rfl
  simp only [List.map_cons, jn] at ih ⊢
  rw [placed, e, List.cons_append]
  refine Uf (ht _ (.inr ⟨_, rfl⟩)) ?_
  rw [Nat.add_sub_cancel, List.drop_append_of_le_length (Nat.le_refl _), List.drop_length, List.nil_append, hl]
  exact Xdd (k := 1) (by unfold We; rw [if_pos (by decide)]) ih
theorem jn_len (M : Nat) : ∀ xs : List (List Int), (∀ x ∈ xs, x.length ≤ M) → (jn xs).length ≤ xs.length * (M + 1)
 | [], h => by simp [jn]
 | [x], h => by have := h x (by simp); simp [jn]; omega
 | x :: y :: r, h => by
  have ih := jn_len M (y :: r) fun z hz => h z (by simp [hz])
  have := h x (by simp)
  rw [jn, List.length_append, List.length_cons, List.length_cons, Nat.succ_mul]
  omega
theorem Xlr {w : Ah} : (Nh w).size ≤ 4 * w.text.size + 8 := by
 unfold Nh
 by_cases h : N8 w = true
 ·rw [if_pos h]
  split
  ·rw [← Fv]
   have h1 := Xe0 (Dc w.text)
   rw [Fv] at h1
   have : (Dc (Px (Xao (Dc w.text)))).length = (Xao (Dc w.text)).length := by rw [Fv]; simp [Px, ByteArray.size]
   rw [this]
   simp only [Xao, List.length_cons, List.length_append, List.length_nil]
   omega
  ·split
   ·simp only [ByteArray.size_append, show (⟨#[47]⟩ : ByteArray).size = 1 from rfl]; omega
   ·split
    ·rename_i k4
     unfold N8 at h
     rw [if_neg (by omega), if_neg (by omega), if_neg (by omega), if_pos k4] at h
     have hn : 0 ≤ w.n ∧ w.n ≤ 65535 := by
      by_cases g : w.n ≥ 0
      ·rw [if_pos g] at h; exact ⟨g, by simpa using h⟩
      ·rw [if_neg g] at h; cases h
     have := (dd_ok w.n.toNat).2.2.2 (by omega)
     rw [← Fv, Xmd hn.1]
     omega
    ·omega
 ·rw [if_neg h, show (⟨#[]⟩ : ByteArray).size = 0 from rfl]; omega
theorem Xne {ws : List Ah} {M : Nat} (h : ∀ w ∈ ws, w.text.size ≤ M) : (Ya (ws.map Nh) sp).size ≤ ws.length * (4 * M + 9) := by
 rw [← Fv, Xc2]
 have := jn_len (4 * M + 8) ((ws.map Nh).map Dc) (fun x hx => by
  obtain ⟨y, hy, rfl⟩ := List.mem_map.1 hx
  obtain ⟨w, hw, rfl⟩ := List.mem_map.1 hy
  rw [Fv]
  have := h w hw
  have := Xlr (w := w)
  omega)
 simpa using this
theorem Xh2 : ∀ (ws : List Ah) (pos : Nat), (placed ws pos).length = ws.length
 | [], _ => rfl
 | w :: ws, pos => by rw [placed, List.length_cons, List.length_cons, Xh2 ws]
end Go.Proofs.YtjookebbmfiidaaDoor.L
