/- The plain side of chapter 8, more: what is spelt is cut as just that word; words put together are cut as they are. No condition. -/
import Derived.Test.YtjookebbmfiidaaDoorSV
import Derived.Lib.Join
import Derived.Test.YtjookebbmfiidaaDoorT0
set_option linter.unusedVariables false
namespace Go.Proofs.YtjookebbmfiidaaDoor.L
open Go.Proofs.YtjookebbmfiidaaDoor.B Go.Proofs.YtjookebbmfiidaaDoor.R
def Tl (r : List Int) : Prop := r = [] ∨ ∃ r', r = 32 :: r'
theorem Xhh {p : Int → Bool} (hp : p 32 = false) {r : List Int} (hr : Tl r) : ∀ {l : List Int}, (∀ x ∈ l, p x = true) → twl p (l ++ r) = l.length
 | [], h => by
  rcases hr with rfl | ⟨r', rfl⟩
  ·rfl
  ·simp [twl, hp]
 | c :: l, h => by
  rw [List.cons_append, twl, if_pos (h c (by simp)), Xhh hp hr fun x hx => h x (by simp [hx])]
  simp
theorem slF_all (r : List Int) : ∀ (n : Nat) {l : List Int}, l.length = n → Zx l = true → slF (l ++ 47 :: r) = some l.length := by
 intro n
 induction n using Nat.strongRecOn with
 | _ n ih =>
  intro l hn h
  match l with
  | [] => rw [List.nil_append, Zv, if_neg (by decide), if_pos rfl]; rfl
  | c :: l =>
   simp only [List.length_cons] at hn
   rw [Xf8] at h
   rw [List.cons_append, Zv]
   by_cases c47 : c = 47
   ·rw [if_pos c47] at h; cases h
   rw [if_neg c47] at h
   by_cases c10 : c = 10
   ·rw [if_pos c10] at h; cases h
   rw [if_neg c10] at h
   rw [if_neg c10, if_neg c47]
   by_cases c92 : c = 92
   ·rw [if_pos c92] at h ⊢
    match l with
    | [] => cases h
    | d :: l =>
     simp only [List.cons_append] at h ⊢
     by_cases d10 : d = 10
     ·rw [if_pos d10] at h; cases h
     rw [if_neg d10] at h ⊢
     rw [ih l.length (by simp at hn; omega) rfl h]
     simp
   ·rw [if_neg c92] at h ⊢
    rw [ih l.length (by omega) rfl h]
    simp
theorem hexB_ok : ∀ i : Fin 16, Zq (bt hxB ((i.val : Nat) : Int)) = (((i.val : Nat) : Int), true) := by decide +kernel
theorem Xl3 {c : Int} (h0 : 0 ≤ c) (h1 : c < 16) : Zq (bt hxB c) = (c, true) := by
 have := hexB_ok ⟨c.toNat, by omega⟩
 simpa [Int.toNat_of_nonneg h0] using this
theorem quF_put {c : Int} (h0 : 0 ≤ c) (h1 : c ≤ 255) (r : List Int) : quF (Wp c ++ r) = quE c (Wp c).length (quF r) := by
 have two : ∀ x : Int, Xeu x r = (c, 2) → quF (92 :: x :: r) = quE c 2 (quF r) := fun x h => by
  have e : Tj (x :: r) = (c, 2) := by rw [Xam, h]
  rw [quF_e (by rw [e]; simp), e]
  rfl
 unfold Wp
 by_cases c34 : c = 34
 ·subst c34
  simp only [if_true]
  exact two 34 (by simp [Xeu])
 rw [if_neg c34]
 by_cases c92 : c = 92
 ·subst c92
  simp only [if_true]
  exact two 92 (by simp [Xeu])
 rw [if_neg c92]
 by_cases c10 : c = 10
 ·subst c10
  simp only [if_true]
  exact two 110 (by simp [Xeu])
 rw [if_neg c10]
 by_cases c9 : c = 9
 ·subst c9
  simp only [if_true]
  exact two 116 (by simp [Xeu])
 rw [if_neg c9]
 by_cases c13 : c = 13
 ·subst c13
  simp only [if_true]
  exact two 114 (by simp [Xeu])
 rw [if_neg c13]
 by_cases g : c < 32 ∨ c > 126
 ·rw [if_pos g]
  have e : Tj (120 :: bt hxB (c / 16) :: bt hxB (c % 16) :: r) = (c, 4) := by
   rw [Xam]
   unfold Xeu
   simp only [show ¬ (120 : Int) = 34 by decide, show ¬ (120 : Int) = 92 by decide, show ¬ (120 : Int) = 110 by decide, show ¬ (120 : Int) = 116 by decide, show ¬ (120 : Int) = 114 by decide, if_false, if_true]
   rw [Xdf, Xl3 (by omega) (by omega), Xl3 (by omega) (by omega)]
   simp only [if_true]
   rw [show 16 * (c / 16) + c % 16 = c by omega]
  show quF (92 :: 120 :: bt hxB (c / 16) :: bt hxB (c % 16) :: r) = _
  rw [quF_e (by rw [e]; simp), e]
  rfl
 ·rw [if_neg g]
  exact quF_o c10 c34 c92
theorem Xgg (r : List Int) : ∀ {l : List Int}, Bts l → quF (l.flatMap Wp ++ 34 :: r) = .inl (l, (l.flatMap Wp).length + 1)
 | [], h => by rw [List.flatMap_nil, List.nil_append, Xhi]; rfl
 | c :: l, h => by
  obtain ⟨h0, h1⟩ := h c (by simp)
  rw [List.flatMap_cons, List.append_assoc, quF_put h0 h1, Xgg r fun x hx => h x (by simp [hx])]
  simp only [quE, List.length_append]
  rw [show (Wp c).length + (l.flatMap Wp).length + 1 = (l.flatMap Wp).length + 1 + (Wp c).length by omega]
def dd (n : Nat) : List Int := (Lib.decDigits n).map fun b => (b.toNat : Int)
theorem u8d {n : Nat} (h : n < 10) : (((UInt8.ofNat (48 + n)).toNat : Nat) : Int) = 48 + (n : Int) := by
 rw [UInt8.toNat_ofNat']; omega
theorem Xel {n : Nat} (h : n < 10) : dd n = [48 + (n : Int)] := by
 unfold dd
 rw [Lib.decDigits, dif_pos h, List.map_cons, List.map_nil, u8d h]
theorem Xk5 {n : Nat} (h : ¬ n < 10) : dd n = dd (n / 10) ++ [48 + ((n % 10 : Nat) : Int)] := by
 unfold dd
 rw [Lib.decDigits, dif_neg h, List.map_append, List.map_cons, List.map_nil, u8d (by omega)]
theorem dd_ok (n : Nat) : (∀ x ∈ dd n, G9 x = true) ∧ dd n ≠ [] ∧ Xav (dd n) 0 = min (n : Int) 65536 ∧ (n < 10 ^ 5 → (dd n).length ≤ 5) := by
 induction n using Nat.strongRecOn with
 | _ n ih =>
  by_cases h : n < 10
  ·rw [Xel h]
   refine ⟨fun x hx => ?_, by simp, ?_, by simp⟩
   ·simp only [List.mem_singleton] at hx
    subst hx
    simp only [G9, Bool.and_eq_true, decide_eq_true_eq]
    omega
   ·simp only [Xav, List.foldl_cons, List.foldl_nil]; omega
  ·obtain ⟨i1, i2, i3, i4⟩ := ih (n / 10) (by omega)
   rw [Xk5 h]
   refine ⟨fun x hx => ?_, by simp, ?_, fun hn => ?_⟩
   ·rcases List.mem_append.1 hx with hx | hx
    ·exact i1 x hx
    ·simp only [List.mem_singleton] at hx
     subst hx
     simp only [G9, Bool.and_eq_true, decide_eq_true_eq]
     omega
   ·rw [Xgj, i3]; omega
   ·have hl : ∀ (k m : Nat), m < 10 ^ (k + 1) → (dd m).length ≤ k + 1 := by
     intro k
     induction k with
     | zero => intro m hm; rw [Xel (by simpa using hm)]; simp
     | succ k ik =>
      intro m hm
      by_cases g : m < 10
      ·rw [Xel g]; simp
      ·rw [Xk5 g, List.length_append]
       have := ik (m / 10) (by rw [Nat.pow_succ] at hm; omega)
       simp only [List.length_cons, List.length_nil]
       omega
    rw [← Xk5 h]
    exact hl 4 n hn
theorem Xkp {n : Int} (h : 0 ≤ n) : Dh (itoaB n) = dd n.toNat := by
 unfold Dh itoaB Lib.itoa dd
 rw [if_neg (by omega)]
theorem sign_all : ∀ n : Fin 256, Xe4 Xc3 ((n.val : Nat) : Int) ≥ 0 → W9 ((n.val : Nat) : Int) = false ∧ ((n.val : Nat) : Int) ≠ 35 ∧ O3 ((n.val : Nat) : Int) = false ∧ G9 ((n.val : Nat) : Int) = false ∧ ((n.val : Nat) : Int) ≠ 34 ∧ ((n.val : Nat) : Int) ≠ 47 := by decide +kernel
theorem sign_at {c : Int} (h0 : 0 ≤ c) (h1 : c ≤ 255) (h : Xe4 Xc3 c ≥ 0) : W9 c = false ∧ c ≠ 35 ∧ O3 c = false ∧ G9 c = false ∧ c ≠ 34 ∧ c ≠ 47 := by
 have := sign_all ⟨c.toNat, by omega⟩
 simp only [Int.toNat_of_nonneg h0] at this
 exact this h
theorem hasB_one {t : ByteArray} {c : Int} (h : Dh t = [c]) : hasB Xc3 t = decide (0 ≤ Xe4 Xc3 c) := by
 unfold hasB Xe4
 have hl := congrArg List.length h
 rw [Hf] at hl
 unfold Dh at h
 match hd : t.data.toList, h with
 | [b], h =>
  simp only [List.map_cons, List.map_nil, List.cons.injEq, and_true] at h
  rw [← h]
  simp
theorem Xi8 {c : Int} (h : O3 c = true) : W9 c = false ∧ c ≠ 35 ∧ G9 c = false := by
 simp only [O3, W9, G9, Bool.or_eq_true, Bool.and_eq_true, decide_eq_true_eq, beq_iff_eq, Bool.or_eq_false_iff, Bool.and_eq_false_iff, decide_eq_false_iff_not, beq_eq_false_iff_ne] at h ⊢
 omega
theorem Xis {c : Int} (h : G9 c = true) : W9 c = false ∧ c ≠ 35 ∧ O3 c = false := by
 simp only [O3, W9, G9, Bool.and_eq_true, decide_eq_true_eq, Bool.or_eq_false_iff, Bool.and_eq_false_iff, decide_eq_false_iff_not, beq_eq_false_iff_ne] at h ⊢
 omega
def txF (w : Ak) : List Int := if w.kind = 4 then [] else Dh w.text
def nF (w : Ak) : Int := if w.kind = 4 then w.n else 0
theorem Xlv {w : Ak} (h : Po w = true) : ∃ c l, Dh (Pm w) = c :: l ∧ ∀ r, Tl r → Vq c (l ++ r) = .word w.kind (txF w) (nF w) (l.length + 1) := by
 unfold Pm
 rw [if_pos h]
 unfold Po at h
 have hbt := Xie w.text
 by_cases k1 : w.kind = 1
 ·rw [if_pos k1] at h
  rw [if_neg (by omega), if_neg (by omega), if_neg (by omega)]
  unfold txF nF
  rw [if_neg (by omega), if_neg (by omega), k1]
  unfold Xjg at h
  simp only [Bool.and_eq_true, decide_eq_true_eq, Bool.not_eq_true'] at h
  obtain ⟨g1, g2, g3, g4⟩ := h
  match hd : Dh w.text, g1 with
  | c :: l, _ =>
   rw [hd] at g2 g3 g4
   refine ⟨c, l, rfl, fun r hr => ?_⟩
   have hn := List.all_eq_true.1 g4
   have hcl : O3 c = true := by
    have := hn c (by simp)
    rw [Qc, Bool.or_eq_true] at this
    exact this.resolve_right (by rw [show G9 c = false from g3]; simp)
   obtain ⟨a1, a2, a3⟩ := Xi8 hcl
   have e : twl Qc (c :: (l ++ r)) = l.length + 1 := by rw [← List.cons_append, Xhh (by decide) hr hn]; rfl
   unfold Vq
   rw [a1, if_neg (by simp), if_neg a2, if_pos hcl, e, if_neg (by simp at g2; omega), ← List.cons_append, List.take_append_of_le_length (by simp), List.take_of_length_le (by simp)]
 rw [if_neg k1] at h
 by_cases k2 : w.kind = 2
 ·rw [if_pos k2]
  unfold txF nF
  rw [if_neg (by omega), if_neg (by omega), k2]
  have hB : Bts (Yz (Dh w.text)) := by
   intro x hx
   unfold Yz at hx
   rcases List.mem_cons.1 hx with rfl | hx
   ·omega
   rcases List.mem_append.1 hx with hx | hx
   ·obtain ⟨c, hc, hx⟩ := List.mem_flatMap.1 hx
    obtain ⟨c0, c1⟩ := hbt c hc
    have b1 := Xcr hxB (c / 16)
    have b2 := Xcr hxB (c % 16)
    unfold Wp at hx
    repeat' split at hx
    all_goals (simp only [List.mem_cons, List.not_mem_nil, or_false] at hx; omega)
   ·simp only [List.mem_cons, List.not_mem_nil, or_false] at hx; omega
  rw [Xgl hB]
  refine ⟨34, (Dh w.text).flatMap Wp ++ [34], rfl, fun r hr => ?_⟩
  rw [List.append_assoc, List.singleton_append]
  unfold Vq
  simp only [show W9 34 = false by decide, show ¬ (34 : Int) = 35 by decide, show O3 34 = false by decide, show G9 34 = false by decide, if_false, if_true, Xgg r hbt]
  simp
 rw [if_neg k2] at h
 rw [if_neg k2]
 by_cases k3 : w.kind = 3
 ·rw [if_pos k3] at h
  rw [if_pos k3]
  unfold txF nF
  rw [if_neg (by omega), if_neg (by omega), k3]
  refine ⟨47, Dh w.text ++ [47], by rw [Xfz, Xfz]; rfl, fun r hr => ?_⟩
  rw [List.append_assoc, List.singleton_append]
  unfold Vq
  simp only [show W9 47 = false by decide, show ¬ (47 : Int) = 35 by decide, show O3 47 = false by decide, show G9 47 = false by decide, show ¬ (47 : Int) = 34 by decide, if_false, if_true, slF_all r _ rfl h]
  rw [List.take_append_of_le_length (Nat.le_refl _), List.take_length]
  simp
 rw [if_neg k3] at h
 rw [if_neg k3]
 by_cases k4 : w.kind = 4
 ·rw [if_pos k4] at h
  rw [if_pos k4]
  unfold txF nF
  rw [if_pos k4, if_pos k4, k4]
  have hn : 0 ≤ w.n ∧ w.n ≤ 65535 := by
   by_cases g : w.n ≥ 0
   ·rw [if_pos g] at h; exact ⟨g, by simpa using h⟩
   ·rw [if_neg g] at h; cases h
  obtain ⟨d1, d2, d3, d4⟩ := dd_ok w.n.toNat
  rw [Xkp hn.1]
  match hd : dd w.n.toNat, d2 with
  | c :: l, _ =>
   rw [hd] at d1 d3
   refine ⟨c, l, rfl, fun r hr => ?_⟩
   have hcd := d1 c (by simp)
   obtain ⟨a1, a2, a3⟩ := Xis hcd
   have e : twl G9 (c :: (l ++ r)) = l.length + 1 := by rw [← List.cons_append, Xhh (by decide) hr d1]; rfl
   have e2 : (c :: (l ++ r)).take (l.length + 1) = c :: l := by rw [← List.cons_append, List.take_append_of_le_length (by simp), List.take_of_length_le (by simp)]
   unfold Vq
   rw [a1, if_neg (by simp), if_neg a2, a3, if_neg (by simp), if_pos hcd, e, e2, d3, if_neg (by omega), show min ((w.n.toNat : Nat) : Int) 65536 = w.n by omega]
 rw [if_neg k4] at h
 rw [if_neg k4]
 by_cases k5 : w.kind = 5
 ·rw [if_pos k5] at h
  unfold txF nF
  rw [if_neg (by omega), if_neg (by omega), k5]
  by_cases g : (w.text.size : Int) = 1
  ·rw [if_pos g] at h
   have hl := Hf w.text
   match hd : Dh w.text, (show (Dh w.text).length = 1 by omega) with
   | [c], _ =>
    rw [hasB_one hd, decide_eq_true_eq] at h
    obtain ⟨c0, c1⟩ := hbt c (by rw [hd]; simp)
    obtain ⟨a1, a2, a3, a4, a5, a6⟩ := sign_at c0 c1 h
    refine ⟨c, [], rfl, fun r hr => ?_⟩
    unfold Vq
    rw [a1, if_neg (by simp), if_neg a2, a3, if_neg (by simp), a4, if_neg (by simp), if_neg a5, if_neg a6, if_pos h]
    rfl
  ·rw [if_neg g] at h; cases h
 ·rw [if_neg k5] at h; cases h
def jn : List (List Int) → List Int
 | [] => []
 | [x] => x
 | x :: y :: r => x ++ 32 :: jn (y :: r)
theorem Xks (l : List UInt8) : Dh ⟨l.toArray⟩ = l.map fun b => (b.toNat : Int) := by simp [Dh]
theorem Xdh : ∀ xs : List ByteArray, Dh (Xg xs sp) = jn (xs.map Dh)
 | [] => rfl
 | [x] => by
  unfold Xg
  rw [Xks, List.map_cons, List.map_nil, Lib.join_one]
  rfl
 | x :: y :: r => by
  have ih := Xdh (y :: r)
  unfold Xg at ih ⊢
  rw [Xks] at ih ⊢
  simp only [List.map_cons] at ih ⊢
  rw [Lib.join_cons] at ih ⊢
  unfold Lib.joinTail at ih ⊢
  simp only [List.map_cons, List.flatten_cons, List.map_append] at ih ⊢
  rw [jn, ← ih]
  simp only [List.append_assoc]
  rfl
theorem jn_len (M : Nat) : ∀ xs : List (List Int), (∀ x ∈ xs, x.length ≤ M) → (jn xs).length ≤ xs.length * (M + 1)
 | [], h => by simp [jn]
 | [x], h => by have := h x (by simp); simp [jn]; omega
 | x :: y :: r, h => by
  have ih := jn_len M (y :: r) fun z hz => h z (by simp [hz])
  have := h x (by simp)
  rw [jn, List.length_append, List.length_cons, List.length_cons, Nat.succ_mul]
  omega
theorem Xkb {w : Ak} : (Pm w).size ≤ 4 * w.text.size + 8 := by
 unfold Pm
 by_cases h : Po w = true
 ·rw [if_pos h]
  split
  ·rw [← Hf]
   have h1 := Xcs (Dh w.text)
   rw [Hf] at h1
   have : (Dh (Q4 (Yz (Dh w.text)))).length = (Yz (Dh w.text)).length := by rw [Hf]; simp [Q4, ByteArray.size]
   rw [this]
   simp only [Yz, List.length_cons, List.length_append, List.length_nil]
   omega
  ·split
   ·simp only [ByteArray.size_append, show (⟨#[47]⟩ : ByteArray).size = 1 from rfl]; omega
   ·split
    ·rename_i k4
     unfold Po at h
     rw [if_neg (by omega), if_neg (by omega), if_neg (by omega), if_pos k4] at h
     have hn : 0 ≤ w.n ∧ w.n ≤ 65535 := by
      by_cases g : w.n ≥ 0
      ·rw [if_pos g] at h; exact ⟨g, by simpa using h⟩
      ·rw [if_neg g] at h; cases h
     have := (dd_ok w.n.toNat).2.2.2 (by omega)
     rw [← Hf, Xkp hn.1]
     omega
    ·omega
 ·rw [if_neg h, show (⟨#[]⟩ : ByteArray).size = 0 from rfl]; omega
theorem Xlo {ws : List Ak} {M : Nat} (h : ∀ w ∈ ws, w.text.size ≤ M) : (Xg (ws.map Pm) sp).size ≤ ws.length * (4 * M + 9) := by
 rw [← Hf, Xdh]
 have := jn_len (4 * M + 8) ((ws.map Pm).map Dh) (fun x hx => by
  obtain ⟨y, hy, rfl⟩ := List.mem_map.1 hx
  obtain ⟨w, hw, rfl⟩ := List.mem_map.1 hy
  rw [Hf]
  have := h w hw
  have := Xkb (w := w)
  omega)
 simpa using this
end Go.Proofs.YtjookebbmfiidaaDoor.L
set_option linter.unusedVariables false
namespace Go.Proofs.YtjookebbmfiidaaDoor.L
open Go.Proofs.YtjookebbmfiidaaDoor.B Go.Proofs.YtjookebbmfiidaaDoor.R
theorem sound_no {w : Ak} (h : Po w = false) : Pm w = ⟨#[]⟩ := by unfold Pm; rw [if_neg (by rw [h]; simp)]
theorem Xll {w : Ak} (h : Po w = true) : Pm w ≠ ⟨#[]⟩ := fun e => by
 obtain ⟨c, l, e2, _⟩ := Xlv h
 rw [e] at e2
 cases e2
def joinF (ws : List Ak) : ByteArray := if ws.all Po = true then Xg (ws.map Pm) sp else ⟨#[]⟩
theorem joinF_ok {ws : List Ak} (hl : ws.length ≤ 2 ^ 30) (h1 : ∀ w ∈ ws, w.text.size ≤ 1048576 ∧ (-9223372036854775808 ≤ w.n ∧ w.n ≤ 9223372036854775807)) (h3 : (Xg (ws.map Pm) sp).size ≤ 140737488355328) : Tu ws (joinF ws) := by
 unfold Tu joinF
 have e : ∀ l : List Ak, ∀ acc : List ByteArray, Xe6 (fun w (acc : List ByteArray) => if Po w = true then .inl (acc ++ [Pm w]) else .inr (⟨#[]⟩ : ByteArray)) (fun acc => Xg acc sp) l acc = if l.all Po = true then Xg (acc ++ l.map Pm) sp else ⟨#[]⟩ := by
  intro l
  induction l with
  | nil => intro acc; simp [Xe6]
  | cons a l ih =>
   intro acc
   cases h : Po a with
   | true => rw [Xed (s' := acc ++ [Pm a]) (by simp [h]), ih, List.all_cons, h, Bool.true_and]; simp
   | false => rw [Xcn (r := (⟨#[]⟩ : ByteArray)) (by simp [h]), List.all_cons, h, Bool.false_and]; rfl
 have e0 := e ws []
 rw [List.nil_append] at e0
 rw [← e0]
 refine Bo.row ws (fun (acc : List ByteArray) i => (acc, i)) _ _ (fun i acc => acc = (ws.take i).map Pm) (fun i hi s hs => ⟨fun s' hs' => ?_, fun r hr => ?_⟩) (fun s hs => ?_) (by simp)
 ·subst hs
  obtain ⟨q1, q2⟩ := h1 _ (List.getElem_mem hi)
  cases h : Po ws[i] with
  | false => simp [h] at hs'
  | true =>
   simp only [h, if_true, Sum.inl.injEq] at hs'
   subst hs'
   refine ⟨?_, by rw [List.take_succ_eq_append_getElem hi, List.map_append]; rfl⟩
   show J4 ws _ (i : Int) _
   unfold J4
   rw [if_pos (by omega), Z9 hi, Xap (by omega)]
   refine ⟨by omega, _, Xct (by omega), ?_⟩
   rw [if_pos h]
   exact ⟨_, spell_ok q1 q2, _, rfl, by simp; omega, rfl⟩
 ·obtain ⟨q1, q2⟩ := h1 _ (List.getElem_mem hi)
  cases h : Po ws[i] with
  | true => simp [h] at hr
  | false =>
   simp only [h] at hr
   simp only [Bool.false_eq_true, if_false, Sum.inr.injEq] at hr
   subst hr
   show J4 ws _ (i : Int) _
   unfold J4
   rw [if_pos (by omega), Z9 hi]
   refine ⟨by omega, _, Xct (by omega), ?_⟩
   rw [if_neg (by rw [h]; simp)]
 ·subst hs
  show J4 ws _ (ws.length : Int) _
  unfold J4
  rw [if_neg (by omega), List.take_length]
  exact ⟨_, ⟨by simp; omega, h3, rfl⟩, rfl⟩
end Go.Proofs.YtjookebbmfiidaaDoor.L
set_option linter.unusedVariables false
namespace Go.Proofs.YtjookebbmfiidaaDoor.L
open Go.Proofs.YtjookebbmfiidaaDoor.B Go.Proofs.YtjookebbmfiidaaDoor.R
theorem join_one (y : ByteArray) : Xg [y] sp = (⟨#[]⟩ : ByteArray) ++ y := by
 refine Xjx ?_
 rw [Xdh, Xfz]
 rfl
def mark (i : Nat) : Ak := ⟨0, (⟨#[]⟩ : ByteArray), 900 + (i : Int), 7⟩
def marks : List Ak := (List.range 20).map mark
end Go.Proofs.YtjookebbmfiidaaDoor.L
