/- The plain side of chapter 8, more: what is spelt is read. No condition. -/
import Derived.Test.YtjookebbmfiidaaDoorSY
import Derived.Test.YtjookebbmfiidaaDoorT0
set_option linter.unusedVariables false
namespace Go.Proofs.YtjookebbmfiidaaDoor.L
open Go.Proofs.YtjookebbmfiidaaDoor.B Go.Proofs.YtjookebbmfiidaaDoor.R
theorem sound_no {w : Ah} (h : N8 w = false) : Nh w = ⟨#[]⟩ := by unfold Nh; rw [if_neg (by rw [h]; simp)]
theorem Xnc {w : Ah} (h : N8 w = true) : Nh w ≠ ⟨#[]⟩ := fun e => by
 obtain ⟨c, l, e2, _⟩ := Xef h
 rw [e] at e2
 cases e2
def joinF (ws : List Ah) : ByteArray := if ws.all N8 = true then Ya (ws.map Nh) sp else ⟨#[]⟩
theorem joinF_ok {ws : List Ah} (hl : ws.length ≤ 2 ^ 30) (h1 : ∀ w ∈ ws, w.text.size ≤ 1048576 ∧ (-9223372036854775808 ≤ w.n ∧ w.n ≤ 9223372036854775807)) (h3 : (Ya (ws.map Nh) sp).size ≤ 140737488355328) : Uk ws (joinF ws) := by
 unfold Uk joinF
 have e : ∀ l : List Ah, ∀ acc : List ByteArray, Xfy (fun w (acc : List ByteArray) => if N8 w = true then .inl (acc ++ [Nh w]) else .inr (⟨#[]⟩ : ByteArray)) (fun acc => Ya acc sp) l acc = if l.all N8 = true then Ya (acc ++ l.map Nh) sp else ⟨#[]⟩ := by
  intro l
  induction l with
  | nil => intro acc; simp [Xfy]
  | cons a l ih =>
   intro acc
   cases h : N8 a with
   | true => rw [Xg1 (s' := acc ++ [Nh a]) (by simp [h]), ih, List.all_cons, h, Bool.true_and]; simp
   | false => rw [Xe4 (r := (⟨#[]⟩ : ByteArray)) (by simp [h]), List.all_cons, h, Bool.false_and]; rfl
 have e0 := e ws []
 rw [List.nil_append] at e0
 rw [← e0]
 refine Bl.row ws (fun (acc : List ByteArray) i => (acc, i)) _ _ (fun i acc => acc = (ws.take i).map Nh) (fun i hi s hs => ⟨fun s' hs' => ?_, fun r hr => ?_⟩) (fun s hs => ?_) (by simp)
 ·subst hs
  obtain ⟨q1, q2⟩ := h1 _ (List.getElem_mem hi)
  cases h : N8 ws[i] with
  | false => simp [h] at hs'
  | true =>
   simp only [h, if_true, Sum.inl.injEq] at hs'
   subst hs'
   refine ⟨?_, by rw [List.take_succ_eq_append_getElem hi, List.map_append]; rfl⟩
   show Iw ws _ (i : Int) _
   unfold Iw
   rw [if_pos (by omega), Xcr hi, Xaj (by omega)]
   refine ⟨by omega, _, Xdw (by omega), ?_⟩
   rw [if_pos h]
   exact ⟨_, spell_ok q1 q2, _, rfl, by simp; omega, rfl⟩
 ·obtain ⟨q1, q2⟩ := h1 _ (List.getElem_mem hi)
  cases h : N8 ws[i] with
  | true => simp [h] at hr
  | false =>
   simp only [h] at hr
   simp only [Bool.false_eq_true, if_false, Sum.inr.injEq] at hr
   subst hr
   show Iw ws _ (i : Int) _
   unfold Iw
   rw [if_pos (by omega), Xcr hi]
   refine ⟨by omega, _, Xdw (by omega), ?_⟩
   rw [if_neg (by rw [h]; simp)]
 ·subst hs
  show Iw ws _ (ws.length : Int) _
  unfold Iw
  rw [if_neg (by omega), List.take_length]
  exact ⟨_, ⟨by simp; omega, h3, rfl⟩, rfl⟩
theorem Xkm {α : Type} (f : α → Nat) {l : List α} {a : α} (h : a ∈ l) : f a ≤ Xas f l := by
 induction l with
 | nil => cases h
 | cons b l ih =>
  simp only [Xas] at ih ⊢
  rcases List.mem_cons.1 h with rfl | h
  ·omega
  ·have := ih h; omega
theorem sumL_len {α : Type} (f : α → Nat) (hf : ∀ a, 1 ≤ f a) (l : List α) : l.length ≤ Xas f l := by
 induction l with
 | nil => simp [Xas]
 | cons b l ih =>
  simp only [Xas, List.length_cons] at ih ⊢
  have := hf b; omega
end Go.Proofs.YtjookebbmfiidaaDoor.L
set_option linter.unusedVariables false
namespace Go.Proofs.YtjookebbmfiidaaDoor.L
open Go.Proofs.YtjookebbmfiidaaDoor.B Go.Proofs.YtjookebbmfiidaaDoor.R
def inF (s : ByteArray) (b : Int) : Bool := if (Dc s).all (fun c => c != b) = true then false else true
theorem in_ok {s : ByteArray} (hs : s.size ≤ 2 ^ 50) (b : Int) : Rz s b (inF s b) := by
 have hl := Fv s
 unfold Rz inF
 refine Bl.allThen (Dc s) (fun c => c != b) (fun i hi hp => ?_) (fun i hi hp => ?_) (fun _ => ?_) <;> unfold Zc
 ·rw [← Xe2 (by omega)] at hp
  rw [if_pos (by omega), if_neg (by simpa using hp), Xaj (by omega)]
  exact ⟨by omega, rfl⟩
 ·rw [← Xe2 (by omega)] at hp
  rw [if_pos (by omega), if_pos (by simpa using hp)]
  exact ⟨by omega, rfl⟩
 ·rw [if_neg (by omega)]
def Xjj : ByteArray := ⟨#[65, 66, 67, 68, 69, 70, 71, 72, 73, 74, 75, 76, 77, 78, 79, 80, 81, 82, 83, 84, 85, 86, 87, 88, 89, 90, 97, 98, 99, 100, 101, 102, 103, 104, 105, 106, 107, 108, 109, 110, 111, 112, 113, 114, 115, 116, 117, 118, 119, 120, 121, 122, 95, 48, 49, 50, 51, 52, 53, 54, 55, 56, 57]⟩
def Xim : ByteArray := ⟨#[48, 49, 50, 51, 52, 53, 54, 55, 56, 57]⟩
theorem in_all : ∀ n : Fin 256, inF Xjj ((n.val : Nat) : Int) = Nl ((n.val : Nat) : Int) ∧ inF Xim ((n.val : Nat) : Int) = Fe ((n.val : Nat) : Int) ∧ inF Zg ((n.val : Nat) : Int) = decide (0 ≤ Xe9 Zg ((n.val : Nat) : Int)) := by decide +kernel
theorem in_at {c : Int} (h : 0 ≤ c ∧ c ≤ 255) : inF Xjj c = Nl c ∧ inF Xim c = Fe c ∧ inF Zg c = decide (0 ≤ Xe9 Zg c) := by
 have := in_all ⟨c.toNat, by omega⟩
 simpa only [Int.toNat_of_nonneg h.1] using this
theorem run_ok {x : ByteArray} (hx : x.size ≤ 2 ^ 50) : Xf x 0 Xjj (twl Nl (Dc x) : Int) := by
 have hl := Fv x
 have hle := Xjq Nl (Dc x)
 have hn : Xjj.size ≤ 2 ^ 50 := by decide
 unfold Xf
 refine Bl.cnt (twl Nl (Dc x)) (fun i hi => ?_) ?_ <;> unfold Yd
 ·obtain ⟨g1, g2⟩ := Xj6 (s := x) (a := 0) (p := Nl) (by simpa using hi)
  rw [Nat.zero_add] at g1 g2
  rw [Int.zero_add, Dj (by omega), if_pos (by omega)]
  refine ⟨by omega, _, in_ok hn _, ?_⟩
  rw [(in_at (X8 x i)).1, g2, if_pos rfl, Xaj (by omega)]
 ·rw [Int.zero_add, Dj (by omega)]
  by_cases g : twl Nl (Dc x) < x.size
  ·have := Xg4 (s := x) (a := 0) (p := Nl) (by simpa using g)
   simp only [List.drop_zero, Nat.zero_add] at this
   rw [if_pos (by omega)]
   refine ⟨by omega, _, in_ok hn _, ?_⟩
   rw [(in_at (X8 x _)).1, this, if_neg (by simp)]
  ·rw [if_neg (by omega)]
theorem Xka {p : Int → Bool} : ∀ l : List Int, (twl p l == l.length) = l.all p
 | [] => rfl
 | c :: l => by
  have ih := Xka (p := p) l
  have hle := Xjq p l
  rw [twl, List.all_cons]
  by_cases hc : p c = true
  ·rw [if_pos hc, hc, Bool.true_and, ← ih, List.length_cons, Bool.eq_iff_iff]
   simp
  ·rw [if_neg hc, Bool.not_eq_true] at *
   rw [hc, Bool.false_and]
   simp
def rxR : Option Nat → Nat → Int
 | some k, a => ((a + k + 1 : Nat) : Int)
 | none, _ => 0
theorem regex_ok {x : ByteArray} (hx : x.size ≤ 2 ^ 50) (h1 : 1 ≤ x.size) : Ve x 0 (rxR (slF ((Dc x).drop 1)) 1) := by
 have hl := Fv x
 unfold Ve
 rw [show w64 (0 + 1) = ((1 : Nat) : Int) by rfl]
 refine Bl.to (fun q : Int => 1 ≤ q ∧ q ≤ (x.size : Int) ∧ rxR (slF ((Dc x).drop q.toNat)) q.toNat = rxR (slF ((Dc x).drop 1)) 1) (fun q => ((x.size : Int) - q).toNat) (fun q hq => ?_) ⟨by omega, by omega, rfl⟩
 obtain ⟨h0, h1, h3⟩ := hq
 obtain ⟨k, rfl⟩ : ∃ k : Nat, q = k := ⟨q.toNat, by omega⟩
 rw [Int.toNat_natCast] at h3
 have w1 : w64 ((k : Int) + 1) = ((k + 1 : Nat) : Int) := by rw [Dj (by omega)]; omega
 have w2 : w64 (((k + 1 : Nat) : Int) + 1) = ((k + 2 : Nat) : Int) := by rw [Dj (by omega)]; omega
 have j2f : ∀ o, o = .inr 0 → Kz k x false o := fun o h => h
 by_cases he : k = x.size
 ·left
  unfold L6
  rw [if_neg (by omega)]
  refine j2f _ ?_
  rw [← h3, he, List.drop_eq_nil_of_le (by omega)]
  rfl
 ·have hk : k < x.size := by omega
  have red : ∀ o, Kz k x (bt x k != 10) o → L6 x k o := fun o h => by
   unfold L6
   rw [if_pos (by omega)]
   exact ⟨by omega, h⟩
  rw [Xp hk, X9] at h3
  by_cases c10 : bt x k = 10
  ·left
   refine red _ ?_
   rw [c10]
   refine j2f _ ?_
   rw [if_pos c10] at h3
   rw [← h3]; rfl
  ·rw [if_neg c10] at h3
   have red2 : ∀ o, ((0 ≤ (k : Int) ∧ (k : Int) < (x.size : Int)) ∧ if bt x k = 47 then o = .inr ((k + 1 : Nat) : Int) else if bt x k = 92 then
     if ((k + 1 : Nat) : Int) < (x.size : Int) then (0 ≤ ((k + 1 : Nat) : Int) ∧ ((k + 1 : Nat) : Int) < (x.size : Int)) ∧ if bt x ((k + 1 : Nat) : Int) = 10 then o = .inl ((k + 1 : Nat) : Int) else o = .inl ((k + 2 : Nat) : Int)
     else o = .inl ((k + 1 : Nat) : Int) else o = .inl ((k + 1 : Nat) : Int)) → L6 x k o := fun o h => by
    refine red o ?_
    rw [bne_iff_ne.2 c10]
    unfold Kz
    rw [if_pos rfl, w1, w2]
    exact h
   by_cases c47 : bt x k = 47
   ·left
    refine red2 _ ⟨by omega, ?_⟩
    rw [if_pos c47] at h3 ⊢
    rw [← h3]; rfl
   ·rw [if_neg c47] at h3
    by_cases c92 : bt x k = 92
    ·rw [if_pos c92] at h3
     right
     by_cases hk1 : k + 1 < x.size
     ·rw [Xp hk1] at h3
      simp only at h3
      by_cases d10 : bt x ((k + 1 : Nat) : Int) = 10
      ·rw [if_pos d10] at h3
       refine ⟨((k + 1 : Nat) : Int), red2 _ ⟨by omega, ?_⟩, ⟨by omega, by omega, ?_⟩, by omega⟩
       ·rw [if_neg c47, if_pos c92, if_pos (by omega), if_pos d10]; exact ⟨by omega, rfl⟩
       ·rw [Int.toNat_natCast, Xp hk1, X9, if_pos d10, ← h3]; rfl
      ·rw [if_neg d10] at h3
       refine ⟨((k + 2 : Nat) : Int), red2 _ ⟨by omega, ?_⟩, ⟨by omega, by omega, ?_⟩, by omega⟩
       ·rw [if_neg c47, if_pos c92, if_pos (by omega), if_neg d10]; exact ⟨by omega, rfl⟩
       ·rw [Int.toNat_natCast, ← h3, show k + 1 + 1 = k + 2 from rfl]
        cases slF ((Dc x).drop (k + 2)) with
        | none => rfl
        | some z => show ((k + 2 + z + 1 : Nat) : Int) = ((k + (z + 2) + 1 : Nat) : Int); omega
     ·refine ⟨((k + 1 : Nat) : Int), red2 _ ⟨by omega, ?_⟩, ⟨by omega, by omega, ?_⟩, by omega⟩
      ·rw [if_neg c47, if_pos c92, if_neg (by omega)]
      ·rw [Int.toNat_natCast, ← h3, List.drop_eq_nil_of_le (by omega)]; rfl
    ·rw [if_neg c92] at h3
     right
     refine ⟨((k + 1 : Nat) : Int), red2 _ ⟨by omega, ?_⟩, ⟨by omega, by omega, ?_⟩, by omega⟩
     ·rw [if_neg c47, if_neg c92]
     ·rw [Int.toNat_natCast, ← h3]
      cases slF ((Dc x).drop (k + 1)) with
      | none => rfl
      | some z => show ((k + 1 + z + 1 : Nat) : Int) = ((k + (z + 1) + 1 : Nat) : Int); omega
theorem Xkk {w : Ah} (hs : w.text.size ≤ 1048576) : Oj w (N8 w) := by
 have hl := Fv w.text
 have hbt := Xhm w.text
 unfold Oj N8
 by_cases k1 : w.kind = 1
 ·rw [if_pos k1, if_pos k1]
  unfold Xis
  by_cases g1 : (w.text.size : Int) > 0
  ·rw [if_pos g1, decide_eq_true (by omega : 1 ≤ (Dc w.text).length), Bool.true_and]
   by_cases g2 : (w.text.size : Int) ≤ 24
   ·rw [if_pos g2, decide_eq_true (by omega : (Dc w.text).length ≤ 24), Bool.true_and]
    have hh : (Dc w.text).headD 0 = bt w.text 0 := by
     have := Xp (s := w.text) (i := 0) (by omega)
     rw [List.drop_zero] at this
     rw [this]; rfl
    refine ⟨by omega, _, in_ok (s := Xim) (by decide) _, ?_⟩
    rw [(in_at (X8 w.text 0)).2.1, hh]
    cases hd : Fe (bt w.text 0) with
    | true => rw [if_pos rfl]; rfl
    | false =>
     rw [if_neg (by simp), Bool.not_false, Bool.true_and]
     refine ⟨_, run_ok (by omega), ?_⟩
     rw [← Xka, hl, Bool.eq_iff_iff]
     simp only [beq_iff_eq]
     omega
   ·rw [if_neg g2, decide_eq_false (by omega : ¬ (Dc w.text).length ≤ 24), Bool.false_and]
  ·rw [if_neg g1, decide_eq_false (by omega : ¬ 1 ≤ (Dc w.text).length), Bool.false_and]
 rw [if_neg k1, if_neg k1]
 by_cases k2 : w.kind = 2
 ·rw [if_pos k2, if_pos k2]
 rw [if_neg k2, if_neg k2]
 have a1 : (⟨#[47]⟩ : ByteArray).size = 1 := rfl
 by_cases k3 : w.kind = 3
 ·rw [if_pos k3, if_pos k3]
  have hsz : (((⟨#[47]⟩ : ByteArray) ++ w.text) ++ (⟨#[47]⟩ : ByteArray)).size = w.text.size + 2 := by simp only [ByteArray.size_append, a1]; omega
  refine ⟨by rw [a1]; omega, by simp only [ByteArray.size_append, a1]; omega, _, regex_ok (by omega) (by omega), ?_⟩
  rw [hsz]
  have e : (Dc (((⟨#[47]⟩ : ByteArray) ++ w.text) ++ (⟨#[47]⟩ : ByteArray))).drop 1 = Dc w.text ++ 47 :: [] := by rw [Xb6, Xb6]; rfl
  rw [e]
  cases hr : Xa9 (Dc w.text) with
  | true =>
   rw [Xmq [] _ rfl hr]
   symm; rw [beq_iff_eq]
   show ((1 + (Dc w.text).length + 1 : Nat) : Int) = _
   omega
  | false =>
   symm; rw [beq_eq_false_iff_ne]
   intro h
   cases hm : slF (Dc w.text ++ 47 :: []) with
   | none => rw [hm] at h; have h : (0 : Int) = _ := h; omega
   | some k =>
    rw [hm] at h
    have h : ((1 + k + 1 : Nat) : Int) = _ := h
    obtain rfl : k = (Dc w.text).length := by omega
    have := slF_reg _ rfl hm
    rw [List.take_append_of_le_length (Nat.le_refl _), List.take_length, hr] at this
    cases this
 rw [if_neg k3, if_neg k3]
 by_cases k4 : w.kind = 4
 ·rw [if_pos k4, if_pos k4]
  split <;> rfl
 rw [if_neg k4, if_neg k4]
 by_cases k5 : w.kind = 5
 ·rw [if_pos k5, if_pos k5]
  by_cases g : (w.text.size : Int) = 1
  ·rw [if_pos g, if_pos g]
   refine ⟨by omega, _, in_ok (s := Zg) (by decide) _, ?_⟩
   have hd := Xp (s := w.text) (i := 0) (by omega)
   rw [List.drop_zero, List.drop_eq_nil_of_le (by omega)] at hd
   rw [Xkl hd, (in_at (X8 w.text _)).2.2]
   rfl
  ·rw [if_neg g, if_neg g]
 ·rw [if_neg k5, if_neg k5]
theorem join_one (y : ByteArray) : Ya [y] sp = (⟨#[]⟩ : ByteArray) ++ y := by
 refine Xlw ?_
 rw [Xc2, Xb6]
 rfl
def mark (i : Nat) : Ah := ⟨0, (⟨#[]⟩ : ByteArray), 900 + (i : Int), 7⟩
def marks : List Ah := (List.range 20).map mark
end Go.Proofs.YtjookebbmfiidaaDoor.L
