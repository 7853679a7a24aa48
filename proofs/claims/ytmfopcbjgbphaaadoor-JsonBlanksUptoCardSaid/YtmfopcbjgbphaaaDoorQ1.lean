/- JSON: bytes that stand at a place, numbers. Condition: sizes. (Under way.) -/
import Derived.Test.YtmfopcbjgbphaaaDoorU1
import Derived.Test.YtmfopcbjgbphaaaDoorU2
import Derived.Test.YtmfopcbjgbphaaaDoorR
import Derived.Lib.IndexAny
set_option linter.unusedVariables false
namespace Go.Proofs.YtmfopcbjgbphaaaDoor.L
open Go.Proofs.YtmfopcbjgbphaaaDoor.B Go.Proofs.YtmfopcbjgbphaaaDoor.R
def isF (s l : ByteArray) (a : Nat) : Bool := decide (a < s.size) && (bsOf l).contains (bt s (a : Int))
def skipF (s l : ByteArray) : Nat → Nat → Nat
 | 0, a => a
 | f + 1, a => if isF s l a = true then skipF s l f (a + 1) else a
theorem isF_lt {s l : ByteArray} {a : Nat} (h : isF s l a = true) : a < s.size := by
 unfold isF at h
 rw [Bool.and_eq_true, decide_eq_true_eq] at h
 exact h.1
theorem skipF_le {s l : ByteArray} : ∀ (f a : Nat), a ≤ skipF s l f a ∧ (a ≤ s.size → skipF s l f a ≤ s.size)
 | 0, a => ⟨Nat.le_refl _, fun h => h⟩
 | f + 1, a => by
  unfold skipF
  by_cases h : isF s l a = true
  ·rw [if_pos h]
   obtain ⟨i1, i2⟩ := skipF_le (s := s) (l := l) f (a + 1)
   have := isF_lt h
   exact ⟨by omega, fun _ => i2 (by omega)⟩
  ·rw [if_neg h]
   exact ⟨Nat.le_refl _, fun h => h⟩
theorem byte_eq {b : UInt8} {c : Int} (h : 0 ≤ c ∧ c ≤ 255) : (b.toNat : Int) = c ↔ b = c.toNat.toUInt8 := by
 constructor
 ·intro e
  have : c.toNat = b.toNat := by omega
  rw [this]
  exact (UInt8.ofNat_toNat).symm
 ·intro e
  subst e
  have : c.toNat.toUInt8.toNat = c.toNat % 256 := UInt8.toNat_ofNat'
  rw [this]
  omega
theorem idx_has {l : ByteArray} {c : Int} (h : 0 ≤ c ∧ c ≤ 255) : decide (idxB l c ≥ 0) = (bsOf l).contains c := by
 have e : decide (idxB l c ≥ 0) = l.data.toList.contains c.toNat.toUInt8 := by
  rw [Lib.contains_iff_indexByte]; rfl
 rw [e]
 unfold bsOf
 rw [Bool.eq_iff_iff, List.contains_iff_mem, List.contains_iff_mem, List.mem_map]
 constructor
 ·intro hm
  exact ⟨_, hm, (byte_eq h).2 rfl⟩
 ·rintro ⟨b, hb, e2⟩
  rw [← (byte_eq h).1 e2]
  exact hb
theorem is_ok {p : jps} {l : ByteArray} {a : Nat} (hp : p.at_ = (a : Int)) : jps_is p l (isF p.text l a, p) := by
 unfold jps_is
 rw [hp]
 by_cases h : a < p.text.size
 ·rw [if_pos (by omega)]
  refine ⟨by omega, _, ⟨_, rfl, rfl⟩, ?_⟩
  rw [idx_has (bt_range _ _)]
  unfold isF
  rw [decide_eq_true h, Bool.true_and]
 ·rw [if_neg (by omega)]
  unfold isF
  rw [decide_eq_false h, Bool.false_and]
abbrev dgs : ByteArray := ⟨#[48, 49, 50, 51, 52, 53, 54, 55, 56, 57]⟩
theorem take_ok {p : jps} {l : ByteArray} {a : Nat} (hp : p.at_ = (a : Int)) (hs : p.text.size ≤ 2 ^ 48) : jps_take p l (isF p.text l a, if isF p.text l a = true then { p with at_ := ((a + 1 : Nat) : Int) } else p) := by
 unfold jps_take
 refine ⟨_, is_ok hp, ?_⟩
 by_cases h : isF p.text l a = true
 ·have := isF_lt h
  rw [if_pos h, if_pos h, h]
  dsimp only
  rw [hp, w64_nat (by omega)]
  rfl
 ·rw [if_neg h, if_neg h]
  rw [Bool.not_eq_true] at h
  rw [h]
theorem digits_loop {t : ByteArray} {o : List JNd} {i c : Int} (hs : t.size ≤ 2 ^ 48) : ∀ (f a : Nat), t.size - a < f →
  Rounds (fun (s : ByteArray × Int × (List JNd) × Int × Int) o => jps_digits_b1 s.1 s.2.1 s.2.2.1 s.2.2.2.1 s.2.2.2.2 o) (t, (a : Int), o, i, c) ((true, (⟨t, (skipF t dgs f a : Int), o, i, c⟩ : jps)))
 | 0, a, h => by omega
 | f + 1, a, h => by
  unfold skipF
  by_cases g : isF t dgs a = true
  ·have := isF_lt g
   rw [if_pos g]
   refine Rounds.next (s' := (t, ((a + 1 : Nat) : Int), o, i, c)) ?_ (digits_loop hs f (a + 1) (by omega))
   show jps_digits_b1 t (a : Int) o i c _
   unfold jps_digits_b1
   refine ⟨_, is_ok (p := ⟨t, (a : Int), o, i, c⟩) rfl, ?_⟩
   rw [if_pos g]
   dsimp only
   rw [w64_nat (by omega)]
   rfl
  ·rw [if_neg g]
   refine Rounds.done ?_
   show jps_digits_b1 t (a : Int) o i c _
   unfold jps_digits_b1
   refine ⟨_, is_ok (p := ⟨t, (a : Int), o, i, c⟩) rfl, ?_⟩
   rw [if_neg g]
def digF (s : ByteArray) (a : Nat) : Nat := if isF s dgs a = true then skipF s dgs (s.size + 1) (a + 1) else a
theorem digits_ok {p : jps} {a : Nat} (hp : p.at_ = (a : Int)) (hs : p.text.size ≤ 2 ^ 48) : jps_digits p (isF p.text dgs a, { p with at_ := (digF p.text a : Int) }) := by
 unfold jps_digits digF
 refine ⟨_, take_ok hp hs, ?_⟩
 by_cases h : isF p.text dgs a = true
 ·rw [if_pos h, if_pos h, if_pos h, h]
  exact digits_loop hs _ _ (by omega)
 ·rw [if_neg h, if_neg h, if_neg h]
  rw [Bool.not_eq_true] at h
  rw [h, ← hp]
def expF (s : ByteArray) (a : Nat) : Bool × Nat := if isF s ⟨#[101, 69]⟩ a = true then (let b := if isF s ⟨#[43, 45]⟩ (a + 1) = true then a + 2 else a + 1; (isF s dgs b, digF s b)) else (true, a)
def fracF (s : ByteArray) (a : Nat) : Bool × Nat := if isF s ⟨#[46]⟩ a = true then (if isF s dgs (a + 1) = true then expF s (digF s (a + 1)) else (false, a + 1)) else expF s a
def intF (s : ByteArray) (a : Nat) : Bool × Nat := if isF s ⟨#[48]⟩ a = true then fracF s (a + 1) else if isF s dgs a = true then fracF s (digF s a) else (false, a)
def numF (s : ByteArray) (a : Nat) : Bool × Nat := intF s (if isF s ⟨#[45]⟩ a = true then a + 1 else a)
theorem digF_le {s : ByteArray} {a : Nat} (h : a ≤ s.size) : a ≤ digF s a ∧ digF s a ≤ s.size := by
 unfold digF
 by_cases g : isF s dgs a = true
 ·rw [if_pos g]
  have := isF_lt g
  obtain ⟨i1, i2⟩ := skipF_le (s := s) (l := dgs) (s.size + 1) (a + 1)
  exact ⟨by omega, i2 (by omega)⟩
 ·rw [if_neg g]; exact ⟨Nat.le_refl _, h⟩
theorem digF_no {s : ByteArray} {a : Nat} (h : ¬ isF s dgs a = true) : digF s a = a := by unfold digF; rw [if_neg h]
section
variable {p : jps}
theorem exp_ok (hs : p.text.size ≤ 2 ^ 48) {a : Nat} (ha : a ≤ p.text.size) : jps_number_j3 p.text (a : Int) p.out p.in_ p.code ((expF p.text a).1, { p with at_ := ((expF p.text a).2 : Int) }) := by
 unfold jps_number_j3 expF
 refine ⟨_, is_ok (p := ⟨p.text, (a : Int), p.out, p.in_, p.code⟩) rfl, ?_⟩
 by_cases h : isF p.text ⟨#[101, 69]⟩ a = true
 ·have := isF_lt h
  rw [if_pos h, if_pos h]
  dsimp only
  rw [w64_nat (by omega)]
  refine ⟨_, is_ok (p := ⟨p.text, ((a + 1 : Nat) : Int), p.out, p.in_, p.code⟩) (a := a + 1) rfl, ?_⟩
  unfold jps_number_j4
  by_cases g : isF p.text ⟨#[43, 45]⟩ (a + 1) = true
  ·rw [if_pos g, if_pos g]
   dsimp only
   rw [w64_nat (by omega)]
   exact ⟨_, digits_ok (p := ⟨p.text, ((a + 2 : Nat) : Int), p.out, p.in_, p.code⟩) (a := a + 2) rfl hs, rfl⟩
  ·rw [if_neg g, if_neg g]
   exact ⟨_, digits_ok (p := ⟨p.text, ((a + 1 : Nat) : Int), p.out, p.in_, p.code⟩) (a := a + 1) rfl hs, rfl⟩
 ·rw [if_neg h, if_neg h]
theorem frac_ok (hs : p.text.size ≤ 2 ^ 48) {a : Nat} (ha : a ≤ p.text.size) : jps_number_j2 p.text (a : Int) p.out p.in_ p.code ((fracF p.text a).1, { p with at_ := ((fracF p.text a).2 : Int) }) := by
 unfold jps_number_j2 fracF
 refine ⟨_, is_ok (p := ⟨p.text, (a : Int), p.out, p.in_, p.code⟩) rfl, ?_⟩
 by_cases h : isF p.text ⟨#[46]⟩ a = true
 ·have := isF_lt h
  rw [if_pos h, if_pos h]
  dsimp only
  rw [w64_nat (by omega)]
  refine ⟨_, digits_ok (p := ⟨p.text, ((a + 1 : Nat) : Int), p.out, p.in_, p.code⟩) (a := a + 1) rfl hs, ?_⟩
  by_cases g : isF p.text dgs (a + 1) = true
  ·rw [if_pos g, if_pos g]
   have hd := (digF_le (s := p.text) (a := a + 1) (by omega)).2
   exact exp_ok hs hd
  ·rw [if_neg g, if_neg g, Bool.not_eq_true] at *
   rw [g, digF_no (by rw [g]; simp)]
 ·rw [if_neg h, if_neg h]
  exact exp_ok hs ha
theorem int_ok (hs : p.text.size ≤ 2 ^ 48) {a : Nat} (ha : a ≤ p.text.size) (b : Bool) : jps_number_j1 (b, p) (a : Int) ((intF p.text a).1, { p with at_ := ((intF p.text a).2 : Int) }) := by
 unfold jps_number_j1 intF
 refine ⟨_, is_ok (p := ⟨p.text, (a : Int), p.out, p.in_, p.code⟩) rfl, ?_⟩
 by_cases h : isF p.text ⟨#[48]⟩ a = true
 ·have := isF_lt h
  rw [if_pos h, if_pos h]
  dsimp only
  rw [w64_nat (by omega)]
  exact frac_ok hs (a := a + 1) (by omega)
 ·rw [if_neg h, if_neg h]
  refine ⟨_, digits_ok (p := ⟨p.text, (a : Int), p.out, p.in_, p.code⟩) (a := a) rfl hs, ?_⟩
  by_cases g : isF p.text dgs a = true
  ·rw [if_pos g, if_pos g]
   have hd := (digF_le (s := p.text) (a := a) ha).2
   exact frac_ok hs hd
  ·rw [if_neg g, if_neg g, digF_no g]
theorem number_ok (hs : p.text.size ≤ 2 ^ 48) {a : Nat} (hp : p.at_ = (a : Int)) (ha : a ≤ p.text.size) : jps_number p ((numF p.text a).1, { p with at_ := ((numF p.text a).2 : Int) }) := by
 unfold jps_number numF
 refine ⟨_, is_ok hp, ?_⟩
 by_cases h : isF p.text ⟨#[45]⟩ a = true
 ·have := isF_lt h
  rw [if_pos h, if_pos h]
  dsimp only
  rw [hp, w64_nat (by omega)]
  exact int_ok hs (a := a + 1) (by omega) _
 ·rw [if_neg h, if_neg h]
  dsimp only
  rw [hp]
  exact int_ok hs ha _
end
section
variable {r : tf_Reader} {l : ByteArray}
end
end Go.Proofs.YtmfopcbjgbphaaaDoor.L
