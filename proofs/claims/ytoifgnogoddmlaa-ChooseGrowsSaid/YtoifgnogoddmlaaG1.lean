/- slices.Backward and its closure, for slices of ints: 'for i := len(s) - 1; i >= 0; i-- { if !yield(i, s[i]) { return } }': turned from the kit's worked texts on slices.All. Condition: the loop's body keeps what lay below a bound. -/
import Derived.RangeFuncFrom
import Derived.RangeFuncBox
import Derived.RangeFuncLeaves
import Derived.RangeFuncBound
import Derived.RangeFuncCalls
import Derived.Shelf.Abstract
import Derived.WalkKit
import Derived.OwnWalkIn
import Derived.TacticsInMore
import Derived.LoopNIn
import Derived.LoopIn
import Derived.Test.YtoifgnogoddmlaaK0
import Derived.Test.YtoifgnogoddmlaaBG
namespace Go.Proofs.Ytoifgnogoddmlaa.W
open Go.RowKit Go.Shelf Go.Proofs.Ytoifgnogoddmlaa.B Go.Proofs.Ytoifgnogoddmlaa.K Go.Proofs.Ytoifgnogoddmlaa.R
attribute [local go_sem] Oper.semAt_some
/-- what has come when k rounds are over -/
def upto {α : Type} (f : Nat → α) (k : Nat) : List α := (List.range k).map f
theorem upto_succ {α : Type} (f : Nat → α) (k : Nat) : upto f (k + 1) = upto f k ++ [f k] := by simp [upto, List.range_succ]
theorem upto_length {α : Type} (f : Nat → α) (k : Nat) : (upto f k).length = k := by simp [upto]
/-- the pair of round j: place and element, from the end on -/
def bk (zs : List Int) (j : Nat) : Int × Int := ((zs.length : Int) - 1 - (j : Int), (zs[zs.length - 1 - j]?).getD 0)
set_option maxRecDepth 100000 in
set_option maxHeartbeats 2000000 in
theorem backward1_in (F : Fence) (n : Nat) (h7 : F.fn 51) (hro : F.round = none) (hn : 1 ≤ n) (l Bs n₀ b off cap : Nat) (zs : List Int) (hreach : zs.length * 8 ≤ 140737488355328) (hb : b < n₀) (J Jx : List (Int × Int) → World → Prop) (p : Int × Int → Prop) (hp : ∀ k, k < zs.length → p (bk zs k))
    (hY : ∀ pre x W, p x → J pre W → pre.length < zs.length → YieldAt F (n - 1) Try.prog l #[.int .i64 x.1, .int .i64 x.2] W fun e W' =>
      (e = .returned (.bool true) ∧ J (pre ++ [x]) W' ∧ Below n₀ W W') ∨ (e = .returned (.bool false) ∧ Jx (pre ++ [x]) W'))
    (W : World) (hBs : W.cell? ⟨Bs, 0, none⟩ = some (.slice (some ⟨b, off, none⟩) zs.length cap)) (hBn : Bs < n₀) (hc : ∀ j, j < zs.length → W.cell? ⟨b, off + j, none⟩ = some (.int .i64 (zs[j]?.getD 0))) (h0 : J [] W) :
    CallsIn F n Try.prog 51 #[.func (.yield l) #[] #[], .pointer (some ⟨Bs, 0, none⟩)] W fun e W' => (∃ v, e = .returned v) ∧
      ((∃ ys, ys = upto (bk zs) zs.length ∧ J ys W') ∨ (∃ pre, (∃ k, k ≤ zs.length ∧ pre = upto (bk zs) k) ∧ Jx pre W')) := by
  refine callsIn_of_wp Try.func51 rfl h7 ?_ hro
  simp only [Try.ntmps51, List.size_toArray, List.length_cons, List.length_nil, Nat.reduceAdd, Nat.reduceSub, Array.replicate_succ, Array.replicate_zero, List.push_toArray, List.append_toArray, List.nil_append, List.cons_append]
  gi_wp2
  gi_loopw [3] (fun i wr => ∃ k : Nat, k ≤ zs.length ∧ i = .int .i64 ((zs.length : Int) - 1 - (k : Int)) ∧ J (upto (bk zs) k) wr ∧ Below n₀ W wr)
    (fun i _ => (intOf i + 1).toNat)
  case atStart => exact ⟨0, Nat.zero_le _, by simp, h0, Below.refl _ _⟩
  case round =>
    obtain ⟨k, hk, rfl, hJs, hnx⟩ := hrel
    have hBs' : wr.cell? ⟨Bs, 0, none⟩ = some (.slice (some ⟨b, off, none⟩) zs.length cap) := (hnx.cell (p := ⟨Bs, 0, none⟩) hBn).trans hBs
    by_cases hlt : k < zs.length
    · obtain ⟨m, hm⟩ : ∃ m, zs.length - 1 - k = m := ⟨_, rfl⟩
      have hcx : wr.cell? ⟨b, off + m, none⟩ = some (.int .i64 (zs[m]?.getD 0)) := (hnx.cell (p := ⟨b, off + m, none⟩) hb).trans (hc m (by omega))
      have hi : (zs.length : Int) - 1 - (k : Int) = (m : Int) := by omega
      obtain ⟨fn, tmps, assign, body, hy, hR⟩ := hY _ (bk zs k) wr (hp k hlt) hJs (by rw [upto_length]; exact hlt)
      dsimp only [bk] at hy
      rw [hm, hi] at hy
      rw [hi]
      gi_wp2
      refine hR.mono ?_
      rintro e W3 (⟨rfl, hJ3, hk3⟩ | ⟨rfl, hJx3⟩)
      · gi_wp2
        go_roundw
        case rel => exact ⟨k + 1, by omega, by congr 1; omega, by rw [upto_succ]; exact hJ3, hnx.trans hk3⟩
        case measure => simp [intOf]
      · gi_wp2
        refine bodyPost_ret (results_none rfl _ _ _) rfl ?_
        exact ⟨⟨_, rfl⟩, .inr ⟨_, ⟨k + 1, by omega, (upto_succ _ _).symm⟩, hJx3⟩⟩
    · obtain rfl : k = zs.length := by omega
      have hi : (zs.length : Int) - 1 - (zs.length : Int) = -1 := by omega
      rw [hi]
      gi_wp2
      go_end0
      exact ⟨⟨_, rfl⟩, .inl ⟨_, rfl, hJs⟩⟩
set_option maxRecDepth 100000 in
set_option maxHeartbeats 1000000 in
/-- .. of an empty slice: no round. -/
theorem backward1_nil_in (F : Fence) (n : Nat) (h7 : F.fn 51) (hro : F.round = none) (l Bs cap : Nat) (A : Option Addr) (J : List (Int × Int) → World → Prop) (W : World) (hBs : W.cell? ⟨Bs, 0, none⟩ = some (.slice A 0 cap)) (h0 : J [] W) :
    CallsIn F n Try.prog 51 #[.func (.yield l) #[] #[], .pointer (some ⟨Bs, 0, none⟩)] W fun e W' => (∃ v, e = .returned v) ∧ J [] W' := by
  refine callsIn_of_wp Try.func51 rfl h7 ?_ hro
  simp only [Try.ntmps51, List.size_toArray, List.length_cons, List.length_nil, Nat.reduceAdd, Nat.reduceSub, Array.replicate_succ, Array.replicate_zero, List.push_toArray, List.append_toArray, List.nil_append, List.cons_append]
  gi_wp2
  gi_loopw [3] (fun i wr => i = .int .i64 (-1) ∧ J [] wr) (fun _ _ => 0)
  case atStart => exact ⟨rfl, h0⟩
  case round =>
    obtain ⟨rfl, hJs⟩ := hrel
    gi_wp2
    go_end0
    exact ⟨⟨_, rfl⟩, hJs⟩
set_option maxHeartbeats 1000000 in
/-- slices.Backward(s): the slice value is boxed; the function value captures the box. -/
theorem backward_in (F : Fence) (n : Nat) (h5 : F.fn 35) (hro : F.round = none) (a : Option Addr) (len cap : Nat) (w : World) :
    CallsIn F n Try.prog 35 #[.slice a len cap] w fun e w' => e = .returned (.func (.func 51) #[] #[.pointer (some ⟨w.heap.size, 0, none⟩)]) ∧ w' = w.alloc (.cells #[.slice a len cap] 45) := by
  refine callsIn_of_wp Try.func35 rfl h5 ?_ hro
  simp only [Try.ntmps35, List.size_toArray, List.length_cons, List.length_nil, Nat.reduceAdd, Nat.reduceSub, Array.replicate_succ, Array.replicate_zero, List.push_toArray, List.append_toArray, List.nil_append, List.cons_append]
  gi_wp2
  go_ret
  exact ⟨rfl, rfl⟩
/-- a slice value holds these ints, in a block below a bound -/
def Ints (n₀ : Nat) (W : World) (A : Option Addr) (zs : List Int) : Prop := zs = [] ∨ ∃ b off, A = some ⟨b, off, none⟩ ∧ b < n₀ ∧ ∀ j, j < zs.length → W.cell? ⟨b, off + j, none⟩ = some (.int .i64 (zs[j]?.getD 0))
theorem Ints.below {n₀ : Nat} {A B : World} (h : Below n₀ A B) {sv : Option Addr} {zs : List Int} : Ints n₀ A sv zs → Ints n₀ B sv zs
  | .inl e => .inl e
  | .inr ⟨b, off, e, hb, hc⟩ => .inr ⟨b, off, e, hb, fun j hj => (h.cell (p := ⟨b, off + j, none⟩) hb).trans (hc j hj)⟩
theorem Ints.of_row {n₀ : Nat} {W : World} {F : Nat → Prop} {A : Option Addr} {n c : Nat} {zs : List Int} (h : Rw (kInt .i64) W F A n c zs) (hF : ∀ b, F b → b < n₀) : Ints n₀ W A zs := by
  rcases Nat.eq_zero_or_pos zs.length with h0 | h0
  · exact .inl (List.eq_nil_of_length_eq_zero h0)
  · right
    obtain ⟨h1, h2⟩ := h.row.1 h0
    obtain ⟨⟨b, off, sp⟩, rfl⟩ := Option.isSome_iff_exists.1 h1
    have cell : ∀ j, j < zs.length → celA W (some ⟨b, off, sp⟩) j = some (.int .i64 (zs[j]?.getD 0)) := fun j hj => by
      obtain ⟨cs, g1, g2⟩ := h.row.2 j zs[j] (List.getElem?_eq_getElem hj)
      have g1' : cs = [.int .i64 zs[j]] := g1
      subst g1'
      have := g2 0 _ rfl
      rw [List.getElem?_eq_getElem hj, Option.getD_some]
      rwa [show j * (kInt .i64).sz + 0 = j by show j * 1 + 0 = j; omega] at this
    have hsp : sp = none := by
      have := cell 0 h0
      unfold celA at this
      have := spot_none this
      simpa [Addr.add] using this
    subst hsp
    refine ⟨b, off, rfl, hF _ h2, fun j hj => ?_⟩
    have := cell j hj
    unfold celA at this
    have e : (⟨b, off, none⟩ : Addr).add j = ⟨b, off + j, none⟩ := by unfold Addr.add; split <;> simp_all
    simpa [e] using this
/-- what slices.Backward hands back stops; it keeps what lies below a bound -/
theorem backward_stops (F : Fence) (n : Nat) (h7 : F.fn 51) (hro : F.round = none) (hn : 1 ≤ n) (Bs n₀ cap : Nat) (A : Option Addr) (zs : List Int) (hreach : zs.length * 8 ≤ 140737488355328) (p : Int × Int → Prop) (hp : ∀ k, k < zs.length → p (bk zs k)) (w : World) (hBs : Bs < n₀) (hn₀ : n₀ ≤ w.heap.size)
    (hc : w.cell? ⟨Bs, 0, none⟩ = some (.slice A zs.length cap)) (hI : Ints n₀ w A zs) :
    SeqStopsK F n Try.prog 51 #[.pointer (some ⟨Bs, 0, none⟩)] (fun x : { x : Int × Int // p x } => #[Value.int .i64 x.1.1, Value.int .i64 x.1.2]) (Below n₀) (fun ys => ys.map (·.1) = upto (bk zs) zs.length)
      (fun pre => ∃ k, k ≤ zs.length ∧ pre.map (·.1) = upto (bk zs) k) zs.length w := fun l J Jx W hW _ _ hY h0 => by
  have hc' := (hW.cell (p := ⟨Bs, 0, none⟩) (Nat.lt_of_lt_of_le hBs hn₀)).trans hc
  rcases hI.below (hW.mono hn₀) with rfl | ⟨b, off, rfl, hb, hcs⟩
  · exact (backward1_nil_in F n h7 hro l Bs cap A (fun _ W => J [] W) W hc' h0).mono fun e W' ⟨he, hj⟩ => ⟨he, .inl ⟨[], rfl, hj⟩⟩
  · refine (backward1_in F n h7 hro hn l Bs n₀ b off cap zs hreach hb (fun pre W => ∃ pre' : List { x : Int × Int // p x }, pre'.map (·.1) = pre ∧ J pre' W) (fun pre W => ∃ pre' : List { x : Int × Int // p x }, pre'.map (·.1) = pre ∧ Jx pre' W) p hp ?_ W hc' hBs hcs ⟨[], rfl, h0⟩).mono ?_
    · rintro pre x W1 hx ⟨pre', rfl, hj⟩ hlen
      refine YieldAt.mono (hY pre' ⟨x, hx⟩ W1 hj (by simpa using hlen)) ?_
      rintro e W' (⟨he, g1, g2⟩ | ⟨he, g1⟩)
      · exact .inl ⟨he, ⟨pre' ++ [⟨x, hx⟩], by simp, g1⟩, g2⟩
      · exact .inr ⟨he, ⟨pre' ++ [⟨x, hx⟩], by simp, g1⟩⟩
    · rintro e W' ⟨he, ⟨ys, rfl, pre', h1, h2⟩ | ⟨pre, ⟨k, hk, rfl⟩, pre', h1, h2⟩⟩
      · exact ⟨he, .inl ⟨pre', h1, h2⟩⟩
      · exact ⟨he, .inr ⟨pre', ⟨k, hk, h1⟩, h2⟩⟩
end Go.Proofs.Ytoifgnogoddmlaa.W
