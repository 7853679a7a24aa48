/- Trees as texts: Text of the program and of the document. Conditions: sizes. -/
import Derived.Test.YtmekgfcfooghnaaJ1
set_option linter.unusedVariables false
namespace Go.Proofs.Ytmekgfcfooghnaa.L
open Go.Proofs.Ytmekgfcfooghnaa.B Go.Proofs.Ytmekgfcfooghnaa.R
def fldL (n : api_Node) : List Int := if n.field = (⟨#[]⟩ : ByteArray) then [] else bsOf n.field ++ [58, 32]
def hdL (n : api_Node) : List Int := if n.named = true then bsOf n.name else qL n.name
def brF (n : api_Node) : Bool := n.named || decide (n.kids > 0)
def spL (a : Nat) : List Int := if a = 0 then [] else [32]
def txG (t : List api_Node) : Nat → Nat → Nat → List Int
 | 0, _, _ => []
 | f + 1, a, e => if a < e then spL a ++ (fldL (ix t (a : Int)) ++ ((if brF (ix t (a : Int)) = true then [40] ++ (hdL (ix t (a : Int)) ++ (txG t f (a + 1) (endF t a) ++ [41])) else hdL (ix t (a : Int))) ++ txG t f (endF t a) e)) else []
theorem end_at' {t : List api_Node} {i : Nat} {x : Tre} {e : Nat} {r : List (Tre × Nat)} (h : At t i ((x, e) :: r)) : endF t i = e := by unfold endF; rw [sub_at h]
theorem seg_hd {t : List api_Node} {a m : Nat} {S : List (Tre × Nat)} (h : At t a S) (hm : m ≤ S.length) (hlt : a < en a (S.take m)) : ∃ x e r ts m', S = (x, e) :: r ∧ m = m' + 1 ∧ m' ≤ r.length ∧ a < t.length ∧ a < e ∧ e ≤ t.length ∧ endF t a = e ∧
  At t e r ∧ en e (r.take m') = en a (S.take m) ∧ At t (a + 1) (ts ++ r) ∧ en (a + 1) ((ts ++ r).take ts.length) = e ∧ x.kids = ts.map (·.1) ∧ x.node = ix t (a : Int) ∧ (ix t (a : Int)).kids = (ts.length : Int) ∧ x.at_ = (a : Int) := by
 match m, S, hm with
 | 0, S, _ => simp [en_nil] at hlt
 | m' + 1, [], hm => simp at hm
 | m' + 1, (x, e) :: r, hm =>
  obtain ⟨h1, h2, h3, h4, h5⟩ := h.pos
  obtain ⟨ts, k1, k2, k3, k4, k5⟩ := h.kids h1
  refine ⟨x, e, r, ts, m', rfl, rfl, by simpa using hm, h1, h3, h4, end_at' h, h5, ?_, k1, ?_, k2, by rw [k5, ix_nat h1], by rw [ix_nat h1, k4], h2⟩
  ·rw [List.take_succ_cons, en_cons]
  ·rw [List.take_append_of_le_length (Nat.le_refl _), List.take_length, k3]
theorem seg_end {t : List api_Node} {a m : Nat} {S : List (Tre × Nat)} (h : At t a S) (hm : m ≤ S.length) : a ≤ en a (S.take m) ∧ en a (S.take m) ≤ t.length ∧ (m = 0 ∨ a < en a (S.take m)) := by
 have := At.skip (t.length - a) a rfl h m hm
 refine ⟨this.2.1, this.1.1, ?_⟩
 rcases Nat.eq_zero_or_pos m with g | g
 ·exact .inl g
 ·exact .inr (this.2.2 g)
theorem txG_fuel {t : List api_Node} : ∀ (f g a : Nat) {S : List (Tre × Nat)} {m : Nat}, At t a S → m ≤ S.length → t.length - a < f → t.length - a < g → txG t f a (en a (S.take m)) = txG t g a (en a (S.take m)) := by
 intro f
 induction f with
 | zero => intro g a S m _ _ h; omega
 | succ f ih =>
  intro g a S m h hm hf hg
  obtain ⟨g, rfl⟩ : ∃ g', g = g' + 1 := ⟨g - 1, by omega⟩
  unfold txG
  by_cases hlt : a < en a (S.take m)
  ·obtain ⟨x, e, r, ts, m', rfl, rfl, g1, g2, g3, g4, g5, g6, g7, g8, g9, g10, g11, g12, g13⟩ := seg_hd h hm hlt
   have h1 := ih g (a + 1) (S := ts ++ r) (m := ts.length) g8 (by simp) (by omega) (by omega)
   have h2 := ih g e (S := r) (m := m') g6 g1 (by omega) (by omega)
   rw [g9] at h1
   rw [g7] at h2
   rw [if_pos hlt, if_pos hlt, g5, h1, h2]
  ·rw [if_neg hlt, if_neg hlt]
def txB (t : List api_Node) (a : Nat) : List Int := fldL (ix t (a : Int)) ++ (if brF (ix t (a : Int)) = true then [40] ++ (hdL (ix t (a : Int)) ++ (txG t (t.length + 1) (a + 1) (endF t a) ++ [41])) else hdL (ix t (a : Int)))
theorem txG_seg {t : List api_Node} : ∀ (m a : Nat) {f : Nat} {S : List (Tre × Nat)}, At t a S → m ≤ S.length → t.length - a < f → txG t f a (en a (S.take m)) = (S.take m).flatMap fun y => spL y.1.at_.toNat ++ txB t y.1.at_.toNat := by
 intro m
 induction m with
 | zero =>
  intro a f S h hm hf
  obtain ⟨f, rfl⟩ : ∃ f', f = f' + 1 := ⟨f - 1, by omega⟩
  unfold txG
  rw [List.take_zero, en_nil, if_neg (Nat.lt_irrefl _)]
  rfl
 | succ m ih =>
  intro a f S h hm hf
  obtain ⟨f, rfl⟩ : ∃ f', f = f' + 1 := ⟨f - 1, by omega⟩
  have hlt := (seg_end h hm).2.2.resolve_left (by omega)
  have hsk := seg_end h hm
  unfold txG
  rw [if_pos hlt]
  obtain ⟨x, e, r, ts, m', rfl, hm', g1, g2, g3, g4, g5, g6, g7, g8, g9, g10, g11, g12, g13⟩ := seg_hd h hm hlt
  obtain rfl : m = m' := by omega
  have h1 := txG_fuel f (t.length + 1) (a + 1) (S := ts ++ r) (m := ts.length) g8 (by simp) (by omega) (by omega)
  rw [g9] at h1
  have h2 := ih e (f := f) g6 g1 (by omega)
  rw [g7] at h2
  rw [g5, h2, List.take_succ_cons, List.flatMap_cons, g13, Int.toNat_natCast]
  unfold txB
  rw [g5, h1, List.append_assoc, List.append_assoc]
def clo (t : List api_Node) (e : Nat) : List Int → List Int × Nat
 | [] => ([], 0)
 | k :: l => if endF t k.toNat = e then ((clo t e l).1, (clo t e l).2 + 1) else (k :: l, 0)
theorem clo_no {t : List api_Node} {e : Nat} {l : List Int} (h : ∀ k ∈ l, e < endF t k.toNat) : clo t e l = (l, 0) := by
 cases l with
 | nil => rfl
 | cons k l => unfold clo; rw [if_neg (by have := h k (by simp); omega)]
section
variable {t : List api_Node} {f : tree_forest}
theorem close_run {i : Nat} (hi : i < 2 ^ 60) (hE : ∀ k : Nat, k < t.length → k < f.end_.length ∧ ix f.end_ (k : Int) = (endF t k : Int)) : ∀ (l : List Int) {b : Bool} {out : List Int}, (∀ k ∈ l, 0 ≤ k ∧ k < (t.length : Int)) → l.length < 2 ^ 60 → out.length + (clo t (i + 1) l).2 ≤ 211106232532992 → (b = true) →
  Rounds (fun (s : (List Int) × Bool × (List Int)) o => tree_Text_b7 f (i : Int) s.1 s.2.1 s.2.2 o) (l.reverse, b, out) (Sum.inl ((clo t (i + 1) l).1.reverse, ((i + 1 : Nat) : Int), true, out ++ List.replicate (clo t (i + 1) l).2 41) : Sum ((List Int) × Int × Bool × (List Int)) ByteArray)
 | [], b, out, _, _, _, hb => by
  subst hb
  refine Rounds.done ?_
  show tree_Text_b7 f (i : Int) [] true out _
  unfold tree_Text_b7 clo
  rw [if_neg (by simp), w64_nat (by omega)]
  simp
 | k :: l, b, out, hk, hl, ho, hb => by
  subst hb
  obtain ⟨k1, k2⟩ := hk k (by simp)
  have he := hE k.toNat (by omega)
  rw [Int.toNat_of_nonneg k1] at he
  rw [List.length_cons] at hl
  have hrl : (k :: l).reverse.length = l.length + 1 := by simp
  have e0 : w64 (((l.length + 1 : Nat) : Int) - 1) = (l.length : Int) := by rw [w64_id (by omega)]; omega
  have hlast : ix (k :: l).reverse (l.length : Int) = k := by
   rw [ix_nat (by rw [hrl]; omega)]
   simp
  have step : ∀ o, (if ix f.end_ k = w64 ((i : Int) + 1) then ∃ r702 : strings_Builder, (strings_Builder_WriteByte (⟨true, out⟩ : strings_Builder) 41 r702) ∧ (0 ≤ (0 : Int) ∧ (0 : Int) ≤ (l.length : Int) ∧ (l.length : Int) ≤ ((l.length + 1 : Nat) : Int)) ∧ ∃ x714 : List Int, (x714 = (k :: l).reverse.take (l.length : Int).toNat) ∧ o = .inl (x714, r702.addr, r702.buf) else o = .inr (.inl ((k :: l).reverse, w64 ((i : Int) + 1), true, out))) → tree_Text_b7 f (i : Int) (k :: l).reverse true out o := fun o h => by
   unfold tree_Text_b7
   rw [hrl, if_pos (by omega), e0, hlast]
   exact ⟨by omega, by omega, h⟩
  by_cases g : endF t k.toNat = i + 1
  ·have hc : clo t (i + 1) (k :: l) = ((clo t (i + 1) l).1, (clo t (i + 1) l).2 + 1) := by rw [clo, if_pos g]
   rw [hc] at ho ⊢
   dsimp only at ho ⊢
   refine Rounds.next (s' := (l.reverse, true, out ++ [41])) (step _ ?_) ?_
   ·rw [if_pos (by rw [he.2, g, w64_nat (by omega)]; rfl)]
    exact ⟨_, writeByte_ok (by omega), by omega, _, rfl, by rw [Int.toNat_natCast, List.reverse_cons, List.take_append_of_le_length (by simp), List.take_of_length_le (by simp)]⟩
   ·have := close_run hi hE l (b := true) (out := out ++ [41]) (fun k h => hk k (by simp [h])) (by omega) (by simp; omega) rfl
    rw [List.append_assoc] at this
    rw [List.replicate_succ]
    exact this
  ·have hc : clo t (i + 1) (k :: l) = (k :: l, 0) := by rw [clo, if_neg g]
   rw [hc]
   refine Rounds.done (step _ ?_)
   rw [if_neg (by rw [he.2, w64_nat (by omega)]; omega), w64_nat (by omega)]
   simp
theorem node_run {i : Nat} (hi : i < t.length) (hl : Fits t) (hE : ∀ k : Nat, k < t.length → k < f.end_.length ∧ ix f.end_ (k : Int) = (endF t k : Int)) {l : List Int} {b : Bool} {out : List Int} (hk : ∀ k ∈ l, 0 ≤ k ∧ k < (t.length : Int)) (hll : l.length ≤ i) (hn : (ix t (i : Int)).name.size ≤ 2 ^ 44 ∧ (ix t (i : Int)).field.size ≤ 2 ^ 44)
  (hc : (clo t (i + 1) (if brF (ix t (i : Int)) = true then (i : Int) :: l else l)).2 ≤ i + 1)
  (ho : out.length + (i + 1) + (spL i ++ (fldL (ix t (i : Int)) ++ ((if brF (ix t (i : Int)) = true then [40] else []) ++ hdL (ix t (i : Int))))).length ≤ 2 ^ 47) :
  tree_Text_b1 t f l.reverse (i : Int) b out (.inl ((clo t (i + 1) (if brF (ix t (i : Int)) = true then (i : Int) :: l else l)).1.reverse, ((i + 1 : Nat) : Int), true,
   out ++ (spL i ++ (fldL (ix t (i : Int)) ++ ((if brF (ix t (i : Int)) = true then [40] else []) ++ hdL (ix t (i : Int))))) ++ List.replicate (clo t (i + 1) (if brF (ix t (i : Int)) = true then (i : Int) :: l else l)).2 41)) := by
 simp only [List.length_append] at ho
 have hq := qL_len (ix t (i : Int)).name
 have j6 : ∀ (l' : List Int) (b' : Bool) (o1 : List Int) (h : ByteArray), bsOf h = hdL (ix t (i : Int)) → (∀ k ∈ l', 0 ≤ k ∧ k < (t.length : Int)) → l'.length ≤ i + 1 → (clo t (i + 1) l').2 ≤ i + 1 → o1.length + (hdL (ix t (i : Int))).length + (i + 1) ≤ 2 ^ 47 →
   tree_Text_j6 h f (i : Int) l'.reverse b' o1 (.inl ((clo t (i + 1) l').1.reverse, ((i + 1 : Nat) : Int), true, o1 ++ hdL (ix t (i : Int)) ++ List.replicate (clo t (i + 1) l').2 41)) := fun l' b' o1 h hh k1 k2 k3 k4 => by
  unfold tree_Text_j6
  have hz := size_bs hh
  refine ⟨_, writeString_ok (by omega), ?_⟩
  dsimp only
  rw [hh]
  exact close_run (by omega) hE l' k1 (by omega) (by rw [List.length_append]; omega) rfl
 have j5 : ∀ (b' : Bool) (o1 : List Int) (h : ByteArray), bsOf h = hdL (ix t (i : Int)) → o1.length + (if brF (ix t (i : Int)) = true then [40] else ([] : List Int)).length + (hdL (ix t (i : Int))).length + (i + 1) ≤ 2 ^ 47 →
   tree_Text_j5 b' o1 l.reverse (i : Int) h f (brF (ix t (i : Int))) (.inl ((clo t (i + 1) (if brF (ix t (i : Int)) = true then (i : Int) :: l else l)).1.reverse, ((i + 1 : Nat) : Int), true, o1 ++ ((if brF (ix t (i : Int)) = true then [40] else []) ++ hdL (ix t (i : Int))) ++ List.replicate (clo t (i + 1) (if brF (ix t (i : Int)) = true then (i : Int) :: l else l)).2 41)) := fun b' o1 h hh h4 => by
  unfold tree_Text_j5
  cases hb : brF (ix t (i : Int)) with
  | true =>
   rw [hb] at hc h4
   rw [if_pos rfl] at hc ⊢
   simp only [if_true] at hc h4 ⊢
   rw [List.length_singleton] at h4
   have := j6 ((i : Int) :: l) true (o1 ++ [40]) h hh (fun k hk' => by
    rcases List.mem_cons.1 hk' with rfl | hk'
    ·omega
    ·exact hk k hk') (by simp; omega) hc (by simp; omega)
   refine ⟨_, writeByte_ok (by omega), _, rfl, by simp; omega, ?_⟩
   rw [List.reverse_cons] at this
   rw [← List.append_assoc o1]
   exact this
  | false =>
   rw [hb] at hc h4
   rw [if_neg (by simp)] at hc ⊢
   simp only [Bool.false_eq_true, if_false] at hc h4 ⊢
   rw [List.length_nil] at h4
   rw [List.nil_append]
   exact j6 l b' o1 h hh hk (by omega) hc (by omega)
 have j4 : ∀ (b' : Bool) (o1 : List Int) (h : ByteArray), bsOf h = hdL (ix t (i : Int)) → o1.length + (if brF (ix t (i : Int)) = true then [40] else ([] : List Int)).length + (hdL (ix t (i : Int))).length + (i + 1) ≤ 2 ^ 47 →
   tree_Text_j4 t (i : Int) b' o1 l.reverse f h (.inl ((clo t (i + 1) (if brF (ix t (i : Int)) = true then (i : Int) :: l else l)).1.reverse, ((i + 1 : Nat) : Int), true, o1 ++ ((if brF (ix t (i : Int)) = true then [40] else []) ++ hdL (ix t (i : Int))) ++ List.replicate (clo t (i + 1) (if brF (ix t (i : Int)) = true then (i : Int) :: l else l)).2 41)) := fun b' o1 h hh h4 => by
  unfold tree_Text_j4
  have := j5 b' o1 h hh h4
  by_cases g : (ix t (i : Int)).named = true
  ·rw [if_pos g]
   have e : brF (ix t (i : Int)) = true := by unfold brF; rw [g]; rfl
   rw [e] at this ⊢
   exact this
  ·rw [if_neg g]
   have e : brF (ix t (i : Int)) = decide ((ix t (i : Int)).kids > 0) := by unfold brF; rw [Bool.eq_false_iff.2 g]; rfl
   rw [e] at this ⊢
   exact this
 have j3 : ∀ (b' : Bool) (o1 : List Int), o1.length + (if brF (ix t (i : Int)) = true then [40] else ([] : List Int)).length + (hdL (ix t (i : Int))).length + (i + 1) ≤ 2 ^ 47 →
   tree_Text_j3 t (i : Int) l.reverse f b' o1 (.inl ((clo t (i + 1) (if brF (ix t (i : Int)) = true then (i : Int) :: l else l)).1.reverse, ((i + 1 : Nat) : Int), true, o1 ++ ((if brF (ix t (i : Int)) = true then [40] else []) ++ hdL (ix t (i : Int))) ++ List.replicate (clo t (i + 1) (if brF (ix t (i : Int)) = true then (i : Int) :: l else l)).2 41)) := fun b' o1 h4 => by
  unfold tree_Text_j3
  by_cases g : (ix t (i : Int)).named = true
  ·rw [if_pos g]
   exact j4 b' o1 _ (by unfold hdL; rw [if_pos g]) h4
  ·rw [if_neg g]
   exact ⟨_, quoted_ok hn.1, j4 b' o1 _ (by unfold hdL; rw [if_neg g, bsOf_ofBs (qL_bts _)]) h4⟩
 have j2 : ∀ (b' : Bool) (o1 : List Int), o1.length + (fldL (ix t (i : Int))).length + (if brF (ix t (i : Int)) = true then [40] else ([] : List Int)).length + (hdL (ix t (i : Int))).length + (i + 1) ≤ 2 ^ 47 →
   tree_Text_j2 t (i : Int) l.reverse f b' o1 (.inl ((clo t (i + 1) (if brF (ix t (i : Int)) = true then (i : Int) :: l else l)).1.reverse, ((i + 1 : Nat) : Int), true, o1 ++ (fldL (ix t (i : Int)) ++ ((if brF (ix t (i : Int)) = true then [40] else []) ++ hdL (ix t (i : Int)))) ++ List.replicate (clo t (i + 1) (if brF (ix t (i : Int)) = true then (i : Int) :: l else l)).2 41)) := fun b' o1 h4 => by
  unfold tree_Text_j2
  by_cases g : (ix t (i : Int)).field = (⟨#[]⟩ : ByteArray)
  ·rw [if_pos g]
   have e : fldL (ix t (i : Int)) = [] := by unfold fldL; rw [if_pos g]
   rw [e] at h4 ⊢
   exact j3 b' o1 (by simpa using h4)
  ·rw [if_neg g]
   have zz : (⟨#[58, 32]⟩ : ByteArray).size = 2 := rfl
   have e : bsOf ((ix t (i : Int)).field ++ (⟨#[58, 32]⟩ : ByteArray)) = fldL (ix t (i : Int)) := by unfold fldL; rw [if_neg g, bsOf_app]; rfl
   have hz := size_bs e
   rw [zz]
   refine ⟨by omega, _, writeString_ok (by omega), ?_⟩
   dsimp only
   rw [e, ← List.append_assoc o1]
   exact j3 true _ (by rw [List.length_append]; exact h4)
 unfold tree_Text_b1
 rw [if_pos (by omega)]
 refine ⟨by omega, ?_⟩
 by_cases g : i = 0
 ·have e : spL i = [] := by unfold spL; rw [if_pos g]
  rw [e] at ho ⊢
  rw [if_neg (by omega)]
  exact j2 b out (by simp at ho ⊢; omega)
 ·have e : spL i = [32] := by unfold spL; rw [if_neg g]
  rw [e] at ho ⊢
  rw [List.length_singleton] at ho
  rw [if_pos (by omega)]
  refine ⟨_, writeByte_ok (by omega), ?_⟩
  dsimp only
  rw [← List.append_assoc out]
  exact j2 true _ (by rw [List.length_append, List.length_singleton]; omega)
end
end Go.Proofs.Ytmekgfcfooghnaa.L
