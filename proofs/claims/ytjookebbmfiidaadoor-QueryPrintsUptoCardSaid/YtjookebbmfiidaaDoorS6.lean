/- Queries: rests of rows of words, places, captures of a row. No condition. -/
import Derived.Test.YtjookebbmfiidaaDoorU0
import Derived.Test.YtjookebbmfiidaaDoorU1
import Derived.Test.YtjookebbmfiidaaDoorB5
set_option linter.unusedVariables false
namespace Go.Proofs.YtjookebbmfiidaaDoor.L
open Go.Proofs.YtjookebbmfiidaaDoor.B Go.Proofs.YtjookebbmfiidaaDoor.R
def toks (W : List api_Word) : List Tk := W.map fun w => (w.kind, w.text)
theorem toks_len (W : List api_Word) : (toks W).length = W.length := List.length_map _
def Rst (W : List api_Word) (t : List Tk) : Prop := t <:+ toks W
def psn (W : List api_Word) (t : List Tk) : Nat := W.length - t.length
theorem Rst.le {W : List api_Word} {t : List Tk} (h : Rst W t) : t.length ≤ W.length := by
 have := List.IsSuffix.length_le h
 rwa [toks_len] at this
theorem Rst.sub {W : List api_Word} {t q : List Tk} (h : Rst W t) (hq : q <:+ t) : Rst W q := List.IsSuffix.trans hq h
theorem Rst.tl {W : List api_Word} {t : List Tk} (h : Rst W t) : Rst W t.tail := h.sub (List.tail_suffix t)
theorem Rst.drop {W : List api_Word} {t : List Tk} (h : Rst W t) : toks (W.drop (psn W t)) = t := by
 obtain ⟨p, hp⟩ := h
 have hl : p.length = psn W t := by
  have := congrArg List.length hp
  rw [List.length_append, toks_len] at this
  unfold psn
  omega
 unfold toks at hp ⊢
 rw [List.map_drop, ← hp, ← hl, List.drop_left]
theorem Rst.hd {W : List api_Word} {k : Int} {x : ByteArray} {t : List Tk} (h : Rst W ((k, x) :: t)) : psn W ((k, x) :: t) < W.length ∧ (ix W (psn W ((k, x) :: t) : Int)).kind = k ∧ (ix W (psn W ((k, x) :: t) : Int)).text = x ∧ psn W t = psn W ((k, x) :: t) + 1 := by
 have hd := h.drop
 have hl := h.le
 generalize hn : psn W ((k, x) :: t) = n at hd ⊢
 have hlt : n < W.length := by
  unfold psn at hn
  simp only [List.length_cons] at hn hl
  omega
 have hx : W[((n : Nat) : Int).toNat]? = some (ix W ((n : Nat) : Int)) := ix_get ⟨Int.natCast_nonneg n, by omega⟩
 rw [Int.toNat_natCast] at hx
 have hx2 : W.drop n = ix W (n : Int) :: W.drop (n + 1) := by
  have hg : W[n] = ix W (n : Int) := by
   rw [List.getElem?_eq_getElem hlt] at hx
   exact Option.some.inj hx
  rw [List.drop_eq_getElem_cons hlt, hg]
 rw [hx2] at hd
 unfold toks at hd
 rw [List.map_cons] at hd
 injection hd with h1 h2
 injection h1 with h3 h4
 refine ⟨hlt, h3, h4, ?_⟩
 unfold psn at hn ⊢
 simp only [List.length_cons] at hn hl
 omega
def SeenOk (o : List api_PatNode) (seen : List ByteArray) : Prop := ∀ c, c ∈ seen ↔ c ∈ capsL o
theorem SeenOk.app {o : List api_PatNode} {seen : List ByteArray} (h : SeenOk o seen) (g : PF) : SeenOk (o ++ flatP g) (capsP g seen) := fun c => by
 rw [(capsP_perm g seen).mem_iff, capsL_app, List.mem_append, List.mem_append, h c, Or.comm]
theorem mem_capsL {c : ByteArray} {v : List api_PatNode} : c ∈ capsL v ↔ c ≠ noB ∧ ∃ x ∈ v, x.capture = c := by
 unfold capsL
 rw [List.mem_filter, List.mem_map]
 simp only [Bool.not_eq_true', decide_eq_false_iff_not]
 exact And.comm
theorem inC_seen {o : List api_PatNode} {seen : List ByteArray} (h : SeenOk o seen) (c : ByteArray) : inC c seen = true ↔ (c ≠ noB ∧ ∃ x ∈ o, x.capture = c) := by
 rw [inC_iff, h c, mem_capsL]
def capIx (c : ByteArray) (v : List api_PatNode) : Option Nat := v.findIdx? fun x => decide (x.capture = c)
theorem capIx_ex {c : ByteArray} {v : List api_PatNode} : (capIx c v).isSome = true ↔ ∃ x ∈ v, x.capture = c := by
 unfold capIx
 rw [List.findIdx?_isSome, List.any_eq_true]
 simp only [decide_eq_true_eq]
def capN (c : ByteArray) (v : List api_PatNode) : Int := if c = noB then -1 else match capIx c v with
 | none => -1
 | some i => (i : Int)
theorem capN_iff {o : List api_PatNode} {seen : List ByteArray} (h : SeenOk o seen) (c : ByteArray) : capN c o ≥ 0 ↔ inC c seen = true := by
 rw [inC_seen h, ← capIx_ex]
 unfold capN
 by_cases g : c = noB
 ·rw [if_pos g]
  exact ⟨fun h => absurd h (by decide), fun h => absurd g h.1⟩
 ·rw [if_neg g]
  cases e : capIx c o with
  | none => exact ⟨fun h => absurd h (by decide), fun h => absurd h.2 (by simp)⟩
  | some i => exact ⟨fun h => ⟨g, rfl⟩, fun h => Int.natCast_nonneg i⟩
end Go.Proofs.YtjookebbmfiidaaDoor.L
