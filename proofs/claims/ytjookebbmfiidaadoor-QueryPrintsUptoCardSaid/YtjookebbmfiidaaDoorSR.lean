/- Queries: the document's place of a capture. Condition: sizes. -/
import Derived.Test.YtjookebbmfiidaaDoorS6
set_option linter.unusedVariables false
namespace Go.Proofs.YtjookebbmfiidaaDoor.L
open Go.Proofs.YtjookebbmfiidaaDoor.B Go.Proofs.YtjookebbmfiidaaDoor.R
theorem rnodeD {xs : List api_PatNode} (hx : xs.length ≤ 2 ^ 40) (cs : List api_Cond) (c : ByteArray) : trellisref20_Node ⟨xs, cs⟩ c (capN c xs) := by
 have key : ∀ (d i : Nat), xs.length - i = d → i ≤ xs.length → (c = noB ∨ capIx c (xs.take i) = none) → Rounds (fun (s : Int) o => trellisref20_Node_b1 ⟨xs, cs⟩ c s o) (i : Int) (capN c xs) := by
  intro d
  induction d with
  | zero =>
   intro i hd hi hn
   refine .done ?_
   have : i = xs.length := by omega
   subst this
   rw [List.take_length] at hn
   unfold trellisref20_Node_b1
   dsimp only
   rw [if_neg (Int.lt_irrefl _)]
   unfold capN
   rcases hn with hn | hn
   ·rw [if_pos hn]
   ·rw [hn]
    split <;> rfl
  | succ d ih =>
   intro i hd hi hn
   have hlt : i < xs.length := by omega
   have hg : ix xs ((i : Nat) : Int) = xs[i] := by
    have := ix_get (xs := xs) (i := (i : Int)) ⟨by omega, by omega⟩
    rw [Int.toNat_natCast, List.getElem?_eq_getElem hlt] at this
    exact (Option.some.inj this).symm
   by_cases g0 : c = noB
   ·refine .next (s' := ((i + 1 : Nat) : Int)) ?_ (ih (i + 1) (by omega) (by omega) (.inl g0))
    unfold trellisref20_Node_b1
    dsimp only
    rw [if_pos (by omega), if_pos g0, w64_id (by omega)]
    rfl
   have hn' := hn.resolve_left g0
   by_cases g : xs[i].capture = c
   ·refine .done ?_
    unfold trellisref20_Node_b1
    dsimp only
    rw [if_pos (by omega), if_neg g0, hg, if_pos g]
    refine ⟨⟨by omega, by omega⟩, ?_⟩
    have : capIx c xs = some i := by
     unfold capIx at hn' ⊢
     rw [List.findIdx?_eq_some_iff_getElem]
     refine ⟨hlt, decide_eq_true g, fun j hj => ?_⟩
     rw [List.findIdx?_eq_none_iff] at hn'
     have := hn' xs[j] (List.mem_take_iff_getElem.2 ⟨j, by omega, rfl⟩)
     rw [this]
     simp
    unfold capN
    rw [if_neg g0, this]
   ·refine .next (s' := ((i + 1 : Nat) : Int)) ?_ (ih (i + 1) (by omega) (by omega) (.inr ?_))
    ·unfold trellisref20_Node_b1
     dsimp only
     rw [if_pos (by omega), if_neg g0, hg, if_neg g, w64_id (by omega)]
     exact ⟨⟨by omega, by omega⟩, rfl⟩
    ·unfold capIx at hn' ⊢
     rw [List.findIdx?_eq_none_iff] at hn' ⊢
     intro y hy
     rw [List.take_succ_eq_append_getElem hlt] at hy
     rcases List.mem_append.1 hy with hy | hy
     ·exact hn' y hy
     ·rw [List.mem_singleton] at hy
      rw [hy]
      exact decide_eq_false g
 exact key xs.length 0 rfl (Nat.zero_le _) (.inr rfl)
end Go.Proofs.YtjookebbmfiidaaDoor.L
