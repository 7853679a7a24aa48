/- Queries: the program's parser reads patterns. Condition: sizes. -/
import Derived.Test.YtjookebbmfiidaaDoorS6
set_option linter.unusedVariables false
namespace Go.Proofs.YtjookebbmfiidaaDoor.L
open Go.Proofs.YtjookebbmfiidaaDoor.B Go.Proofs.YtjookebbmfiidaaDoor.R
section
variable {W : List api_Word} {L : Int}
theorem pindex {xs : List api_PatNode} (hx : xs.length ≤ 2 ^ 40) (c : ByteArray) : slices_IndexFunc_api_PatNode_api_PatNode xs c ((match capIx c xs with | none => -1 | some i => (i : Int)), c) := by
 have key : ∀ (d i : Nat), xs.length - i = d → i ≤ xs.length → capIx c (xs.take i) = none → Rounds (fun (s : Int × ByteArray) o => slices_IndexFunc_api_PatNode_api_PatNode_b1 xs s.1 s.2 o) ((i : Int), c) ((match capIx c xs with | none => -1 | some i => (i : Int)), c) := by
  intro d
  induction d with
  | zero =>
   intro i hd hi hn
   refine .done ?_
   have : i = xs.length := by omega
   subst this
   rw [List.take_length] at hn
   unfold slices_IndexFunc_api_PatNode_api_PatNode_b1
   rw [if_neg (Int.lt_irrefl _), hn]
  | succ d ih =>
   intro i hd hi hn
   have hlt : i < xs.length := by omega
   have hg : ix xs ((i : Nat) : Int) = xs[i] := by
    have := ix_get (xs := xs) (i := (i : Int)) ⟨by omega, by omega⟩
    rw [Int.toNat_natCast, List.getElem?_eq_getElem hlt] at this
    exact (Option.some.inj this).symm
   have hB : ∀ oo, (if seq xs[i].capture c = true then oo = .inr (((i : Nat) : Int), c) else oo = .inl (w64 (((i : Nat) : Int) + 1), c)) → slices_IndexFunc_api_PatNode_api_PatNode_b1 xs ((i : Nat) : Int) c oo := fun oo h => by
    unfold slices_IndexFunc_api_PatNode_api_PatNode_b1
    rw [if_pos (by omega)]
    exact ⟨⟨by omega, by omega⟩, (seq (ix xs ((i : Nat) : Int)).capture c, c), rfl, by rw [hg]; exact h⟩
   by_cases g : xs[i].capture = c
   ·refine .done (hB _ ?_)
    rw [seq_dec, decide_eq_true g, if_pos rfl]
    have : capIx c xs = some i := by
     unfold capIx at hn ⊢
     rw [List.findIdx?_eq_some_iff_getElem]
     refine ⟨hlt, decide_eq_true g, fun j hj => ?_⟩
     rw [List.findIdx?_eq_none_iff] at hn
     have := hn xs[j] (List.mem_take_iff_getElem.2 ⟨j, by omega, rfl⟩)
     rw [this]
     simp
    rw [this]
   ·refine .next (hB (.inl (((i + 1 : Nat) : Int), c)) ?_) (ih (i + 1) (by omega) (by omega) ?_)
    ·rw [seq_dec, decide_eq_false g, if_neg (by simp), w64_id (by omega)]
     rfl
    ·unfold capIx at hn ⊢
     rw [List.findIdx?_eq_none_iff] at hn ⊢
     intro y hy
     rw [List.take_succ_eq_append_getElem hlt] at hy
     rcases List.mem_append.1 hy with hy | hy
     ·exact hn y hy
     ·rw [List.mem_singleton] at hy
      rw [hy]
      exact decide_eq_false g
 exact key xs.length 0 rfl (Nat.zero_le _) rfl
theorem pcapt {o : List api_PatNode} (ho : o.length ≤ 2 ^ 40) (cs : List api_Cond) (c : ByteArray) : query_captured ⟨o, cs⟩ c (capN c o) := by
 unfold query_captured capN
 by_cases g : c = noB
 ·rw [if_pos g, if_pos g]
 ·rw [if_neg g, if_neg g]
  exact ⟨_, pindex ho c, rfl⟩
end
end Go.Proofs.YtjookebbmfiidaaDoor.L
