/- Queries: printed: the document; whole queries. Condition: sizes. -/
import Derived.Test.YtjookebbmfiidaaDoorSH
set_option linter.unusedVariables false
namespace Go.Proofs.YtjookebbmfiidaaDoor.L
open Go.Proofs.YtjookebbmfiidaaDoor.B Go.Proofs.YtjookebbmfiidaaDoor.R
theorem refput {l m : List api_Word} (h : l.length + m.length ≤ 2 ^ 41) : trellisref20_put l m (l ++ m) := by
 have key : ∀ (d i : Nat), m.length - i = d → i ≤ m.length → Rounds (fun (s : (List api_Word) × Int) o => trellisref20_put_b1 m s.1 s.2 o) (l ++ m.take i, (i : Int)) (l ++ m) := by
  intro d
  induction d with
  | zero =>
   intro i hd hi
   refine .done ?_
   dsimp only
   unfold trellisref20_put_b1
   rw [if_neg (by omega), List.take_of_length_le (by omega)]
  | succ d ih =>
   intro i hd hi
   have hlt : i < m.length := by omega
   refine .next (s' := (l ++ m.take (i + 1), ((i + 1 : Nat) : Int))) ?_ (ih (i + 1) (by omega) (by omega))
   dsimp only
   unfold trellisref20_put_b1
   rw [if_pos (by omega)]
   refine ⟨⟨by omega, by omega⟩, _, rfl, by simp only [List.length_append, List.length_take, List.length_cons, List.length_nil]; omega, ?_⟩
   rw [ix_el hlt, w64_id (by omega), List.append_assoc, ← List.take_succ_eq_append_getElem hlt]
   rfl
 have := key _ 0 rfl (Nat.zero_le _)
 unfold trellisref20_put
 simpa using this
theorem refput1 {l : List api_Word} (h : l.length + 1 ≤ 2 ^ 41) (k : Int) (s : ByteArray) : trellisref20_put l [mkW (k, s)] (l ++ [mkW (k, s)]) := refput (by simpa using h)
theorem rj2w {v : List api_PatNode} {i : Nat} {x : api_PatNode} (hx : ix v (i : Int) = x) {l : List api_Word} (hl : l.length + 2 ≤ 2 ^ 41) : trellisref20_spelt_j2 v (i : Int) l (l ++ (capW x).map mkW) := by
 unfold trellisref20_spelt_j2 capW
 rw [hx]
 by_cases g : x.capture = noB
 ·rw [if_pos g, if_pos g, List.map_nil, List.append_nil]
 ·rw [if_neg g, if_neg g]
  refine ⟨_, rfl, _, refput1 (by omega) 5 capB, _, rfl, _, refput1 (by rw [List.length_append, List.length_cons, List.length_nil]; omega) 1 _, ?_⟩
  simp [mkW]
theorem behI_flat {v a b : List api_PatNode} {y : api_PatNode} {k : PF} (h : v = a ++ y :: (flatP k ++ b)) (hf : FitP (.cons y k .nil)) : behI v a.length = ((a.length + 1 + (flatP k).length : Nat) : Int) := by
 have h1 : v.drop a.length = flatP (.cons y k .nil) ++ b := by rw [h, List.drop_left]; simp [flatP]
 have h2 : behP (v.drop a.length) 1 = some b := by
  rw [h1]
  have := behP_flat (.cons y k .nil) b 0 hf
  rw [Nat.add_zero, behP_zero] at this
  exact this
 rw [behI_of h2]
 have := congrArg List.length h
 simp only [List.length_append, List.length_cons] at this
 congr 1
 omega
theorem rkidsw {v : List api_PatNode} (hv : v.length ≤ 32) {n i : Nat} {x : api_PatNode} (hx : ix v (i : Int) = x) (hn : ∀ (x : api_PatNode) (k : PF) (a b : List api_PatNode), v = a ++ x :: (flatP k ++ b) → FitP (.cons x k .nil) → goodP nmQ (.cons x k .nil) = true → (flatP k).length + 1 ≤ n → trellisref20_spelt_n n v (a.length : Int) ((wordsP (.cons x k .nil)).map mkW)) :
  ∀ (g : PF) (a b : List api_PatNode) (l : List api_Word) (j : Nat) (r : List api_Word), v = a ++ (flatP g ++ b) → FitP g → goodP nmQ g = true → (flatP g).length ≤ n → l.length + 7 * (flatP g).length ≤ 2 ^ 40 → x.kids = ((j + cntP g : Nat) : Int) → j + cntP g ≤ 2 ^ 40 → trellisref20_spelt_j2 v (i : Int) ((l ++ (wordsP g).map mkW) ++ [mkW (5, clB)]) r →
   Rounds (fun (s : (List api_Word) × Int × Int) o => trellisref20_spelt_b4 v (i : Int) (trellisref20_spelt_n n) s.1 s.2.1 s.2.2 o) (l, (a.length : Int), (j : Int)) r
 | .nil, a, b, l, j, r, h, hf, hg, hl, hw, hk, hjb, hr => by
  refine .done ?_
  dsimp only
  unfold trellisref20_spelt_b4
  rw [hx, hk, if_neg (by simp only [cntP]; omega)]
  refine ⟨_, rfl, _, refput1 (by omega) 5 clB, r, rfl, ?_⟩
  simp only [wordsP, List.map_nil, List.append_nil] at hr
  exact hr
 | .cons y k s, a, b, l, j, r, h, hf, hg, hl, hw, hk, hjb, hr => by
  simp only [cntP] at hjb
  obtain ⟨f1, f2, f3⟩ := hf
  obtain ⟨g1, g2, g3, g4, g5, g6⟩ := goodP_parts hg
  have hg1 : goodP nmQ (.cons y k .nil) = true := by
   unfold goodP at hg ⊢
   rw [Bool.and_eq_true] at hg ⊢
   exact ⟨hg.1, rfl⟩
  have hlen : (flatP (.cons y k s)).length = (flatP k).length + 1 + (flatP s).length := by simp only [flatP, List.length_cons, List.length_append]; omega
  have hwk := wordsP_len (.cons y k .nil)
  simp only [flatP, List.append_nil, List.length_cons] at hwk
  have h1 : v = a ++ y :: (flatP k ++ (flatP s ++ b)) := by rw [h]; simp [flatP]
  have hp := hn y k a (flatP s ++ b) h1 ⟨f1, f2, trivial⟩ hg1 (by omega)
  have hal : a.length ≤ v.length := by rw [h, List.length_append]; omega
  have hbe := behI_flat h1 ⟨f1, f2, trivial⟩
  refine .next (s' := (l ++ (wordsP (.cons y k .nil)).map mkW, ((a.length + 1 + (flatP k).length : Nat) : Int), ((j + 1 : Nat) : Int))) ?_ ?_
  ·dsimp only
   unfold trellisref20_spelt_b4
   rw [hx, hk, if_pos (by simp only [cntP]; omega)]
   refine ⟨_, hp, _, refput (by rw [List.length_map]; omega), _, behind_ok hv hal, ?_⟩
   rw [w64_id (by omega), hbe]
   rfl
  ·have h2 : v = (a ++ y :: flatP k) ++ (flatP s ++ b) := by rw [h1]; simp
   have hal : (a ++ y :: flatP k).length = a.length + 1 + (flatP k).length := by simp only [List.length_append, List.length_cons]; omega
   have := rkidsw hv hx hn s (a ++ y :: flatP k) b (l ++ (wordsP (.cons y k .nil)).map mkW) (j + 1) r h2 f3 g6 (by omega) (by rw [List.length_append, List.length_map]; omega) (by rw [hk]; simp only [cntP]; omega) (by omega) (by
    have e : (l ++ (wordsP (.cons y k .nil)).map mkW) ++ (wordsP s).map mkW = l ++ (wordsP (.cons y k s)).map mkW := by simp [wordsP]
    rw [e]
    exact hr)
   rw [hal] at this
   exact this
theorem ix_app {v a b : List api_PatNode} {x : api_PatNode} (h : v = a ++ x :: b) : a.length < v.length ∧ ix v (a.length : Int) = x := nodes_at (q := ⟨v, []⟩) h
theorem rnodew {v : List api_PatNode} (hv : v.length ≤ 32) : ∀ (n : Nat) (x : api_PatNode) (k : PF) (a b : List api_PatNode), v = a ++ x :: (flatP k ++ b) → FitP (.cons x k .nil) → goodP nmQ (.cons x k .nil) = true → (flatP k).length + 1 ≤ n → trellisref20_spelt_n n v (a.length : Int) ((wordsP (.cons x k .nil)).map mkW)
 | 0, x, k, a, b, h, hf, hg, hl => by omega
 | n + 1, x, k, a, b, h, hf, hg, hl => by
  obtain ⟨f1, f2, f3⟩ := hf
  obtain ⟨g1, g2, g3, g4, g5, g6⟩ := goodP_parts hg
  obtain ⟨ha, hx⟩ := ix_app h
  have hF := fldW_len x
  have hkl : (flatP k).length ≤ 32 := by
   have := congrArg List.length h
   simp only [List.length_append, List.length_cons] at this
   omega
  have hwp : (wordsP (.cons x k .nil)).map mkW = (fldW x).map mkW ++ (((if x.lit = true then [(2, x.name)] else (5, opB) :: nameW x :: (wordsP k ++ [(5, clB)])).map mkW) ++ (capW x).map mkW) := by simp [wordsP]
  show trellisref20_spelt_body (trellisref20_spelt_n n) v (a.length : Int) _
  unfold trellisref20_spelt_body
  refine ⟨⟨by omega, by omega⟩, ?_⟩
  rw [hwp]
  have j1 : ∀ l0 : List api_Word, l0 = (fldW x).map mkW → trellisref20_spelt_j1 v (a.length : Int) (trellisref20_spelt_n n) l0 ((fldW x).map mkW ++ (((if x.lit = true then [(2, x.name)] else (5, opB) :: nameW x :: (wordsP k ++ [(5, clB)])).map mkW) ++ (capW x).map mkW)) := fun l0 e0 => by
   have hl0 : l0.length ≤ 2 := by rw [e0, List.length_map]; omega
   unfold trellisref20_spelt_j1
   rw [hx]
   by_cases hlit : x.lit = true
   ·rw [if_pos hlit, if_pos hlit]
    refine ⟨_, rfl, _, refput1 (by omega) 2 x.name, ?_⟩
    have := rj2w hx (l := l0 ++ [mkW (2, x.name)]) (by rw [List.length_append, List.length_cons, List.length_nil]; omega)
    have e : (l0 ++ [mkW (2, x.name)]) ++ (capW x).map mkW = (fldW x).map mkW ++ ([(2, x.name)].map mkW ++ (capW x).map mkW) := by rw [e0]; simp
    rw [e] at this
    exact this
   ·rw [if_neg hlit, if_neg hlit]
    have j3 : ∀ s, nameW x = (1, s) → trellisref20_spelt_j3 l0 v (a.length : Int) (trellisref20_spelt_n n) s ((fldW x).map mkW ++ (((5, opB) :: nameW x :: (wordsP k ++ [(5, clB)])).map mkW ++ (capW x).map mkW)) := fun s en => by
     unfold trellisref20_spelt_j3
     refine ⟨_, rfl, _, refput1 (by omega) 5 opB, _, rfl, _, refput1 (by rw [List.length_append, List.length_cons, List.length_nil]; omega) 1 s, ?_⟩
     rw [w64_id (by omega)]
     have h2 : v = (a ++ [x]) ++ (flatP k ++ b) := by rw [h]; simp
     have hal : (a ++ [x]).length = a.length + 1 := by simp
     have hwk := wordsP_len k
     have hcl := cntP_le k
     have := rkidsw hv hx (rnodew hv n) k (a ++ [x]) b ((l0 ++ [mkW (5, opB)]) ++ [mkW (1, s)]) 0 _ h2 f2 g5 (by omega) (by simp only [List.length_append, List.length_cons, List.length_nil]; omega) (by rw [f1, Nat.zero_add]) (by omega) (rj2w hx (by simp only [List.length_append, List.length_cons, List.length_nil, List.length_map]; omega))
     rw [hal] at this
     have e : (((l0 ++ [mkW (5, opB)]) ++ [mkW (1, s)]) ++ (wordsP k).map mkW ++ [mkW (5, clB)]) ++ (capW x).map mkW = (fldW x).map mkW ++ (((5, opB) :: nameW x :: (wordsP k ++ [(5, clB)])).map mkW ++ (capW x).map mkW) := by rw [e0, en]; simp
     rw [e] at this
     exact this
    by_cases hn : x.name = noB
    ·rw [if_pos hn]
     exact j3 uscB (by unfold nameW; rw [if_pos hn])
    ·rw [if_neg hn]
     exact j3 x.name (by unfold nameW; rw [if_neg hn])
  rw [hx]
  by_cases gf : x.field = noB
  ·rw [if_pos gf]
   exact j1 [] (by unfold fldW; rw [if_pos gf]; simp)
  ·rw [if_neg gf]
   refine ⟨_, rfl, _, rfl, _, refput1 (by simp) 5 colB, j1 _ ?_⟩
   unfold fldW
   rw [if_neg gf]
   simp [mkW]
theorem rcondsw {q : api_Query} (hc : q.conds.length ≤ 16) {l : List api_Word} (hl : l.length ≤ 2 ^ 40) {J : ByteArray} (hJ : trellisref8_Join (l ++ (q.conds.flatMap wordsC).map mkW) J) : Rounds (fun (s : (List api_Word) × Int) o => trellisref20_Print_b1 q s.1 s.2 o) (l, 0) (J, 0) := by
 have hcw : ∀ c : api_Cond, (wordsC c).length ≤ 6 := fun c => by unfold wordsC; by_cases g : c.b = noB <;> simp [g]
 have key : ∀ (d i : Nat) (m : List api_Word), q.conds.length - i = d → i ≤ q.conds.length → m.length ≤ 2 ^ 40 + 6 * i → m ++ ((q.conds.drop i).flatMap wordsC).map mkW = l ++ (q.conds.flatMap wordsC).map mkW → Rounds (fun (s : (List api_Word) × Int) o => trellisref20_Print_b1 q s.1 s.2 o) (m, (i : Int)) (J, 0) := by
  intro d
  induction d with
  | zero =>
   intro i m hd hi hm he
   have : i = q.conds.length := by omega
   subst this
   rw [List.drop_length, List.flatMap_nil, List.map_nil, List.append_nil] at he
   refine .done ?_
   dsimp only
   unfold trellisref20_Print_b1
   rw [if_neg (Int.lt_irrefl _), he]
   exact ⟨_, hJ, rfl⟩
  | succ d ih =>
   intro i m hd hi hm he
   have hlt : i < q.conds.length := by omega
   have hcx := ix_el hlt
   have hdr : q.conds.drop i = q.conds[i] :: q.conds.drop (i + 1) := List.drop_eq_getElem_cons hlt
   rw [hdr, List.flatMap_cons, List.map_append, ← List.append_assoc] at he
   have hl6 := hcw q.conds[i]
   refine .next (s' := (m ++ (wordsC q.conds[i]).map mkW, ((i + 1 : Nat) : Int))) ?_ (ih (i + 1) _ (by omega) (by omega) (by rw [List.length_append, List.length_map]; omega) he)
   dsimp only
   have hs : ∀ s, s = (if q.conds[i].not = true then unB else whB) → trellisref20_Print_j2 m q (i : Int) s (.inl (m ++ (wordsC q.conds[i]).map mkW, ((i + 1 : Nat) : Int))) := fun s e0 => by
    unfold trellisref20_Print_j2
    rw [hcx]
    refine ⟨_, rfl, _, refput1 (by omega) 1 s, _, rfl, _, refput1 (by simp only [List.length_append, List.length_cons, List.length_nil]; omega) 5 capB, _, rfl, _, refput1 (by simp only [List.length_append, List.length_cons, List.length_nil]; omega) 1 _, _, rfl, _, refput1 (by simp only [List.length_append, List.length_cons, List.length_nil]; omega) 5 eqB, ?_⟩
    by_cases g : q.conds[i].b = noB
    ·rw [if_pos g]
     refine ⟨_, rfl, _, refput1 (by simp only [List.length_append, List.length_cons, List.length_nil]; omega) 2 _, ?_⟩
     rw [w64_id (by omega), e0]
     unfold wordsC
     rw [if_pos g]
     simp
    ·rw [if_neg g]
     refine ⟨_, rfl, _, refput1 (by simp only [List.length_append, List.length_cons, List.length_nil]; omega) 5 capB, _, rfl, _, refput1 (by simp only [List.length_append, List.length_cons, List.length_nil]; omega) 1 _, ?_⟩
     rw [w64_id (by omega), e0]
     unfold wordsC
     rw [if_neg g]
     simp
   unfold trellisref20_Print_b1
   rw [if_pos (by omega)]
   refine ⟨⟨by omega, by omega⟩, ?_⟩
   rw [hcx]
   by_cases gn : q.conds[i].not = true
   ·rw [if_pos gn]
    exact hs _ (by rw [if_pos gn])
   ·rw [if_neg gn]
    exact hs _ (by rw [if_neg gn])
 exact key _ 0 l rfl (Nat.zero_le _) (by omega) rfl
end Go.Proofs.YtjookebbmfiidaaDoor.L
