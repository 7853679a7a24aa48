/- Queries: printed: the program and the document. Condition: sizes. -/
import Derived.Test.YtjookebbmfiidaaDoorSG
set_option linter.unusedVariables false
namespace Go.Proofs.YtjookebbmfiidaaDoor.L
open Go.Proofs.YtjookebbmfiidaaDoor.B Go.Proofs.YtjookebbmfiidaaDoor.R
def mkW (t : Tk) : api_Word := ⟨t.1, t.2, 0, 0⟩
theorem fldW_len (x : api_PatNode) : (fldW x).length ≤ 2 := by unfold fldW; split <;> simp
theorem capW_len (x : api_PatNode) : (capW x).length ≤ 2 := by unfold capW; split <;> simp
theorem wordsP_len : ∀ g : PF, (wordsP g).length ≤ 7 * (flatP g).length
 | .nil => Nat.le_refl _
 | .cons x k s => by
  have h1 := wordsP_len k
  have h2 := wordsP_len s
  have h3 := fldW_len x
  have h4 := capW_len x
  simp only [wordsP, flatP, List.length_append, List.length_cons]
  split
  ·simp only [List.length_cons, List.length_nil]; omega
  ·simp only [List.length_cons, List.length_append, List.length_nil]; omega
theorem putw {l : List api_Word} (hl : l.length + 1 ≤ 2 ^ 41) (k : Int) (s : ByteArray) : query_Print_1 k s l (l ++ [mkW (k, s)]) := ⟨_, rfl, by rw [List.length_append, List.length_cons, List.length_nil]; omega, rfl⟩
theorem qj2 (q : api_Query) {i : Nat} {x : api_PatNode} (hx : ix q.nodes (i : Int) = x) (at_ : Int) {l : List api_Word} (hl : l.length + 2 ≤ 2 ^ 41) : query_Print_2_j2 q (i : Int) l at_ (q, at_, l ++ (capW x).map mkW) := by
 unfold query_Print_2_j2 capW
 rw [hx]
 by_cases g : x.capture = noB
 ·rw [if_pos g, if_pos g, List.map_nil, List.append_nil]
 ·rw [if_neg g, if_neg g]
  refine ⟨_, putw (by omega) 5 capB, _, putw (by rw [List.length_append, List.length_cons, List.length_nil]; omega) 1 _, ?_⟩
  simp [mkW]
theorem nodes_at {q : api_Query} {a b : List api_PatNode} {x : api_PatNode} (h : q.nodes = a ++ x :: b) : a.length < q.nodes.length ∧ ix q.nodes (a.length : Int) = x := by
 have hl : a.length < q.nodes.length := by rw [h, List.length_append, List.length_cons]; omega
 refine ⟨hl, ?_⟩
 rw [ix_el hl]
 have : q.nodes[a.length]? = some x := by rw [h, List.getElem?_append_right (Nat.le_refl _), Nat.sub_self]; rfl
 rw [List.getElem?_eq_getElem hl] at this
 exact Option.some.inj this
theorem qkids {q : api_Query} (hq : q.nodes.length ≤ 2 ^ 40) {n i : Nat} {x : api_PatNode} (hx : ix q.nodes (i : Int) = x) (hn : ∀ (x : api_PatNode) (k : PF) (a b : List api_PatNode) (l : List api_Word), q.nodes = a ++ x :: (flatP k ++ b) → FitP (.cons x k .nil) → goodP nmQ (.cons x k .nil) = true → (flatP k).length + 1 ≤ n → l.length + 7 * ((flatP k).length + 1) ≤ 2 ^ 40 → query_Print_2_n n q (a.length : Int) l (q, ((a.length + 1 + (flatP k).length : Nat) : Int), l ++ (wordsP (.cons x k .nil)).map mkW)) :
  ∀ (g : PF) (a b : List api_PatNode) (l : List api_Word) (j : Nat) (r : api_Query × Int × (List api_Word)), q.nodes = a ++ (flatP g ++ b) → FitP g → goodP nmQ g = true → (flatP g).length ≤ n → l.length + 7 * (flatP g).length ≤ 2 ^ 40 → x.kids = ((j + cntP g : Nat) : Int) → j + cntP g ≤ 2 ^ 40 → query_Print_2_j2 q (i : Int) ((l ++ (wordsP g).map mkW) ++ [mkW (5, clB)]) ((a.length + (flatP g).length : Nat) : Int) r →
   Rounds (fun (s : Int × (List api_Word) × Int) o => query_Print_2_b4 q (i : Int) (query_Print_2_n n) s.1 s.2.1 s.2.2 o) ((j : Int), l, (a.length : Int)) r
 | .nil, a, b, l, j, r, h, hf, hg, hl, hw, hk, hjb, hr => by
  refine .done ?_
  dsimp only
  unfold query_Print_2_b4
  rw [hx, hk, if_neg (by simp only [cntP]; omega)]
  refine ⟨_, putw (by omega) 5 clB, r, rfl, ?_⟩
  simp only [wordsP, List.map_nil, List.append_nil, flatP, List.length_nil, Nat.add_zero] at hr
  exact hr
 | .cons y k s, a, b, l, j, r, h, hf, hg, hl, hw, hk, hjb, hr => by
  simp only [cntP] at hjb
  obtain ⟨f1, f2, f3⟩ := hf
  obtain ⟨g1, g2, g3, g4, g5, g6⟩ := goodP_parts hg
  have hg1 : goodP nmQ (.cons y k .nil) = true := by
   unfold goodP at hg ⊢
   rw [Bool.and_eq_true] at hg ⊢
   exact ⟨hg.1, rfl⟩
  have hlen : (flatP (.cons y k s)).length = (flatP k).length + 1 + (flatP s).length := by simp only [flatP, List.length_cons, List.length_append]; omega
  have hwk := wordsP_len (.cons y k .nil)
  simp only [flatP, List.append_nil, List.length_cons] at hwk
  have h1 : q.nodes = a ++ y :: (flatP k ++ (flatP s ++ b)) := by rw [h]; simp [flatP]
  have hp := hn y k a (flatP s ++ b) l h1 ⟨f1, f2, trivial⟩ hg1 (by omega) (by omega)
  refine .next (s' := (((j + 1 : Nat) : Int), l ++ (wordsP (.cons y k .nil)).map mkW, ((a.length + 1 + (flatP k).length : Nat) : Int))) ?_ ?_
  ·dsimp only
   unfold query_Print_2_b4
   have hql : (flatP (.cons y k s)).length ≤ 2 ^ 40 := by
    have := congrArg List.length h
    rw [List.length_append, List.length_append] at this
    omega
   have hcl := cntP_le (.cons y k s)
   rw [hx, hk, if_pos (by simp only [cntP]; omega)]
   refine ⟨_, hp, ?_⟩
   have hj : x.kids = ((j + cntP (.cons y k s) : Nat) : Int) := hk
   rw [w64_id (by omega)]
   rfl
  ·have h2 : q.nodes = (a ++ y :: flatP k) ++ (flatP s ++ b) := by rw [h1]; simp
   have hal : (a ++ y :: flatP k).length = a.length + 1 + (flatP k).length := by simp only [List.length_append, List.length_cons]; omega
   have := qkids hq hx hn s (a ++ y :: flatP k) b (l ++ (wordsP (.cons y k .nil)).map mkW) (j + 1) r h2 f3 g6 (by omega) (by rw [List.length_append, List.length_map]; omega) (by rw [hk]; simp only [cntP]; omega) (by omega) (by
    rw [hal, show a.length + 1 + (flatP k).length + (flatP s).length = a.length + (flatP (.cons y k s)).length by omega]
    have e : (l ++ (wordsP (.cons y k .nil)).map mkW) ++ (wordsP s).map mkW = l ++ (wordsP (.cons y k s)).map mkW := by simp [wordsP]
    rw [e]
    exact hr)
   rw [hal] at this
   exact this
theorem qnode {q : api_Query} (hq : q.nodes.length ≤ 2 ^ 40) : ∀ (n : Nat) (x : api_PatNode) (k : PF) (a b : List api_PatNode) (l : List api_Word), q.nodes = a ++ x :: (flatP k ++ b) → FitP (.cons x k .nil) → goodP nmQ (.cons x k .nil) = true → (flatP k).length + 1 ≤ n → l.length + 7 * ((flatP k).length + 1) ≤ 2 ^ 40 → query_Print_2_n n q (a.length : Int) l (q, ((a.length + 1 + (flatP k).length : Nat) : Int), l ++ (wordsP (.cons x k .nil)).map mkW)
 | 0, x, k, a, b, l, h, hf, hg, hl, hw => by omega
 | n + 1, x, k, a, b, l, h, hf, hg, hl, hw => by
  obtain ⟨f1, f2, f3⟩ := hf
  obtain ⟨g1, g2, g3, g4, g5, g6⟩ := goodP_parts hg
  obtain ⟨ha, hx⟩ := nodes_at h
  have hF := fldW_len x
  have hwp : (wordsP (.cons x k .nil)).map mkW = (fldW x).map mkW ++ (((if x.lit = true then [(2, x.name)] else (5, opB) :: nameW x :: (wordsP k ++ [(5, clB)])).map mkW) ++ (capW x).map mkW) := by simp [wordsP]
  show query_Print_2_body (query_Print_2_n n) q (a.length : Int) l _
  unfold query_Print_2_body
  refine ⟨⟨by omega, by omega⟩, ?_⟩
  rw [hwp]
  have j1 : ∀ l0 : List api_Word, l0 = l ++ (fldW x).map mkW → query_Print_2_j1 q (a.length : Int) (query_Print_2_n n) l0 (q, ((a.length + 1 + (flatP k).length : Nat) : Int), l ++ ((fldW x).map mkW ++ (((if x.lit = true then [(2, x.name)] else (5, opB) :: nameW x :: (wordsP k ++ [(5, clB)])).map mkW) ++ (capW x).map mkW))) := fun l0 e0 => by
   have hl0 : l0.length ≤ l.length + 2 := by rw [e0, List.length_append, List.length_map]; omega
   unfold query_Print_2_j1
   rw [hx]
   by_cases hlit : x.lit = true
   ·obtain ⟨_, rfl⟩ := g1 hlit
    rw [if_pos hlit, if_pos hlit]
    refine ⟨_, putw (by omega) 2 x.name, ?_⟩
    rw [w64_id (by omega)]
    have := qj2 q hx ((a.length : Int) + 1) (l := l0 ++ [mkW (2, x.name)]) (by rw [List.length_append, List.length_cons, List.length_nil]; omega)
    have e : (l0 ++ [mkW (2, x.name)]) ++ (capW x).map mkW = l ++ ((fldW x).map mkW ++ ([(2, x.name)].map mkW ++ (capW x).map mkW)) := by rw [e0]; simp
    rw [e] at this
    exact this
   ·rw [if_neg hlit, if_neg hlit]
    refine ⟨_, putw (by omega) 5 opB, ?_⟩
    have j3 : query_Print_2_j3 q (a.length : Int) (query_Print_2_n n) ((l0 ++ [mkW (5, opB)]) ++ [mkW (nameW x)]) (q, ((a.length + 1 + (flatP k).length : Nat) : Int), l ++ ((fldW x).map mkW ++ (((5, opB) :: nameW x :: (wordsP k ++ [(5, clB)])).map mkW ++ (capW x).map mkW))) := by
     unfold query_Print_2_j3
     rw [w64_id (by omega)]
     have h2 : q.nodes = (a ++ [x]) ++ (flatP k ++ b) := by rw [h]; simp
     have hal : (a ++ [x]).length = a.length + 1 := by simp
     have hwk := wordsP_len k
     have hcl := cntP_le k
     have hql : (flatP k).length ≤ 2 ^ 40 := by omega
     have := qkids hq hx (qnode hq n) k (a ++ [x]) b ((l0 ++ [mkW (5, opB)]) ++ [mkW (nameW x)]) 0 _ h2 f2 g5 (by omega) (by simp only [List.length_append, List.length_cons, List.length_nil]; omega) (by rw [f1, Nat.zero_add]) (by omega) (qj2 q hx _ (by simp only [List.length_append, List.length_cons, List.length_nil, List.length_map]; omega))
     rw [hal] at this
     have e : (((l0 ++ [mkW (5, opB)]) ++ [mkW (nameW x)]) ++ (wordsP k).map mkW ++ [mkW (5, clB)]) ++ (capW x).map mkW = l ++ ((fldW x).map mkW ++ (((5, opB) :: nameW x :: (wordsP k ++ [(5, clB)])).map mkW ++ (capW x).map mkW)) := by rw [e0]; simp
     rw [e] at this
     exact this
    by_cases hn : x.name = noB
    ·rw [if_pos hn]
     have en : nameW x = (1, uscB) := by unfold nameW; rw [if_pos hn]
     rw [en] at j3 ⊢
     exact ⟨_, putw (by rw [List.length_append, List.length_cons, List.length_nil]; omega) 1 uscB, j3⟩
    ·rw [if_neg hn]
     have en : nameW x = (1, x.name) := by unfold nameW; rw [if_neg hn]
     rw [en] at j3 ⊢
     exact ⟨_, putw (by rw [List.length_append, List.length_cons, List.length_nil]; omega) 1 x.name, j3⟩
  rw [hx]
  by_cases gf : x.field = noB
  ·rw [if_pos gf]
   exact j1 l (by unfold fldW; rw [if_pos gf]; simp)
  ·rw [if_neg gf]
   refine ⟨_, putw (by omega) 1 x.field, _, putw (by rw [List.length_append, List.length_cons, List.length_nil]; omega) 5 colB, j1 _ ?_⟩
   unfold fldW
   rw [if_neg gf]
   simp
theorem qconds {q : api_Query} (hc : q.conds.length ≤ 16) {l : List api_Word} (hl : l.length ≤ 2 ^ 40) {J : ByteArray} (hJ : words_Join (l ++ (q.conds.flatMap wordsC).map mkW) J) : Rounds (fun (s : Int × (List api_Word)) o => query_Print_b1 q s.1 s.2 o) (0, l) (J, 0) := by
 have hcw : ∀ c : api_Cond, (wordsC c).length ≤ 6 := fun c => by unfold wordsC; by_cases g : c.b = noB <;> simp [g]
 have key : ∀ (d i : Nat) (m : List api_Word), q.conds.length - i = d → i ≤ q.conds.length → m.length ≤ 2 ^ 40 + 6 * i → m ++ ((q.conds.drop i).flatMap wordsC).map mkW = l ++ (q.conds.flatMap wordsC).map mkW → Rounds (fun (s : Int × (List api_Word)) o => query_Print_b1 q s.1 s.2 o) ((i : Int), m) (J, 0) := by
  intro d
  induction d with
  | zero =>
   intro i m hd hi hm he
   have : i = q.conds.length := by omega
   subst this
   rw [List.drop_length, List.flatMap_nil, List.map_nil, List.append_nil] at he
   refine .done ?_
   dsimp only
   unfold query_Print_b1
   rw [if_neg (Int.lt_irrefl _), he]
   exact ⟨_, hJ, rfl⟩
  | succ d ih =>
   intro i m hd hi hm he
   have hlt : i < q.conds.length := by omega
   have hcx := ix_el hlt
   have hdr : q.conds.drop i = q.conds[i] :: q.conds.drop (i + 1) := List.drop_eq_getElem_cons hlt
   rw [hdr, List.flatMap_cons, List.map_append, ← List.append_assoc] at he
   have hl6 := hcw q.conds[i]
   refine .next (s' := (((i + 1 : Nat) : Int), m ++ (wordsC q.conds[i]).map mkW)) ?_ (ih (i + 1) _ (by omega) (by omega) (by rw [List.length_append, List.length_map]; omega) he)
   dsimp only
   have hs : ∀ m0 : List api_Word, m0 = m ++ [mkW (1, if q.conds[i].not = true then unB else whB)] → query_Print_j2 q (i : Int) m0 (.inl (((i + 1 : Nat) : Int), m ++ (wordsC q.conds[i]).map mkW)) := fun m0 e0 => by
    have hm0 : m0.length = m.length + 1 := by rw [e0]; simp
    unfold query_Print_j2
    rw [hcx]
    refine ⟨_, putw (by omega) 5 capB, _, putw (by simp only [List.length_append, List.length_cons, List.length_nil]; omega) 1 _, _, putw (by simp only [List.length_append, List.length_cons, List.length_nil]; omega) 5 eqB, ?_⟩
    by_cases g : q.conds[i].b = noB
    ·rw [if_pos g]
     refine ⟨_, putw (by simp only [List.length_append, List.length_cons, List.length_nil]; omega) 2 _, ?_⟩
     rw [w64_id (by omega), e0]
     unfold wordsC
     rw [if_pos g]
     simp
    ·rw [if_neg g]
     refine ⟨_, putw (by simp only [List.length_append, List.length_cons, List.length_nil]; omega) 5 capB, _, putw (by simp only [List.length_append, List.length_cons, List.length_nil]; omega) 1 _, ?_⟩
     rw [w64_id (by omega), e0]
     unfold wordsC
     rw [if_neg g]
     simp
   unfold query_Print_b1
   rw [if_pos (by omega)]
   refine ⟨⟨by omega, by omega⟩, ?_⟩
   rw [hcx]
   by_cases gn : q.conds[i].not = true
   ·rw [if_pos gn]
    exact ⟨_, putw (by omega) 1 unB, hs _ (by rw [if_pos gn])⟩
   ·rw [if_neg gn]
    exact ⟨_, putw (by omega) 1 whB, hs _ (by rw [if_neg gn])⟩
 exact key _ 0 l rfl (Nat.zero_le _) (by omega) rfl
end Go.Proofs.YtjookebbmfiidaaDoor.L
