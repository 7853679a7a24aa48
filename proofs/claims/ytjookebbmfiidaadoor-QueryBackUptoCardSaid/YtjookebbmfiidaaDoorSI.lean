/- Queries: printed: the program and the document. Condition: sizes. -/
import Derived.Test.YtjookebbmfiidaaDoorSG
set_option linter.unusedVariables false
namespace Go.Proofs.YtjookebbmfiidaaDoor.L
open Go.Proofs.YtjookebbmfiidaaDoor.B Go.Proofs.YtjookebbmfiidaaDoor.R
def mkW (t : Tk) : Af := ⟨t.1, t.2, 0, 0⟩
theorem Xav (x : Ae) : (Od x).length ≤ 2 := by unfold Od; split <;> simp
theorem capW_len (x : Ae) : (Jf x).length ≤ 2 := by unfold Jf; split <;> simp
theorem Ma : ∀ g : PF, (C7 g).length ≤ 7 * (B4 g).length
 | .nil => Nat.le_refl _
 | .cons x k s => by
  have h1 := Ma k
  have h2 := Ma s
  have h3 := Xav x
  have h4 := capW_len x
  simp only [C7, B4, List.length_append, List.length_cons]
  split
  ·simp only [List.length_cons, List.length_nil]; omega
  ·simp only [List.length_cons, List.length_append, List.length_nil]; omega
theorem R6 {l : List Af} (hl : l.length + 1 ≤ 2 ^ 41) (k : Int) (s : ByteArray) : C9 k s l (l ++ [mkW (k, s)]) := ⟨_, rfl, by rw [List.length_append, List.length_cons, List.length_nil]; omega, rfl⟩
theorem qj2 (q : Aj) {i : Nat} {x : Ae} (hx : ix q.nodes (i : Int) = x) (at_ : Int) {l : List Af} (hl : l.length + 2 ≤ 2 ^ 41) : Ft q (i : Int) l at_ (q, at_, l ++ (Jf x).map mkW) := by
 unfold Ft Jf
 rw [hx]
 by_cases g : x.capture = noB
 ·rw [if_pos g, if_pos g, List.map_nil, List.append_nil]
 ·rw [if_neg g, if_neg g]
  refine ⟨_, R6 (by omega) 5 Jt, _, R6 (by rw [List.length_append, List.length_cons, List.length_nil]; omega) 1 _, ?_⟩
  simp [mkW]
theorem Xbb {q : Aj} {a b : List Ae} {x : Ae} (h : q.nodes = a ++ x :: b) : a.length < q.nodes.length ∧ ix q.nodes (a.length : Int) = x := by
 have hl : a.length < q.nodes.length := by rw [h, List.length_append, List.length_cons]; omega
 refine ⟨hl, ?_⟩
 rw [Nt hl]
 have : q.nodes[a.length]? = some x := by rw [h, List.getElem?_append_right (Nat.le_refl _), Nat.sub_self]; rfl
 rw [List.getElem?_eq_getElem hl] at this
 exact Option.some.inj this
theorem qkids {q : Aj} (hq : q.nodes.length ≤ 2 ^ 40) {n i : Nat} {x : Ae} (hx : ix q.nodes (i : Int) = x) (hn : ∀ (x : Ae) (k : PF) (a b : List Ae) (l : List Af), q.nodes = a ++ x :: (B4 k ++ b) → U2 (.cons x k .nil) → L7 nmQ (.cons x k .nil) = true → (B4 k).length + 1 ≤ n → l.length + 7 * ((B4 k).length + 1) ≤ 2 ^ 40 → Ej n q (a.length : Int) l (q, ((a.length + 1 + (B4 k).length : Nat) : Int), l ++ (C7 (.cons x k .nil)).map mkW)) :
  ∀ (g : PF) (a b : List Ae) (l : List Af) (j : Nat) (r : Aj × Int × (List Af)), q.nodes = a ++ (B4 g ++ b) → U2 g → L7 nmQ g = true → (B4 g).length ≤ n → l.length + 7 * (B4 g).length ≤ 2 ^ 40 → x.kids = ((j + Fo g : Nat) : Int) → j + Fo g ≤ 2 ^ 40 → Ft q (i : Int) ((l ++ (C7 g).map mkW) ++ [mkW (5, clB)]) ((a.length + (B4 g).length : Nat) : Int) r →
   B0 (fun (s : Int × (List Af) × Int) o => Fv q (i : Int) (Ej n) s.1 s.2.1 s.2.2 o) ((j : Int), l, (a.length : Int)) r
 | .nil, a, b, l, j, r, h, hf, hg, hl, hw, hk, hjb, hr => by
  refine .done ?_
  dsimp only
  unfold Fv
  rw [hx, hk, if_neg (by simp only [Fo]; omega)]
  refine ⟨_, R6 (by omega) 5 clB, r, rfl, ?_⟩
  simp only [C7, List.map_nil, List.append_nil, B4, List.length_nil, Nat.add_zero] at hr
  exact hr
 | .cons y k s, a, b, l, j, r, h, hf, hg, hl, hw, hk, hjb, hr => by
  simp only [Fo] at hjb
  obtain ⟨f1, f2, f3⟩ := hf
  obtain ⟨g1, g2, g3, g4, g5, g6⟩ := Kv hg
  have hg1 : L7 nmQ (.cons y k .nil) = true := by
   unfold L7 at hg ⊢
   rw [Bool.and_eq_true] at hg ⊢
   exact ⟨hg.1, rfl⟩
  have hlen : (B4 (.cons y k s)).length = (B4 k).length + 1 + (B4 s).length := by simp only [B4, List.length_cons, List.length_append]; omega
  have hwk := Ma (.cons y k .nil)
  simp only [B4, List.append_nil, List.length_cons] at hwk
  have h1 : q.nodes = a ++ y :: (B4 k ++ (B4 s ++ b)) := by rw [h]; simp [B4]
  have hp := hn y k a (B4 s ++ b) l h1 ⟨f1, f2, trivial⟩ hg1 (by omega) (by omega)
  refine .next (s' := (((j + 1 : Nat) : Int), l ++ (C7 (.cons y k .nil)).map mkW, ((a.length + 1 + (B4 k).length : Nat) : Int))) ?_ ?_
  ·dsimp only
   unfold Fv
   have hql : (B4 (.cons y k s)).length ≤ 2 ^ 40 := by
    have := congrArg List.length h
    rw [List.length_append, List.length_append] at this
    omega
   have hcl := W6 (.cons y k s)
   rw [hx, hk, if_pos (by simp only [Fo]; omega)]
   refine ⟨_, hp, ?_⟩
   have hj : x.kids = ((j + Fo (.cons y k s) : Nat) : Int) := hk
   rw [Bm (by omega)]
   rfl
  ·have h2 : q.nodes = (a ++ y :: B4 k) ++ (B4 s ++ b) := by rw [h1]; simp
   have hal : (a ++ y :: B4 k).length = a.length + 1 + (B4 k).length := by simp only [List.length_append, List.length_cons]; omega
   have := qkids hq hx hn s (a ++ y :: B4 k) b (l ++ (C7 (.cons y k .nil)).map mkW) (j + 1) r h2 f3 g6 (by omega) (by rw [List.length_append, List.length_map]; omega) (by rw [hk]; simp only [Fo]; omega) (by omega) (by
    rw [hal, show a.length + 1 + (B4 k).length + (B4 s).length = a.length + (B4 (.cons y k s)).length by omega]
    have e : (l ++ (C7 (.cons y k .nil)).map mkW) ++ (C7 s).map mkW = l ++ (C7 (.cons y k s)).map mkW := by simp [C7]
    rw [e]
    exact hr)
   rw [hal] at this
   exact this
theorem qnode {q : Aj} (hq : q.nodes.length ≤ 2 ^ 40) : ∀ (n : Nat) (x : Ae) (k : PF) (a b : List Ae) (l : List Af), q.nodes = a ++ x :: (B4 k ++ b) → U2 (.cons x k .nil) → L7 nmQ (.cons x k .nil) = true → (B4 k).length + 1 ≤ n → l.length + 7 * ((B4 k).length + 1) ≤ 2 ^ 40 → Ej n q (a.length : Int) l (q, ((a.length + 1 + (B4 k).length : Nat) : Int), l ++ (C7 (.cons x k .nil)).map mkW)
 | 0, x, k, a, b, l, h, hf, hg, hl, hw => by omega
 | n + 1, x, k, a, b, l, h, hf, hg, hl, hw => by
  obtain ⟨f1, f2, f3⟩ := hf
  obtain ⟨g1, g2, g3, g4, g5, g6⟩ := Kv hg
  obtain ⟨ha, hx⟩ := Xbb h
  have hF := Xav x
  have hwp : (C7 (.cons x k .nil)).map mkW = (Od x).map mkW ++ (((if x.lit = true then [(2, x.name)] else (5, opB) :: Ic x :: (C7 k ++ [(5, clB)])).map mkW) ++ (Jf x).map mkW) := by simp [C7]
  show H7 (Ej n) q (a.length : Int) l _
  unfold H7
  refine ⟨⟨by omega, by omega⟩, ?_⟩
  rw [hwp]
  have j1 : ∀ l0 : List Af, l0 = l ++ (Od x).map mkW → Gz q (a.length : Int) (Ej n) l0 (q, ((a.length + 1 + (B4 k).length : Nat) : Int), l ++ ((Od x).map mkW ++ (((if x.lit = true then [(2, x.name)] else (5, opB) :: Ic x :: (C7 k ++ [(5, clB)])).map mkW) ++ (Jf x).map mkW))) := fun l0 e0 => by
   have hl0 : l0.length ≤ l.length + 2 := by rw [e0, List.length_append, List.length_map]; omega
   unfold Gz
   rw [hx]
   by_cases hlit : x.lit = true
   ·obtain ⟨_, rfl⟩ := g1 hlit
    rw [if_pos hlit, if_pos hlit]
    refine ⟨_, R6 (by omega) 2 x.name, ?_⟩
    rw [Bm (by omega)]
    have := qj2 q hx ((a.length : Int) + 1) (l := l0 ++ [mkW (2, x.name)]) (by rw [List.length_append, List.length_cons, List.length_nil]; omega)
    have e : (l0 ++ [mkW (2, x.name)]) ++ (Jf x).map mkW = l ++ ((Od x).map mkW ++ ([(2, x.name)].map mkW ++ (Jf x).map mkW)) := by rw [e0]; simp
    rw [e] at this
    exact this
   ·rw [if_neg hlit, if_neg hlit]
    refine ⟨_, R6 (by omega) 5 opB, ?_⟩
    have j3 : Gy q (a.length : Int) (Ej n) ((l0 ++ [mkW (5, opB)]) ++ [mkW (Ic x)]) (q, ((a.length + 1 + (B4 k).length : Nat) : Int), l ++ ((Od x).map mkW ++ (((5, opB) :: Ic x :: (C7 k ++ [(5, clB)])).map mkW ++ (Jf x).map mkW))) := by
     unfold Gy
     rw [Bm (by omega)]
     have h2 : q.nodes = (a ++ [x]) ++ (B4 k ++ b) := by rw [h]; simp
     have hal : (a ++ [x]).length = a.length + 1 := by simp
     have hwk := Ma k
     have hcl := W6 k
     have hql : (B4 k).length ≤ 2 ^ 40 := by omega
     have := qkids hq hx (qnode hq n) k (a ++ [x]) b ((l0 ++ [mkW (5, opB)]) ++ [mkW (Ic x)]) 0 _ h2 f2 g5 (by omega) (by simp only [List.length_append, List.length_cons, List.length_nil]; omega) (by rw [f1, Nat.zero_add]) (by omega) (qj2 q hx _ (by simp only [List.length_append, List.length_cons, List.length_nil, List.length_map]; omega))
     rw [hal] at this
     have e : (((l0 ++ [mkW (5, opB)]) ++ [mkW (Ic x)]) ++ (C7 k).map mkW ++ [mkW (5, clB)]) ++ (Jf x).map mkW = l ++ ((Od x).map mkW ++ (((5, opB) :: Ic x :: (C7 k ++ [(5, clB)])).map mkW ++ (Jf x).map mkW)) := by rw [e0]; simp
     rw [e] at this
     exact this
    by_cases hn : x.name = noB
    ·rw [if_pos hn]
     have en : Ic x = (1, Ji) := by unfold Ic; rw [if_pos hn]
     rw [en] at j3 ⊢
     exact ⟨_, R6 (by rw [List.length_append, List.length_cons, List.length_nil]; omega) 1 Ji, j3⟩
    ·rw [if_neg hn]
     have en : Ic x = (1, x.name) := by unfold Ic; rw [if_neg hn]
     rw [en] at j3 ⊢
     exact ⟨_, R6 (by rw [List.length_append, List.length_cons, List.length_nil]; omega) 1 x.name, j3⟩
  rw [hx]
  by_cases gf : x.field = noB
  ·rw [if_pos gf]
   exact j1 l (by unfold Od; rw [if_pos gf]; simp)
  ·rw [if_neg gf]
   refine ⟨_, R6 (by omega) 1 x.field, _, R6 (by rw [List.length_append, List.length_cons, List.length_nil]; omega) 5 Vu, j1 _ ?_⟩
   unfold Od
   rw [if_neg gf]
   simp
theorem qconds {q : Aj} (hc : q.conds.length ≤ 16) {l : List Af} (hl : l.length ≤ 2 ^ 40) {J : ByteArray} (hJ : Kr (l ++ (q.conds.flatMap E8).map mkW) J) : B0 (fun (s : Int × (List Af)) o => G8 q s.1 s.2 o) (0, l) (J, 0) := by
 have hcw : ∀ c : Ax, (E8 c).length ≤ 6 := fun c => by unfold E8; by_cases g : c.b = noB <;> simp [g]
 have key : ∀ (d i : Nat) (m : List Af), q.conds.length - i = d → i ≤ q.conds.length → m.length ≤ 2 ^ 40 + 6 * i → m ++ ((q.conds.drop i).flatMap E8).map mkW = l ++ (q.conds.flatMap E8).map mkW → B0 (fun (s : Int × (List Af)) o => G8 q s.1 s.2 o) ((i : Int), m) (J, 0) := by
  intro d
  induction d with
  | zero =>
   intro i m hd hi hm he
   have : i = q.conds.length := by omega
   subst this
   rw [List.drop_length, List.flatMap_nil, List.map_nil, List.append_nil] at he
   refine .done ?_
   dsimp only
   unfold G8
   rw [if_neg (Int.lt_irrefl _), he]
   exact ⟨_, hJ, rfl⟩
  | succ d ih =>
   intro i m hd hi hm he
   have hlt : i < q.conds.length := by omega
   have hcx := Nt hlt
   have hdr : q.conds.drop i = q.conds[i] :: q.conds.drop (i + 1) := List.drop_eq_getElem_cons hlt
   rw [hdr, List.flatMap_cons, List.map_append, ← List.append_assoc] at he
   have hl6 := hcw q.conds[i]
   refine .next (s' := (((i + 1 : Nat) : Int), m ++ (E8 q.conds[i]).map mkW)) ?_ (ih (i + 1) _ (by omega) (by omega) (by rw [List.length_append, List.length_map]; omega) he)
   dsimp only
   have hs : ∀ m0 : List Af, m0 = m ++ [mkW (1, if q.conds[i].not = true then unB else whB)] → Ig q (i : Int) m0 (.inl (((i + 1 : Nat) : Int), m ++ (E8 q.conds[i]).map mkW)) := fun m0 e0 => by
    have hm0 : m0.length = m.length + 1 := by rw [e0]; simp
    unfold Ig
    rw [hcx]
    refine ⟨_, R6 (by omega) 5 Jt, _, R6 (by simp only [List.length_append, List.length_cons, List.length_nil]; omega) 1 _, _, R6 (by simp only [List.length_append, List.length_cons, List.length_nil]; omega) 5 eqB, ?_⟩
    by_cases g : q.conds[i].b = noB
    ·rw [if_pos g]
     refine ⟨_, R6 (by simp only [List.length_append, List.length_cons, List.length_nil]; omega) 2 _, ?_⟩
     rw [Bm (by omega), e0]
     unfold E8
     rw [if_pos g]
     simp
    ·rw [if_neg g]
     refine ⟨_, R6 (by simp only [List.length_append, List.length_cons, List.length_nil]; omega) 5 Jt, _, R6 (by simp only [List.length_append, List.length_cons, List.length_nil]; omega) 1 _, ?_⟩
     rw [Bm (by omega), e0]
     unfold E8
     rw [if_neg g]
     simp
   unfold G8
   rw [if_pos (by omega)]
   refine ⟨⟨by omega, by omega⟩, ?_⟩
   rw [hcx]
   by_cases gn : q.conds[i].not = true
   ·rw [if_pos gn]
    exact ⟨_, R6 (by omega) 1 unB, hs _ (by rw [if_pos gn])⟩
   ·rw [if_neg gn]
    exact ⟨_, R6 (by omega) 1 whB, hs _ (by rw [if_neg gn])⟩
 exact key _ 0 l rfl (Nat.zero_le _) (by omega) rfl
end Go.Proofs.YtjookebbmfiidaaDoor.L
set_option linter.unusedVariables false
namespace Go.Proofs.YtjookebbmfiidaaDoor.L
open Go.Proofs.YtjookebbmfiidaaDoor.B Go.Proofs.YtjookebbmfiidaaDoor.R
theorem ix_app {v a b : List Ae} {x : Ae} (h : v = a ++ x :: b) : a.length < v.length ∧ ix v (a.length : Int) = x := Xbb (q := ⟨v, []⟩) h
end Go.Proofs.YtjookebbmfiidaaDoor.L
