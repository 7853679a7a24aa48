/- Queries: the document's place of a capture. Condition: sizes. -/
import Derived.Test.YtjookebbmfiidaaDoorS6
import Derived.Test.YtjookebbmfiidaaDoorSF
set_option linter.unusedVariables false
namespace Go.Proofs.YtjookebbmfiidaaDoor.L
open Go.Proofs.YtjookebbmfiidaaDoor.B Go.Proofs.YtjookebbmfiidaaDoor.R
end Go.Proofs.YtjookebbmfiidaaDoor.L
set_option linter.unusedVariables false
namespace Go.Proofs.YtjookebbmfiidaaDoor.L
open Go.Proofs.YtjookebbmfiidaaDoor.B Go.Proofs.YtjookebbmfiidaaDoor.R
end Go.Proofs.YtjookebbmfiidaaDoor.L
set_option linter.unusedVariables false
namespace Go.Proofs.YtjookebbmfiidaaDoor.L
open Go.Proofs.YtjookebbmfiidaaDoor.B Go.Proofs.YtjookebbmfiidaaDoor.R
def mkW (t : Tk) : Aj := ⟨t.1, t.2, 0, 0⟩
theorem Xip (x : Ag) : (Vg x).length ≤ 2 := by unfold Vg; split <;> simp
theorem capW_len (x : Ag) : (P9 x).length ≤ 2 := by unfold P9; split <;> simp
theorem Uo : ∀ g : PF, (Dv g).length ≤ 7 * (Bq g).length
 | .nil => Nat.le_refl _
 | .cons x k s => by
  have h1 := Uo k
  have h2 := Uo s
  have h3 := Xip x
  have h4 := capW_len x
  simp only [Dv, Bq, List.length_append, List.length_cons]
  split
  ·simp only [List.length_cons, List.length_nil]; omega
  ·simp only [List.length_cons, List.length_append, List.length_nil]; omega
theorem Xa4 {l : List Aj} (hl : l.length + 1 ≤ 2 ^ 41) (k : Int) (s : ByteArray) : Eh k s l (l ++ [mkW (k, s)]) := ⟨_, rfl, by rw [List.length_append, List.length_cons, List.length_nil]; omega, rfl⟩
theorem qj2 (q : Au) {i : Nat} {x : Ag} (hx : ix q.nodes (i : Int) = x) (at_ : Int) {l : List Aj} (hl : l.length + 2 ≤ 2 ^ 41) : Jn q (i : Int) l at_ (q, at_, l ++ (P9 x).map mkW) := by
 unfold Jn P9
 rw [hx]
 by_cases g : x.capture = noB
 ·rw [if_pos g, if_pos g, List.map_nil, List.append_nil]
 ·rw [if_neg g, if_neg g]
  refine ⟨_, Xa4 (by omega) 5 Qi, _, Xa4 (by rw [List.length_append, List.length_cons, List.length_nil]; omega) 1 _, ?_⟩
  simp [mkW]
theorem Xji {q : Au} {a b : List Ag} {x : Ag} (h : q.nodes = a ++ x :: b) : a.length < q.nodes.length ∧ ix q.nodes (a.length : Int) = x := by
 have hl : a.length < q.nodes.length := by rw [h, List.length_append, List.length_cons]; omega
 refine ⟨hl, ?_⟩
 rw [Yg hl]
 have : q.nodes[a.length]? = some x := by rw [h, List.getElem?_append_right (Nat.le_refl _), Nat.sub_self]; rfl
 rw [List.getElem?_eq_getElem hl] at this
 exact Option.some.inj this
theorem qkids {q : Au} (hq : q.nodes.length ≤ 2 ^ 40) {n i : Nat} {x : Ag} (hx : ix q.nodes (i : Int) = x) (hn : ∀ (x : Ag) (k : PF) (a b : List Ag) (l : List Aj), q.nodes = a ++ x :: (Bq k ++ b) → Xbp (.cons x k .nil) → Oz nmQ (.cons x k .nil) = true → (Bq k).length + 1 ≤ n → l.length + 7 * ((Bq k).length + 1) ≤ 2 ^ 40 → I9 n q (a.length : Int) l (q, ((a.length + 1 + (Bq k).length : Nat) : Int), l ++ (Dv (.cons x k .nil)).map mkW)) :
  ∀ (g : PF) (a b : List Ag) (l : List Aj) (j : Nat) (r : Au × Int × (List Aj)), q.nodes = a ++ (Bq g ++ b) → Xbp g → Oz nmQ g = true → (Bq g).length ≤ n → l.length + 7 * (Bq g).length ≤ 2 ^ 40 → x.kids = ((j + Jb g : Nat) : Int) → j + Jb g ≤ 2 ^ 40 → Jn q (i : Int) ((l ++ (Dv g).map mkW) ++ [mkW (5, clB)]) ((a.length + (Bq g).length : Nat) : Int) r →
   Bv (fun (s : Int × (List Aj) × Int) o => Jl q (i : Int) (I9 n) s.1 s.2.1 s.2.2 o) ((j : Int), l, (a.length : Int)) r
 | .nil, a, b, l, j, r, h, hf, hg, hl, hw, hk, hjb, hr => by
  refine .done ?_
  dsimp only
  unfold Jl
  rw [hx, hk, if_neg (by simp only [Jb]; omega)]
  refine ⟨_, Xa4 (by omega) 5 clB, r, rfl, ?_⟩
  simp only [Dv, List.map_nil, List.append_nil, Bq, List.length_nil, Nat.add_zero] at hr
  exact hr
 | .cons y k s, a, b, l, j, r, h, hf, hg, hl, hw, hk, hjb, hr => by
  simp only [Jb] at hjb
  obtain ⟨f1, f2, f3⟩ := hf
  obtain ⟨g1, g2, g3, g4, g5, g6⟩ := Qm hg
  have hg1 : Oz nmQ (.cons y k .nil) = true := by
   unfold Oz at hg ⊢
   rw [Bool.and_eq_true] at hg ⊢
   exact ⟨hg.1, rfl⟩
  have hlen : (Bq (.cons y k s)).length = (Bq k).length + 1 + (Bq s).length := by simp only [Bq, List.length_cons, List.length_append]; omega
  have hwk := Uo (.cons y k .nil)
  simp only [Bq, List.append_nil, List.length_cons] at hwk
  have h1 : q.nodes = a ++ y :: (Bq k ++ (Bq s ++ b)) := by rw [h]; simp [Bq]
  have hp := hn y k a (Bq s ++ b) l h1 ⟨f1, f2, trivial⟩ hg1 (by omega) (by omega)
  refine .next (s' := (((j + 1 : Nat) : Int), l ++ (Dv (.cons y k .nil)).map mkW, ((a.length + 1 + (Bq k).length : Nat) : Int))) ?_ ?_
  ·dsimp only
   unfold Jl
   have hql : (Bq (.cons y k s)).length ≤ 2 ^ 40 := by
    have := congrArg List.length h
    rw [List.length_append, List.length_append] at this
    omega
   have hcl := Xeu (.cons y k s)
   rw [hx, hk, if_pos (by simp only [Jb]; omega)]
   refine ⟨_, hp, ?_⟩
   have hj : x.kids = ((j + Jb (.cons y k s) : Nat) : Int) := hk
   rw [Dx (by omega)]
   rfl
  ·have h2 : q.nodes = (a ++ y :: Bq k) ++ (Bq s ++ b) := by rw [h1]; simp
   have hal : (a ++ y :: Bq k).length = a.length + 1 + (Bq k).length := by simp only [List.length_append, List.length_cons]; omega
   have := qkids hq hx hn s (a ++ y :: Bq k) b (l ++ (Dv (.cons y k .nil)).map mkW) (j + 1) r h2 f3 g6 (by omega) (by rw [List.length_append, List.length_map]; omega) (by rw [hk]; simp only [Jb]; omega) (by omega) (by
    rw [hal, show a.length + 1 + (Bq k).length + (Bq s).length = a.length + (Bq (.cons y k s)).length by omega]
    have e : (l ++ (Dv (.cons y k .nil)).map mkW) ++ (Dv s).map mkW = l ++ (Dv (.cons y k s)).map mkW := by simp [Dv]
    rw [e]
    exact hr)
   rw [hal] at this
   exact this
theorem qnode {q : Au} (hq : q.nodes.length ≤ 2 ^ 40) : ∀ (n : Nat) (x : Ag) (k : PF) (a b : List Ag) (l : List Aj), q.nodes = a ++ x :: (Bq k ++ b) → Xbp (.cons x k .nil) → Oz nmQ (.cons x k .nil) = true → (Bq k).length + 1 ≤ n → l.length + 7 * ((Bq k).length + 1) ≤ 2 ^ 40 → I9 n q (a.length : Int) l (q, ((a.length + 1 + (Bq k).length : Nat) : Int), l ++ (Dv (.cons x k .nil)).map mkW)
 | 0, x, k, a, b, l, h, hf, hg, hl, hw => by omega
 | n + 1, x, k, a, b, l, h, hf, hg, hl, hw => by
  obtain ⟨f1, f2, f3⟩ := hf
  obtain ⟨g1, g2, g3, g4, g5, g6⟩ := Qm hg
  obtain ⟨ha, hx⟩ := Xji h
  have hF := Xip x
  have hwp : (Dv (.cons x k .nil)).map mkW = (Vg x).map mkW ++ (((if x.lit = true then [(2, x.name)] else (5, opB) :: N7 x :: (Dv k ++ [(5, clB)])).map mkW) ++ (P9 x).map mkW) := by simp [Dv]
  show Me (I9 n) q (a.length : Int) l _
  unfold Me
  refine ⟨⟨by omega, by omega⟩, ?_⟩
  rw [hwp]
  have j1 : ∀ l0 : List Aj, l0 = l ++ (Vg x).map mkW → Ls q (a.length : Int) (I9 n) l0 (q, ((a.length + 1 + (Bq k).length : Nat) : Int), l ++ ((Vg x).map mkW ++ (((if x.lit = true then [(2, x.name)] else (5, opB) :: N7 x :: (Dv k ++ [(5, clB)])).map mkW) ++ (P9 x).map mkW))) := fun l0 e0 => by
   have hl0 : l0.length ≤ l.length + 2 := by rw [e0, List.length_append, List.length_map]; omega
   unfold Ls
   rw [hx]
   by_cases hlit : x.lit = true
   ·obtain ⟨_, rfl⟩ := g1 hlit
    rw [if_pos hlit, if_pos hlit]
    refine ⟨_, Xa4 (by omega) 2 x.name, ?_⟩
    rw [Dx (by omega)]
    have := qj2 q hx ((a.length : Int) + 1) (l := l0 ++ [mkW (2, x.name)]) (by rw [List.length_append, List.length_cons, List.length_nil]; omega)
    have e : (l0 ++ [mkW (2, x.name)]) ++ (P9 x).map mkW = l ++ ((Vg x).map mkW ++ ([(2, x.name)].map mkW ++ (P9 x).map mkW)) := by rw [e0]; simp
    rw [e] at this
    exact this
   ·rw [if_neg hlit, if_neg hlit]
    refine ⟨_, Xa4 (by omega) 5 opB, ?_⟩
    have j3 : Lt q (a.length : Int) (I9 n) ((l0 ++ [mkW (5, opB)]) ++ [mkW (N7 x)]) (q, ((a.length + 1 + (Bq k).length : Nat) : Int), l ++ ((Vg x).map mkW ++ (((5, opB) :: N7 x :: (Dv k ++ [(5, clB)])).map mkW ++ (P9 x).map mkW))) := by
     unfold Lt
     rw [Dx (by omega)]
     have h2 : q.nodes = (a ++ [x]) ++ (Bq k ++ b) := by rw [h]; simp
     have hal : (a ++ [x]).length = a.length + 1 := by simp
     have hwk := Uo k
     have hcl := Xeu k
     have hql : (Bq k).length ≤ 2 ^ 40 := by omega
     have := qkids hq hx (qnode hq n) k (a ++ [x]) b ((l0 ++ [mkW (5, opB)]) ++ [mkW (N7 x)]) 0 _ h2 f2 g5 (by omega) (by simp only [List.length_append, List.length_cons, List.length_nil]; omega) (by rw [f1, Nat.zero_add]) (by omega) (qj2 q hx _ (by simp only [List.length_append, List.length_cons, List.length_nil, List.length_map]; omega))
     rw [hal] at this
     have e : (((l0 ++ [mkW (5, opB)]) ++ [mkW (N7 x)]) ++ (Dv k).map mkW ++ [mkW (5, clB)]) ++ (P9 x).map mkW = l ++ ((Vg x).map mkW ++ (((5, opB) :: N7 x :: (Dv k ++ [(5, clB)])).map mkW ++ (P9 x).map mkW)) := by rw [e0]; simp
     rw [e] at this
     exact this
    by_cases hn : x.name = noB
    ·rw [if_pos hn]
     have en : N7 x = (1, Oy) := by unfold N7; rw [if_pos hn]
     rw [en] at j3 ⊢
     exact ⟨_, Xa4 (by rw [List.length_append, List.length_cons, List.length_nil]; omega) 1 Oy, j3⟩
    ·rw [if_neg hn]
     have en : N7 x = (1, x.name) := by unfold N7; rw [if_neg hn]
     rw [en] at j3 ⊢
     exact ⟨_, Xa4 (by rw [List.length_append, List.length_cons, List.length_nil]; omega) 1 x.name, j3⟩
  rw [hx]
  by_cases gf : x.field = noB
  ·rw [if_pos gf]
   exact j1 l (by unfold Vg; rw [if_pos gf]; simp)
  ·rw [if_neg gf]
   refine ⟨_, Xa4 (by omega) 1 x.field, _, Xa4 (by rw [List.length_append, List.length_cons, List.length_nil]; omega) 5 Xem, j1 _ ?_⟩
   unfold Vg
   rw [if_neg gf]
   simp
theorem qconds {q : Au} (hc : q.conds.length ≤ 16) {l : List Aj} (hl : l.length ≤ 2 ^ 40) {J : ByteArray} (hJ : Tc (l ++ (q.conds.flatMap Gj).map mkW) J) : Bv (fun (s : Int × (List Aj)) o => Ju q s.1 s.2 o) (0, l) (J, 0) := by
 have hcw : ∀ c : Bi, (Gj c).length ≤ 6 := fun c => by unfold Gj; by_cases g : c.b = noB <;> simp [g]
 have key : ∀ (d i : Nat) (m : List Aj), q.conds.length - i = d → i ≤ q.conds.length → m.length ≤ 2 ^ 40 + 6 * i → m ++ ((q.conds.drop i).flatMap Gj).map mkW = l ++ (q.conds.flatMap Gj).map mkW → Bv (fun (s : Int × (List Aj)) o => Ju q s.1 s.2 o) ((i : Int), m) (J, 0) := by
  intro d
  induction d with
  | zero =>
   intro i m hd hi hm he
   have : i = q.conds.length := by omega
   subst this
   rw [List.drop_length, List.flatMap_nil, List.map_nil, List.append_nil] at he
   refine .done ?_
   dsimp only
   unfold Ju
   rw [if_neg (Int.lt_irrefl _), he]
   exact ⟨_, hJ, rfl⟩
  | succ d ih =>
   intro i m hd hi hm he
   have hlt : i < q.conds.length := by omega
   have hcx := Yg hlt
   have hdr : q.conds.drop i = q.conds[i] :: q.conds.drop (i + 1) := List.drop_eq_getElem_cons hlt
   rw [hdr, List.flatMap_cons, List.map_append, ← List.append_assoc] at he
   have hl6 := hcw q.conds[i]
   refine .next (s' := (((i + 1 : Nat) : Int), m ++ (Gj q.conds[i]).map mkW)) ?_ (ih (i + 1) _ (by omega) (by omega) (by rw [List.length_append, List.length_map]; omega) he)
   dsimp only
   have hs : ∀ m0 : List Aj, m0 = m ++ [mkW (1, if q.conds[i].not = true then unB else whB)] → Ox q (i : Int) m0 (.inl (((i + 1 : Nat) : Int), m ++ (Gj q.conds[i]).map mkW)) := fun m0 e0 => by
    have hm0 : m0.length = m.length + 1 := by rw [e0]; simp
    unfold Ox
    rw [hcx]
    refine ⟨_, Xa4 (by omega) 5 Qi, _, Xa4 (by simp only [List.length_append, List.length_cons, List.length_nil]; omega) 1 _, _, Xa4 (by simp only [List.length_append, List.length_cons, List.length_nil]; omega) 5 eqB, ?_⟩
    by_cases g : q.conds[i].b = noB
    ·rw [if_pos g]
     refine ⟨_, Xa4 (by simp only [List.length_append, List.length_cons, List.length_nil]; omega) 2 _, ?_⟩
     rw [Dx (by omega), e0]
     unfold Gj
     rw [if_pos g]
     simp
    ·rw [if_neg g]
     refine ⟨_, Xa4 (by simp only [List.length_append, List.length_cons, List.length_nil]; omega) 5 Qi, _, Xa4 (by simp only [List.length_append, List.length_cons, List.length_nil]; omega) 1 _, ?_⟩
     rw [Dx (by omega), e0]
     unfold Gj
     rw [if_neg g]
     simp
   unfold Ju
   rw [if_pos (by omega)]
   refine ⟨⟨by omega, by omega⟩, ?_⟩
   rw [hcx]
   by_cases gn : q.conds[i].not = true
   ·rw [if_pos gn]
    exact ⟨_, Xa4 (by omega) 1 unB, hs _ (by rw [if_pos gn])⟩
   ·rw [if_neg gn]
    exact ⟨_, Xa4 (by omega) 1 whB, hs _ (by rw [if_neg gn])⟩
 exact key _ 0 l rfl (Nat.zero_le _) (by omega) rfl
end Go.Proofs.YtjookebbmfiidaaDoor.L
set_option linter.unusedVariables false
namespace Go.Proofs.YtjookebbmfiidaaDoor.L
open Go.Proofs.YtjookebbmfiidaaDoor.B Go.Proofs.YtjookebbmfiidaaDoor.R
theorem ix_app {v a b : List Ag} {x : Ag} (h : v = a ++ x :: b) : a.length < v.length ∧ ix v (a.length : Int) = x := Xji (q := ⟨v, []⟩) h
end Go.Proofs.YtjookebbmfiidaaDoor.L
