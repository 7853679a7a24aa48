/- Queries: the document's place of a capture. Condition: sizes. -/
import Derived.Test.YtjookebbmfiidaaDoorS6
import Derived.Test.YtjookebbmfiidaaDoorSF
set_option linter.unusedVariables false
namespace Go.Proofs.YtjookebbmfiidaaDoor.L
open Go.Proofs.YtjookebbmfiidaaDoor.B Go.Proofs.YtjookebbmfiidaaDoor.R
end Go.Proofs.YtjookebbmfiidaaDoor.L
set_option linter.unusedVariables false
namespace Go.Proofs.YtjookebbmfiidaaDoor.L
open Go.Proofs.YtjookebbmfiidaaDoor.B Go.Proofs.YtjookebbmfiidaaDoor.R
end Go.Proofs.YtjookebbmfiidaaDoor.L
set_option linter.unusedVariables false
namespace Go.Proofs.YtjookebbmfiidaaDoor.L
open Go.Proofs.YtjookebbmfiidaaDoor.B Go.Proofs.YtjookebbmfiidaaDoor.R
def mkW (t : Tk) : Ak := ⟨t.1, t.2, 0, 0⟩
theorem Xif (x : Ag) : (Ya x).length ≤ 2 := by unfold Ya; split <;> simp
theorem capW_len (x : Ag) : (Qr x).length ≤ 2 := by unfold Qr; split <;> simp
theorem Uu : ∀ g : PF, (Em g).length ≤ 7 * (Bz g).length
 | .nil => Nat.le_refl _
 | .cons x k s => by
  have h1 := Uu k
  have h2 := Uu s
  have h3 := Xif x
  have h4 := capW_len x
  simp only [Em, Bz, List.length_append, List.length_cons]
  split
  ·simp only [List.length_cons, List.length_nil]; omega
  ·simp only [List.length_cons, List.length_append, List.length_nil]; omega
theorem Xac {l : List Ak} (hl : l.length + 1 ≤ 2 ^ 41) (k : Int) (s : ByteArray) : Ef k s l (l ++ [mkW (k, s)]) := ⟨_, rfl, by rw [List.length_append, List.length_cons, List.length_nil]; omega, rfl⟩
theorem qj2 (q : Aw) {i : Nat} {x : Ag} (hx : ix q.nodes (i : Int) = x) (at_ : Int) {l : List Ak} (hl : l.length + 2 ≤ 2 ^ 41) : Jr q (i : Int) l at_ (q, at_, l ++ (Qr x).map mkW) := by
 unfold Jr Qr
 rw [hx]
 by_cases g : x.capture = noB
 ·rw [if_pos g, if_pos g, List.map_nil, List.append_nil]
 ·rw [if_neg g, if_neg g]
  refine ⟨_, Xac (by omega) 5 Ri, _, Xac (by rw [List.length_append, List.length_cons, List.length_nil]; omega) 1 _, ?_⟩
  simp [mkW]
theorem Xj8 {q : Aw} {a b : List Ag} {x : Ag} (h : q.nodes = a ++ x :: b) : a.length < q.nodes.length ∧ ix q.nodes (a.length : Int) = x := by
 have hl : a.length < q.nodes.length := by rw [h, List.length_append, List.length_cons]; omega
 refine ⟨hl, ?_⟩
 rw [Y5 hl]
 have : q.nodes[a.length]? = some x := by rw [h, List.getElem?_append_right (Nat.le_refl _), Nat.sub_self]; rfl
 rw [List.getElem?_eq_getElem hl] at this
 exact Option.some.inj this
theorem qkids {q : Aw} (hq : q.nodes.length ≤ 2 ^ 40) {n i : Nat} {x : Ag} (hx : ix q.nodes (i : Int) = x) (hn : ∀ (x : Ag) (k : PF) (a b : List Ag) (l : List Ak), q.nodes = a ++ x :: (Bz k ++ b) → Xcq (.cons x k .nil) → U9 nmQ (.cons x k .nil) = true → (Bz k).length + 1 ≤ n → l.length + 7 * ((Bz k).length + 1) ≤ 2 ^ 40 → Ik n q (a.length : Int) l (q, ((a.length + 1 + (Bz k).length : Nat) : Int), l ++ (Em (.cons x k .nil)).map mkW)) :
  ∀ (g : PF) (a b : List Ag) (l : List Ak) (j : Nat) (r : Aw × Int × (List Ak)), q.nodes = a ++ (Bz g ++ b) → Xcq g → U9 nmQ g = true → (Bz g).length ≤ n → l.length + 7 * (Bz g).length ≤ 2 ^ 40 → x.kids = ((j + Jm g : Nat) : Int) → j + Jm g ≤ 2 ^ 40 → Jr q (i : Int) ((l ++ (Em g).map mkW) ++ [mkW (5, clB)]) ((a.length + (Bz g).length : Nat) : Int) r →
   Bo (fun (s : Int × (List Ak) × Int) o => Jq q (i : Int) (Ik n) s.1 s.2.1 s.2.2 o) ((j : Int), l, (a.length : Int)) r
 | .nil, a, b, l, j, r, h, hf, hg, hl, hw, hk, hjb, hr => by
  refine .done ?_
  dsimp only
  unfold Jq
  rw [hx, hk, if_neg (by simp only [Jm]; omega)]
  refine ⟨_, Xac (by omega) 5 clB, r, rfl, ?_⟩
  simp only [Em, List.map_nil, List.append_nil, Bz, List.length_nil, Nat.add_zero] at hr
  exact hr
 | .cons y k s, a, b, l, j, r, h, hf, hg, hl, hw, hk, hjb, hr => by
  simp only [Jm] at hjb
  obtain ⟨f1, f2, f3⟩ := hf
  obtain ⟨g1, g2, g3, g4, g5, g6⟩ := U5 hg
  have hg1 : U9 nmQ (.cons y k .nil) = true := by
   unfold U9 at hg ⊢
   rw [Bool.and_eq_true] at hg ⊢
   exact ⟨hg.1, rfl⟩
  have hlen : (Bz (.cons y k s)).length = (Bz k).length + 1 + (Bz s).length := by simp only [Bz, List.length_cons, List.length_append]; omega
  have hwk := Uu (.cons y k .nil)
  simp only [Bz, List.append_nil, List.length_cons] at hwk
  have h1 : q.nodes = a ++ y :: (Bz k ++ (Bz s ++ b)) := by rw [h]; simp [Bz]
  have hp := hn y k a (Bz s ++ b) l h1 ⟨f1, f2, trivial⟩ hg1 (by omega) (by omega)
  refine .next (s' := (((j + 1 : Nat) : Int), l ++ (Em (.cons y k .nil)).map mkW, ((a.length + 1 + (Bz k).length : Nat) : Int))) ?_ ?_
  ·dsimp only
   unfold Jq
   have hql : (Bz (.cons y k s)).length ≤ 2 ^ 40 := by
    have := congrArg List.length h
    rw [List.length_append, List.length_append] at this
    omega
   have hcl := Xeg (.cons y k s)
   rw [hx, hk, if_pos (by simp only [Jm]; omega)]
   refine ⟨_, hp, ?_⟩
   have hj : x.kids = ((j + Jm (.cons y k s) : Nat) : Int) := hk
   rw [Dw (by omega)]
   rfl
  ·have h2 : q.nodes = (a ++ y :: Bz k) ++ (Bz s ++ b) := by rw [h1]; simp
   have hal : (a ++ y :: Bz k).length = a.length + 1 + (Bz k).length := by simp only [List.length_append, List.length_cons]; omega
   have := qkids hq hx hn s (a ++ y :: Bz k) b (l ++ (Em (.cons y k .nil)).map mkW) (j + 1) r h2 f3 g6 (by omega) (by rw [List.length_append, List.length_map]; omega) (by rw [hk]; simp only [Jm]; omega) (by omega) (by
    rw [hal, show a.length + 1 + (Bz k).length + (Bz s).length = a.length + (Bz (.cons y k s)).length by omega]
    have e : (l ++ (Em (.cons y k .nil)).map mkW) ++ (Em s).map mkW = l ++ (Em (.cons y k s)).map mkW := by simp [Em]
    rw [e]
    exact hr)
   rw [hal] at this
   exact this
theorem qnode {q : Aw} (hq : q.nodes.length ≤ 2 ^ 40) : ∀ (n : Nat) (x : Ag) (k : PF) (a b : List Ag) (l : List Ak), q.nodes = a ++ x :: (Bz k ++ b) → Xcq (.cons x k .nil) → U9 nmQ (.cons x k .nil) = true → (Bz k).length + 1 ≤ n → l.length + 7 * ((Bz k).length + 1) ≤ 2 ^ 40 → Ik n q (a.length : Int) l (q, ((a.length + 1 + (Bz k).length : Nat) : Int), l ++ (Em (.cons x k .nil)).map mkW)
 | 0, x, k, a, b, l, h, hf, hg, hl, hw => by omega
 | n + 1, x, k, a, b, l, h, hf, hg, hl, hw => by
  obtain ⟨f1, f2, f3⟩ := hf
  obtain ⟨g1, g2, g3, g4, g5, g6⟩ := U5 hg
  obtain ⟨ha, hx⟩ := Xj8 h
  have hF := Xif x
  have hwp : (Em (.cons x k .nil)).map mkW = (Ya x).map mkW ++ (((if x.lit = true then [(2, x.name)] else (5, opB) :: Pg x :: (Em k ++ [(5, clB)])).map mkW) ++ (Qr x).map mkW) := by simp [Em]
  show N8 (Ik n) q (a.length : Int) l _
  unfold N8
  refine ⟨⟨by omega, by omega⟩, ?_⟩
  rw [hwp]
  have j1 : ∀ l0 : List Ak, l0 = l ++ (Ya x).map mkW → Lt q (a.length : Int) (Ik n) l0 (q, ((a.length + 1 + (Bz k).length : Nat) : Int), l ++ ((Ya x).map mkW ++ (((if x.lit = true then [(2, x.name)] else (5, opB) :: Pg x :: (Em k ++ [(5, clB)])).map mkW) ++ (Qr x).map mkW))) := fun l0 e0 => by
   have hl0 : l0.length ≤ l.length + 2 := by rw [e0, List.length_append, List.length_map]; omega
   unfold Lt
   rw [hx]
   by_cases hlit : x.lit = true
   ·obtain ⟨_, rfl⟩ := g1 hlit
    rw [if_pos hlit, if_pos hlit]
    refine ⟨_, Xac (by omega) 2 x.name, ?_⟩
    rw [Dw (by omega)]
    have := qj2 q hx ((a.length : Int) + 1) (l := l0 ++ [mkW (2, x.name)]) (by rw [List.length_append, List.length_cons, List.length_nil]; omega)
    have e : (l0 ++ [mkW (2, x.name)]) ++ (Qr x).map mkW = l ++ ((Ya x).map mkW ++ ([(2, x.name)].map mkW ++ (Qr x).map mkW)) := by rw [e0]; simp
    rw [e] at this
    exact this
   ·rw [if_neg hlit, if_neg hlit]
    refine ⟨_, Xac (by omega) 5 opB, ?_⟩
    have j3 : Ls q (a.length : Int) (Ik n) ((l0 ++ [mkW (5, opB)]) ++ [mkW (Pg x)]) (q, ((a.length + 1 + (Bz k).length : Nat) : Int), l ++ ((Ya x).map mkW ++ (((5, opB) :: Pg x :: (Em k ++ [(5, clB)])).map mkW ++ (Qr x).map mkW))) := by
     unfold Ls
     rw [Dw (by omega)]
     have h2 : q.nodes = (a ++ [x]) ++ (Bz k ++ b) := by rw [h]; simp
     have hal : (a ++ [x]).length = a.length + 1 := by simp
     have hwk := Uu k
     have hcl := Xeg k
     have hql : (Bz k).length ≤ 2 ^ 40 := by omega
     have := qkids hq hx (qnode hq n) k (a ++ [x]) b ((l0 ++ [mkW (5, opB)]) ++ [mkW (Pg x)]) 0 _ h2 f2 g5 (by omega) (by simp only [List.length_append, List.length_cons, List.length_nil]; omega) (by rw [f1, Nat.zero_add]) (by omega) (qj2 q hx _ (by simp only [List.length_append, List.length_cons, List.length_nil, List.length_map]; omega))
     rw [hal] at this
     have e : (((l0 ++ [mkW (5, opB)]) ++ [mkW (Pg x)]) ++ (Em k).map mkW ++ [mkW (5, clB)]) ++ (Qr x).map mkW = l ++ ((Ya x).map mkW ++ (((5, opB) :: Pg x :: (Em k ++ [(5, clB)])).map mkW ++ (Qr x).map mkW)) := by rw [e0]; simp
     rw [e] at this
     exact this
    by_cases hn : x.name = noB
    ·rw [if_pos hn]
     have en : Pg x = (1, Rf) := by unfold Pg; rw [if_pos hn]
     rw [en] at j3 ⊢
     exact ⟨_, Xac (by rw [List.length_append, List.length_cons, List.length_nil]; omega) 1 Rf, j3⟩
    ·rw [if_neg hn]
     have en : Pg x = (1, x.name) := by unfold Pg; rw [if_neg hn]
     rw [en] at j3 ⊢
     exact ⟨_, Xac (by rw [List.length_append, List.length_cons, List.length_nil]; omega) 1 x.name, j3⟩
  rw [hx]
  by_cases gf : x.field = noB
  ·rw [if_pos gf]
   exact j1 l (by unfold Ya; rw [if_pos gf]; simp)
  ·rw [if_neg gf]
   refine ⟨_, Xac (by omega) 1 x.field, _, Xac (by rw [List.length_append, List.length_cons, List.length_nil]; omega) 5 Xe9, j1 _ ?_⟩
   unfold Ya
   rw [if_neg gf]
   simp
theorem qconds {q : Aw} (hc : q.conds.length ≤ 16) {l : List Ak} (hl : l.length ≤ 2 ^ 40) {J : ByteArray} (hJ : Tu (l ++ (q.conds.flatMap Ia).map mkW) J) : Bo (fun (s : Int × (List Ak)) o => Jz q s.1 s.2 o) (0, l) (J, 0) := by
 have hcw : ∀ c : Bi, (Ia c).length ≤ 6 := fun c => by unfold Ia; by_cases g : c.b = noB <;> simp [g]
 have key : ∀ (d i : Nat) (m : List Ak), q.conds.length - i = d → i ≤ q.conds.length → m.length ≤ 2 ^ 40 + 6 * i → m ++ ((q.conds.drop i).flatMap Ia).map mkW = l ++ (q.conds.flatMap Ia).map mkW → Bo (fun (s : Int × (List Ak)) o => Jz q s.1 s.2 o) ((i : Int), m) (J, 0) := by
  intro d
  induction d with
  | zero =>
   intro i m hd hi hm he
   have : i = q.conds.length := by omega
   subst this
   rw [List.drop_length, List.flatMap_nil, List.map_nil, List.append_nil] at he
   refine .done ?_
   dsimp only
   unfold Jz
   rw [if_neg (Int.lt_irrefl _), he]
   exact ⟨_, hJ, rfl⟩
  | succ d ih =>
   intro i m hd hi hm he
   have hlt : i < q.conds.length := by omega
   have hcx := Y5 hlt
   have hdr : q.conds.drop i = q.conds[i] :: q.conds.drop (i + 1) := List.drop_eq_getElem_cons hlt
   rw [hdr, List.flatMap_cons, List.map_append, ← List.append_assoc] at he
   have hl6 := hcw q.conds[i]
   refine .next (s' := (((i + 1 : Nat) : Int), m ++ (Ia q.conds[i]).map mkW)) ?_ (ih (i + 1) _ (by omega) (by omega) (by rw [List.length_append, List.length_map]; omega) he)
   dsimp only
   have hs : ∀ m0 : List Ak, m0 = m ++ [mkW (1, if q.conds[i].not = true then unB else whB)] → Ox q (i : Int) m0 (.inl (((i + 1 : Nat) : Int), m ++ (Ia q.conds[i]).map mkW)) := fun m0 e0 => by
    have hm0 : m0.length = m.length + 1 := by rw [e0]; simp
    unfold Ox
    rw [hcx]
    refine ⟨_, Xac (by omega) 5 Ri, _, Xac (by simp only [List.length_append, List.length_cons, List.length_nil]; omega) 1 _, _, Xac (by simp only [List.length_append, List.length_cons, List.length_nil]; omega) 5 eqB, ?_⟩
    by_cases g : q.conds[i].b = noB
    ·rw [if_pos g]
     refine ⟨_, Xac (by simp only [List.length_append, List.length_cons, List.length_nil]; omega) 2 _, ?_⟩
     rw [Dw (by omega), e0]
     unfold Ia
     rw [if_pos g]
     simp
    ·rw [if_neg g]
     refine ⟨_, Xac (by simp only [List.length_append, List.length_cons, List.length_nil]; omega) 5 Ri, _, Xac (by simp only [List.length_append, List.length_cons, List.length_nil]; omega) 1 _, ?_⟩
     rw [Dw (by omega), e0]
     unfold Ia
     rw [if_neg g]
     simp
   unfold Jz
   rw [if_pos (by omega)]
   refine ⟨⟨by omega, by omega⟩, ?_⟩
   rw [hcx]
   by_cases gn : q.conds[i].not = true
   ·rw [if_pos gn]
    exact ⟨_, Xac (by omega) 1 unB, hs _ (by rw [if_pos gn])⟩
   ·rw [if_neg gn]
    exact ⟨_, Xac (by omega) 1 whB, hs _ (by rw [if_neg gn])⟩
 exact key _ 0 l rfl (Nat.zero_le _) (by omega) rfl
end Go.Proofs.YtjookebbmfiidaaDoor.L
set_option linter.unusedVariables false
namespace Go.Proofs.YtjookebbmfiidaaDoor.L
open Go.Proofs.YtjookebbmfiidaaDoor.B Go.Proofs.YtjookebbmfiidaaDoor.R
theorem ix_app {v a b : List Ag} {x : Ag} (h : v = a ++ x :: b) : a.length < v.length ∧ ix v (a.length : Int) = x := Xj8 (q := ⟨v, []⟩) h
end Go.Proofs.YtjookebbmfiidaaDoor.L
