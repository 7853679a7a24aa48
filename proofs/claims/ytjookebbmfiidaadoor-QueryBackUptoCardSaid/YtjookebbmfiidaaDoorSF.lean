/- Queries: which are well shaped: the program and the document. Condition: sizes. -/
import Derived.Test.YtjookebbmfiidaaDoorS7
import Derived.Test.YtjookebbmfiidaaDoorSX
set_option linter.unusedVariables false
namespace Go.Proofs.YtjookebbmfiidaaDoor.L
open Go.Proofs.YtjookebbmfiidaaDoor.B Go.Proofs.YtjookebbmfiidaaDoor.R
def nmQ (x : ByteArray) : Bool := !decide (x = Ji) && H8 ⟨1, x, 0, 0⟩
theorem nmQ_nm : Nm nmQ := fun s h => by
 unfold nmQ at h
 rw [Bool.and_eq_true] at h
 refine ⟨by simpa using h.1, fun e => ?_⟩
 rw [e] at h
 exact absurd h.2 (by decide)
theorem Xn {x : ByteArray} (hs : x.size ≤ 1048576) : Iw x (nmQ x) := by
 unfold Iw nmQ
 by_cases h : x = Ji
 ·rw [if_pos h, decide_eq_true h]
  rfl
 ·rw [if_neg h, decide_eq_false h]
  refine ⟨_, Xb5 (w := ⟨1, x, 0, 0⟩) hs ⟨show (-9223372036854775808 : Int) ≤ 0 by decide, show (0 : Int) ≤ 9223372036854775807 by decide⟩, ?_⟩
  rw [Jy]
  cases e : H8 ⟨1, x, 0, 0⟩ with
  | true =>
   rw [decide_eq_false (Xdt e)]
   rfl
  | false =>
   rw [decide_eq_true (sound_no e)]
   rfl
theorem Uh {x : ByteArray} (hs : x.size ≤ 1048576) : Gn x (nmQ x) := by
 unfold Gn nmQ
 by_cases h : x = Ji
 ·rw [if_pos h, decide_eq_true h]
  rfl
 ·rw [if_neg h, decide_eq_false h]
  exact ⟨_, Xaz (w := ⟨1, x, 0, 0⟩) hs, rfl⟩
def SzN (x : Ae) : Prop := x.name.size ≤ 1048576 ∧ x.field.size ≤ 1048576 ∧ x.capture.size ≤ 1048576
theorem Yb {x : Ae} (hs : SzN x) : Mr x (sndN nmQ x) := by
 obtain ⟨h1, h2, h3⟩ := hs
 have hj : ∀ b, Fb x b (!b && (decide (x.field = noB) || nmQ x.field) && (decide (x.capture = noB) || nmQ x.capture)) := fun b => by
  unfold Fb
  cases b with
  | true =>
   rw [if_pos rfl]
   rfl
  | false =>
   rw [if_neg (by simp), Bool.not_false, Bool.true_and]
   have hc : (if x.capture = noB then (decide (x.capture = noB) || nmQ x.capture) = true else ∃ r42 : Bool, Iw x.capture r42 ∧ (decide (x.capture = noB) || nmQ x.capture) = r42) := by
    by_cases g : x.capture = noB
    ·rw [if_pos g, decide_eq_true g]
     rfl
    ·rw [if_neg g, decide_eq_false g, Bool.false_or]
     exact ⟨_, Xn h3, rfl⟩
   by_cases g : x.field = noB
   ·rw [if_pos g, decide_eq_true g, Bool.true_or, Bool.true_and]
    exact hc
   ·rw [if_neg g, decide_eq_false g, Bool.false_or]
    refine ⟨_, Xn h2, ?_⟩
    cases e : nmQ x.field with
    | false =>
     rw [if_neg (by simp), Bool.false_and]
    | true =>
     rw [if_pos rfl, Bool.true_and]
     exact hc
 unfold Mr sndN
 by_cases hl : x.lit = true
 ·rw [if_pos hl, if_pos hl]
  by_cases hn : x.name = noB
  ·rw [if_pos hn, decide_eq_true hn, Bool.not_true, Bool.false_and]
   exact hj true
  ·rw [if_neg hn, decide_eq_false hn, Bool.not_false, Bool.true_and]
   by_cases hk : x.kids = 0
   ·rw [if_pos hk, decide_eq_true hk]
    exact hj false
   ·rw [if_neg hk, decide_eq_false hk]
    exact hj true
 ·rw [if_neg hl, if_neg hl]
  by_cases hn : x.name = noB
  ·rw [if_pos hn, decide_eq_true hn, Bool.true_or]
   exact hj false
  ·rw [if_neg hn, decide_eq_false hn, Bool.false_or]
   refine ⟨_, Xn h1, ?_⟩
   have := hj (!nmQ x.name)
   rw [Bool.not_not] at this
   exact this
theorem Xac (c : Nat) : L8 [] (c + 1) = none := rfl
theorem Qy : ∀ (l : List Ae) (a b : Nat), L8 l (a + b) = (L8 l a).bind (fun r => L8 r b)
 | l, 0, b => by rw [Nat.zero_add, M7]; rfl
 | [], a + 1, b => by rw [show a + 1 + b = (a + b) + 1 by omega, Xac, Xac]; rfl
 | x :: xs, a + 1, b => by
  rw [show a + 1 + b = (a + b) + 1 by omega, Kw, Kw]
  by_cases h : x.kids < 0
  ·rw [if_pos h, if_pos h]; rfl
  ·rw [if_neg h, if_neg h, show a + b + x.kids.toNat = (a + x.kids.toNat) + b by omega, Qy xs]
theorem Pn : ∀ (l : List Ae) (c : Nat) (r : List Ae), L8 l c = some r → r.length + c ≤ l.length ∧ r = l.drop (l.length - r.length)
 | l, 0, r, h => by
  rw [M7] at h
  injection h with h
  subst h
  simp
 | [], c + 1, r, h => by cases h
 | x :: xs, c + 1, r, h => by
  rw [Kw] at h
  by_cases g : x.kids < 0
  ·rw [if_pos g] at h; cases h
  ·rw [if_neg g] at h
   obtain ⟨h1, h2⟩ := Pn xs _ r h
   refine ⟨by rw [List.length_cons]; omega, ?_⟩
   rw [List.length_cons, show xs.length + 1 - r.length = (xs.length - r.length) + 1 by omega, List.drop_succ_cons]
   exact h2
def Mx (v : List Ae) (at_ : Nat) : Int := match L8 (v.drop at_) 1 with
 | none => -1
 | some r => ((v.length - r.length : Nat) : Int)
theorem To {v : List Ae} {a : Nat} {r : List Ae} (h : L8 (v.drop a) 1 = some r) : Mx v a = ((v.length - r.length : Nat) : Int) := by
 unfold Mx
 rw [h]
theorem J4 {v : List Ae} {a : Nat} (h : L8 (v.drop a) 1 = none) : Mx v a = -1 := by
 unfold Mx
 rw [h]
theorem Xd0 {v : List Ae} {a : Nat} (h : a < v.length) : v.drop a = ix v (a : Int) :: v.drop (a + 1) := by
 have := Pa (xs := v) (i := (a : Int)) ⟨by omega, by omega⟩
 rw [Int.toNat_natCast, List.getElem?_eq_getElem h] at this
 rw [List.drop_eq_getElem_cons h, Option.some.inj this]
theorem Xbg {v : List Ae} (hv : v.length ≤ 2 ^ 40) : ∀ (n a : Nat), v.length - a < n → Hj n v (a : Int) (Mx v a)
 | 0, a, h => absurd h (Nat.not_lt_zero _)
 | n + 1, a, h => by
  show H4 (Hj n) v (a : Int) _
  unfold H4
  by_cases g : a < v.length
  ·rw [if_neg (by omega)]
   refine ⟨⟨by omega, by omega⟩, ?_⟩
   have hd := Xd0 g
   unfold Gx
   by_cases k : (ix v (a : Int)).kids < 0
   ·rw [decide_eq_true k, if_pos rfl]
    exact J4 (by rw [hd, Kw, if_pos k])
   ·rw [decide_eq_false k, if_neg (by simp)]
    refine ⟨⟨by omega, by omega⟩, ?_⟩
    have h1 : L8 (v.drop a) 1 = L8 (v.drop (a + 1)) (ix v (a : Int)).kids.toNat := by rw [hd, Kw, if_neg k, Nat.zero_add]
    have key : ∀ (m : Nat) (r : List Ae) (j : Nat), r.length ≤ m → j ≤ (ix v (a : Int)).kids.toNat → L8 (v.drop (a + 1)) j = some r → B0 (fun (s : Int × Int) o => E5 v (a : Int) (Hj n) s.1 s.2 o) (((v.length - r.length : Nat) : Int), (j : Int)) (Mx v a) := by
     intro m
     induction m with
     | zero =>
      intro r j hm hj hr
      obtain ⟨l1, l2⟩ := Pn _ _ _ hr
      have hr0 : r = [] := List.eq_nil_of_length_eq_zero (by omega)
      have hs := Xbg hv n (v.length - r.length) (by omega)
      refine .done ?_
      dsimp only
      unfold E5
      by_cases e : (j : Int) < (ix v (a : Int)).kids
      ·rw [if_pos e]
       have hn : Mx v (v.length - r.length) = -1 := J4 (by rw [hr0]; simp; rfl)
       have hn2 : Mx v a = -1 := J4 (by rw [h1, show (ix v (a : Int)).kids.toNat = j + (((ix v (a : Int)).kids.toNat - j - 1) + 1) by omega, Qy, hr, hr0]; rfl)
       refine ⟨_, hs, ?_⟩
       rw [hn, hn2, if_pos (by decide)]
      ·rw [if_neg e]
       have ej : j = (ix v (a : Int)).kids.toNat := by omega
       rw [To (r := r) (by rw [h1, ← ej, hr])]
     | succ m ih =>
      intro r j hm hj hr
      obtain ⟨l1, l2⟩ := Pn _ _ _ hr
      rw [List.length_drop] at l1 l2
      have hrd : v.drop (v.length - r.length) = r := by
       have e2 : a + 1 + (v.length - (a + 1) - r.length) = v.length - r.length := by omega
       rw [← e2, ← List.drop_drop]
       exact l2.symm
      by_cases e : (j : Int) < (ix v (a : Int)).kids
      ·have hs := Xbg hv n (v.length - r.length) (by omega)
       cases e1 : L8 r 1 with
       | none =>
        have hn : Mx v (v.length - r.length) = -1 := J4 (by rw [hrd, e1])
        have hn2 : Mx v a = -1 := J4 (by rw [h1, show (ix v (a : Int)).kids.toNat = j + (1 + ((ix v (a : Int)).kids.toNat - j - 1)) by omega, Qy, hr]; show L8 r _ = none; rw [Qy, e1]; rfl)
        refine .done ?_
        dsimp only
        unfold E5
        rw [if_pos e]
        refine ⟨_, hs, ?_⟩
        rw [hn, hn2, if_pos (by decide)]
       | some r' =>
        obtain ⟨l3, l4⟩ := Pn _ _ _ e1
        have hn : Mx v (v.length - r.length) = ((v.length - r'.length : Nat) : Int) := To (by rw [hrd, e1])
        refine .next (s' := (((v.length - r'.length : Nat) : Int), ((j + 1 : Nat) : Int))) ?_ (ih r' (j + 1) (by omega) (by omega) (by rw [Qy, hr]; exact e1))
        dsimp only
        unfold E5
        rw [if_pos e]
        refine ⟨_, hs, ?_⟩
        rw [hn, if_neg (by omega), Bm (by omega)]
        rfl
      ·refine .done ?_
       dsimp only
       unfold E5
       rw [if_neg e]
       have ej : j = (ix v (a : Int)).kids.toNat := by omega
       rw [To (r := r) (by rw [h1, ← ej, hr])]
    have := key _ (v.drop (a + 1)) 0 (Nat.le_refl _) (Nat.zero_le _) (M7 _)
    have e3 : v.length - (v.drop (a + 1)).length = a + 1 := by rw [List.length_drop]; omega
    rw [e3] at this
    rw [Bm (by omega)]
    exact this
  ·rw [if_pos (by omega)]
   unfold Gx
   rw [if_pos rfl]
   exact J4 (by rw [List.drop_eq_nil_of_le (by omega)]; rfl)
theorem Xbz {v : List Ae} (hv : v.length ≤ 2 ^ 40) (a : Nat) : Pe v (a : Int) (Mx v a) := ⟨_, Xbg hv _ a (Nat.lt_succ_self _)⟩
theorem Xda {v : List Ae} (hv : v.length ≤ 32) {a : Nat} (ha : a ≤ v.length) : K5 v (a : Int) (Mx v a) := by
 have key : ∀ (m b c : Nat), v.length - b ≤ m → b ≤ v.length → c ≤ 1 + 32 * b → L8 (v.drop a) 1 = L8 (v.drop b) c → B0 (fun (s : Int × Int) o => D1 v s.1 s.2 o) ((b : Int), (c : Int)) (Mx v a) := by
  intro m
  induction m with
  | zero =>
   intro b c hm hb hc he
   have hb' : b = v.length := by omega
   refine .done ?_
   dsimp only
   unfold D1
   by_cases g : (c : Int) > 0
   ·rw [if_pos g, if_pos (by omega)]
    unfold Cu
    rw [if_pos rfl, J4 (by rw [he, hb', List.drop_length, show c = (c - 1) + 1 by omega]; rfl)]
   ·rw [if_neg g]
    have hc0 : c = 0 := by omega
    rw [To (r := v.drop b) (by rw [he, hc0, M7]), List.length_drop, show v.length - (v.length - b) = b by omega]
  | succ m ih =>
   intro b c hm hb hc he
   by_cases g : (c : Int) > 0
   ·by_cases g2 : b < v.length
    ·have hd := Xd0 g2
     have hcc : c = (c - 1) + 1 := by omega
     have hb1 : L8 (v.drop b) c = if (ix v (b : Int)).kids < 0 then none else L8 (v.drop (b + 1)) (c - 1 + (ix v (b : Int)).kids.toNat) := by rw [hd, hcc, Kw]; rfl
     have hno : ∀ bb, bb = true → Mx v a = -1 → Cu (b : Int) v (c : Int) bb (.inr (Mx v a)) := fun bb h1 h2 => by
      unfold Cu
      rw [if_pos h1, h2]
     by_cases k : (ix v (b : Int)).kids < 0
     ·refine .done ?_
      dsimp only
      unfold D1
      rw [if_pos g, if_neg (by omega)]
      refine ⟨⟨by omega, by omega⟩, ?_⟩
      rw [if_pos k]
      exact hno _ rfl (J4 (by rw [he, hb1, if_pos k]))
     ·by_cases k2 : (ix v (b : Int)).kids > (v.length : Int)
      ·refine .done ?_
       dsimp only
       unfold D1
       rw [if_pos g, if_neg (by omega)]
       refine ⟨⟨by omega, by omega⟩, ?_⟩
       rw [if_neg k, decide_eq_true k2]
       refine hno _ rfl (J4 ?_)
       rw [he, hb1, if_neg k]
       cases e : L8 (v.drop (b + 1)) (c - 1 + (ix v (b : Int)).kids.toNat) with
       | none => rfl
       | some r =>
        have := (Pn _ _ _ e).1
        rw [List.length_drop] at this
        omega
      ·refine .next (s' := (((b + 1 : Nat) : Int), ((c - 1 + (ix v (b : Int)).kids.toNat : Nat) : Int))) ?_ (ih (b + 1) _ (by omega) (by omega) (by omega) (by rw [he, hb1, if_neg k]))
       dsimp only
       unfold D1
       rw [if_pos g, if_neg (by omega)]
       refine ⟨⟨by omega, by omega⟩, ?_⟩
       rw [if_neg k, decide_eq_false k2]
       unfold Cu
       rw [if_neg (by simp)]
       refine ⟨⟨by omega, by omega⟩, ?_⟩
       rw [Bm (x := (b : Int) + 1) (by omega), Bm (x := (c : Int) - 1) (by omega), Bm (by omega)]
       congr 2
       omega
    ·refine .done ?_
     dsimp only
     unfold D1
     rw [if_pos g, if_pos (by omega)]
     unfold Cu
     rw [if_pos rfl, J4 (by rw [he, show b = v.length by omega, List.drop_length, show c = (c - 1) + 1 by omega]; rfl)]
   ·refine .done ?_
    dsimp only
    unfold D1
    rw [if_neg g]
    have hc0 : c = 0 := by omega
    rw [To (r := v.drop b) (by rw [he, hc0, M7]), List.length_drop, show v.length - (v.length - b) = b by omega]
 exact key _ a 1 (Nat.le_refl _) ha (by omega) rfl
def O3 (v : List Ae) (i : Nat) : Bool := sndN nmQ (ix v (i : Int)) && (decide ((ix v (i : Int)).capture = noB) || decide (J8 (ix v (i : Int)).capture v = (i : Int)))
def Ke (v : List Ae) (c : Ax) : Bool := decide (0 ≤ J8 c.a v) && (decide (c.b = noB) || (decide (0 ≤ J8 c.b v) && decide (c.text = noB)))
def Lr (q : Aj) : Bool := decide (q.nodes.length ≤ 32) && (decide (q.conds.length ≤ 16) && (decide (Mx q.nodes 0 = (q.nodes.length : Int)) && ((List.range q.nodes.length).all (O3 q.nodes) && q.conds.all (Ke q.nodes))))
def SzQ (q : Aj) : Prop := (∀ x ∈ q.nodes, SzN x) ∧ ∀ c ∈ q.conds, c.a.size ≤ 1048576 ∧ c.b.size ≤ 1048576 ∧ c.text.size ≤ 1048576
theorem Ux {α : Type} [Inhabited α] {v : List α} {i : Nat} (h : i < v.length) : ix v (i : Int) ∈ v := by
 have := Pa (xs := v) (i := (i : Int)) ⟨by omega, by omega⟩
 exact List.mem_of_getElem? this
theorem Nt {α : Type} [Inhabited α] {v : List α} {i : Nat} (h : i < v.length) : ix v (i : Int) = v[i] := by
 have := Pa (xs := v) (i := (i : Int)) ⟨by omega, by omega⟩
 rw [Int.toNat_natCast, List.getElem?_eq_getElem h] at this
 exact (Option.some.inj this).symm
theorem Ns {q : Aj} (hz : SzQ q) : Iv q (Lr q) := by
 unfold Iv Lr
 have hj : ∀ b, q.nodes.length ≤ 32 → q.conds.length ≤ 16 → Ek q b (!b && ((List.range q.nodes.length).all (O3 q.nodes) && q.conds.all (Ke q.nodes))) := fun b hn hc => by
  unfold Ek
  cases b with
  | true =>
   rw [if_pos rfl]
   rfl
  | false =>
   rw [if_neg (by simp), Bool.not_false, Bool.true_and]
   have hcap : ∀ c, Dg q c (J8 c q.nodes) := fun c => Yl (show q.nodes.length ≤ 2 ^ 40 by omega) q.conds c
   have hlen : (List.range q.nodes.length).length = q.nodes.length := List.length_range
   have h3 : B0 (fun (s : Int) o => Fj q s o) 0 (if q.conds.all (Ke q.nodes) = true then (.inr true : Sum Int Bool) else .inr false) := by
    refine B0.allThen q.conds (Ke q.nodes) (fun i hi hp => ?_) (fun i hi hp => ?_) (fun h => ?_)
    ·unfold Fj
     rw [if_pos (by omega)]
     refine ⟨⟨by omega, by omega⟩, _, hcap _, ?_⟩
     rw [Nt hi]
     unfold Ke at hp
     simp only [Bool.and_eq_true, Bool.or_eq_true, decide_eq_true_eq] at hp
     rw [if_neg (by omega)]
     by_cases g : q.conds[i].b = noB
     ·rw [if_pos g, Bm (by omega)]
     ·rw [if_neg g]
      obtain ⟨p1, p2⟩ := hp.2.resolve_left g
      refine ⟨_, hcap _, ?_⟩
      rw [if_neg (by omega), if_pos p2, Bm (by omega)]
    ·unfold Fj
     rw [if_pos (by omega)]
     refine ⟨⟨by omega, by omega⟩, _, hcap _, ?_⟩
     rw [Nt hi]
     unfold Ke at hp
     by_cases g1 : J8 q.conds[i].a q.nodes < 0
     ·rw [if_pos g1]
     ·rw [if_neg g1]
      rw [decide_eq_true (by omega), Bool.true_and] at hp
      by_cases g : q.conds[i].b = noB
      ·rw [decide_eq_true g] at hp; cases hp
      ·rw [if_neg g]
       rw [decide_eq_false g, Bool.false_or] at hp
       refine ⟨_, hcap _, ?_⟩
       by_cases g2 : J8 q.conds[i].b q.nodes < 0
       ·rw [if_pos g2]
       ·rw [if_neg g2]
        rw [decide_eq_true (by omega), Bool.true_and] at hp
        rw [if_neg (of_decide_eq_false hp)]
    ·unfold Fj
     rw [if_neg (Int.lt_irrefl _)]
   have h2 : B0 (fun (s : Int) o => Fi q s o) 0 (if (List.range q.nodes.length).all (O3 q.nodes) = true then q.conds.all (Ke q.nodes) else false) := by
    refine B0.allThen (List.range q.nodes.length) (O3 q.nodes) (fun i hi hp => ?_) (fun i hi hp => ?_) (fun h => ?_)
    ·rw [hlen] at hi
     rw [List.getElem_range] at hp
     unfold O3 at hp
     rw [Bool.and_eq_true] at hp
     unfold Fi
     rw [if_pos (by omega)]
     refine ⟨⟨by omega, by omega⟩, _, Yb (hz.1 _ (Ux hi)), ?_⟩
     rw [hp.1, if_pos rfl]
     have hp2 := hp.2
     by_cases g : (ix q.nodes (i : Int)).capture = noB
     ·rw [if_pos g, Bm (by omega)]
     ·rw [if_neg g]
      rw [decide_eq_false g, Bool.false_or] at hp2
      refine ⟨_, hcap _, ?_⟩
      rw [if_pos (of_decide_eq_true hp2), Bm (by omega)]
    ·rw [hlen] at hi
     rw [List.getElem_range] at hp
     unfold O3 at hp
     unfold Fi
     rw [if_pos (by omega)]
     refine ⟨⟨by omega, by omega⟩, _, Yb (hz.1 _ (Ux hi)), ?_⟩
     cases e : sndN nmQ (ix q.nodes (i : Int)) with
     | false => rw [if_neg (by simp)]
     | true =>
      rw [e, Bool.true_and] at hp
      rw [if_pos rfl]
      by_cases g : (ix q.nodes (i : Int)).capture = noB
      ·rw [decide_eq_true g] at hp; cases hp
      ·rw [if_neg g]
       rw [decide_eq_false g, Bool.false_or] at hp
       refine ⟨_, hcap _, ?_⟩
       rw [if_neg (of_decide_eq_false hp)]
    ·rw [hlen]
     unfold Fi
     rw [if_neg (Int.lt_irrefl _)]
     cases e : q.conds.all (Ke q.nodes) with
     | true => rw [e, if_pos rfl] at h3; exact h3
     | false => rw [e, if_neg (by simp)] at h3; exact h3
   cases e : (List.range q.nodes.length).all (O3 q.nodes) with
   | true => rw [e, if_pos rfl] at h2; exact h2
   | false => rw [e, if_neg (by simp)] at h2; exact h2
 have hj0 : Ek q true false := by
  unfold Ek
  rw [if_pos rfl]
 by_cases g1 : q.nodes.length ≤ 32
 ·rw [decide_eq_true g1, Bool.true_and, if_neg (by omega)]
  by_cases g2 : q.conds.length ≤ 16
  ·rw [decide_eq_true g2, Bool.true_and, if_neg (by omega)]
   refine ⟨_, Xbz (show q.nodes.length ≤ 2 ^ 40 by omega) 0, ?_⟩
   have e : (Mx q.nodes 0 != (q.nodes.length : Int)) = !decide (Mx q.nodes 0 = (q.nodes.length : Int)) := by
    rw [bne, Bool.beq_eq_decide_eq]
   rw [e]
   have := hj (!decide (Mx q.nodes 0 = (q.nodes.length : Int))) g1 g2
   rw [Bool.not_not] at this
   exact this
  ·rw [decide_eq_false g2, Bool.false_and, if_pos (by omega)]
   exact hj0
 ·rw [decide_eq_false g1, Bool.false_and, if_pos (by omega)]
  exact hj0
end Go.Proofs.YtjookebbmfiidaaDoor.L
