/- The plain side of chapter 8, more: what is spelt is read. No condition. -/
import Derived.Test.YtjookebbmfiidaaDoorSY
import Derived.Test.YtjookebbmfiidaaDoorT0
import Derived.Test.YtjookebbmfiidaaDoorS7
set_option linter.unusedVariables false
namespace Go.Proofs.YtjookebbmfiidaaDoor.L
open Go.Proofs.YtjookebbmfiidaaDoor.B Go.Proofs.YtjookebbmfiidaaDoor.R
theorem sound_no {w : Aj} (h : Jg w = false) : Ll w = ⟨#[]⟩ := by unfold Ll; rw [if_neg (by rw [h]; simp)]
theorem Xm0 {w : Aj} (h : Jg w = true) : Ll w ≠ ⟨#[]⟩ := fun e => by
 obtain ⟨c, l, e2, _⟩ := Xdm h
 rw [e] at e2
 cases e2
def joinF (ws : List Aj) : ByteArray := if ws.all Jg = true then X5 (ws.map Ll) sp else ⟨#[]⟩
theorem joinF_ok {ws : List Aj} (hl : ws.length ≤ 2 ^ 30) (h1 : ∀ w ∈ ws, w.text.size ≤ 1048576 ∧ (-9223372036854775808 ≤ w.n ∧ w.n ≤ 9223372036854775807)) (h3 : (X5 (ws.map Ll) sp).size ≤ 140737488355328) : Tc ws (joinF ws) := by
 unfold Tc joinF
 have e : ∀ l : List Aj, ∀ acc : List ByteArray, Xei (fun w (acc : List ByteArray) => if Jg w = true then .inl (acc ++ [Ll w]) else .inr (⟨#[]⟩ : ByteArray)) (fun acc => X5 acc sp) l acc = if l.all Jg = true then X5 (acc ++ l.map Ll) sp else ⟨#[]⟩ := by
  intro l
  induction l with
  | nil => intro acc; simp [Xei]
  | cons a l ih =>
   intro acc
   cases h : Jg a with
   | true => rw [Xep (s' := acc ++ [Ll a]) (by simp [h]), ih, List.all_cons, h, Bool.true_and]; simp
   | false => rw [Xck (r := (⟨#[]⟩ : ByteArray)) (by simp [h]), List.all_cons, h, Bool.false_and]; rfl
 have e0 := e ws []
 rw [List.nil_append] at e0
 rw [← e0]
 refine Bv.row ws (fun (acc : List ByteArray) i => (acc, i)) _ _ (fun i acc => acc = (ws.take i).map Ll) (fun i hi s hs => ⟨fun s' hs' => ?_, fun r hr => ?_⟩) (fun s hs => ?_) (by simp)
 ·subst hs
  obtain ⟨q1, q2⟩ := h1 _ (List.getElem_mem hi)
  cases h : Jg ws[i] with
  | false => simp [h] at hs'
  | true =>
   simp only [h, if_true, Sum.inl.injEq] at hs'
   subst hs'
   refine ⟨?_, by rw [List.take_succ_eq_append_getElem hi, List.map_append]; rfl⟩
   show Io ws _ (i : Int) _
   unfold Io
   rw [if_pos (by omega), Xbu hi, Xcs (by omega)]
   refine ⟨by omega, _, Xcj (by omega), ?_⟩
   rw [if_pos h]
   exact ⟨_, spell_ok q1 q2, _, rfl, by simp; omega, rfl⟩
 ·obtain ⟨q1, q2⟩ := h1 _ (List.getElem_mem hi)
  cases h : Jg ws[i] with
  | true => simp [h] at hr
  | false =>
   simp only [h] at hr
   simp only [Bool.false_eq_true, if_false, Sum.inr.injEq] at hr
   subst hr
   show Io ws _ (i : Int) _
   unfold Io
   rw [if_pos (by omega), Xbu hi]
   refine ⟨by omega, _, Xcj (by omega), ?_⟩
   rw [if_neg (by rw [h]; simp)]
 ·subst hs
  show Io ws _ (ws.length : Int) _
  unfold Io
  rw [if_neg (by omega), List.take_length]
  exact ⟨_, ⟨by simp; omega, h3, rfl⟩, rfl⟩
end Go.Proofs.YtjookebbmfiidaaDoor.L
set_option linter.unusedVariables false
namespace Go.Proofs.YtjookebbmfiidaaDoor.L
open Go.Proofs.YtjookebbmfiidaaDoor.B Go.Proofs.YtjookebbmfiidaaDoor.R
theorem join_one (y : ByteArray) : X5 [y] sp = (⟨#[]⟩ : ByteArray) ++ y := by
 refine Xjr ?_
 rw [Xaz, Xga]
 rfl
def mark (i : Nat) : Aj := ⟨0, (⟨#[]⟩ : ByteArray), 900 + (i : Int), 7⟩
def marks : List Aj := (List.range 20).map mark
end Go.Proofs.YtjookebbmfiidaaDoor.L
set_option linter.unusedVariables false
namespace Go.Proofs.YtjookebbmfiidaaDoor.L
open Go.Proofs.YtjookebbmfiidaaDoor.B Go.Proofs.YtjookebbmfiidaaDoor.R
def nmQ (x : ByteArray) : Bool := !decide (x = Oy) && Jg ⟨1, x, 0, 0⟩
theorem Xkh : Nm nmQ := fun s h => by
 unfold nmQ at h
 rw [Bool.and_eq_true] at h
 refine ⟨by simpa using h.1, fun e => ?_⟩
 rw [e] at h
 exact absurd h.2 (by decide)
theorem Xln {x : ByteArray} (hs : x.size ≤ 2 ^ 50) : Ph ⟨1, x, 0, 0⟩ (Ll ⟨1, x, 0, 0⟩) := by
 unfold Ph Ll
 refine ⟨_, Xcj (w := ⟨1, x, 0, 0⟩) hs, ?_⟩
 by_cases h : Jg ⟨1, x, 0, 0⟩ = true
 ·rw [if_pos h, if_pos h]
  rfl
 ·rw [if_neg h, if_neg h]
theorem Xf0 {x : ByteArray} (hs : x.size ≤ 2 ^ 50) : Pm x (nmQ x) := by
 unfold Pm nmQ
 by_cases h : x = Oy
 ·rw [if_pos h, decide_eq_true h]
  rfl
 ·rw [if_neg h, decide_eq_false h]
  refine ⟨_, Xln hs, ?_⟩
  rw [Qx]
  cases e : Jg ⟨1, x, 0, 0⟩ with
  | true =>
   rw [decide_eq_false (Xm0 e)]
   rfl
  | false =>
   rw [decide_eq_true (sound_no e)]
   rfl
def SzN (x : Ag) : Prop := x.name.size ≤ 1048576 ∧ x.field.size ≤ 1048576 ∧ x.capture.size ≤ 1048576
def SzW (x : Ag) : Prop := x.name.size ≤ 2 ^ 50 ∧ x.field.size ≤ 2 ^ 50 ∧ x.capture.size ≤ 2 ^ 50
theorem Xgn {x : Ag} (hs : SzW x) : Vk x (sndN nmQ x) := by
 obtain ⟨h1, h2, h3⟩ := hs
 have hj : ∀ b, J6 x b (!b && (decide (x.field = noB) || nmQ x.field) && (decide (x.capture = noB) || nmQ x.capture)) := fun b => by
  unfold J6
  cases b with
  | true =>
   rw [if_pos rfl]
   rfl
  | false =>
   rw [if_neg (by simp), Bool.not_false, Bool.true_and]
   have hc : (if x.capture = noB then (decide (x.capture = noB) || nmQ x.capture) = true else ∃ r42 : Bool, Pm x.capture r42 ∧ (decide (x.capture = noB) || nmQ x.capture) = r42) := by
    by_cases g : x.capture = noB
    ·rw [if_pos g, decide_eq_true g]
     rfl
    ·rw [if_neg g, decide_eq_false g, Bool.false_or]
     exact ⟨_, Xf0 h3, rfl⟩
   by_cases g : x.field = noB
   ·rw [if_pos g, decide_eq_true g, Bool.true_or, Bool.true_and]
    exact hc
   ·rw [if_neg g, decide_eq_false g, Bool.false_or]
    refine ⟨_, Xf0 h2, ?_⟩
    cases e : nmQ x.field with
    | false =>
     rw [if_neg (by simp), Bool.false_and]
    | true =>
     rw [if_pos rfl, Bool.true_and]
     exact hc
 unfold Vk sndN
 by_cases hl : x.lit = true
 ·rw [if_pos hl, if_pos hl]
  by_cases hn : x.name = noB
  ·rw [if_pos hn, decide_eq_true hn, Bool.not_true, Bool.false_and]
   exact hj true
  ·rw [if_neg hn, decide_eq_false hn, Bool.not_false, Bool.true_and]
   by_cases hk : x.kids = 0
   ·rw [if_pos hk, decide_eq_true hk]
    exact hj false
   ·rw [if_neg hk, decide_eq_false hk]
    exact hj true
 ·rw [if_neg hl, if_neg hl]
  by_cases hn : x.name = noB
  ·rw [if_pos hn, decide_eq_true hn, Bool.true_or]
   exact hj false
  ·rw [if_neg hn, decide_eq_false hn, Bool.false_or]
   refine ⟨_, Xf0 h1, ?_⟩
   have := hj (!nmQ x.name)
   rw [Bool.not_not] at this
   exact this
theorem Xj8 (c : Nat) : Vo [] (c + 1) = none := rfl
theorem Xa3 : ∀ (l : List Ag) (a b : Nat), Vo l (a + b) = (Vo l a).bind (fun r => Vo r b)
 | l, 0, b => by rw [Nat.zero_add, Yo]; rfl
 | [], a + 1, b => by rw [show a + 1 + b = (a + b) + 1 by omega, Xj8, Xj8]; rfl
 | x :: xs, a + 1, b => by
  rw [show a + 1 + b = (a + b) + 1 by omega, Uu, Uu]
  by_cases h : x.kids < 0
  ·rw [if_pos h, if_pos h]; rfl
  ·rw [if_neg h, if_neg h, show a + b + x.kids.toNat = (a + x.kids.toNat) + b by omega, Xa3 xs]
theorem Xap : ∀ (l : List Ag) (c : Nat) (r : List Ag), Vo l c = some r → r.length + c ≤ l.length ∧ r = l.drop (l.length - r.length)
 | l, 0, r, h => by
  rw [Yo] at h
  injection h with h
  subst h
  simp
 | [], c + 1, r, h => by cases h
 | x :: xs, c + 1, r, h => by
  rw [Uu] at h
  by_cases g : x.kids < 0
  ·rw [if_pos g] at h; cases h
  ·rw [if_neg g] at h
   obtain ⟨h1, h2⟩ := Xap xs _ r h
   refine ⟨by rw [List.length_cons]; omega, ?_⟩
   rw [List.length_cons, show xs.length + 1 - r.length = (xs.length - r.length) + 1 by omega, List.drop_succ_cons]
   exact h2
def Zy (v : List Ag) (at_ : Nat) : Int := match Vo (v.drop at_) 1 with
 | none => -1
 | some r => ((v.length - r.length : Nat) : Int)
theorem Xhf {v : List Ag} {a : Nat} {r : List Ag} (h : Vo (v.drop a) 1 = some r) : Zy v a = ((v.length - r.length : Nat) : Int) := by
 unfold Zy
 rw [h]
theorem Wx {v : List Ag} {a : Nat} (h : Vo (v.drop a) 1 = none) : Zy v a = -1 := by
 unfold Zy
 rw [h]
theorem drop_ix {v : List Ag} {a : Nat} (h : a < v.length) : v.drop a = ix v (a : Int) :: v.drop (a + 1) := by
 have := Za (xs := v) (i := (a : Int)) ⟨by omega, by omega⟩
 rw [Int.toNat_natCast, List.getElem?_eq_getElem h] at this
 rw [List.drop_eq_getElem_cons h, Option.some.inj this]
theorem Xk2 {v : List Ag} (hv : v.length ≤ 2 ^ 40) : ∀ (n a : Nat), v.length - a < n → Nv n v (a : Int) (Zy v a)
 | 0, a, h => absurd h (Nat.not_lt_zero _)
 | n + 1, a, h => by
  show Md (Nv n) v (a : Int) _
  unfold Md
  by_cases g : a < v.length
  ·rw [if_neg (by omega)]
   refine ⟨⟨by omega, by omega⟩, ?_⟩
   have hd := drop_ix g
   unfold Lu
   by_cases k : (ix v (a : Int)).kids < 0
   ·rw [decide_eq_true k, if_pos rfl]
    exact Wx (by rw [hd, Uu, if_pos k])
   ·rw [decide_eq_false k, if_neg (by simp)]
    refine ⟨⟨by omega, by omega⟩, ?_⟩
    have h1 : Vo (v.drop a) 1 = Vo (v.drop (a + 1)) (ix v (a : Int)).kids.toNat := by rw [hd, Uu, if_neg k, Nat.zero_add]
    have key : ∀ (m : Nat) (r : List Ag) (j : Nat), r.length ≤ m → j ≤ (ix v (a : Int)).kids.toNat → Vo (v.drop (a + 1)) j = some r → Bv (fun (s : Int × Int) o => Hr v (a : Int) (Nv n) s.1 s.2 o) (((v.length - r.length : Nat) : Int), (j : Int)) (Zy v a) := by
     intro m
     induction m with
     | zero =>
      intro r j hm hj hr
      obtain ⟨l1, l2⟩ := Xap _ _ _ hr
      have hr0 : r = [] := List.eq_nil_of_length_eq_zero (by omega)
      have hs := Xk2 hv n (v.length - r.length) (by omega)
      refine .done ?_
      dsimp only
      unfold Hr
      by_cases e : (j : Int) < (ix v (a : Int)).kids
      ·rw [if_pos e]
       have hn : Zy v (v.length - r.length) = -1 := Wx (by rw [hr0]; simp; rfl)
       have hn2 : Zy v a = -1 := Wx (by rw [h1, show (ix v (a : Int)).kids.toNat = j + (((ix v (a : Int)).kids.toNat - j - 1) + 1) by omega, Xa3, hr, hr0]; rfl)
       refine ⟨_, hs, ?_⟩
       rw [hn, hn2, if_pos (by decide)]
      ·rw [if_neg e]
       have ej : j = (ix v (a : Int)).kids.toNat := by omega
       rw [Xhf (r := r) (by rw [h1, ← ej, hr])]
     | succ m ih =>
      intro r j hm hj hr
      obtain ⟨l1, l2⟩ := Xap _ _ _ hr
      rw [List.length_drop] at l1 l2
      have hrd : v.drop (v.length - r.length) = r := by
       have e2 : a + 1 + (v.length - (a + 1) - r.length) = v.length - r.length := by omega
       rw [← e2, ← List.drop_drop]
       exact l2.symm
      by_cases e : (j : Int) < (ix v (a : Int)).kids
      ·have hs := Xk2 hv n (v.length - r.length) (by omega)
       cases e1 : Vo r 1 with
       | none =>
        have hn : Zy v (v.length - r.length) = -1 := Wx (by rw [hrd, e1])
        have hn2 : Zy v a = -1 := Wx (by rw [h1, show (ix v (a : Int)).kids.toNat = j + (1 + ((ix v (a : Int)).kids.toNat - j - 1)) by omega, Xa3, hr]; show Vo r _ = none; rw [Xa3, e1]; rfl)
        refine .done ?_
        dsimp only
        unfold Hr
        rw [if_pos e]
        refine ⟨_, hs, ?_⟩
        rw [hn, hn2, if_pos (by decide)]
       | some r' =>
        obtain ⟨l3, l4⟩ := Xap _ _ _ e1
        have hn : Zy v (v.length - r.length) = ((v.length - r'.length : Nat) : Int) := Xhf (by rw [hrd, e1])
        refine .next (s' := (((v.length - r'.length : Nat) : Int), ((j + 1 : Nat) : Int))) ?_ (ih r' (j + 1) (by omega) (by omega) (by rw [Xa3, hr]; exact e1))
        dsimp only
        unfold Hr
        rw [if_pos e]
        refine ⟨_, hs, ?_⟩
        rw [hn, if_neg (by omega), Dx (by omega)]
        rfl
      ·refine .done ?_
       dsimp only
       unfold Hr
       rw [if_neg e]
       have ej : j = (ix v (a : Int)).kids.toNat := by omega
       rw [Xhf (r := r) (by rw [h1, ← ej, hr])]
    have := key _ (v.drop (a + 1)) 0 (Nat.le_refl _) (Nat.zero_le _) (Yo _)
    have e3 : v.length - (v.drop (a + 1)).length = a + 1 := by rw [List.length_drop]; omega
    rw [e3] at this
    rw [Dx (by omega)]
    exact this
  ·rw [if_pos (by omega)]
   unfold Lu
   rw [if_pos rfl]
   exact Wx (by rw [List.drop_eq_nil_of_le (by omega)]; rfl)
theorem Xki {v : List Ag} (hv : v.length ≤ 2 ^ 40) (a : Nat) : Y4 v (a : Int) (Zy v a) := ⟨_, Xk2 hv _ a (Nat.lt_succ_self _)⟩
def Xcm (v : List Ag) (i : Nat) : Bool := sndN nmQ (ix v (i : Int)) && (decide ((ix v (i : Int)).capture = noB) || decide (Vr (ix v (i : Int)).capture v = (i : Int)))
def Xv (v : List Ag) (c : Bi) : Bool := decide (0 ≤ Vr c.a v) && (decide (c.b = noB) || (decide (0 ≤ Vr c.b v) && decide (c.text = noB)))
def Xax (q : Au) : Bool := decide (q.nodes.length ≤ 32) && (decide (q.conds.length ≤ 16) && (decide (Zy q.nodes 0 = (q.nodes.length : Int)) && ((List.range q.nodes.length).all (Xcm q.nodes) && q.conds.all (Xv q.nodes))))
def SzQ (q : Au) : Prop := (∀ x ∈ q.nodes, SzN x) ∧ ∀ c ∈ q.conds, c.a.size ≤ 1048576 ∧ c.b.size ≤ 1048576 ∧ c.text.size ≤ 1048576
def SzR (q : Au) : Prop := ∀ x ∈ q.nodes, SzW x
theorem SzQ.w {q : Au} (h : SzQ q) : SzR q := fun x hx => by
 obtain ⟨h1, h2, h3⟩ := h.1 x hx
 exact ⟨by omega, by omega, by omega⟩
theorem Xdq {α : Type} [Inhabited α] {v : List α} {i : Nat} (h : i < v.length) : ix v (i : Int) ∈ v := by
 have := Za (xs := v) (i := (i : Int)) ⟨by omega, by omega⟩
 exact List.mem_of_getElem? this
theorem Yg {α : Type} [Inhabited α] {v : List α} {i : Nat} (h : i < v.length) : ix v (i : Int) = v[i] := by
 have := Za (xs := v) (i := (i : Int)) ⟨by omega, by omega⟩
 rw [Int.toNat_natCast, List.getElem?_eq_getElem h] at this
 exact (Option.some.inj this).symm
theorem Xbo {q : Au} (hz : SzR q) : Lm q (Xax q) := by
 unfold Lm Xax
 have hj : ∀ b, q.nodes.length ≤ 32 → q.conds.length ≤ 16 → Ia q b (!b && ((List.range q.nodes.length).all (Xcm q.nodes) && q.conds.all (Xv q.nodes))) := fun b hn hc => by
  unfold Ia
  cases b with
  | true =>
   rw [if_pos rfl]
   rfl
  | false =>
   rw [if_neg (by simp), Bool.not_false, Bool.true_and]
   have hcap : ∀ c, Gh q c (Vr c q.nodes) := fun c => Xgj (show q.nodes.length ≤ 2 ^ 40 by omega) q.conds c
   have hlen : (List.range q.nodes.length).length = q.nodes.length := List.length_range
   have h3 : Bv (fun (s : Int) o => Jf q s o) 0 (if q.conds.all (Xv q.nodes) = true then (.inr true : Sum Int Bool) else .inr false) := by
    refine Bv.allThen q.conds (Xv q.nodes) (fun i hi hp => ?_) (fun i hi hp => ?_) (fun h => ?_)
    ·unfold Jf
     rw [if_pos (by omega)]
     refine ⟨⟨by omega, by omega⟩, _, hcap _, ?_⟩
     rw [Yg hi]
     unfold Xv at hp
     simp only [Bool.and_eq_true, Bool.or_eq_true, decide_eq_true_eq] at hp
     rw [if_neg (by omega)]
     by_cases g : q.conds[i].b = noB
     ·rw [if_pos g, Dx (by omega)]
     ·rw [if_neg g]
      obtain ⟨p1, p2⟩ := hp.2.resolve_left g
      refine ⟨_, hcap _, ?_⟩
      rw [if_neg (by omega), if_pos p2, Dx (by omega)]
    ·unfold Jf
     rw [if_pos (by omega)]
     refine ⟨⟨by omega, by omega⟩, _, hcap _, ?_⟩
     rw [Yg hi]
     unfold Xv at hp
     by_cases g1 : Vr q.conds[i].a q.nodes < 0
     ·rw [if_pos g1]
     ·rw [if_neg g1]
      rw [decide_eq_true (by omega), Bool.true_and] at hp
      by_cases g : q.conds[i].b = noB
      ·rw [decide_eq_true g] at hp; cases hp
      ·rw [if_neg g]
       rw [decide_eq_false g, Bool.false_or] at hp
       refine ⟨_, hcap _, ?_⟩
       by_cases g2 : Vr q.conds[i].b q.nodes < 0
       ·rw [if_pos g2]
       ·rw [if_neg g2]
        rw [decide_eq_true (by omega), Bool.true_and] at hp
        rw [if_neg (of_decide_eq_false hp)]
    ·unfold Jf
     rw [if_neg (Int.lt_irrefl _)]
   have h2 : Bv (fun (s : Int) o => Je q s o) 0 (if (List.range q.nodes.length).all (Xcm q.nodes) = true then q.conds.all (Xv q.nodes) else false) := by
    refine Bv.allThen (List.range q.nodes.length) (Xcm q.nodes) (fun i hi hp => ?_) (fun i hi hp => ?_) (fun h => ?_)
    ·rw [hlen] at hi
     rw [List.getElem_range] at hp
     unfold Xcm at hp
     rw [Bool.and_eq_true] at hp
     unfold Je
     rw [if_pos (by omega)]
     refine ⟨⟨by omega, by omega⟩, _, Xgn (hz _ (Xdq hi)), ?_⟩
     rw [hp.1, if_pos rfl]
     have hp2 := hp.2
     by_cases g : (ix q.nodes (i : Int)).capture = noB
     ·rw [if_pos g, Dx (by omega)]
     ·rw [if_neg g]
      rw [decide_eq_false g, Bool.false_or] at hp2
      refine ⟨_, hcap _, ?_⟩
      rw [if_pos (of_decide_eq_true hp2), Dx (by omega)]
    ·rw [hlen] at hi
     rw [List.getElem_range] at hp
     unfold Xcm at hp
     unfold Je
     rw [if_pos (by omega)]
     refine ⟨⟨by omega, by omega⟩, _, Xgn (hz _ (Xdq hi)), ?_⟩
     cases e : sndN nmQ (ix q.nodes (i : Int)) with
     | false => rw [if_neg (by simp)]
     | true =>
      rw [e, Bool.true_and] at hp
      rw [if_pos rfl]
      by_cases g : (ix q.nodes (i : Int)).capture = noB
      ·rw [decide_eq_true g] at hp; cases hp
      ·rw [if_neg g]
       rw [decide_eq_false g, Bool.false_or] at hp
       refine ⟨_, hcap _, ?_⟩
       rw [if_neg (of_decide_eq_false hp)]
    ·rw [hlen]
     unfold Je
     rw [if_neg (Int.lt_irrefl _)]
     cases e : q.conds.all (Xv q.nodes) with
     | true => rw [e, if_pos rfl] at h3; exact h3
     | false => rw [e, if_neg (by simp)] at h3; exact h3
   cases e : (List.range q.nodes.length).all (Xcm q.nodes) with
   | true => rw [e, if_pos rfl] at h2; exact h2
   | false => rw [e, if_neg (by simp)] at h2; exact h2
 have hj0 : Ia q true false := by
  unfold Ia
  rw [if_pos rfl]
 by_cases g1 : q.nodes.length ≤ 32
 ·rw [decide_eq_true g1, Bool.true_and, if_neg (by omega)]
  by_cases g2 : q.conds.length ≤ 16
  ·rw [decide_eq_true g2, Bool.true_and, if_neg (by omega)]
   refine ⟨_, Xki (show q.nodes.length ≤ 2 ^ 40 by omega) 0, ?_⟩
   have e : (Zy q.nodes 0 != (q.nodes.length : Int)) = !decide (Zy q.nodes 0 = (q.nodes.length : Int)) := by
    rw [bne, Bool.beq_eq_decide_eq]
   rw [e]
   have := hj (!decide (Zy q.nodes 0 = (q.nodes.length : Int))) g1 g2
   rw [Bool.not_not] at this
   exact this
  ·rw [decide_eq_false g2, Bool.false_and, if_pos (by omega)]
   exact hj0
 ·rw [decide_eq_false g1, Bool.false_and, if_pos (by omega)]
  exact hj0
end Go.Proofs.YtjookebbmfiidaaDoor.L
