/- Queries: whole queries that are well shaped; what both print. Condition: sizes. -/
import Derived.Test.YtjookebbmfiidaaDoorSI
set_option linter.unusedVariables false
namespace Go.Proofs.YtjookebbmfiidaaDoor.L
open Go.Proofs.YtjookebbmfiidaaDoor.B Go.Proofs.YtjookebbmfiidaaDoor.R
theorem J8.self (v : List Ag) : J8 v (O1 v) := fun c => Iff.rfl
theorem Xid {v : List Ag} {c : ByteArray} : 0 ≤ Vz c v ↔ c ∈ O1 v := by
 rw [← Xaj]
 exact Xa5 (J8.self v) c
theorem nodup_of {v : List Ag} (h : ∀ i, i < v.length → (ix v (i : Int)).capture = noB ∨ Vz (ix v (i : Int)).capture v = (i : Int)) : (O1 v).Nodup := by
 unfold O1
 rw [List.Nodup, List.pairwise_filter, List.pairwise_map, List.pairwise_iff_getElem]
 intro i j hi hj hij hp hq he
 have hp' : v[i].capture ≠ noB := by simpa using hp
 have h1 := (h j hj).resolve_left (by rw [Y5 hj, ← he]; exact hp')
 rw [Y5 hj, ← he] at h1
 unfold Vz at h1
 rw [if_neg hp'] at h1
 cases e : Vo v[i].capture v with
 | none => rw [e] at h1; dsimp only at h1; omega
 | some m =>
  rw [e] at h1
  dsimp only at h1
  unfold Vo at e
  rw [List.findIdx?_eq_some_iff_getElem] at e
  obtain ⟨h2, h3, h4⟩ := e
  exact h4 i (by omega) (decide_eq_true rfl)
theorem of_nodup {v : List Ag} (h : (O1 v).Nodup) {i : Nat} (hi : i < v.length) : (ix v (i : Int)).capture = noB ∨ Vz (ix v (i : Int)).capture v = (i : Int) := by
 by_cases g : (ix v (i : Int)).capture = noB
 ·exact .inl g
 right
 unfold Vz
 rw [if_neg g]
 have hex : (Vo (ix v (i : Int)).capture v).isSome = true := Xim.2 ⟨_, Xf1 hi, rfl⟩
 cases e : Vo (ix v (i : Int)).capture v with
 | none => rw [e] at hex; cases hex
 | some m =>
  dsimp only
  unfold Vo at e
  rw [List.findIdx?_eq_some_iff_getElem] at e
  obtain ⟨h2, h3, h4⟩ := e
  have h3' := of_decide_eq_true h3
  rw [Y5 hi] at g h3' h4
  have hm : m ≤ i := by
   by_cases hc : i < m
   ·exact absurd (decide_eq_true rfl) (h4 i hc)
   ·omega
  by_cases hc : m < i
  ·exfalso
   unfold O1 at h
   rw [List.Nodup, List.pairwise_filter, List.pairwise_map, List.pairwise_iff_getElem] at h
   exact h m i h2 hi hc (by simpa [h3'] using g) (by simpa using g) h3'
  ·congr 1; omega
theorem Xdx {q : Aw} : V8 q = true ↔ Xho nmQ q.nodes q.conds := by
 unfold V8 Xho
 simp only [Bool.and_eq_true, decide_eq_true_eq, List.all_eq_true, List.mem_range]
 have hbeh : Zn q.nodes 0 = (q.nodes.length : Int) ↔ Vx q.nodes 1 = some [] := by
  unfold Zn
  rw [List.drop_zero]
  cases e : Vx q.nodes 1 with
  | none => exact ⟨fun h => (by dsimp only at h; omega), fun h => by cases h⟩
  | some r =>
   have := (Zw _ _ _ e).1
   constructor
   ·intro h
    dsimp only at h
    rw [List.eq_nil_of_length_eq_zero (show r.length = 0 by omega)]
   ·intro h
    injection h with h
    subst h
    simp
 have hcond : ∀ c : Bi, Xv q.nodes c = true ↔ Xgn (O1 q.nodes) c := fun c => by
  unfold Xv Xgn
  simp only [Bool.and_eq_true, Bool.or_eq_true, decide_eq_true_eq]
  rw [Xid, Xid]
 constructor
 ·rintro ⟨h1, h2, h3, h4, h5⟩
  have h4' : ∀ i, i < q.nodes.length → sndN nmQ (ix q.nodes (i : Int)) = true ∧ ((ix q.nodes (i : Int)).capture = noB ∨ Vz (ix q.nodes (i : Int)).capture q.nodes = (i : Int)) := fun i hi => by
   have := h4 i hi
   unfold Xcl at this
   simpa only [Bool.and_eq_true, Bool.or_eq_true, decide_eq_true_eq] using this
  refine ⟨h1, h2, hbeh.1 h3, fun x hx => ?_, nodup_of fun i hi => (h4' i hi).2, fun c hc => (hcond c).1 (h5 c hc)⟩
  obtain ⟨i, hi, rfl⟩ := List.getElem_of_mem hx
  rw [← Y5 hi]
  exact (h4' i hi).1
 ·rintro ⟨h1, h2, h3, h4, h5, h6⟩
  refine ⟨h1, h2, hbeh.2 h3, fun i hi => ?_, fun c hc => (hcond c).2 (h6 c hc)⟩
  unfold Xcl
  simp only [Bool.and_eq_true, Bool.or_eq_true, decide_eq_true_eq]
  exact ⟨h4 _ (Xf1 hi), of_nodup h5 hi⟩
theorem Xfq {q : Aw} (h : V8 q = true) : ∃ x k, q.nodes = x :: Bz k ∧ Vf nmQ x k q.conds := by
 obtain ⟨x, k, h1, h2⟩ := Xdv.1 (Xdx.1 h)
 refine ⟨x, k, ?_, h2⟩
 rw [h1]
 simp [Bz]
theorem Xf6 {x : Ag} {k : PF} {l : List Bi} (h : Vf nmQ x k l) : V8 ⟨x :: Bz k, l⟩ = true := by
 refine Xdx.2 (Xdv.2 ⟨x, k, ?_, h⟩)
 simp [Bz]
def SzT (t : Tk) : Prop := t.2.size ≤ 1048576
theorem mkW_sz {t : Tk} (h : SzT t) : (mkW t).text.size ≤ 1048576 ∧ (-9223372036854775808 ≤ (mkW t).n ∧ (mkW t).n ≤ 9223372036854775807) := ⟨h, show (-9223372036854775808 : Int) ≤ 0 by decide, show (0 : Int) ≤ 9223372036854775807 by decide⟩
theorem Xdg : ∀ (g : PF), (∀ x ∈ Bz g, SzN x) → ∀ t ∈ Em g, SzT t
 | .nil, _, t, ht => by cases ht
 | .cons x k s, hz, t, ht => by
  have h0 := hz x (by simp [Bz])
  obtain ⟨h1, h2, h3⟩ := h0
  have hk := Xdg k (fun y hy => hz y (by simp [Bz, hy]))
  have hs := Xdg s (fun y hy => hz y (by simp [Bz, hy]))
  have small : ∀ b : ByteArray, b.size ≤ 8 → b.size ≤ 1048576 := fun b h => by omega
  simp only [Em, List.mem_append] at ht
  rcases ht with ht | ht | ht | ht
  ·unfold Ya at ht
   split at ht
   ·cases ht
   ·rcases List.mem_cons.1 ht with rfl | ht
    ·exact h2
    ·rw [List.mem_singleton.1 ht]; exact small _ (by decide)
  ·split at ht
   ·rw [List.mem_singleton.1 ht]; exact h1
   ·rcases List.mem_cons.1 ht with rfl | ht
    ·exact small _ (by decide)
    rcases List.mem_cons.1 ht with rfl | ht
    ·unfold Pg SzT
     dsimp only
     split
     ·exact small _ (by decide)
     ·exact h1
    rcases List.mem_append.1 ht with ht | ht
    ·exact hk t ht
    ·rw [List.mem_singleton.1 ht]; exact small _ (by decide)
  ·unfold Qr at ht
   split at ht
   ·cases ht
   ·rcases List.mem_cons.1 ht with rfl | ht
    ·exact small _ (by decide)
    ·rw [List.mem_singleton.1 ht]; exact h3
  ·exact hs t ht
theorem Xly {c : Bi} (h : c.a.size ≤ 1048576 ∧ c.b.size ≤ 1048576 ∧ c.text.size ≤ 1048576) : ∀ t ∈ Ia c, SzT t := fun t ht => by
 obtain ⟨h1, h2, h3⟩ := h
 have small : ∀ b : ByteArray, b.size ≤ 8 → b.size ≤ 1048576 := fun b h => by omega
 unfold Ia at ht
 rcases List.mem_cons.1 ht with rfl | ht
 ·unfold SzT
  dsimp only
  split
  ·exact small _ (by decide)
  ·exact small _ (by decide)
 rcases List.mem_cons.1 ht with rfl | ht
 ·exact small _ (by decide)
 rcases List.mem_cons.1 ht with rfl | ht
 ·exact h1
 rcases List.mem_cons.1 ht with rfl | ht
 ·exact small _ (by decide)
 split at ht
 ·rw [List.mem_singleton.1 ht]; exact h3
 ·rcases List.mem_cons.1 ht with rfl | ht
  ·exact small _ (by decide)
  ·rw [List.mem_singleton.1 ht]; exact h2
theorem Xlb {x : Ag} {k : PF} {l : List Bi} (hz : SzQ ⟨x :: Bz k, l⟩) : ∀ t ∈ Tq x k l, SzT t := fun t ht => by
 unfold Tq at ht
 rcases List.mem_append.1 ht with ht | ht
 ·exact Xdg (.cons x k .nil) (fun y hy => hz.1 y (by simpa [Bz] using hy)) t ht
 ·obtain ⟨c, hc, ht⟩ := List.mem_flatMap.1 ht
  exact Xly (hz.2 c hc) t ht
theorem Xjz {x : Ag} {k : PF} {l : List Bi} (h : (Bz k).length + 1 ≤ 32) (hc : l.length ≤ 16) : (Tq x k l).length ≤ 400 := by
 have hcw : ∀ c : Bi, (Ia c).length ≤ 6 := fun c => by unfold Ia; by_cases g : c.b = noB <;> simp [g]
 have h1 : ∀ l : List Bi, (l.flatMap Ia).length ≤ 6 * l.length := fun l => by
  induction l with
  | nil => exact Nat.le_refl _
  | cons c l ih =>
   rw [List.flatMap_cons, List.length_append, List.length_cons]
   have := hcw c
   omega
 have h2 := Uu (.cons x k .nil)
 simp only [Bz, List.append_nil, List.length_cons] at h2
 unfold Tq
 rw [List.length_append]
 have := h1 l
 omega
def textQ (x : Ag) (k : PF) (l : List Bi) : ByteArray := joinF ((Tq x k l).map mkW)
theorem Vf.len {x : Ag} {k : PF} {l : List Bi} (h : Vf nmQ x k l) : (Bz k).length + 1 ≤ 32 ∧ l.length ≤ 16 := by
 obtain ⟨_, _, _, h4, h5, _⟩ := h
 simp only [Bz, List.append_nil, List.length_cons] at h4
 exact ⟨h4, h5⟩
theorem Xio {x : Ag} {k : PF} {l : List Bi} (h : Vf nmQ x k l) (hz : SzQ ⟨x :: Bz k, l⟩) : ((Tq x k l).map mkW).length ≤ 400 ∧ ∀ w ∈ (Tq x k l).map mkW, w.text.size ≤ 1048576 ∧ (-9223372036854775808 ≤ w.n ∧ w.n ≤ 9223372036854775807) := by
 refine ⟨by rw [List.length_map]; exact Xjz h.len.1 h.len.2, fun w hw => ?_⟩
 obtain ⟨t, ht, rfl⟩ := List.mem_map.1 hw
 exact mkW_sz (Xlb hz t ht)
theorem Xi7 {x : Ag} {k : PF} {l : List Bi} (h : Vf nmQ x k l) (hz : SzQ ⟨x :: Bz k, l⟩) : Xy ⟨x :: Bz k, l⟩ (textQ x k l, 0) := by
 obtain ⟨hl1, hl2⟩ := h.len
 obtain ⟨w1, w2⟩ := Xio h hz
 refine ⟨true, ?_, ?_⟩
 ·rw [← Xf6 h]; exact Ur hz.w
 rw [if_pos rfl]
 have hn := qnode (q := ⟨x :: Bz k, l⟩) (by simp only [List.length_cons]; omega) ((Bz k).length + 1) x k [] [] [] (by simp) h.1 h.2.1 (Nat.le_refl _) (by simp only [List.length_nil]; omega)
 refine ⟨_, ⟨_, hn⟩, ?_⟩
 have hwp := Uu (.cons x k .nil)
 simp only [Bz, List.append_nil, List.length_cons] at hwp
 refine qconds (q := ⟨x :: Bz k, l⟩) hl2 (l := [] ++ (Em (.cons x k .nil)).map mkW) (by rw [List.nil_append, List.length_map]; omega) ?_
 rw [List.nil_append, ← List.map_append]
 show Tu ((Tq x k l).map mkW) _
 have hsz := Xlo (fun w hw => (w2 w hw).1)
 have : ((Tq x k l).map mkW).length * (4 * 1048576 + 9) ≤ 400 * (4 * 1048576 + 9) := Nat.mul_le_mul_right _ w1
 exact joinF_ok (by omega) w2 (by omega)
end Go.Proofs.YtjookebbmfiidaaDoor.L
