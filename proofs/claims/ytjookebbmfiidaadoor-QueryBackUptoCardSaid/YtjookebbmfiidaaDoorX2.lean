/- Queries: whole queries that are well shaped; what both print. Condition: sizes. -/
import Derived.Test.YtjookebbmfiidaaDoorSI
import Derived.Test.YtjookebbmfiidaaDoorX1
set_option linter.unusedVariables false
namespace Go.Proofs.YtjookebbmfiidaaDoor.L
open Go.Proofs.YtjookebbmfiidaaDoor.B Go.Proofs.YtjookebbmfiidaaDoor.R
theorem Fe.self (v : List Ae) : Fe v (Hv v) := fun c => Iff.rfl
theorem Xb1 {v : List Ae} {c : ByteArray} : 0 ≤ J8 c v ↔ c ∈ Hv v := by
 rw [← Rk]
 exact R8 (Fe.self v) c
theorem nodup_of {v : List Ae} (h : ∀ i, i < v.length → (ix v (i : Int)).capture = noB ∨ J8 (ix v (i : Int)).capture v = (i : Int)) : (Hv v).Nodup := by
 unfold Hv
 rw [List.Nodup, List.pairwise_filter, List.pairwise_map, List.pairwise_iff_getElem]
 intro i j hi hj hij hp hq he
 have hp' : v[i].capture ≠ noB := by simpa using hp
 have h1 := (h j hj).resolve_left (by rw [Nt hj, ← he]; exact hp')
 rw [Nt hj, ← he] at h1
 unfold J8 at h1
 rw [if_neg hp'] at h1
 cases e : K7 v[i].capture v with
 | none => rw [e] at h1; dsimp only at h1; omega
 | some m =>
  rw [e] at h1
  dsimp only at h1
  unfold K7 at e
  rw [List.findIdx?_eq_some_iff_getElem] at e
  obtain ⟨h2, h3, h4⟩ := e
  exact h4 i (by omega) (decide_eq_true rfl)
theorem of_nodup {v : List Ae} (h : (Hv v).Nodup) {i : Nat} (hi : i < v.length) : (ix v (i : Int)).capture = noB ∨ J8 (ix v (i : Int)).capture v = (i : Int) := by
 by_cases g : (ix v (i : Int)).capture = noB
 ·exact .inl g
 right
 unfold J8
 rw [if_neg g]
 have hex : (K7 (ix v (i : Int)).capture v).isSome = true := Xa6.2 ⟨_, Ux hi, rfl⟩
 cases e : K7 (ix v (i : Int)).capture v with
 | none => rw [e] at hex; cases hex
 | some m =>
  dsimp only
  unfold K7 at e
  rw [List.findIdx?_eq_some_iff_getElem] at e
  obtain ⟨h2, h3, h4⟩ := e
  have h3' := of_decide_eq_true h3
  rw [Nt hi] at g h3' h4
  have hm : m ≤ i := by
   by_cases hc : i < m
   ·exact absurd (decide_eq_true rfl) (h4 i hc)
   ·omega
  by_cases hc : m < i
  ·exfalso
   unfold Hv at h
   rw [List.Nodup, List.pairwise_filter, List.pairwise_map, List.pairwise_iff_getElem] at h
   exact h m i h2 hi hc (by simpa [h3'] using g) (by simpa using g) h3'
  ·congr 1; omega
theorem Vr {q : Aj} : Lr q = true ↔ Yw nmQ q.nodes q.conds := by
 unfold Lr Yw
 simp only [Bool.and_eq_true, decide_eq_true_eq, List.all_eq_true, List.mem_range]
 have hbeh : Mx q.nodes 0 = (q.nodes.length : Int) ↔ L8 q.nodes 1 = some [] := by
  unfold Mx
  rw [List.drop_zero]
  cases e : L8 q.nodes 1 with
  | none => exact ⟨fun h => (by dsimp only at h; omega), fun h => by cases h⟩
  | some r =>
   have := (Pn _ _ _ e).1
   constructor
   ·intro h
    dsimp only at h
    rw [List.eq_nil_of_length_eq_zero (show r.length = 0 by omega)]
   ·intro h
    injection h with h
    subst h
    simp
 have hcond : ∀ c : Ax, Ke q.nodes c = true ↔ Yc (Hv q.nodes) c := fun c => by
  unfold Ke Yc
  simp only [Bool.and_eq_true, Bool.or_eq_true, decide_eq_true_eq]
  rw [Xb1, Xb1]
 constructor
 ·rintro ⟨h1, h2, h3, h4, h5⟩
  have h4' : ∀ i, i < q.nodes.length → sndN nmQ (ix q.nodes (i : Int)) = true ∧ ((ix q.nodes (i : Int)).capture = noB ∨ J8 (ix q.nodes (i : Int)).capture q.nodes = (i : Int)) := fun i hi => by
   have := h4 i hi
   unfold O3 at this
   simpa only [Bool.and_eq_true, Bool.or_eq_true, decide_eq_true_eq] using this
  refine ⟨h1, h2, hbeh.1 h3, fun x hx => ?_, nodup_of fun i hi => (h4' i hi).2, fun c hc => (hcond c).1 (h5 c hc)⟩
  obtain ⟨i, hi, rfl⟩ := List.getElem_of_mem hx
  rw [← Nt hi]
  exact (h4' i hi).1
 ·rintro ⟨h1, h2, h3, h4, h5, h6⟩
  refine ⟨h1, h2, hbeh.2 h3, fun i hi => ?_, fun c hc => (hcond c).2 (h6 c hc)⟩
  unfold O3
  simp only [Bool.and_eq_true, Bool.or_eq_true, decide_eq_true_eq]
  exact ⟨h4 _ (Ux hi), of_nodup h5 hi⟩
theorem Xi {q : Aj} (h : Lr q = true) : ∃ x k, q.nodes = x :: B4 k ∧ Kk nmQ x k q.conds := by
 obtain ⟨x, k, h1, h2⟩ := Vl.1 (Vr.1 h)
 refine ⟨x, k, ?_, h2⟩
 rw [h1]
 simp [B4]
theorem X1 {x : Ae} {k : PF} {l : List Ax} (h : Kk nmQ x k l) : Lr ⟨x :: B4 k, l⟩ = true := by
 refine Vr.2 (Vl.2 ⟨x, k, ?_, h⟩)
 simp [B4]
def SzT (t : Tk) : Prop := t.2.size ≤ 1048576
theorem mkW_sz {t : Tk} (h : SzT t) : (mkW t).text.size ≤ 1048576 ∧ (-9223372036854775808 ≤ (mkW t).n ∧ (mkW t).n ≤ 9223372036854775807) := ⟨h, show (-9223372036854775808 : Int) ≤ 0 by decide, show (0 : Int) ≤ 9223372036854775807 by decide⟩
theorem V9 : ∀ (g : PF), (∀ x ∈ B4 g, SzN x) → ∀ t ∈ C7 g, SzT t
 | .nil, _, t, ht => by cases ht
 | .cons x k s, hz, t, ht => by
  have h0 := hz x (by simp [B4])
  obtain ⟨h1, h2, h3⟩ := h0
  have hk := V9 k (fun y hy => hz y (by simp [B4, hy]))
  have hs := V9 s (fun y hy => hz y (by simp [B4, hy]))
  have small : ∀ b : ByteArray, b.size ≤ 8 → b.size ≤ 1048576 := fun b h => by omega
  simp only [C7, List.mem_append] at ht
  rcases ht with ht | ht | ht | ht
  ·unfold Od at ht
   split at ht
   ·cases ht
   ·rcases List.mem_cons.1 ht with rfl | ht
    ·exact h2
    ·rw [List.mem_singleton.1 ht]; exact small _ (by decide)
  ·split at ht
   ·rw [List.mem_singleton.1 ht]; exact h1
   ·rcases List.mem_cons.1 ht with rfl | ht
    ·exact small _ (by decide)
    rcases List.mem_cons.1 ht with rfl | ht
    ·unfold Ic SzT
     dsimp only
     split
     ·exact small _ (by decide)
     ·exact h1
    rcases List.mem_append.1 ht with ht | ht
    ·exact hk t ht
    ·rw [List.mem_singleton.1 ht]; exact small _ (by decide)
  ·unfold Jf at ht
   split at ht
   ·cases ht
   ·rcases List.mem_cons.1 ht with rfl | ht
    ·exact small _ (by decide)
    ·rw [List.mem_singleton.1 ht]; exact h3
  ·exact hs t ht
theorem Xdk {c : Ax} (h : c.a.size ≤ 1048576 ∧ c.b.size ≤ 1048576 ∧ c.text.size ≤ 1048576) : ∀ t ∈ E8 c, SzT t := fun t ht => by
 obtain ⟨h1, h2, h3⟩ := h
 have small : ∀ b : ByteArray, b.size ≤ 8 → b.size ≤ 1048576 := fun b h => by omega
 unfold E8 at ht
 rcases List.mem_cons.1 ht with rfl | ht
 ·unfold SzT
  dsimp only
  split
  ·exact small _ (by decide)
  ·exact small _ (by decide)
 rcases List.mem_cons.1 ht with rfl | ht
 ·exact small _ (by decide)
 rcases List.mem_cons.1 ht with rfl | ht
 ·exact h1
 rcases List.mem_cons.1 ht with rfl | ht
 ·exact small _ (by decide)
 split at ht
 ·rw [List.mem_singleton.1 ht]; exact h3
 ·rcases List.mem_cons.1 ht with rfl | ht
  ·exact small _ (by decide)
  ·rw [List.mem_singleton.1 ht]; exact h2
theorem Xdd {x : Ae} {k : PF} {l : List Ax} (hz : SzQ ⟨x :: B4 k, l⟩) : ∀ t ∈ Id x k l, SzT t := fun t ht => by
 unfold Id at ht
 rcases List.mem_append.1 ht with ht | ht
 ·exact V9 (.cons x k .nil) (fun y hy => hz.1 y (by simpa [B4] using hy)) t ht
 ·obtain ⟨c, hc, ht⟩ := List.mem_flatMap.1 ht
  exact Xdk (hz.2 c hc) t ht
theorem Wb {x : Ae} {k : PF} {l : List Ax} (h : (B4 k).length + 1 ≤ 32) (hc : l.length ≤ 16) : (Id x k l).length ≤ 400 := by
 have hcw : ∀ c : Ax, (E8 c).length ≤ 6 := fun c => by unfold E8; by_cases g : c.b = noB <;> simp [g]
 have h1 : ∀ l : List Ax, (l.flatMap E8).length ≤ 6 * l.length := fun l => by
  induction l with
  | nil => exact Nat.le_refl _
  | cons c l ih =>
   rw [List.flatMap_cons, List.length_append, List.length_cons]
   have := hcw c
   omega
 have h2 := Ma (.cons x k .nil)
 simp only [B4, List.append_nil, List.length_cons] at h2
 unfold Id
 rw [List.length_append]
 have := h1 l
 omega
def Wh (x : Ae) (k : PF) (l : List Ax) : ByteArray := joinF ((Id x k l).map mkW)
theorem Kk.len {x : Ae} {k : PF} {l : List Ax} (h : Kk nmQ x k l) : (B4 k).length + 1 ≤ 32 ∧ l.length ≤ 16 := by
 obtain ⟨_, _, _, h4, h5, _⟩ := h
 simp only [B4, List.append_nil, List.length_cons] at h4
 exact ⟨h4, h5⟩
theorem Xaf {x : Ae} {k : PF} {l : List Ax} (h : Kk nmQ x k l) (hz : SzQ ⟨x :: B4 k, l⟩) : ((Id x k l).map mkW).length ≤ 400 ∧ ∀ w ∈ (Id x k l).map mkW, w.text.size ≤ 1048576 ∧ (-9223372036854775808 ≤ w.n ∧ w.n ≤ 9223372036854775807) := by
 refine ⟨by rw [List.length_map]; exact Wb h.len.1 h.len.2, fun w hw => ?_⟩
 obtain ⟨t, ht, rfl⟩ := List.mem_map.1 hw
 exact mkW_sz (Xdd hz t ht)
theorem Tx {x : Ae} {k : PF} {l : List Ax} (h : Kk nmQ x k l) (hz : SzQ ⟨x :: B4 k, l⟩) : L3 ⟨x :: B4 k, l⟩ (Wh x k l, 0) := by
 obtain ⟨hl1, hl2⟩ := h.len
 obtain ⟨w1, w2⟩ := Xaf h hz
 refine ⟨true, ?_, ?_⟩
 ·rw [← X1 h]; exact Ns hz
 rw [if_pos rfl]
 have hn := qnode (q := ⟨x :: B4 k, l⟩) (by simp only [List.length_cons]; omega) ((B4 k).length + 1) x k [] [] [] (by simp) h.1 h.2.1 (Nat.le_refl _) (by simp only [List.length_nil]; omega)
 refine ⟨_, ⟨_, hn⟩, ?_⟩
 have hwp := Ma (.cons x k .nil)
 simp only [B4, List.append_nil, List.length_cons] at hwp
 refine qconds (q := ⟨x :: B4 k, l⟩) hl2 (l := [] ++ (C7 (.cons x k .nil)).map mkW) (by rw [List.nil_append, List.length_map]; omega) ?_
 rw [List.nil_append, ← List.map_append]
 show Kr ((Id x k l).map mkW) _
 have hsz := Xdm (fun w hw => (w2 w hw).1)
 have : ((Id x k l).map mkW).length * (4 * 1048576 + 9) ≤ 400 * (4 * 1048576 + 9) := Nat.mul_le_mul_right _ w1
 exact joinF_ok (by omega) w2 (by omega)
theorem Xdg {q : Aj} (h : Lr q = false) (hz : SzQ q) : L3 q (noB, 200) ∧ Tc q (noB, 200) := by
 refine ⟨⟨false, ?_, ?_⟩, ⟨false, ?_, ?_⟩⟩
 ·rw [← h]; exact Ns hz
 ·rw [if_neg (by simp)]
 ·rw [← h]; exact Ys hz
 ·rw [if_neg (by simp)]
end Go.Proofs.YtjookebbmfiidaaDoor.L
set_option linter.unusedVariables false
namespace Go.Proofs.YtjookebbmfiidaaDoor.L
open Go.Proofs.YtjookebbmfiidaaDoor.B Go.Proofs.YtjookebbmfiidaaDoor.R
def covB (n : As) (s : ByteArray) : ByteArray := if max n.from_ 0 ≥ min n.to (s.size : Int) then noB else s.extract (max n.from_ 0).toNat (min n.to (s.size : Int)).toNat
theorem cov_ok (n : As) (s : ByteArray) : Kb n s (covB n s) := by
  unfold Kb covB
  by_cases h : max n.from_ 0 ≥ min n.to (s.size : Int)
  · rw [if_pos h, if_pos h]
  · rw [if_neg h, if_neg h]
    exact ⟨⟨by omega, by omega, by omega⟩, rfl⟩
def capB_ (ns : List Ae) (t : List As) (s : ByteArray) (l : List Int) (c : ByteArray) : ByteArray := covB (ix t (ix l (J8 c ns))) s
def rightB (ns : List Ae) (t : List As) (s : ByteArray) (l : List Int) (c : Ax) : ByteArray := if c.b = noB then c.text else capB_ ns t s l c.b
def badC (ns : List Ae) (t : List As) (s : ByteArray) (l : List Int) (c : Ax) : Bool := decide (capB_ ns t s l c.a = rightB ns t s l c) == c.not
def Range (t : List As) (l : List Int) : Prop := ∀ y ∈ l, 0 ≤ y ∧ y < (t.length : Int)
section
variable {q : Aj} {t : List As} {s : ByteArray} {l : List Int}
theorem capN_lt {ns : List Ae} {c : ByteArray} : J8 c ns < (ns.length : Int) := by
  unfold J8
  split
  · omega
  · cases e : K7 c ns with
    | none => dsimp only; omega
    | some i =>
      dsimp only
      unfold K7 at e
      rw [List.findIdx?_eq_some_iff_getElem] at e
      have := e.1
      omega
theorem Zh (hq : q.nodes.length ≤ 2 ^ 40) (hl : l.length = q.nodes.length) (hr : Range t l) {c : ByteArray} (hc : 0 ≤ J8 c q.nodes) : L5 c t l q s (capB_ q.nodes t s l c, t, l, q, s) := by
  have h1 := capN_lt (ns := q.nodes) (c := c)
  have hin : 0 ≤ J8 c q.nodes ∧ J8 c q.nodes < (l.length : Int) := ⟨hc, by omega⟩
  have hm := hr _ (Ux (v := l) (i := (J8 c q.nodes).toNat) (by omega))
  rw [Int.toNat_of_nonneg hc] at hm
  exact ⟨_, Yl hq q.conds c, hin, hm, _, cov_ok _ _, rfl⟩
theorem all2_ok (hq : q.nodes.length ≤ 2 ^ 40) (hl : l.length = q.nodes.length) (hr : Range t l) {c : Ax} (hc : Ke q.nodes c = true) : Mp c t l q s (badC q.nodes t s l c, t, l, q, s) := by
  unfold Ke at hc
  simp only [Bool.and_eq_true, Bool.or_eq_true, decide_eq_true_eq] at hc
  unfold Mp badC rightB
  by_cases g : c.b = noB
  · rw [if_pos g, if_pos g, ← Jy]
    exact ⟨_, Zh hq hl hr hc.1, rfl⟩
  · rw [if_neg g, if_neg g, ← Jy]
    exact ⟨_, Zh hq hl hr (hc.2.resolve_left g).1, _, Zh hq hl hr hc.1, rfl⟩
theorem Xan (hq : q.nodes.length ≤ 2 ^ 40) (hcl : q.conds.length ≤ 2 ^ 40) (hl : l.length = q.nodes.length) (hr : Range t l) (hc : q.conds.all (Ke q.nodes) = true) : Cf q.conds t l q s (q.conds.any (badC q.nodes t s l), t, l, q, s) := by
  have key : ∀ (d i : Nat), q.conds.length - i = d → i ≤ q.conds.length → ∃ j : Int, B0 (fun (z : Int × ByteArray) o => Bo q.conds t l q z.1 z.2 o) ((i : Int), s) (j, t, l, q, s) ∧ decide (j ≥ 0) = (q.conds.drop i).any (badC q.nodes t s l) := by
    intro d
    induction d with
    | zero =>
      intro i hd hi
      have : i = q.conds.length := by omega
      subst this
      refine ⟨-1, .done ?_, by rw [List.drop_length]; rfl⟩
      dsimp only
      unfold Bo
      rw [if_neg (Int.lt_irrefl _)]
    | succ d ih =>
      intro i hd hi
      have hlt : i < q.conds.length := by omega
      have hix := Nt hlt
      have hdr : q.conds.drop i = q.conds[i] :: q.conds.drop (i + 1) := List.drop_eq_getElem_cons hlt
      have h2 := all2_ok (s := s) hq hl hr (List.all_eq_true.1 hc _ (List.getElem_mem hlt))
      have hb : ∀ oo, (if badC q.nodes t s l q.conds[i] = true then oo = .inr ((i : Int), t, l, q, s) else oo = .inl (w64 ((i : Int) + 1), s)) → Bo q.conds t l q (i : Int) s oo := fun oo h => by
        unfold Bo
        rw [if_pos (by omega), hix]
        exact ⟨⟨by omega, by omega⟩, _, h2, h⟩
      rw [hdr, List.any_cons]
      cases e : badC q.nodes t s l q.conds[i] with
      | true =>
        rw [e] at hb
        exact ⟨(i : Int), .done (hb _ (by rw [if_pos rfl])), by rw [Bool.true_or]; exact decide_eq_true (Int.natCast_nonneg i)⟩
      | false =>
        rw [e] at hb
        obtain ⟨j, j1, j2⟩ := ih (i + 1) (by omega) (by omega)
        refine ⟨j, .next (hb (.inl (((i + 1 : Nat) : Int), s)) ?_) j1, by rw [Bool.false_or]; exact j2⟩
        rw [if_neg (by simp), Bm (by omega)]
        rfl
  obtain ⟨j, j1, j2⟩ := key q.conds.length 0 rfl (Nat.zero_le _)
  refine ⟨(j, t, l, q, s), j1, ?_⟩
  rw [List.drop_zero] at j2
  rw [← j2]
end
def Qh (ns : List Ae) (cs : List Ax) (t : List As) (s : ByteArray) (x : Ae) (k : PF) (v : Nat) : Option Cd := match atN t x k (v : Int) with
  | none => none
  | some l => if cs.any (badC ns t s l) = true then none else some ⟨l⟩
def allF (x : Ae) (k : PF) (cs : List Ax) (t : List As) (s : ByteArray) : List Cd := (List.range t.length).filterMap (Qh (x :: B4 k) cs t s x k)
theorem Xci {x : Ae} {k : PF} {cs : List Ax} (h : Kk nmQ x k cs) (hz : SzQ ⟨x :: B4 k, cs⟩) {t : List As} (hl : Fits t) (hw : Wf t) (hr : 0 ≤ numF t) (s : ByteArray) : Pq ⟨x :: B4 k, cs⟩ t s (allF x k cs t s) := by
  have hsh := X1 h
  have hft := hl
  obtain ⟨hl1, hl2⟩ := h.len
  have hnl : (x :: B4 k).length ≤ 32 := by rw [List.length_cons]; omega
  refine ⟨true, ?_, ?_⟩
  · rw [← hsh]; exact Ns hz
  rw [if_pos rfl]
  refine ⟨_, Roots_ok hl hw, ?_⟩
  unfold Li
  rw [decide_eq_false (by omega), if_neg (by simp)]
  refine ⟨⟨by omega, by omega⟩, _, rfl, ⟨by omega, by omega⟩, _, rfl, ?_⟩
  have hcond : cs.all (Ke (x :: B4 k)) = true := by
    have := hsh
    unfold Lr at this
    simp only [Bool.and_eq_true] at this
    exact this.2.2.2.2
  have hlen : ∀ i, ((List.range i).filterMap (Qh (x :: B4 k) cs t s x k)).length ≤ i := fun i => by
    have := List.length_filterMap_le (Qh (x :: B4 k) cs t s x k) (List.range i)
    rwa [List.length_range] at this
  have key : ∀ (d i : Nat) (of : List (List Int)) (kn : List Bool), t.length - i = d → i ≤ t.length → MI t of kn → B0 (fun (z : (List Cd) × Int × (List (List Int)) × (List Bool) × ByteArray) o => I2 t ⟨x :: B4 k, cs⟩ z.1 z.2.1 z.2.2.1 z.2.2.2.1 z.2.2.2.2 o) ((List.range i).filterMap (Qh (x :: B4 k) cs t s x k), (i : Int), of, kn, s) (allF x k cs t s) := by
    intro d
    induction d with
    | zero =>
      intro i of kn hd hi hm
      have : i = t.length := by omega
      subst this
      refine .done ?_
      dsimp only
      unfold I2
      rw [if_neg (Int.lt_irrefl _)]
      rfl
    | succ d ih =>
      intro i of kn hd hi hm
      have hlt : i < t.length := by omega
      have hli := hlen i
      obtain ⟨of', kn', f1, f2⟩ := (Xao (ns := x :: B4 k) (by omega) hl hw (2 * (B4 k).length + 2)).1 x k [] [] (i : Int) of kn (by simp) h.1 (Nat.le_refl _) ⟨by omega, by omega⟩ hm
      have hb : ∀ oo, (∀ b285 : Bool, (b285 = true ↔ (atN t x k (i : Int)).getD [] = []) →
  if b285 = true then
   oo = .inl ((List.range i).filterMap (Qh (x :: B4 k) cs t s x k), w64 ((i : Int) + 1), of', kn', s)
  else
   ∃ r293 : Bool × (List As) × (List Int) × Aj × ByteArray, (Cf cs t ((atN t x k (i : Int)).getD []) ⟨x :: B4 k, cs⟩ s r293) ∧
   if r293.1 = true then
    oo = .inl ((List.range i).filterMap (Qh (x :: B4 k) cs t s x k), w64 ((i : Int) + 1), of', kn', r293.2.2.2.2)
   else
    ∃ x312 : List Cd, (x312 = (List.range i).filterMap (Qh (x :: B4 k) cs t s x k) ++ ([(⟨(atN t x k (i : Int)).getD []⟩ : Cd)] : List Cd)) ∧
    (x312.length * 24 ≤ 211106232532992) ∧
    oo = .inl (x312, w64 ((i : Int) + 1), of', kn', r293.2.2.2.2)) → I2 t ⟨x :: B4 k, cs⟩ ((List.range i).filterMap (Qh (x :: B4 k) cs t s x k)) (i : Int) of kn s oo := fun oo h => by
        unfold I2
        rw [if_pos (by omega)]
        exact ⟨_, ⟨_, f1⟩, h⟩
      have ew : w64 ((i : Int) + 1) = ((i + 1 : Nat) : Int) := by rw [Bm (by omega)]; rfl
      have hn := ih (i + 1) of' kn' (by omega) (by omega) f2
      rw [List.range_succ, List.filterMap_append] at hn
      rw [ew] at hb
      have hst : Qh (x :: B4 k) cs t s x k i = (match atN t x k (i : Int) with
        | none => none
        | some l => if cs.any (badC (x :: B4 k) t s l) = true then none else some ⟨l⟩) := rfl
      cases e : atN t x k (i : Int) with
      | none =>
        rw [e] at hst hb
        have e2 : List.filterMap (Qh (x :: B4 k) cs t s x k) [i] = [] := by simp [hst]
        rw [e2, List.append_nil] at hn
        refine .next (hb _ (fun bb hbb => ?_)) hn
        rw [hbb.2 rfl, if_pos rfl]
      | some l =>
        rw [e] at hst hb
        obtain ⟨l1, ⟨l', l2⟩, l3⟩ := Yg (x := x) (k := k) ⟨Int.natCast_nonneg i, by omega⟩ e
        have hc := Xan (q := ⟨x :: B4 k, cs⟩) (s := s) (by show (x :: B4 k).length ≤ _; omega) (by show cs.length ≤ _; omega) (by show l.length = (x :: B4 k).length; rw [List.length_cons]; omega) l3 hcond
        have hbf : ∀ bb : Bool, (bb = true ↔ l = []) → bb = false := fun bb hbb => by
          cases bb with
          | false => rfl
          | true => have := hbb.1 rfl; rw [l2] at this; cases this
        cases ea : cs.any (badC (x :: B4 k) t s l) with
        | true =>
          dsimp only at hst
          rw [if_pos ea] at hst
          have e2 : List.filterMap (Qh (x :: B4 k) cs t s x k) [i] = [] := by simp [hst]
          rw [e2, List.append_nil] at hn
          refine .next (hb _ (fun bb hbb => ?_)) hn
          rw [hbf bb hbb, if_neg (by simp)]
          refine ⟨_, hc, ?_⟩
          dsimp only
          rw [if_pos ea]
        | false =>
          dsimp only at hst
          rw [if_neg (by rw [ea]; simp)] at hst
          have e2 : List.filterMap (Qh (x :: B4 k) cs t s x k) [i] = [⟨l⟩] := by simp [hst]
          rw [e2] at hn
          refine .next (hb _ (fun bb hbb => ?_)) hn
          rw [hbf bb hbb, if_neg (by simp)]
          refine ⟨_, hc, ?_⟩
          dsimp only
          rw [if_neg (by rw [ea]; simp)]
          exact ⟨_, rfl, by rw [List.length_append, List.length_cons, List.length_nil]; omega, rfl⟩
  have hrep : ∀ i : Nat, i < t.length → ix (List.replicate t.length false) (i : Int) = false := fun i hi => by
    rw [Nt (by simpa using hi)]
    simp
  have := key t.length 0 (List.replicate t.length []) (List.replicate t.length false) rfl (Nat.zero_le _) ⟨by simp, by simp, fun i hi hk => by rw [hrep i hi] at hk; cases hk⟩
  rw [Int.toNat_natCast]
  exact this
end Go.Proofs.YtjookebbmfiidaaDoor.L
