/- Queries: the matches: the program's All. Condition: sizes. -/
import Derived.Test.YtjookebbmfiidaaDoorX1
import Derived.Test.YtjookebbmfiidaaDoorSJ
set_option linter.unusedVariables false
namespace Go.Proofs.YtjookebbmfiidaaDoor.L
open Go.Proofs.YtjookebbmfiidaaDoor.B Go.Proofs.YtjookebbmfiidaaDoor.R
def covB (n : Ba) (s : ByteArray) : ByteArray := if max n.from_ 0 ≥ min n.to (s.size : Int) then noB else s.extract (max n.from_ 0).toNat (min n.to (s.size : Int)).toNat
theorem cov_ok (n : Ba) (s : ByteArray) : Rx n s (covB n s) := by
  unfold Rx covB
  by_cases h : max n.from_ 0 ≥ min n.to (s.size : Int)
  · rw [if_pos h, if_pos h]
  · rw [if_neg h, if_neg h]
    exact ⟨⟨by omega, by omega, by omega⟩, rfl⟩
def capB_ (ns : List Ag) (t : List Ba) (s : ByteArray) (l : List Int) (c : ByteArray) : ByteArray := covB (ix t (ix l (Vz c ns))) s
def rightB (ns : List Ag) (t : List Ba) (s : ByteArray) (l : List Int) (c : Bi) : ByteArray := if c.b = noB then c.text else capB_ ns t s l c.b
def badC (ns : List Ag) (t : List Ba) (s : ByteArray) (l : List Int) (c : Bi) : Bool := decide (capB_ ns t s l c.a = rightB ns t s l c) == c.not
def Range (t : List Ba) (l : List Int) : Prop := ∀ y ∈ l, 0 ≤ y ∧ y < (t.length : Int)
section
variable {q : Aw} {t : List Ba} {s : ByteArray} {l : List Int}
theorem capN_lt {ns : List Ag} {c : ByteArray} : Vz c ns < (ns.length : Int) := by
  unfold Vz
  split
  · omega
  · cases e : Vo c ns with
    | none => dsimp only; omega
    | some i =>
      dsimp only
      unfold Vo at e
      rw [List.findIdx?_eq_some_iff_getElem] at e
      have := e.1
      omega
theorem Xhx (hq : q.nodes.length ≤ 2 ^ 40) (hl : l.length = q.nodes.length) (hr : Range t l) {c : ByteArray} (hc : 0 ≤ Vz c q.nodes) : U1 c t l q s (capB_ q.nodes t s l c, t, l, q, s) := by
  have h1 := capN_lt (ns := q.nodes) (c := c)
  have hin : 0 ≤ Vz c q.nodes ∧ Vz c q.nodes < (l.length : Int) := ⟨hc, by omega⟩
  have hm := hr _ (Xf1 (v := l) (i := (Vz c q.nodes).toNat) (by omega))
  rw [Int.toNat_of_nonneg hc] at hm
  exact ⟨_, Xgm hq q.conds c, hin, hm, _, cov_ok _ _, rfl⟩
theorem all2_ok (hq : q.nodes.length ≤ 2 ^ 40) (hl : l.length = q.nodes.length) (hr : Range t l) {c : Bi} (hc : Xv q.nodes c = true) : Vm c t l q s (badC q.nodes t s l c, t, l, q, s) := by
  unfold Xv at hc
  simp only [Bool.and_eq_true, Bool.or_eq_true, decide_eq_true_eq] at hc
  unfold Vm badC rightB
  by_cases g : c.b = noB
  · rw [if_pos g, if_pos g, ← Sz]
    exact ⟨_, Xhx hq hl hr hc.1, rfl⟩
  · rw [if_neg g, if_neg g, ← Sz]
    exact ⟨_, Xhx hq hl hr (hc.2.resolve_left g).1, _, Xhx hq hl hr hc.1, rfl⟩
theorem Xiq (hq : q.nodes.length ≤ 2 ^ 40) (hcl : q.conds.length ≤ 2 ^ 40) (hl : l.length = q.nodes.length) (hr : Range t l) (hc : q.conds.all (Xv q.nodes) = true) : Es q.conds t l q s (q.conds.any (badC q.nodes t s l), t, l, q, s) := by
  have key : ∀ (d i : Nat), q.conds.length - i = d → i ≤ q.conds.length → ∃ j : Int, Bo (fun (z : Int × ByteArray) o => Dj q.conds t l q z.1 z.2 o) ((i : Int), s) (j, t, l, q, s) ∧ decide (j ≥ 0) = (q.conds.drop i).any (badC q.nodes t s l) := by
    intro d
    induction d with
    | zero =>
      intro i hd hi
      have : i = q.conds.length := by omega
      subst this
      refine ⟨-1, .done ?_, by rw [List.drop_length]; rfl⟩
      dsimp only
      unfold Dj
      rw [if_neg (Int.lt_irrefl _)]
    | succ d ih =>
      intro i hd hi
      have hlt : i < q.conds.length := by omega
      have hix := Y5 hlt
      have hdr : q.conds.drop i = q.conds[i] :: q.conds.drop (i + 1) := List.drop_eq_getElem_cons hlt
      have h2 := all2_ok (s := s) hq hl hr (List.all_eq_true.1 hc _ (List.getElem_mem hlt))
      have hb : ∀ oo, (if badC q.nodes t s l q.conds[i] = true then oo = .inr ((i : Int), t, l, q, s) else oo = .inl (w64 ((i : Int) + 1), s)) → Dj q.conds t l q (i : Int) s oo := fun oo h => by
        unfold Dj
        rw [if_pos (by omega), hix]
        exact ⟨⟨by omega, by omega⟩, _, h2, h⟩
      rw [hdr, List.any_cons]
      cases e : badC q.nodes t s l q.conds[i] with
      | true =>
        rw [e] at hb
        exact ⟨(i : Int), .done (hb _ (by rw [if_pos rfl])), by rw [Bool.true_or]; exact decide_eq_true (Int.natCast_nonneg i)⟩
      | false =>
        rw [e] at hb
        obtain ⟨j, j1, j2⟩ := ih (i + 1) (by omega) (by omega)
        refine ⟨j, .next (hb (.inl (((i + 1 : Nat) : Int), s)) ?_) j1, by rw [Bool.false_or]; exact j2⟩
        rw [if_neg (by simp), Dw (by omega)]
        rfl
  obtain ⟨j, j1, j2⟩ := key q.conds.length 0 rfl (Nat.zero_le _)
  refine ⟨(j, t, l, q, s), j1, ?_⟩
  rw [List.drop_zero] at j2
  rw [← j2]
end
def X9 (ns : List Ag) (cs : List Bi) (t : List Ba) (s : ByteArray) (x : Ag) (k : PF) (v : Nat) : Option Dx := match atN t x k (v : Int) with
  | none => none
  | some l => if cs.any (badC ns t s l) = true then none else some ⟨l⟩
def allF (x : Ag) (k : PF) (cs : List Bi) (t : List Ba) (s : ByteArray) : List Dx := (List.range t.length).filterMap (X9 (x :: Bz k) cs t s x k)
theorem Xh6 {x : Ag} {k : PF} {cs : List Bi} (h : Vf nmQ x k cs) (hz : SzR ⟨x :: Bz k, cs⟩) {t : List Ba} (hl : Xfg t) (hw : Wf t) (hr : 0 ≤ numF t) (s : ByteArray) : Uw ⟨x :: Bz k, cs⟩ t s (allF x k cs t s) := by
  have hsh := Xf6 h
  have hft := hl
  obtain ⟨hl1, hl2⟩ := h.len
  have hnl : (x :: Bz k).length ≤ 32 := by rw [List.length_cons]; omega
  refine ⟨true, ?_, ?_⟩
  · rw [← hsh]; exact Ur hz
  rw [if_pos rfl]
  refine ⟨_, Xcc hl hw, ?_⟩
  unfold Pv
  rw [decide_eq_false (by omega), if_neg (by simp)]
  refine ⟨⟨by omega, by omega⟩, _, rfl, ⟨by omega, by omega⟩, _, rfl, ?_⟩
  have hcond : cs.all (Xv (x :: Bz k)) = true := by
    have := hsh
    unfold V8 at this
    simp only [Bool.and_eq_true] at this
    exact this.2.2.2.2
  have hlen : ∀ i, ((List.range i).filterMap (X9 (x :: Bz k) cs t s x k)).length ≤ i := fun i => by
    have := List.length_filterMap_le (X9 (x :: Bz k) cs t s x k) (List.range i)
    rwa [List.length_range] at this
  have key : ∀ (d i : Nat) (of : List (List Int)) (kn : List Bool), t.length - i = d → i ≤ t.length → MI t of kn → Bo (fun (z : (List Dx) × Int × (List (List Int)) × (List Bool) × ByteArray) o => Ny t ⟨x :: Bz k, cs⟩ z.1 z.2.1 z.2.2.1 z.2.2.2.1 z.2.2.2.2 o) ((List.range i).filterMap (X9 (x :: Bz k) cs t s x k), (i : Int), of, kn, s) (allF x k cs t s) := by
    intro d
    induction d with
    | zero =>
      intro i of kn hd hi hm
      have : i = t.length := by omega
      subst this
      refine .done ?_
      dsimp only
      unfold Ny
      rw [if_neg (Int.lt_irrefl _)]
      rfl
    | succ d ih =>
      intro i of kn hd hi hm
      have hlt : i < t.length := by omega
      have hli := hlen i
      obtain ⟨of', kn', f1, f2⟩ := (Xj0 (ns := x :: Bz k) (by omega) hl hw (2 * (Bz k).length + 2)).1 x k [] [] (i : Int) of kn (by simp) h.1 (Nat.le_refl _) ⟨by omega, by omega⟩ hm
      have hb : ∀ oo, (∀ b285 : Bool, (b285 = true ↔ (atN t x k (i : Int)).getD [] = []) →
  if b285 = true then
   oo = .inl ((List.range i).filterMap (X9 (x :: Bz k) cs t s x k), w64 ((i : Int) + 1), of', kn', s)
  else
   ∃ r293 : Bool × (List Ba) × (List Int) × Aw × ByteArray, (Es cs t ((atN t x k (i : Int)).getD []) ⟨x :: Bz k, cs⟩ s r293) ∧
   if r293.1 = true then
    oo = .inl ((List.range i).filterMap (X9 (x :: Bz k) cs t s x k), w64 ((i : Int) + 1), of', kn', r293.2.2.2.2)
   else
    ∃ x312 : List Dx, (x312 = (List.range i).filterMap (X9 (x :: Bz k) cs t s x k) ++ ([(⟨(atN t x k (i : Int)).getD []⟩ : Dx)] : List Dx)) ∧
    (x312.length * 24 ≤ 211106232532992) ∧
    oo = .inl (x312, w64 ((i : Int) + 1), of', kn', r293.2.2.2.2)) → Ny t ⟨x :: Bz k, cs⟩ ((List.range i).filterMap (X9 (x :: Bz k) cs t s x k)) (i : Int) of kn s oo := fun oo h => by
        unfold Ny
        rw [if_pos (by omega)]
        exact ⟨_, ⟨_, f1⟩, h⟩
      have ew : w64 ((i : Int) + 1) = ((i + 1 : Nat) : Int) := by rw [Dw (by omega)]; rfl
      have hn := ih (i + 1) of' kn' (by omega) (by omega) f2
      rw [List.range_succ, List.filterMap_append] at hn
      rw [ew] at hb
      have hst : X9 (x :: Bz k) cs t s x k i = (match atN t x k (i : Int) with
        | none => none
        | some l => if cs.any (badC (x :: Bz k) t s l) = true then none else some ⟨l⟩) := rfl
      cases e : atN t x k (i : Int) with
      | none =>
        rw [e] at hst hb
        have e2 : List.filterMap (X9 (x :: Bz k) cs t s x k) [i] = [] := by simp [hst]
        rw [e2, List.append_nil] at hn
        refine .next (hb _ (fun bb hbb => ?_)) hn
        rw [hbb.2 rfl, if_pos rfl]
      | some l =>
        rw [e] at hst hb
        obtain ⟨l1, ⟨l', l2⟩, l3⟩ := Xgq (x := x) (k := k) ⟨Int.natCast_nonneg i, by omega⟩ e
        have hc := Xiq (q := ⟨x :: Bz k, cs⟩) (s := s) (by show (x :: Bz k).length ≤ _; omega) (by show cs.length ≤ _; omega) (by show l.length = (x :: Bz k).length; rw [List.length_cons]; omega) l3 hcond
        have hbf : ∀ bb : Bool, (bb = true ↔ l = []) → bb = false := fun bb hbb => by
          cases bb with
          | false => rfl
          | true => have := hbb.1 rfl; rw [l2] at this; cases this
        cases ea : cs.any (badC (x :: Bz k) t s l) with
        | true =>
          dsimp only at hst
          rw [if_pos ea] at hst
          have e2 : List.filterMap (X9 (x :: Bz k) cs t s x k) [i] = [] := by simp [hst]
          rw [e2, List.append_nil] at hn
          refine .next (hb _ (fun bb hbb => ?_)) hn
          rw [hbf bb hbb, if_neg (by simp)]
          refine ⟨_, hc, ?_⟩
          dsimp only
          rw [if_pos ea]
        | false =>
          dsimp only at hst
          rw [if_neg (by rw [ea]; simp)] at hst
          have e2 : List.filterMap (X9 (x :: Bz k) cs t s x k) [i] = [⟨l⟩] := by simp [hst]
          rw [e2] at hn
          refine .next (hb _ (fun bb hbb => ?_)) hn
          rw [hbf bb hbb, if_neg (by simp)]
          refine ⟨_, hc, ?_⟩
          dsimp only
          rw [if_neg (by rw [ea]; simp)]
          exact ⟨_, rfl, by rw [List.length_append, List.length_cons, List.length_nil]; omega, rfl⟩
  have hrep : ∀ i : Nat, i < t.length → ix (List.replicate t.length false) (i : Int) = false := fun i hi => by
    rw [Y5 (by simpa using hi)]
    simp
  have := key t.length 0 (List.replicate t.length []) (List.replicate t.length false) rfl (Nat.zero_le _) ⟨by simp, by simp, fun i hi hk => by rw [hrep i hi] at hk; cases hk⟩
  rw [Int.toNat_natCast]
  exact this
theorem all_no {q : Aw} (hz : SzR q) {t : List Ba} (hl : Xfg t) (hw : Wf t) (h : V8 q = false ∨ numF t < 0) (s : ByteArray) : Uw q t s [] := by
  refine ⟨_, Ur hz, ?_⟩
  have hj : Pv t q s true [] := by
    unfold Pv
    rw [if_pos rfl]
  cases e : V8 q with
  | false =>
    rw [if_neg (by simp)]
    exact hj
  | true =>
    rw [if_pos rfl]
    refine ⟨_, Xcc hl hw, ?_⟩
    rw [decide_eq_true (h.resolve_left (by rw [e]; simp))]
    exact hj
end Go.Proofs.YtjookebbmfiidaaDoor.L
