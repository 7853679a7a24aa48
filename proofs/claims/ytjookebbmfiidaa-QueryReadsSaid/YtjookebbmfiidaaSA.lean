/- Queries: the document's reader reads patterns. Condition: sizes. -/
import Derived.Test.YtjookebbmfiidaaS9
set_option linter.unusedVariables false
namespace Go.Proofs.Ytjookebbmfiidaa.L
open Go.Proofs.Ytjookebbmfiidaa.B Go.Proofs.Ytjookebbmfiidaa.R
def RP (W : List api_Word) (t : List Tk) (o : List api_PatNode) (cs : List api_Cond) : trellisref20_Reader := ⟨W, (psn W t : Int), ⟨o, cs⟩, 0, 0⟩
def ErR (W : List api_Word) (e : Int) (q : List Tk) (n B : Nat) (r : trellisref20_Reader) : Prop := r.l = W ∧ r.e = e ∧ r.pos = (psn W q : Int) ∧ (0 ≤ r.at_ ∧ r.at_ ≤ (B : Int)) ∧ n ≤ r.q.nodes.length
section
variable {W : List api_Word}
theorem rsees {t : List Tk} (ht : Rst W t) {p : trellisref20_Reader} (hp : p.l = W) (k : Int) (x : ByteArray) : trellisref20_Reader_sees p (psn W t : Int) k x (isT k x t, p) := by
  unfold trellisref20_Reader_sees
  rw [hp]
  cases t with
  | nil =>
    rw [psn_nil, if_neg (Int.lt_irrefl _)]
    rfl
  | cons w t =>
    obtain ⟨k', x'⟩ := w
    obtain ⟨h1, h2, h3, h4⟩ := ht.hd
    rw [if_pos (by omega)]
    refine ⟨⟨by omega, by omega⟩, ?_⟩
    rw [h2, h3, seq_dec, isT_cons]
    by_cases g : k' = k
    · rw [if_pos g, decide_eq_true g, Bool.true_and]
    · rw [if_neg g, decide_eq_false g, Bool.false_and]
theorem rnamed {t : List Tk} (ht : Rst W t) {p : trellisref20_Reader} (hp : p.l = W) : trellisref20_Reader_named p (psn W t : Int) (isNm t, p) := by
  unfold trellisref20_Reader_named
  rw [hp]
  cases t with
  | nil =>
    rw [psn_nil, if_neg (Int.lt_irrefl _)]
    rfl
  | cons w t =>
    obtain ⟨k', x'⟩ := w
    obtain ⟨h1, h2, h3, h4⟩ := ht.hd
    rw [if_pos (by omega)]
    refine ⟨⟨by omega, by omega⟩, ?_⟩
    rw [h2, h3, seq_dec, isNm_cons]
    by_cases g : k' = 1
    · rw [if_pos g, decide_eq_true g, Bool.true_and]
    · rw [if_neg g, decide_eq_false g, Bool.false_and]
theorem rtext {t : List Tk} (ht : Rst W t) {p : trellisref20_Reader} (hp : p.l = W) : trellisref20_Reader_text p (psn W t : Int) (isSt t, p) := by
  unfold trellisref20_Reader_text
  rw [hp]
  cases t with
  | nil =>
    rw [psn_nil, if_neg (Int.lt_irrefl _)]
    rfl
  | cons w t =>
    obtain ⟨k', x'⟩ := w
    obtain ⟨h1, h2, h3, h4⟩ := ht.hd
    rw [if_pos (by omega)]
    refine ⟨⟨by omega, by omega⟩, ?_⟩
    rw [h2, h3, seq_dec, isSt_cons]
    by_cases g : k' = 2
    · rw [if_pos g, decide_eq_true g, Bool.true_and]
    · rw [if_neg g, decide_eq_false g, Bool.false_and]
theorem rstop {p : trellisref20_Reader} (h : p.e = 0) (e i : Int) : trellisref20_Reader_stop p e i ⟨p.l, p.at_, p.q, e, i⟩ := by
  unfold trellisref20_Reader_stop
  rw [if_pos h]
theorem psn_step (hW : W.length ≤ 2 ^ 40) {k : Int} {x : ByteArray} {t : List Tk} (ht : Rst W ((k, x) :: t)) : w64 ((psn W ((k, x) :: t) : Int) + 1) = (psn W t : Int) := by
  obtain ⟨h1, h2, h3, h4⟩ := ht.hd
  rw [w64_id (by omega), h4]
  rfl
theorem rtake_ok (hW : W.length ≤ 2 ^ 40) {t : List Tk} (ht : Rst W t) {o : List api_PatNode} {cs : List api_Cond} {x : ByteArray} (h : isT 5 x t = true) : trellisref20_Reader_take (RP W t o cs) 5 x (RP W t.tail o cs) := by
  refine ⟨_, rsees ht rfl 5 x, ?_⟩
  rw [h, if_pos rfl]
  obtain ⟨r, rfl⟩ := isT_ex h
  show RP W r o cs = ⟨W, w64 ((psn W ((5, x) :: r) : Int) + 1), ⟨o, cs⟩, 0, 0⟩
  rw [psn_step hW ht]
  rfl
theorem rtake_no (hW : W.length ≤ 2 ^ 40) {t : List Tk} (ht : Rst W t) {o : List api_PatNode} {cs : List api_Cond} {x : ByteArray} (h : isT 5 x t = false) : trellisref20_Reader_take (RP W t o cs) 5 x ⟨W, (psn W t : Int) + 1, ⟨o, cs⟩, 200, (psn W t : Int)⟩ := by
  refine ⟨_, rsees ht rfl 5 x, ?_⟩
  have := ht.psn_le
  rw [h, if_neg (by simp)]
  refine ⟨_, rstop rfl 200 _, ?_⟩
  show _ = (⟨W, w64 ((psn W t : Int) + 1), ⟨o, cs⟩, 200, (psn W t : Int)⟩ : trellisref20_Reader)
  rw [w64_id (by omega)]
theorem rname_ok (hW : W.length ≤ 2 ^ 40) {t : List Tk} (ht : Rst W t) {o : List api_PatNode} {cs : List api_Cond} (h : isNm t = true) : trellisref20_Reader_takeName (RP W t o cs) (hdT t, RP W t.tail o cs) := by
  refine ⟨_, rnamed ht rfl, ?_⟩
  rw [h, if_pos rfl]
  obtain ⟨x, r, rfl, hx⟩ := isNm_ex h
  obtain ⟨h1, h2, h3, h4⟩ := ht.hd
  show (0 ≤ w64 (w64 ((psn W ((1, x) :: r) : Int) + 1) - 1) ∧ w64 (w64 ((psn W ((1, x) :: r) : Int) + 1) - 1) < (W.length : Int)) ∧ _ = ((ix W (w64 (w64 ((psn W ((1, x) :: r) : Int) + 1) - 1))).text, (⟨W, w64 ((psn W ((1, x) :: r) : Int) + 1), ⟨o, cs⟩, 0, 0⟩ : trellisref20_Reader))
  rw [psn_step hW ht, show w64 ((psn W r : Int) - 1) = (psn W ((1, x) :: r) : Int) by rw [w64_id (by omega), h4]; omega, h3]
  exact ⟨⟨Int.natCast_nonneg _, by omega⟩, rfl⟩
theorem rname_no {t : List Tk} (ht : Rst W t) {o : List api_PatNode} {cs : List api_Cond} (h : isNm t = false) : trellisref20_Reader_takeName (RP W t o cs) (noB, ⟨W, (psn W t : Int), ⟨o, cs⟩, 200, (psn W t : Int)⟩) := by
  refine ⟨_, rnamed ht rfl, ?_⟩
  rw [h, if_neg (by simp)]
  exact ⟨_, rstop rfl 200 _, rfl⟩
theorem rnode {xs : List api_PatNode} (hx : xs.length ≤ 2 ^ 40) (cs : List api_Cond) (c : ByteArray) : trellisref20_Node ⟨xs, cs⟩ c (capN c xs) := by
  have key : ∀ (d i : Nat), xs.length - i = d → i ≤ xs.length → (c = noB ∨ capIx c (xs.take i) = none) → Rounds (fun (s : Int) o => trellisref20_Node_b1 ⟨xs, cs⟩ c s o) (i : Int) (capN c xs) := by
    intro d
    induction d with
    | zero =>
      intro i hd hi hn
      refine .done ?_
      have : i = xs.length := by omega
      subst this
      rw [List.take_length] at hn
      unfold trellisref20_Node_b1
      dsimp only
      rw [if_neg (Int.lt_irrefl _)]
      unfold capN
      rcases hn with hn | hn
      · rw [if_pos hn]
      · rw [hn]
        split <;> rfl
    | succ d ih =>
      intro i hd hi hn
      have hlt : i < xs.length := by omega
      have hg : ix xs ((i : Nat) : Int) = xs[i] := by
        have := ix_get (xs := xs) (i := (i : Int)) ⟨by omega, by omega⟩
        rw [Int.toNat_natCast, List.getElem?_eq_getElem hlt] at this
        exact (Option.some.inj this).symm
      by_cases g0 : c = noB
      · refine .next (s' := ((i + 1 : Nat) : Int)) ?_ (ih (i + 1) (by omega) (by omega) (.inl g0))
        unfold trellisref20_Node_b1
        dsimp only
        rw [if_pos (by omega), if_pos g0, w64_id (by omega)]
        rfl
      have hn' := hn.resolve_left g0
      by_cases g : xs[i].capture = c
      · refine .done ?_
        unfold trellisref20_Node_b1
        dsimp only
        rw [if_pos (by omega), if_neg g0, hg, if_pos g]
        refine ⟨⟨by omega, by omega⟩, ?_⟩
        have : capIx c xs = some i := by
          unfold capIx at hn' ⊢
          rw [List.findIdx?_eq_some_iff_getElem]
          refine ⟨hlt, decide_eq_true g, fun j hj => ?_⟩
          rw [List.findIdx?_eq_none_iff] at hn'
          have := hn' xs[j] (List.mem_take_iff_getElem.2 ⟨j, by omega, rfl⟩)
          rw [this]
          simp
        unfold capN
        rw [if_neg g0, this]
      · refine .next (s' := ((i + 1 : Nat) : Int)) ?_ (ih (i + 1) (by omega) (by omega) (.inr ?_))
        · unfold trellisref20_Node_b1
          dsimp only
          rw [if_pos (by omega), if_neg g0, hg, if_neg g, w64_id (by omega)]
          exact ⟨⟨by omega, by omega⟩, rfl⟩
        · unfold capIx at hn' ⊢
          rw [List.findIdx?_eq_none_iff] at hn' ⊢
          intro y hy
          rw [List.take_succ_eq_append_getElem hlt] at hy
          rcases List.mem_append.1 hy with hy | hy
          · exact hn' y hy
          · rw [List.mem_singleton] at hy
            rw [hy]
            exact decide_eq_false g
  exact key xs.length 0 rfl (Nat.zero_le _) (.inr rfl)
def bdR (W : List api_Word) (m : Nat) : Nat := W.length + 3 * (34 - m)
def vD (W : List api_Word) (o : List api_PatNode) (cs : List api_Cond) : PR (api_PatNode × PF × List ByteArray) → trellisref20_Reader → Prop
  | .ok p q, r => r = RP W q (o ++ p.1 :: flatP p.2.1) cs
  | .no e q, r => ErR W e q o.length (bdR W o.length) r
def VD (W : List api_Word) (cs : List api_Cond) (n : Nat) (t : List Tk) : Prop := ∀ (o : List api_PatNode) (seen : List ByteArray), o.length ≤ 32 → SeenOk o seen → ∃ r, trellisref20_Reader_pattern_n n (RP W t o cs) r ∧ vD W o cs (patN o.length seen t) r
variable {cs : List api_Cond}
theorem rj4_no {e : Int} (he : e ≠ 0) {q : List Tk} {o : List api_PatNode} {B : Nat} {p : trellisref20_Reader} (h : ErR W e q (o.length + 1) B p) (nm fld : ByteArray) (lit : Bool) (ks : Int) : ∃ r, trellisref20_Reader_pattern_j4 o fld p.l p.at_ p.q.nodes p.q.conds p.e p.pos nm lit ks r ∧ ErR W e q o.length B r := by
  obtain ⟨h1, h2, h3, h4, h5⟩ := h
  refine ⟨⟨p.l, p.at_, ⟨p.q.nodes.set o.length ⟨nm, lit, fld, noB, ks⟩, p.q.conds⟩, p.e, p.pos⟩, ?_, h1, h2, h3, h4, ?_⟩
  · unfold trellisref20_Reader_pattern_j4
    rw [if_neg (by rw [h2]; exact he)]
    unfold trellisref20_Reader_pattern_j5
    rw [if_neg (by simp)]
    exact ⟨⟨Int.natCast_nonneg _, by omega⟩, _, rfl, rfl⟩
  · show _ ≤ (p.q.nodes.set _ _).length
    rw [List.length_set]
    omega
theorem rj4_ok (hW : W.length ≤ 2 ^ 40) {t : List Tk} (ht : Rst W t) {o v : List api_PatNode} (ho : (o ++ zeroN :: v).length ≤ 2 ^ 40) {seen : List ByteArray} (hs : SeenOk (o ++ zeroN :: v) seen) (nm fld : ByteArray) (lit : Bool) (ks : Int) (k : PF) :
    ∃ r, trellisref20_Reader_pattern_j4 o fld W (psn W t : Int) (o ++ zeroN :: v) cs 0 0 nm lit ks r ∧ (match capT ⟨nm, lit, fld, noB, ks⟩ k seen t with
      | .ok p q => r = RP W q (o ++ p.1 :: v) cs
      | .no e q => ErR W e q o.length (W.length + 1) r) := by
  have hlen : (o.length : Int) < ((o ++ zeroN :: v).length : Int) := by
    rw [List.length_append, List.length_cons]
    omega
  have hj : ∀ r, trellisref20_Reader_pattern_j5 o nm lit fld ks (isT 5 capB t) W (psn W t : Int) (o ++ zeroN :: v) cs 0 0 r → trellisref20_Reader_pattern_j4 o fld W (psn W t : Int) (o ++ zeroN :: v) cs 0 0 nm lit ks r := fun r h => by
    unfold trellisref20_Reader_pattern_j4
    rw [if_pos rfl]
    exact ⟨_, rsees ht rfl 5 capB, h⟩
  unfold capT
  by_cases c1 : isT 5 capB t = true
  · rw [if_pos c1]
    rw [c1] at hj
    obtain ⟨t1, rfl⟩ := isT_ex c1
    rw [List.tail_cons]
    have ht1 : Rst W t1 := ht.tl
    obtain ⟨h1, h2, h3, h4⟩ := ht.hd
    have hj2 : ∀ r, (∃ r698 : ByteArray × trellisref20_Reader, (trellisref20_Reader_takeName (RP W t1 (o ++ zeroN :: v) cs) r698) ∧
  ∃ r722 : Int, (trellisref20_Node r698.2.q r698.1 r722) ∧
  if r722 ≥ 0 then
   ∃ r755 : trellisref20_Reader, (trellisref20_Reader_stop r698.2 201 (w64 (r698.2.at_ - 1)) r755) ∧
   (0 ≤ (o.length : Int) ∧ (o.length : Int) < (r755.q.nodes.length : Int)) ∧
   ∃ x777 : List api_PatNode, (x777 = r755.q.nodes.set o.length (⟨nm, lit, fld, r698.1, ks⟩ : api_PatNode)) ∧
   r = (⟨r755.l, r755.at_, (⟨x777, r755.q.conds⟩ : api_Query), r755.e, r755.pos⟩ : trellisref20_Reader)
  else
   (0 ≤ (o.length : Int) ∧ (o.length : Int) < (r698.2.q.nodes.length : Int)) ∧
   ∃ x783 : List api_PatNode, (x783 = r698.2.q.nodes.set o.length (⟨nm, lit, fld, r698.1, ks⟩ : api_PatNode)) ∧
   r = (⟨r698.2.l, r698.2.at_, (⟨x783, r698.2.q.conds⟩ : api_Query), r698.2.e, r698.2.pos⟩ : trellisref20_Reader)) → trellisref20_Reader_pattern_j5 o nm lit fld ks true W (psn W ((5, capB) :: t1) : Int) (o ++ zeroN :: v) cs 0 0 r := fun r h => by
      unfold trellisref20_Reader_pattern_j5
      rw [if_pos rfl, psn_step hW ht]
      exact h
    by_cases c2 : isNm t1 = true
    · rw [if_pos c2]
      have hn := rname_ok hW ht1 (o := o ++ zeroN :: v) (cs := cs) c2
      have hc := rnode ho cs (hdT t1)
      have hps : (psn W t1.tail : Int) ≤ (W.length : Int) := by unfold psn; omega
      by_cases c3 : inC (hdT t1) seen = true
      · rw [if_pos c3]
        have hp : w64 ((psn W t1.tail : Int) - 1) = (psn W t1 : Int) := by
          obtain ⟨y, t2, rfl, _⟩ := isNm_ex c2
          have := ht1.hd.2.2.2
          show w64 ((psn W t2 : Int) - 1) = _
          rw [w64_id (by omega), this]
          omega
        refine ⟨⟨W, (psn W t1.tail : Int), ⟨(o ++ zeroN :: v).set o.length ⟨nm, lit, fld, hdT t1, ks⟩, cs⟩, 201, (psn W t1 : Int)⟩, hj _ (hj2 _ ⟨_, hn, _, hc, ?_⟩), rfl, rfl, rfl, ⟨Int.natCast_nonneg _, by show (psn W t1.tail : Int) ≤ _; omega⟩, ?_⟩
        · rw [if_pos ((capN_iff hs _).2 c3)]
          refine ⟨_, rstop rfl 201 _, ⟨Int.natCast_nonneg _, hlen⟩, _, rfl, ?_⟩
          show _ = (⟨W, (psn W t1.tail : Int), ⟨(o ++ zeroN :: v).set o.length ⟨nm, lit, fld, hdT t1, ks⟩, cs⟩, 201, w64 ((psn W t1.tail : Int) - 1)⟩ : trellisref20_Reader)
          rw [hp]
        · show o.length ≤ ((o ++ zeroN :: v).set _ _).length
          rw [List.length_set]
          omega
      · rw [if_neg c3]
        refine ⟨RP W t1.tail (o ++ ⟨nm, lit, fld, hdT t1, ks⟩ :: v) cs, hj _ (hj2 _ ⟨_, hn, _, hc, ?_⟩), rfl⟩
        rw [if_neg (fun h => c3 ((capN_iff hs _).1 h))]
        refine ⟨⟨Int.natCast_nonneg _, hlen⟩, _, rfl, ?_⟩
        show _ = (⟨W, (psn W t1.tail : Int), ⟨(o ++ zeroN :: v).set o.length ⟨nm, lit, fld, hdT t1, ks⟩, cs⟩, 0, 0⟩ : trellisref20_Reader)
        rw [set_mid]
        rfl
    · rw [if_neg c2]
      have hps : (psn W t1 : Int) ≤ (W.length : Int) := by unfold psn; omega
      refine ⟨⟨W, (psn W t1 : Int), ⟨(o ++ zeroN :: v).set o.length ⟨nm, lit, fld, noB, ks⟩, cs⟩, 200, (psn W t1 : Int)⟩, hj _ (hj2 _ ⟨_, rname_no ht1 (by simpa using c2), _, rnode ho cs noB, ?_⟩), rfl, rfl, rfl, ⟨Int.natCast_nonneg _, by show (psn W t1 : Int) ≤ _; omega⟩, ?_⟩
      · rw [if_neg (by unfold capN; rw [if_pos rfl]; decide)]
        exact ⟨⟨Int.natCast_nonneg _, hlen⟩, _, rfl, rfl⟩
      · show o.length ≤ ((o ++ zeroN :: v).set _ _).length
        rw [List.length_set]
        omega
  · rw [if_neg c1]
    have c1' : isT 5 capB t = false := by simpa using c1
    rw [c1'] at hj
    refine ⟨RP W t (o ++ ⟨nm, lit, fld, noB, ks⟩ :: v) cs, hj _ ?_, rfl⟩
    unfold trellisref20_Reader_pattern_j5
    rw [if_neg (by simp)]
    refine ⟨⟨Int.natCast_nonneg _, hlen⟩, _, rfl, ?_⟩
    show _ = (⟨W, (psn W t : Int), ⟨(o ++ zeroN :: v).set o.length ⟨nm, lit, fld, noB, ks⟩, cs⟩, 0, 0⟩ : trellisref20_Reader)
    rw [set_mid]
    rfl
end
end Go.Proofs.Ytjookebbmfiidaa.L
