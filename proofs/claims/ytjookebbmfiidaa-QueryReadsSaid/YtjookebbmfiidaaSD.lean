/- Queries: conditions, whole texts: the document. Condition: sizes. -/
import Derived.Test.YtjookebbmfiidaaSC
set_option linter.unusedVariables false
namespace Go.Proofs.Ytjookebbmfiidaa.L
open Go.Proofs.Ytjookebbmfiidaa.B Go.Proofs.Ytjookebbmfiidaa.R
def ErD (W : List api_Word) (e : Int) (q : List Tk) (o : List api_PatNode) (cs : List api_Cond) (r : trellisref20_Reader) : Prop := r.l = W ∧ r.e = e ∧ r.pos = (psn W q : Int) ∧ r.q = ⟨o, cs⟩
section
variable {W : List api_Word} {o : List api_PatNode} {cs : List api_Cond} {caps : List ByteArray}
theorem rcapture (hW : W.length ≤ 2 ^ 40) {t : List Tk} (ht : Rst W t) (ho : o.length ≤ 32) (hs : SeenOk o caps) : ∃ r, trellisref20_Reader_capture (RP W t o cs) r ∧ (match captureT caps t with
    | .ok a q => r = (a, RP W q o cs)
    | .no e q => ErD W e q o cs r.2) := by
  unfold captureT
  by_cases c1 : isT 5 capB t = true
  · rw [if_pos c1]
    obtain ⟨t1, rfl⟩ := isT_ex c1
    rw [List.tail_cons]
    have ht1 : Rst W t1 := ht.tl
    have hk : ∀ r, (∃ r48 : ByteArray × trellisref20_Reader, (trellisref20_Reader_takeName (RP W t1 o cs) r48) ∧
  if r48.2.e = 0 then
   ∃ r110 : Int, (trellisref20_Node r48.2.q r48.1 r110) ∧
   trellisref20_Reader_capture_j1 r48 (decide (r110 < 0)) r
  else
   trellisref20_Reader_capture_j1 r48 false r) → trellisref20_Reader_capture (RP W ((5, capB) :: t1) o cs) r := fun r h => ⟨_, rtake_ok hW ht c1, (if_pos rfl).mpr h⟩
    by_cases c2 : isNm t1 = true
    · rw [if_pos c2]
      have hc := rnode (show o.length ≤ 2 ^ 40 by omega) cs (hdT t1)
      by_cases c3 : inC (hdT t1) caps = true
      · rw [if_pos c3]
        have := (capN_iff hs (hdT t1)).2 c3
        refine ⟨_, hk _ ⟨_, rname_ok hW ht1 c2, (if_pos rfl).mpr ⟨_, hc, ?_⟩⟩, rfl⟩
        unfold trellisref20_Reader_capture_j1
        rw [decide_eq_false (by omega), if_neg (by simp)]
      · rw [if_neg c3]
        have := mt (capN_iff hs (hdT t1)).1 c3
        have hp : w64 ((psn W t1.tail : Int) - 1) = (psn W t1 : Int) := by
          obtain ⟨y, t2, rfl, _⟩ := isNm_ex c2
          have h4 := ht1.hd.2.2.2
          show w64 ((psn W t2 : Int) - 1) = _
          have h5 : psn W t2 ≤ W.length := by unfold psn; omega
          rw [w64_id (by omega), h4]
          omega
        refine ⟨(hdT t1, ⟨W, (psn W t1.tail : Int), ⟨o, cs⟩, 201, (psn W t1 : Int)⟩), hk _ ⟨_, rname_ok hW ht1 c2, (if_pos rfl).mpr ⟨_, hc, ?_⟩⟩, rfl, rfl, rfl, rfl⟩
        unfold trellisref20_Reader_capture_j1
        rw [decide_eq_true (by omega), if_pos rfl]
        refine ⟨_, rstop rfl 201 _, ?_⟩
        show _ = (hdT t1, (⟨W, (psn W t1.tail : Int), ⟨o, cs⟩, 201, w64 ((psn W t1.tail : Int) - 1)⟩ : trellisref20_Reader))
        rw [hp]
    · rw [if_neg c2]
      refine ⟨(noB, ⟨W, (psn W t1 : Int), ⟨o, cs⟩, 200, (psn W t1 : Int)⟩), hk _ ⟨_, rname_no ht1 (by simpa using c2), (if_neg (show ¬ (200 : Int) = 0 by decide)).mpr ?_⟩, rfl, rfl, rfl, rfl⟩
      unfold trellisref20_Reader_capture_j1
      rw [if_neg (by simp)]
  · rw [if_neg c1]
    exact ⟨(noB, ⟨W, (psn W t : Int) + 1, ⟨o, cs⟩, 200, (psn W t : Int)⟩), ⟨_, rtake_no hW ht (by simpa using c1), (if_neg (show ¬ (200 : Int) = 0 by decide)).mpr rfl⟩, rfl, rfl, rfl, rfl⟩
theorem rj2_no {e : Int} (he : e ≠ 0) {q : List Tk} {p : trellisref20_Reader} (h : ErD W e q o cs p) (r23 : Bool × trellisref20_Reader) (r145 : ByteArray × trellisref20_Reader) : ∃ r, trellisref20_Reader_cond_j2 r23 r145 p.l p.at_ p.q.nodes p.q.conds p.e p.pos r ∧ (r.e = e ∧ r.pos = (psn W q : Int)) := by
  obtain ⟨h1, h2, h3, h4⟩ := h
  refine ⟨p, ?_, h2, h3⟩
  unfold trellisref20_Reader_cond_j2
  rw [if_neg (by rw [h2]; exact he)]
theorem rcond (hW : W.length ≤ 2 ^ 40) {t : List Tk} (ht : Rst W t) (ho : o.length ≤ 32) (hcs : cs.length ≤ 16) (hs : SeenOk o caps) : ∃ r, trellisref20_Reader_cond (RP W t o cs) r ∧ (match condT cs.length caps t with
    | .ok c q => r = RP W q o (cs ++ [c])
    | .no e q => r.e = e ∧ r.pos = (psn W q : Int)) := by
  have hj : ∀ r, trellisref20_Reader_cond_j1 (isT 1 unB t, RP W t o cs) (!kwT t) W (psn W t : Int) o cs 0 0 r → trellisref20_Reader_cond (RP W t o cs) r := fun r h => by
    refine ⟨_, rsees ht rfl 1 unB, ?_⟩
    unfold kwT at h
    cases g : isT 1 unB t with
    | true =>
      rw [g] at h
      exact (if_pos rfl).mpr h
    | false =>
      rw [g, Bool.false_or] at h
      exact (if_neg (by simp)).mpr ⟨_, rsees ht rfl 1 whB, h⟩
  unfold condT
  by_cases c1 : kwT t = true
  · rw [if_pos c1]
    rw [c1] at hj
    have hkw : ∃ k x t1, t = (k, x) :: t1 := by
      cases t with
      | nil => cases c1
      | cons w t1 => exact ⟨w.1, w.2, t1, rfl⟩
    by_cases c2 : cs.length ≥ 16
    · rw [if_pos c2]
      refine ⟨⟨W, (psn W t : Int), ⟨o, cs⟩, 202, (psn W t : Int)⟩, hj _ ?_, rfl, rfl⟩
      unfold trellisref20_Reader_cond_j1
      refine (if_neg (by simp)).mpr ((if_pos (by omega)).mpr ⟨_, rstop rfl 202 _, rfl⟩)
    · rw [if_neg c2]
      obtain ⟨k, x, t1, rfl⟩ := hkw
      rw [List.tail_cons]
      generalize isT 1 unB ((k, x) :: t1) = un at hj ⊢
      have ht1 : Rst W t1 := ht.tl
      obtain ⟨r1, p1, p2⟩ := rcapture (cs := cs) hW ht1 ho hs
      have hj1 : ∀ r, (if r1.2.e = 0 then
    ∃ r317 : trellisref20_Reader, (trellisref20_Reader_take r1.2 5 (⟨#[61]⟩ : ByteArray) r317) ∧
    trellisref20_Reader_cond_j2 (un, RP W ((k, x) :: t1) o cs) r1 r317.l r317.at_ r317.q.nodes r317.q.conds r317.e r317.pos r
   else
    trellisref20_Reader_cond_j2 (un, RP W ((k, x) :: t1) o cs) r1 r1.2.l r1.2.at_ r1.2.q.nodes r1.2.q.conds r1.2.e r1.2.pos r) → trellisref20_Reader_cond (RP W ((k, x) :: t1) o cs) r := fun r h => by
        refine hj r ?_
        unfold trellisref20_Reader_cond_j1
        refine (if_neg (by simp)).mpr ((if_neg (by omega)).mpr ?_)
        rw [psn_step hW ht]
        exact ⟨_, p1, h⟩
      have hsuf := captureT_suf (caps := caps) (t := t1)
      cases e1 : captureT caps t1 with
      | no ee q =>
        have he := (captureT_err e1).ne
        rw [e1] at p2
        have p2' : ErD W ee q o cs r1.2 := p2
        dsimp only
        obtain ⟨r, u1, u2⟩ := rj2_no he p2' (un, RP W ((k, x) :: t1) o cs) r1
        exact ⟨r, hj1 r ((if_neg (by rw [p2'.2.1]; exact he)).mpr u1), u2⟩
      | ok a q =>
        rw [e1] at p2 hsuf
        have p2' : r1 = (a, RP W q o cs) := p2
        have hq : Rst W q := ht1.sub hsuf
        subst p2'
        dsimp only
        replace hj1 := fun r h => hj1 r ((if_pos rfl).mpr h)
        by_cases c3 : isT 5 eqB q = true
        · rw [if_pos c3]
          obtain ⟨q1, rfl⟩ := isT_ex c3
          rw [List.tail_cons]
          have hq1 : Rst W q1 := hq.tl
          have hj3 : ∀ r, trellisref20_Reader_cond_j3 (psn W q1 : Int) W cs (un, RP W ((k, x) :: t1) o cs) (a, RP W ((5, eqB) :: q1) o cs) o 0 0 (isS q1) r → trellisref20_Reader_cond (RP W ((k, x) :: t1) o cs) r := fun r h => by
            refine hj1 r ⟨_, rtake_ok hW hq c3, ?_⟩
            show trellisref20_Reader_cond_j2 _ _ W (psn W q1 : Int) o cs 0 0 r
            unfold trellisref20_Reader_cond_j2
            rw [if_pos rfl]
            cases q1 with
            | nil =>
              rw [psn_nil] at h ⊢
              rw [if_neg (Int.lt_irrefl _)]
              exact h
            | cons w q2 =>
              obtain ⟨k2, x2⟩ := w
              obtain ⟨h1, h2, h3, h4⟩ := hq1.hd
              rw [if_pos (by omega)]
              refine ⟨⟨by omega, by omega⟩, ?_⟩
              rw [h2]
              have : (k2 == 2) = isS ((k2, x2) :: q2) := rfl
              rw [this]
              exact h
          have hcl2 : ∀ c : api_Cond, (cs ++ [c]).length * 56 ≤ 211106232532992 := fun c => by rw [List.length_append, List.length_cons, List.length_nil]; omega
          unfold rightT
          by_cases c4 : isS q1 = true
          · rw [if_pos c4]
            cases q1 with
            | nil => cases c4
            | cons w q2 =>
              obtain ⟨k2, x2⟩ := w
              obtain ⟨h1, h2, h3, h4⟩ := hq1.hd
              refine ⟨RP W q2 o (cs ++ [⟨un, a, noB, x2⟩]), hj3 _ ?_, rfl⟩
              unfold trellisref20_Reader_cond_j3
              rw [if_pos c4]
              refine ⟨⟨by omega, by omega⟩, cs ++ [⟨un, a, noB, x2⟩], by rw [h3], hcl2 _, ?_⟩
              rw [psn_step hW hq1]
              rfl
          · rw [if_neg c4]
            obtain ⟨r2, p3, p4⟩ := rcapture (cs := cs) hW hq1 ho hs
            have hj4 : ∀ r, (∃ x286 : List api_Cond, (x286 = r2.2.q.conds ++ ([(⟨un, a, r2.1, (⟨#[]⟩ : ByteArray)⟩ : api_Cond)] : List api_Cond)) ∧
  (x286.length * 56 ≤ 211106232532992) ∧
  r = (⟨r2.2.l, r2.2.at_, (⟨r2.2.q.nodes, x286⟩ : api_Query), r2.2.e, r2.2.pos⟩ : trellisref20_Reader)) → trellisref20_Reader_cond (RP W ((k, x) :: t1) o cs) r := fun r h => by
              refine hj3 r ?_
              unfold trellisref20_Reader_cond_j3
              rw [if_neg c4]
              exact ⟨_, p3, h⟩
            cases e2 : captureT caps q1 with
            | no ee u =>
              rw [e2] at p4
              have p4' : ErD W ee u o cs r2.2 := p4
              refine ⟨_, hj4 _ ⟨_, rfl, ?_, rfl⟩, p4'.2.1, p4'.2.2.1⟩
              rw [p4'.2.2.2]
              exact hcl2 _
            | ok b u =>
              rw [e2] at p4
              have p4' : r2 = (b, RP W u o cs) := p4
              subst p4'
              exact ⟨_, hj4 _ ⟨_, rfl, hcl2 _, rfl⟩, rfl⟩
        · rw [if_neg c3]
          obtain ⟨r, u1, u2⟩ := rj2_no (W := W) (o := o) (cs := cs) (q := q) (show (200 : Int) ≠ 0 by decide) (p := ⟨W, (psn W q : Int) + 1, ⟨o, cs⟩, 200, (psn W q : Int)⟩) ⟨rfl, rfl, rfl, rfl⟩ (un, RP W ((k, x) :: t1) o cs) (a, RP W q o cs)
          exact ⟨r, hj1 r ⟨_, rtake_no hW hq (by simpa using c3), u1⟩, u2⟩
  · rw [if_neg c1]
    have c1' : kwT t = false := by simpa using c1
    rw [c1'] at hj
    refine ⟨⟨W, (psn W t : Int), ⟨o, cs⟩, 200, (psn W t : Int)⟩, hj _ ?_, rfl, rfl⟩
    unfold trellisref20_Reader_cond_j1
    exact (if_pos rfl).mpr ⟨_, rstop rfl 200 _, rfl⟩
theorem rplace (r7 : List api_Word × Int × Int) (h7 : r7.1 = W) (x : ByteArray) {e : Int} (he : e ≠ 0) (q : List Tk) (l : List api_Word) (a : Int) (ns : List api_PatNode) (cs : List api_Cond) : trellisref20_Parse_b1 r7 x l a ns cs e (psn W q : Int) (.inr (⟨[], []⟩, e, plW W (x.size : Int) q)) := by
  unfold trellisref20_Parse_b1
  rw [if_neg he, h7]
  unfold plW
  by_cases g : psn W q < W.length
  · rw [if_pos (by omega), if_pos g]
    exact ⟨⟨by omega, by omega⟩, rfl⟩
  · rw [if_neg (by omega), if_neg g]
theorem rconds (hW : W.length ≤ 2 ^ 40) (r7 : List api_Word × Int × Int) (h7 : r7.1 = W) (x : ByteArray) (ho : o.length ≤ 32) (hs : SeenOk o caps) : ∀ (f : Nat) (t : List Tk) (cs : List api_Cond), t.length < f → Rst W t → cs.length ≤ 16 → ∃ r, Rounds (fun (s : (List api_Word) × Int × (List api_PatNode) × (List api_Cond) × Int × Int) oo => trellisref20_Parse_b1 r7 x s.1 s.2.1 s.2.2.1 s.2.2.2.1 s.2.2.2.2.1 s.2.2.2.2.2 oo) (W, (psn W t : Int), o, cs, 0, 0) r ∧ (match condsT f cs.length caps t with
    | .ok l q => r = (⟨o, cs ++ l⟩, 0, 0)
    | .no e q => r = (⟨[], []⟩, e, plW W (x.size : Int) q))
  | 0, t, cs, hf, ht, hcs => absurd hf (Nat.not_lt_zero _)
  | f + 1, [], cs, hf, ht, hcs => by
    refine ⟨(⟨o, cs⟩, 0, 0), .done ?_, ?_⟩
    · dsimp only
      unfold trellisref20_Parse_b1
      rw [if_pos rfl, psn_nil, if_neg (Int.lt_irrefl _)]
    · show ((⟨o, cs⟩, 0, 0) : api_Query × Int × Int) = (⟨o, cs ++ []⟩, 0, 0)
      rw [List.append_nil]
  | f + 1, w :: t, cs, hf, ht, hcs => by
    obtain ⟨r1, p1, p2⟩ := rcond hW ht ho hcs hs
    obtain ⟨k, y⟩ := w
    obtain ⟨h1, h2, h3, h4⟩ := ht.hd
    have hb : trellisref20_Parse_b1 r7 x W (psn W ((k, y) :: t) : Int) o cs 0 0 (.inl (r1.l, r1.at_, r1.q.nodes, r1.q.conds, r1.e, r1.pos)) := by
      unfold trellisref20_Parse_b1
      rw [if_pos rfl, if_pos (by omega)]
      exact ⟨_, p1, rfl⟩
    rw [condsT_cons]
    have hsuf := condT_suf (n := cs.length) (caps := caps) (t := (k, y) :: t)
    cases e1 : condT cs.length caps ((k, y) :: t) with
    | no ee q =>
      rw [e1] at p2
      obtain ⟨p3, p4⟩ := p2
      refine ⟨(⟨[], []⟩, ee, plW W (x.size : Int) q), .next hb (.done ?_), rfl⟩
      show trellisref20_Parse_b1 r7 x r1.l r1.at_ r1.q.nodes r1.q.conds r1.e r1.pos _
      rw [p3, p4]
      exact rplace r7 h7 x (condT_err e1).ne q _ _ _ _
    | ok c q =>
      rw [e1] at p2 hsuf
      have p2' : r1 = RP W q o (cs ++ [c]) := p2
      subst p2'
      have hl := condT_lt e1
      have hsh := condT_sh e1
      have hlen : (cs ++ [c]).length = cs.length + 1 := by simp
      simp only [List.length_cons] at hf hsh
      obtain ⟨r, i1, i2⟩ := rconds hW r7 h7 x ho hs f q (cs ++ [c]) (by omega) (ht.sub hsuf) (by omega)
      refine ⟨r, .next hb i1, ?_⟩
      dsimp only
      rw [hlen] at i2
      cases e2 : condsT f (cs.length + 1) caps q with
      | no ee u => rw [e2] at i2; exact i2
      | ok l u =>
        rw [e2] at i2
        show r = (⟨o, cs ++ c :: l⟩, 0, 0)
        rw [i2]
        simp
end
theorem refparse_ok {x : ByteArray} {ct : List api_Word × Int × Int} (h : trellisref8_Cut x ct) (hl : ct.1.length ≤ 2 ^ 40) : trellisref20_Parse x (parseW (x.size : Int) ct) := by
  refine ⟨ct, h, ?_⟩
  unfold parseW
  by_cases c1 : ct.2.1 = 0
  · rw [if_pos c1, if_pos c1]
    have ht : Rst ct.1 (toks ct.1) := List.suffix_refl _
    obtain ⟨r1, p1, p2⟩ := rpattern (cs := []) hl ht (o := []) (seen := []) (by decide) SeenOk.nil
    have e0 : RP ct.1 (toks ct.1) [] [] = ⟨ct.1, 0, ⟨[], []⟩, 0, 0⟩ := by
      unfold RP
      rw [psn_all]
      rfl
    rw [e0] at p1
    refine ⟨r1, p1, ?_⟩
    unfold queryT
    have hsuf := patN_suf 0 [] (toks ct.1)
    have e3 : ([] : List api_PatNode).length = 0 := rfl
    rw [e3] at p2
    cases e1 : patN 0 [] (toks ct.1) with
    | no ee q =>
      rw [e1] at p2
      obtain ⟨k1, k2, k3, k4, k5⟩ := p2
      refine .done ?_
      show trellisref20_Parse_b1 ct x r1.l r1.at_ r1.q.nodes r1.q.conds r1.e r1.pos _
      rw [k2, k3]
      exact rplace ct rfl x (patN_err e1) q _ _ _ _
    | ok p q =>
      obtain ⟨y, k, caps⟩ := p
      rw [e1] at p2 hsuf
      have p2' : r1 = RP ct.1 q (y :: flatP k) [] := p2
      subst p2'
      have hq : Rst ct.1 q := ht.sub hsuf
      have hm := patN_max e1
      have hs : SeenOk (y :: flatP k) caps := by
        rw [patN_seen e1]
        have := SeenOk.nil.app (.cons y k .nil)
        simpa [flatP] using this
      obtain ⟨r, i1, i2⟩ := rconds hl ct rfl x (o := y :: flatP k) (by rw [List.length_cons]; omega) hs (q.length + 1) q [] (Nat.lt_succ_self _) hq (by decide)
      have e4 : ([] : List api_Cond).length = 0 := rfl
      rw [e4] at i2
      dsimp only
      cases e2 : condsT (q.length + 1) 0 caps q with
      | no ee u =>
        rw [e2] at i2
        have i2' : r = (⟨[], []⟩, ee, plW ct.1 (x.size : Int) u) := i2
        rw [i2'] at i1
        exact i1
      | ok l u =>
        rw [e2] at i2
        have i2' : r = (⟨y :: flatP k, [] ++ l⟩, 0, 0) := i2
        rw [i2'] at i1
        exact i1
  · rw [if_neg c1, if_neg c1]
end Go.Proofs.Ytjookebbmfiidaa.L
