/- Queries: the document's reader reads a whole pattern. Condition: sizes. -/
import Derived.Test.YtjookebbmfiidaaSA
set_option linter.unusedVariables false
namespace Go.Proofs.Ytjookebbmfiidaa.L
open Go.Proofs.Ytjookebbmfiidaa.B Go.Proofs.Ytjookebbmfiidaa.R
section
variable {W : List api_Word} {cs : List api_Cond}
theorem ErR.up {e : Int} {q : List Tk} {n n' B B' : Nat} {r : trellisref20_Reader} (h : ErR W e q n B r) (hn : n' ≤ n) (hB : B ≤ B') : ErR W e q n' B' r := ⟨h.1, h.2.1, h.2.2.1, ⟨h.2.2.2.1.1, by have := h.2.2.2.1.2; omega⟩, Nat.le_trans hn h.2.2.2.2⟩
theorem rkids_end (hW : W.length ≤ 2 ^ 40) {e : Int} (he : e ≠ 0) {q : List Tk} {o : List api_PatNode} {B : Nat} (hB : B ≤ 2 ^ 41) {p : trellisref20_Reader} (h : ErR W e q (o.length + 1) B p) (n : Nat) (fld nm : ByteArray) (c : Int) : ∃ r, trellisref20_Reader_pattern_b8 o fld nm (trellisref20_Reader_pattern_n n) p.l p.at_ p.q.nodes p.q.conds p.e p.pos c (.inr r) ∧ ErR W e q o.length (B + 1) r := by
  have hb := h.2.2.2.1
  have h2 : ErR W e q (o.length + 1) (B + 1) (⟨p.l, w64 (p.at_ + 1), p.q, p.e, p.pos⟩ : trellisref20_Reader) := ⟨h.1, h.2.1, h.2.2.1, by
    show 0 ≤ w64 (p.at_ + 1) ∧ w64 (p.at_ + 1) ≤ _
    rw [w64_id (by omega)]; omega, h.2.2.2.2⟩
  obtain ⟨r, r1, r2⟩ := rj4_no he h2 nm fld false c
  refine ⟨r, ?_, r2⟩
  unfold trellisref20_Reader_pattern_b8
  rw [if_neg (by rw [h.2.1]; exact he)]
  exact ⟨r, rfl, r1⟩
theorem rkids (hW : W.length ≤ 2 ^ 40) {n : Nat} {o : List api_PatNode} {fld nm : ByteArray} : ∀ (m : Nat) (t : List Tk) (c : Nat) (v : List api_PatNode) (seen : List ByteArray), t.length < m → (∀ t2 : List Tk, t2.length ≤ t.length → Rst W t2 → VD W cs n t2) → Rst W t → (o ++ zeroN :: v).length ≤ 32 → SeenOk (o ++ zeroN :: v) seen → c + t.length ≤ 2 ^ 41 →
    (match kidsN (o ++ zeroN :: v).length seen t with
      | .ok p q => ∀ r, trellisref20_Reader_pattern_j4 o fld W (psn W q : Int) (o ++ zeroN :: (v ++ flatP p.1)) cs 0 0 nm false ((c + cntP p.1 : Nat) : Int) r → Rounds (fun (s : (List api_Word) × Int × (List api_PatNode) × (List api_Cond) × Int × Int × Int) oo => trellisref20_Reader_pattern_b8 o fld nm (trellisref20_Reader_pattern_n n) s.1 s.2.1 s.2.2.1 s.2.2.2.1 s.2.2.2.2.1 s.2.2.2.2.2.1 s.2.2.2.2.2.2 oo) (W, (psn W t : Int), o ++ zeroN :: v, cs, 0, 0, (c : Int)) r
      | .no e q => ∃ r, Rounds (fun (s : (List api_Word) × Int × (List api_PatNode) × (List api_Cond) × Int × Int × Int) oo => trellisref20_Reader_pattern_b8 o fld nm (trellisref20_Reader_pattern_n n) s.1 s.2.1 s.2.2.1 s.2.2.2.1 s.2.2.2.2.1 s.2.2.2.2.2.1 s.2.2.2.2.2.2 oo) (W, (psn W t : Int), o ++ zeroN :: v, cs, 0, 0, (c : Int)) r ∧ ErR W e q o.length (bdR W o.length) r)
  | 0, t, c, v, seen, hm, hv, ht, ho, hs, hc => absurd hm (Nat.not_lt_zero _)
  | m + 1, t, c, v, seen, hm, hv, ht, ho, hs, hc => by
    rw [kidsN_eq]
    have ho1 : o.length + 1 ≤ (o ++ zeroN :: v).length := by rw [List.length_append, List.length_cons]; omega
    have hb : ∀ oo, (if isT 5 clB t = true then
   ∃ q1098 : trellisref20_Reader, (oo = .inr (q1098)) ∧
   trellisref20_Reader_pattern_j4 o fld W (w64 ((psn W t : Int) + 1)) (o ++ zeroN :: v) cs 0 0 nm false (c : Int) q1098
  else
   ∃ r1103 : trellisref20_Reader, (trellisref20_Reader_pattern_n n (RP W t (o ++ zeroN :: v) cs) r1103) ∧
   oo = .inl (r1103.l, r1103.at_, r1103.q.nodes, r1103.q.conds, r1103.e, r1103.pos, w64 ((c : Int) + 1))) → trellisref20_Reader_pattern_b8 o fld nm (trellisref20_Reader_pattern_n n) W (psn W t : Int) (o ++ zeroN :: v) cs 0 0 (c : Int) oo := fun oo h => by
      unfold trellisref20_Reader_pattern_b8
      rw [if_pos rfl]
      exact ⟨_, rsees ht rfl 5 clB, h⟩
    by_cases c1 : isT 5 clB t = true
    · rw [if_pos c1]
      intro r hj
      refine .done (hb _ ?_)
      rw [if_pos c1]
      obtain ⟨t1, rfl⟩ := isT_ex c1
      refine ⟨r, rfl, ?_⟩
      rw [psn_step hW ht]
      simp only [flatP, List.append_nil, cntP, Nat.add_zero] at hj
      exact hj
    · rw [if_neg c1]
      obtain ⟨r1, p1, p2⟩ := hv t (Nat.le_refl _) ht (o ++ zeroN :: v) seen ho hs
      have hsuf := patN_suf (o ++ zeroN :: v).length seen t
      have hsh := patN_sh (o ++ zeroN :: v).length seen t
      cases e : patN (o ++ zeroN :: v).length seen t with
      | no ee q =>
        have he := patN_err e
        rw [e] at p2
        have p2' : ErR W ee q (o ++ zeroN :: v).length (bdR W (o ++ zeroN :: v).length) r1 := p2
        dsimp only
        have p3 : ErR W ee q (o.length + 1) (bdR W (o.length + 1)) r1 := p2'.up ho1 (by unfold bdR; omega)
        obtain ⟨r3, u1, u2⟩ := rkids_end hW he (by unfold bdR; omega) p3 n fld nm (w64 ((c : Int) + 1))
        refine ⟨r3, .next (hb (.inl (r1.l, r1.at_, r1.q.nodes, r1.q.conds, r1.e, r1.pos, w64 ((c : Int) + 1))) ?_) (.done u1), u2.up (Nat.le_refl _) (by unfold bdR; omega)⟩
        rw [if_neg c1]
        exact ⟨r1, p1, rfl⟩
      | ok p q =>
        obtain ⟨x, k, seen'⟩ := p
        rw [e] at p2 hsuf hsh
        have p2' : r1 = RP W q ((o ++ zeroN :: v) ++ x :: flatP k) cs := p2
        have hsuf' : q <:+ t := hsuf
        have hsh' : q.length < t.length := hsh
        have hmax := patN_max e
        have hseen := patN_seen e
        dsimp only
        have hv2 : (o ++ zeroN :: v) ++ x :: flatP k = o ++ zeroN :: (v ++ x :: flatP k) := by simp
        have hlen2 : (o ++ zeroN :: v).length + 1 + (flatP k).length = (o ++ zeroN :: (v ++ x :: flatP k)).length := by
          rw [← hv2, List.length_append (as := o ++ zeroN :: v), List.length_cons]
          omega
        have hs2 : SeenOk (o ++ zeroN :: (v ++ x :: flatP k)) seen' := by
          rw [← hv2, hseen]
          have := hs.app (.cons x k .nil)
          simpa [flatP] using this
        have ih := rkids hW m q (c + 1) (v ++ x :: flatP k) seen' (by omega) (fun t2 h2 => hv t2 (by omega)) (ht.sub hsuf') (by omega) hs2 (by omega) (fld := fld) (nm := nm)
        have hnx : ∀ r, Rounds (fun (s : (List api_Word) × Int × (List api_PatNode) × (List api_Cond) × Int × Int × Int) oo => trellisref20_Reader_pattern_b8 o fld nm (trellisref20_Reader_pattern_n n) s.1 s.2.1 s.2.2.1 s.2.2.2.1 s.2.2.2.2.1 s.2.2.2.2.2.1 s.2.2.2.2.2.2 oo) (W, (psn W q : Int), o ++ zeroN :: (v ++ x :: flatP k), cs, 0, 0, ((c + 1 : Nat) : Int)) r → Rounds (fun (s : (List api_Word) × Int × (List api_PatNode) × (List api_Cond) × Int × Int × Int) oo => trellisref20_Reader_pattern_b8 o fld nm (trellisref20_Reader_pattern_n n) s.1 s.2.1 s.2.2.1 s.2.2.2.1 s.2.2.2.2.1 s.2.2.2.2.2.1 s.2.2.2.2.2.2 oo) (W, (psn W t : Int), o ++ zeroN :: v, cs, 0, 0, (c : Int)) r := fun r h => by
          refine .next (hb _ ?_) h
          rw [if_neg c1]
          refine ⟨r1, p1, ?_⟩
          rw [p2', hv2, w64_id (by omega)]
          rfl
        rw [hlen2]
        cases e2 : kidsN (o ++ zeroN :: (v ++ x :: flatP k)).length seen' q with
        | no ee u =>
          rw [e2] at ih
          obtain ⟨r, i1, i2⟩ := ih
          exact ⟨r, hnx r i1, i2⟩
        | ok p u =>
          obtain ⟨g, s2⟩ := p
          rw [e2] at ih
          intro r hj
          refine hnx r (ih r ?_)
          have e3 : v ++ x :: flatP k ++ flatP g = v ++ flatP (.cons x k g) := by simp [flatP]
          have e4 : c + 1 + cntP g = c + cntP (.cons x k g) := by simp only [cntP]; omega
          dsimp only at hj ⊢
          rw [e3, e4]
          exact hj
theorem rj3 (hW : W.length ≤ 2 ^ 40) {n : Nat} {a : List Tk} (ha : Rst W a) (hn : ∀ t2 : List Tk, t2.length < a.length → Rst W t2 → VD W cs n t2) {o : List api_PatNode} (ho : o.length < 32) {seen : List ByteArray} (hs : SeenOk o seen) (fld : ByteArray) :
    ∃ r, trellisref20_Reader_pattern_j3 W (o ++ [zeroN]) cs 0 0 o (trellisref20_Reader_pattern_n n) fld (psn W a : Int) r ∧ vD W o cs (if isSt a = true then capT ⟨hdT a, true, fld, noB, 0⟩ .nil seen a.tail
      else if isT 5 opB a = true then
        if nmT a.tail = true then
          match kidsN (o.length + 1) seen a.tail.tail with
          | .no e r => .no e r
          | .ok (k, seen') r => capT ⟨if isT 1 uscB a.tail = true then noB else hdT a.tail, false, fld, noB, (cntP k : Int)⟩ k seen' r
        else .no 200 a.tail
      else .no 200 a) r := by
  have hal := ha.le
  have hbd : W.length + 3 ≤ bdR W o.length := by unfold bdR; omega
  have hs1 : SeenOk (o ++ zeroN :: []) seen := (SeenOk.mid rfl).2 (by rwa [List.append_nil])
  have hl1 : (o ++ [zeroN]).length = o.length + 1 := by simp
  have hj : ∀ r, (if isSt a = true then
  (0 ≤ (psn W a : Int) ∧ (psn W a : Int) < (W.length : Int)) ∧
  trellisref20_Reader_pattern_j4 o fld W (w64 ((psn W a : Int) + 1)) (o ++ [zeroN]) cs 0 0 ((ix W (psn W a : Int)).text) true 0 r
 else
  ∃ r826 : trellisref20_Reader, (trellisref20_Reader_take (RP W a (o ++ [zeroN]) cs) 5 (⟨#[40]⟩ : ByteArray) r826) ∧
  if r826.e = 0 then
   ∃ r1155 : Bool × trellisref20_Reader, (trellisref20_Reader_sees r826 r826.at_ 1 (⟨#[95]⟩ : ByteArray) r1155) ∧
   trellisref20_Reader_pattern_j6 o fld (trellisref20_Reader_pattern_n n) r1155.1 r1155.2.l r1155.2.at_ r1155.2.q.nodes r1155.2.q.conds r1155.2.e r1155.2.pos r
  else
   trellisref20_Reader_pattern_j6 o fld (trellisref20_Reader_pattern_n n) false r826.l r826.at_ r826.q.nodes r826.q.conds r826.e r826.pos r) → trellisref20_Reader_pattern_j3 W (o ++ [zeroN]) cs 0 0 o (trellisref20_Reader_pattern_n n) fld (psn W a : Int) r := fun r h => by
    unfold trellisref20_Reader_pattern_j3
    refine ⟨_, rtext ha rfl, ?_⟩
    exact h
  by_cases c3 : isSt a = true
  · rw [if_pos c3]
    obtain ⟨x, a1, rfl, hx⟩ := isSt_ex c3
    obtain ⟨h1, h2, h3, h4⟩ := ha.hd
    obtain ⟨r, r1, r2⟩ := rj4_ok (cs := cs) hW ha.tl (o := o) (v := []) (by rw [List.length_append, List.length_cons, List.length_nil]; omega) hs1 x fld true 0 .nil
    refine ⟨r, hj r ?_, ?_⟩
    · rw [if_pos c3]
      refine ⟨⟨by omega, by omega⟩, ?_⟩
      rw [h3, psn_step hW ha]
      exact r1
    · show vD W o cs (capT ⟨x, true, fld, noB, 0⟩ .nil seen a1) r
      have r2' : (match capT ⟨x, true, fld, noB, 0⟩ PF.nil seen a1 with | .ok p q => r = RP W q (o ++ p.1 :: []) cs | .no e q => ErR W e q o.length (W.length + 1) r) := r2
      cases e : capT ⟨x, true, fld, noB, 0⟩ PF.nil seen a1 with
      | ok p q =>
        rw [e] at r2'
        obtain ⟨y, k, s2⟩ := p
        have hk : k = .nil := capT_kid e
        rw [hk]
        exact r2'
      | no e q =>
        rw [e] at r2'
        exact ErR.up r2' (Nat.le_refl _) (by omega)
  · rw [if_neg c3]
    replace hj := fun r h => hj r ((if_neg c3).mpr h)
    by_cases c4 : isT 5 opB a = true
    · rw [if_pos c4]
      obtain ⟨a1, rfl⟩ := isT_ex c4
      have ha1 : Rst W a1 := ha.tl
      rw [List.tail_cons]
      have hsg := rtake_ok hW ha (o := o ++ [zeroN]) (cs := cs) c4
      have hj2 : ∀ nm r, nmT a1 = true → nm = (if isT 1 uscB a1 = true then noB else hdT a1) → trellisref20_Reader_pattern_j7 o fld (trellisref20_Reader_pattern_n n) W (psn W a1.tail : Int) (o ++ [zeroN]) cs 0 0 nm r → trellisref20_Reader_pattern_j3 W (o ++ [zeroN]) cs 0 0 o (trellisref20_Reader_pattern_n n) fld (psn W ((5, opB) :: a1) : Int) r := fun nm r hn he h => by
        refine hj r ⟨_, hsg, ?_⟩
        refine (if_pos rfl).mpr ⟨_, rsees ha1 rfl 1 uscB, ?_⟩
        unfold trellisref20_Reader_pattern_j6
        by_cases g : isT 1 uscB a1 = true
        · rw [if_pos g]
          rw [if_pos g] at he
          obtain ⟨a2, rfl⟩ := isT_ex g
          show trellisref20_Reader_pattern_j7 o fld (trellisref20_Reader_pattern_n n) W (w64 ((psn W ((1, uscB) :: a2) : Int) + 1)) (o ++ [zeroN]) cs 0 0 noB r
          rw [psn_step hW ha1, ← he]
          exact h
        · rw [if_neg g]
          rw [if_neg g] at he
          have g2 : isNm a1 = true := by
            unfold nmT at hn
            rw [Bool.or_eq_true] at hn
            exact hn.resolve_left g
          refine (if_pos rfl).mpr ⟨_, rname_ok hW ha1 g2, ?_⟩
          rw [← he]
          exact h
      by_cases c5 : nmT a1 = true
      · rw [if_pos c5]
        generalize hnm : (if isT 1 uscB a1 = true then noB else hdT a1) = nm
        have hlt1 := tl_le a1
        simp only [List.length_cons] at hn hal
        have hkd := rkids (cs := cs) hW (o := o) (fld := fld) (nm := nm) (n := n) (a1.tail.length + 1) a1.tail 0 [] seen (Nat.lt_succ_self _) (fun t2 h2 hr2 => hn t2 (by omega) hr2) ha1.tl (by rw [List.length_append, List.length_cons, List.length_nil]; omega) hs1 (by omega)
        rw [hl1] at hkd
        have hsuf := kidsN_suf (o.length + 1) seen a1.tail
        cases e : kidsN (o.length + 1) seen a1.tail with
        | no ee q =>
          rw [e] at hkd
          obtain ⟨r, k1, k2⟩ := hkd
          exact ⟨r, hj2 nm r c5 hnm.symm (by unfold trellisref20_Reader_pattern_j7; exact k1), k2⟩
        | ok p q =>
          obtain ⟨k, seen'⟩ := p
          rw [e] at hkd hsuf
          have hseen := kidsN_seen e
          have hmax := (pat_max _).2 _ _ _ _ _ _ (by omega) e
          have hsuf' : q <:+ a1.tail := hsuf
          have hs2 : SeenOk (o ++ zeroN :: flatP k) seen' := by
            have h1 := hs1.app k
            rw [hseen]
            simpa using h1
          obtain ⟨r, r1, r2⟩ := rj4_ok (cs := cs) hW (ha1.tl.sub hsuf') (o := o) (v := flatP k) (by rw [List.length_append, List.length_cons]; omega) hs2 nm fld false (cntP k : Int) k
          refine ⟨r, hj2 nm r c5 hnm.symm ?_, ?_⟩
          · unfold trellisref20_Reader_pattern_j7
            refine hkd r ?_
            dsimp only
            rw [List.nil_append, Nat.zero_add]
            exact r1
          · dsimp only
            cases e3 : capT ⟨nm, false, fld, noB, (cntP k : Int)⟩ k seen' q with
            | ok p q2 =>
              rw [e3] at r2
              obtain ⟨y, k2, s2⟩ := p
              have hk : k2 = k := capT_kid e3
              rw [hk]
              exact r2
            | no ee q2 =>
              rw [e3] at r2
              exact ErR.up r2 (Nat.le_refl _) (by omega)
      · rw [if_neg c5]
        have c5' : isT 1 uscB a1 = false ∧ isNm a1 = false := by
          unfold nmT at c5
          rw [Bool.or_eq_true, not_or] at c5
          exact ⟨by simpa using c5.1, by simpa using c5.2⟩
        have hps := ha1.psn_le
        have her : ErR W 200 a1 (o.length + 1) W.length (⟨W, (psn W a1 : Int), ⟨o ++ [zeroN], cs⟩, 200, (psn W a1 : Int)⟩ : trellisref20_Reader) := ⟨rfl, rfl, rfl, ⟨Int.natCast_nonneg _, by show (psn W a1 : Int) ≤ _; omega⟩, by show _ ≤ (o ++ [zeroN]).length; rw [hl1]; exact Nat.le_refl _⟩
        obtain ⟨r3, u1, u2⟩ := rkids_end hW (by decide) (by omega) her n fld noB 0
        refine ⟨r3, hj r3 ⟨_, hsg, ?_⟩, ErR.up u2 (Nat.le_refl _) (by omega)⟩
        refine (if_pos rfl).mpr ⟨_, rsees ha1 rfl 1 uscB, ?_⟩
        unfold trellisref20_Reader_pattern_j6
        rw [c5'.1, if_neg (by simp)]
        refine (if_pos rfl).mpr ⟨_, rname_no ha1 c5'.2, ?_⟩
        unfold trellisref20_Reader_pattern_j7
        exact .done u1
    · rw [if_neg c4]
      have c4' : isT 5 opB a = false := by simpa using c4
      have hsg := rtake_no hW ha (o := o ++ [zeroN]) (cs := cs) c4'
      have hps := ha.psn_le
      have her : ErR W 200 a (o.length + 1) (W.length + 1) (⟨W, (psn W a : Int) + 1, ⟨o ++ [zeroN], cs⟩, 200, (psn W a : Int)⟩ : trellisref20_Reader) := ⟨rfl, rfl, rfl, ⟨by show 0 ≤ (psn W a : Int) + 1; omega, by show (psn W a : Int) + 1 ≤ _; omega⟩, by show _ ≤ (o ++ [zeroN]).length; rw [hl1]; exact Nat.le_refl _⟩
      obtain ⟨r3, u1, u2⟩ := rkids_end hW (by decide) (by omega) her n fld noB 0
      refine ⟨r3, hj r3 ⟨_, hsg, ?_⟩, ErR.up u2 (Nat.le_refl _) (by omega)⟩
      refine (if_neg (show ¬ (200 : Int) = 0 by decide)).mpr ?_
      unfold trellisref20_Reader_pattern_j6
      rw [if_neg (by simp)]
      refine (if_neg (show ¬ (200 : Int) = 0 by decide)).mpr ?_
      unfold trellisref20_Reader_pattern_j7
      exact .done u1
theorem vd_all (hW : W.length ≤ 2 ^ 40) : ∀ (n : Nat) (t : List Tk), t.length < n → Rst W t → VD W cs n t
  | 0, t, hn, ht => absurd hn (Nat.not_lt_zero _)
  | n + 1, t, hn, ht => by
    intro o seen ho hs
    have hle := ht.le
    have hps := ht.psn_le
    have j2 : ∀ r, trellisref20_Reader_pattern_j2 (isFd t) (trellisref20_Reader_pattern_n n) (!beginsT t) W (psn W t : Int) o cs 0 0 r → trellisref20_Reader_pattern_n (n + 1) (RP W t o cs) r := fun r h => by
      have j1 : trellisref20_Reader_pattern_j1 (trellisref20_Reader_pattern_n n) (isFd t) W (psn W t : Int) o cs 0 0 r := by
        unfold trellisref20_Reader_pattern_j1
        unfold beginsT at h
        cases g : isFd t with
        | true =>
          rw [g] at h
          exact (if_pos rfl).mpr h
        | false =>
          rw [g, Bool.false_or] at h
          refine (if_neg (by simp)).mpr ⟨_, rtext ht rfl, ?_⟩
          cases g2 : isSt t with
          | true =>
            rw [g2, Bool.or_true] at h
            exact (if_pos rfl).mpr h
          | false =>
            rw [g2, Bool.or_false] at h
            exact (if_neg (by simp)).mpr ⟨_, rsees ht rfl 5 opB, h⟩
      show trellisref20_Reader_pattern_body (trellisref20_Reader_pattern_n n) _ r
      unfold trellisref20_Reader_pattern_body
      refine ⟨_, rnamed ht rfl, ?_⟩
      unfold isFd at j1
      cases g : isNm t with
      | false =>
        rw [g, Bool.false_and] at j1
        exact (if_neg (by simp)).mpr j1
      | true =>
        rw [g, Bool.true_and] at j1
        obtain ⟨x, t1, rfl, hx⟩ := isNm_ex g
        refine (if_pos rfl).mpr ⟨(isT 5 colB t1, RP W ((1, x) :: t1) o cs), ?_, j1⟩
        show trellisref20_Reader_sees _ (w64 ((psn W ((1, x) :: t1) : Int) + 1)) _ _ _
        rw [psn_step hW ht]
        exact rsees ht.tl rfl 5 colB
    rw [patN_eq]
    by_cases c1 : beginsT t = true
    · rw [if_pos c1]
      rw [c1] at j2
      by_cases c2 : o.length ≥ 32
      · rw [if_pos c2]
        refine ⟨⟨W, (psn W t : Int), ⟨o, cs⟩, 202, (psn W t : Int)⟩, j2 _ ?_, rfl, rfl, rfl, ⟨Int.natCast_nonneg _, by show (psn W t : Int) ≤ _; unfold bdR; omega⟩, Nat.le_refl _⟩
        unfold trellisref20_Reader_pattern_j2
        rw [if_neg (by simp), if_pos (by omega)]
        exact ⟨_, rstop rfl 202 _, rfl⟩
      · rw [if_neg c2]
        have hal := aftT_le t
        have ha : Rst W (aftT t) := ht.sub (aftT_suf t)
        obtain ⟨r, r1, r2⟩ := rj3 (cs := cs) hW ha (fun t2 h2 hr2 => vd_all hW n t2 (by omega) hr2) (o := o) (by omega) hs (fldT t)
        refine ⟨r, j2 r ?_, r2⟩
        unfold trellisref20_Reader_pattern_j2
        rw [if_neg (by simp), if_neg (by omega)]
        refine ⟨_, rfl, by rw [List.length_append, List.length_cons, List.length_nil]; omega, ?_⟩
        by_cases c3 : isFd t = true
        · rw [if_pos c3]
          obtain ⟨x, t1, rfl, hx⟩ := isFd_ex c3
          obtain ⟨h1, h2, h3, h4⟩ := ht.hd
          obtain ⟨k1, k2, k3, k4⟩ := (Rst.tl ht).hd
          have ef : fldT ((1, x) :: (5, colB) :: t1) = x := by unfold fldT; rw [if_pos c3]; rfl
          have ea : aftT ((1, x) :: (5, colB) :: t1) = t1 := by unfold aftT; rw [if_pos c3]; rfl
          rw [ef, ea] at r1
          refine ⟨⟨by omega, by omega⟩, ?_⟩
          rw [h3, w64_id (by omega), show (psn W ((1, x) :: (5, colB) :: t1) : Int) + 2 = (psn W t1 : Int) by
            have k4' : psn W t1 = psn W ((5, colB) :: t1) + 1 := k4
            rw [k4', h4]; omega]
          exact r1
        · rw [if_neg c3]
          have ef : fldT t = noB := by unfold fldT; rw [if_neg c3]
          have ea : aftT t = t := by unfold aftT; rw [if_neg c3]
          rw [ef, ea] at r1
          exact r1
    · rw [if_neg c1]
      have c1' : beginsT t = false := by simpa using c1
      rw [c1'] at j2
      refine ⟨⟨W, (psn W t : Int), ⟨o, cs⟩, 200, (psn W t : Int)⟩, j2 _ ?_, rfl, rfl, rfl, ⟨Int.natCast_nonneg _, by show (psn W t : Int) ≤ _; unfold bdR; omega⟩, Nat.le_refl _⟩
      unfold trellisref20_Reader_pattern_j2
      exact (if_pos rfl).mpr ⟨_, rstop rfl 200 _, rfl⟩
theorem rpattern (hW : W.length ≤ 2 ^ 40) {t : List Tk} (ht : Rst W t) {o : List api_PatNode} {seen : List ByteArray} (ho : o.length ≤ 32) (hs : SeenOk o seen) : ∃ r, trellisref20_Reader_pattern (RP W t o cs) r ∧ vD W o cs (patN o.length seen t) r := by
  obtain ⟨r, h1, h2⟩ := vd_all (cs := cs) hW (t.length + 1) t (Nat.lt_succ_self _) ht o seen ho hs
  exact ⟨r, ⟨_, h1⟩, h2⟩
end
end Go.Proofs.Ytjookebbmfiidaa.L
