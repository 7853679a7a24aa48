/- JSON: the program's Parse. Condition: sizes. -/
import Derived.Test.YtmfopcbjgbphaaaDoorQ11
set_option linter.unusedVariables false
namespace Go.Proofs.YtmfopcbjgbphaaaDoor.L
open Go.Proofs.YtmfopcbjgbphaaaDoor.B Go.Proofs.YtmfopcbjgbphaaaDoor.R
def RestR {α : Type} (s : ByteArray) : Res α → Prop
  | .ok _ q => Rest s q
  | .no _ q => Rest s q
section
variable {s : ByteArray}
theorem Rest.wordH {kind : Int} {w : List Int} {key : ByteArray} {t : List Int} (h : Rest s t) : RestR s (wordH kind w key t) := by
  unfold L.wordH
  split <;> exact h.word
theorem Rest.strH {key : ByteArray} {t : List Int} (h : Rest s t) : RestR s (strH key t) := by
  unfold L.strH
  have h1 := h.strQ
  generalize L.strQ t = p at h1 ⊢
  obtain ⟨q, r⟩ := p
  cases q <;> exact h1
theorem Rest.numH {key : ByteArray} {t : List Int} (h : Rest s t) : RestR s (numH key t) := by
  unfold L.numH
  split <;> exact h.num
theorem Rest.head {d : Nat} {key : ByteArray} {t : List Int} (h : Rest s t) : (∀ r, headL d key t = .done r → RestR s r) ∧ (∀ obj t1, headL d key t = .many obj t1 → Rest s t1) := by
  have hd : ∀ r0 : Res (JNd × F), RestR s r0 → (∀ r, Head.done r0 = .done r → RestR s r) ∧ (∀ obj t1, Head.done r0 = .many obj t1 → Rest s t1) := fun r0 h => ⟨fun r e => (by injection e with e; rw [← e]; exact h), fun _ _ e => (by cases e)⟩
  unfold headL
  split
  · exact hd _ h.wordH
  split
  · exact hd _ h.wordH
  split
  · exact hd _ h.wordH
  split
  · exact hd _ h.strH
  split
  · unfold manyH
    split
    · exact hd _ h
    split
    · exact hd _ h.tail.bl.tail
    · exact ⟨fun _ e => (by cases e), fun _ _ e => (by injection e with _ e; rw [← e]; exact h.tail.bl)⟩
  · exact hd _ h.numH
theorem Rest.key {obj : Bool} {seen : List ByteArray} {t : List Int} (h : Rest s t) : RestR s (keyL obj seen t) := by
  unfold keyL
  split
  · have h1 := h.strQ
    generalize L.strQ t = p at h1 ⊢
    obtain ⟨q, r⟩ := p
    cases q with
    | none => exact h1
    | some k =>
      dsimp only at h1 ⊢
      split
      · exact h
      split
      · exact h1.bl.tail.bl
      · exact h1.bl
  · exact h
theorem val_rest : ∀ (f : Nat), (∀ d key t, Rest s t → RestR s (valL f d key t)) ∧ (∀ d obj seen t, Rest s t → RestR s (itemsL f d obj seen t))
  | 0 => ⟨fun d key t h => h, fun d obj seen t h => h⟩
  | f + 1 => by
    obtain ⟨i1, i2⟩ := val_rest f
    refine ⟨fun d key t h => ?_, fun d obj seen t h => ?_⟩
    · rw [valL_succ]
      obtain ⟨h1, h2⟩ := h.head (d := d) (key := key)
      cases e : headL d key t with
      | done r => exact h1 r e
      | many obj t1 =>
        have h4 := i2 (d + 1) obj [] t1 (h2 obj t1 e)
        dsimp only
        cases e2 : itemsL f (d + 1) obj [] t1 with
        | ok k r => rw [e2] at h4; exact h4
        | no e r => rw [e2] at h4; exact h4
    · rw [itemsL_succ]
      have h1 := h.key (obj := obj) (seen := seen)
      cases e : keyL obj seen t with
      | no e r => rw [e] at h1; exact h1
      | ok key t2 =>
        rw [e] at h1
        have h2 := i1 d key t2 h1
        dsimp only
        cases e2 : valL f d key t2 with
        | no e r => rw [e2] at h2; exact h2
        | ok p r =>
          rw [e2] at h2
          have h2' : Rest s r := h2
          dsimp only
          split
          · exact h2'.bl.tail
          split
          · have h6 := i2 d obj (key :: seen) (blL (blL r).tail) h2'.bl.tail.bl
            cases e3 : itemsL f d obj (key :: seen) (blL (blL r).tail) with
            | ok s q => rw [e3] at h6; exact h6
            | no e q => rw [e3] at h6; exact h6
          · exact h2'.bl
theorem Rest.valN {d : Nat} {key : ByteArray} {t : List Int} (h : Rest s t) : RestR s (valN d key t) := (val_rest _).1 d key t h
theorem Rest.itemsN {d : Nat} {obj : Bool} {seen : List ByteArray} {t : List Int} (h : Rest s t) : RestR s (itemsN d obj seen t) := (val_rest _).2 d obj seen t h
end
theorem valN_sh (d : Nat) (key : ByteArray) (t : List Int) : Sh t.length (valN d key t) := (val_sh _).1 d key t
theorem valN_sz {d : Nat} {key : ByteArray} {t : List Int} {p : JNd × F} {r : List Int} (h : valN d key t = .ok p r) : (flat p.2).length + 1 + r.length ≤ t.length := (val_sz _).1 d key t p r h
def vR (s : ByteArray) (o : List JNd) (d : Nat) : Res (JNd × F) → Bool × jps → Prop
  | .ok p q, r => r = (true, J s q (o ++ p.1 :: flat p.2) (d : Int) 250)
  | .no e q, r => ∃ o', o.length < o'.length ∧ r = (false, J s q o' (d : Int) e)
def iR (s : ByteArray) (o : List JNd) (d : Nat) (obj : Bool) (n : Nat) : Res F → Int × Int × Bool × jps → Prop
  | .ok k q, r => r = (kindO obj, ((n + cnt k : Nat) : Int), true, J s q (o ++ flat k) (d : Int) 250)
  | .no e q, r => ∃ o' c', o.length ≤ o'.length ∧ r = (kindO obj, c', false, J s q o' (d : Int) e)
def VS (s : ByteArray) (n : Nat) (t : List Int) : Prop := ∀ (d : Nat) (key : ByteArray) (o : List JNd), d ≤ 64 → o.length + t.length ≤ 2 ^ 41 → ∃ r, jps_value_n n (J s t o (d : Int) 250) key r ∧ vR s o d (valN d key t) r
def endB (obj : Bool) : ByteArray := if obj = true then ⟨#[125]⟩ else ⟨#[93]⟩
theorem endB_ok (obj : Bool) : bsOf (endB obj) = endO obj := by cases obj <;> rfl
section
variable {s : ByteArray}
theorem jmany3 (hs : s.size ≤ 2 ^ 40) {n : Nat} {obj : Bool} {t2 : List Int} (hv : VS s n t2) {d : Nat} (hd : d ≤ 64) {key : ByteArray} {o : List JNd} (ho : o.length + t2.length ≤ 2 ^ 41) (hr : Rest s t2) {c : Nat} (hc : c ≤ 2 ^ 41) (keys : ByteArray → Int) :
    ∃ oo, jps_many_j3 (jps_value_n n) (endB obj) (kindO obj) (((c + 1 : Nat) : Int)) key s (plc s t2 : Int) o (d : Int) 250 keys oo ∧ (match valN d key t2 with
      | .no e q => ∃ r, oo = .inr r ∧ iR s o d obj c (.no e q) r
      | .ok p q => if isL (endO obj) (blL q) = true then oo = .inr (kindO obj, ((c + 1 : Nat) : Int), true, J s (blL q).tail (o ++ p.1 :: flat p.2) (d : Int) 250)
        else if isL [44] (blL q) = true then oo = .inl (((c + 1 + 1 : Nat) : Int), keys, s, (plc s (blL (blL q).tail) : Int), o ++ p.1 :: flat p.2, (d : Int), 250)
        else ∃ r, oo = .inr r ∧ iR s o d obj c (.no 250 (blL q)) r) := by
  obtain ⟨r, hr1, hr2⟩ := hv d key o hd ho
  have hrest := hr.valN (d := d) (key := key)
  have hb : ∀ oo, (if r.1 = true then
  ∃ r535 : jps, (jps_blanks r.2 r535) ∧
  ∃ r548 : Bool × jps, (jps_is r535 (endB obj) r548) ∧
  if r548.1 = true then
   oo = .inr ((kindO obj, ((c + 1 : Nat) : Int), true, (⟨r548.2.text, w64 (r548.2.at_ + 1), r548.2.out, r548.2.in_, r548.2.code⟩ : jps)))
  else
   ∃ r562 : Bool × jps, (jps_take r548.2 (⟨#[44]⟩ : ByteArray) r562) ∧
   if r562.1 = true then
    ∃ r576 : jps, (jps_blanks r562.2 r576) ∧
    oo = .inl (w64 (((c + 1 : Nat) : Int) + 1), keys, r576.text, r576.at_, r576.out, r576.in_, r576.code)
   else
    oo = .inr ((kindO obj, ((c + 1 : Nat) : Int), false, r562.2))
 else
  oo = .inr ((kindO obj, ((c + 1 : Nat) : Int), false, r.2))) → jps_many_j3 (jps_value_n n) (endB obj) (kindO obj) (((c + 1 : Nat) : Int)) key s (plc s t2 : Int) o (d : Int) 250 keys oo := fun oo h => ⟨r, hr1, h⟩
  cases e : valN d key t2 with
  | no ee q =>
    rw [e] at hr2
    obtain ⟨o', h1, h2⟩ := hr2
    subst h2
    exact ⟨_, hb _ (by rw [if_neg (by simp)]), _, rfl, o', _, by omega, rfl⟩
  | ok p q =>
    rw [e] at hr2 hrest
    have hr2' : r = (true, J s q (o ++ p.1 :: flat p.2) (d : Int) 250) := hr2
    have hrest' : Rest s q := hrest
    subst hr2'
    dsimp only
    have hbl := hrest'.bl
    have hpl := plc_le (s := s) (blL q)
    by_cases g1 : isL (endO obj) (blL q) = true
    · refine ⟨.inr (kindO obj, ((c + 1 : Nat) : Int), true, J s (blL q).tail (o ++ p.1 :: flat p.2) (d : Int) 250), hb _ ?_, by rw [if_pos g1]⟩
      rw [if_pos rfl]
      refine ⟨_, jblanks hs hrest', _, jis (endB_ok obj) hbl, ?_⟩
      rw [if_pos g1, w64_nat (by omega)]
      show _ = Sum.inr (kindO obj, ((c + 1 : Nat) : Int), true, (⟨s, (plc s (blL q) : Int) + 1, _, _, _⟩ : jps))
      have e2 : ((plc s (blL q) : Nat) : Int) + 1 = (plc s (blL q).tail : Int) := by rw [plc_tail hbl g1]; omega
      rw [e2]
    · by_cases g2 : isL [44] (blL q) = true
      · refine ⟨.inl (((c + 1 + 1 : Nat) : Int), keys, s, (plc s (blL (blL q).tail) : Int), o ++ p.1 :: flat p.2, (d : Int), 250), hb _ ?_, by rw [if_neg g1, if_pos g2]⟩
        rw [if_pos rfl]
        refine ⟨_, jblanks hs hrest', _, jis (endB_ok obj) hbl, ?_⟩
        rw [if_neg g1]
        refine ⟨_, jtake hs (l := ⟨#[44]⟩) (L := [44]) rfl hbl, ?_⟩
        rw [if_pos g2, if_pos g2]
        refine ⟨_, jblanks hs hbl.tail, ?_⟩
        rw [w64_nat (by omega)]
        rfl
      · refine ⟨.inr (kindO obj, ((c + 1 : Nat) : Int), false, J s (blL q) (o ++ p.1 :: flat p.2) (d : Int) 250), hb _ ?_, by rw [if_neg g1, if_neg g2]; exact ⟨_, rfl, o ++ p.1 :: flat p.2, _, by rw [List.length_append]; omega, rfl⟩⟩
        rw [if_pos rfl]
        refine ⟨_, jblanks hs hrest', _, jis (endB_ok obj) hbl, ?_⟩
        rw [if_neg g1]
        refine ⟨_, jtake hs (l := ⟨#[44]⟩) (L := [44]) rfl hbl, ?_⟩
        rw [if_neg g2, if_neg g2]
theorem jitems (hs : s.size ≤ 2 ^ 40) {n : Nat} {obj : Bool} {d : Nat} (hd : d ≤ 64) : ∀ (m : Nat) (t : List Int) (c : Nat) (keys : ByteArray → Int) (seen : List ByteArray) (o : List JNd), t.length < m → (∀ t2 : List Int, t2.length ≤ t.length → Rest s t2 → VS s n t2) → Rest s t → o.length + t.length ≤ 2 ^ 41 → c + t.length ≤ 2 ^ 41 → (obj = true → ∀ k, keys k = if inK k seen = true then 1 else 0) →
    ∃ r, Rounds (fun (q : Int × (ByteArray → Int) × ByteArray × Int × (List JNd) × Int × Int) o => jps_many_b2 (kindO obj) (jps_value_n n) (endB obj) q.1 q.2.1 q.2.2.1 q.2.2.2.1 q.2.2.2.2.1 q.2.2.2.2.2.1 q.2.2.2.2.2.2 o) (((c + 1 : Nat) : Int), keys, s, (plc s t : Int), o, (d : Int), 250) r ∧ iR s o d obj c (itemsN d obj seen t) r
  | 0, t, c, keys, seen, o, hm, hv, hr, ho, hc, hk => absurd hm (Nat.not_lt_zero _)
  | m + 1, t, c, keys, seen, o, hm, hv, hr, ho, hc, hk => by
    have three : ∀ (key : ByteArray) (t2 : List Int) (keys2 : ByteArray → Int), Rest s t2 → t2.length ≤ t.length → (∀ oo, jps_many_j3 (jps_value_n n) (endB obj) (kindO obj) (((c + 1 : Nat) : Int)) key s (plc s t2 : Int) o (d : Int) 250 keys2 oo → jps_many_b2 (kindO obj) (jps_value_n n) (endB obj) (((c + 1 : Nat) : Int)) keys s (plc s t : Int) o (d : Int) 250 oo) → (obj = true → ∀ k, keys2 k = if inK k (key :: seen) = true then 1 else 0) → keyL obj seen t = .ok key t2 →
        ∃ r, Rounds (fun (q : Int × (ByteArray → Int) × ByteArray × Int × (List JNd) × Int × Int) o => jps_many_b2 (kindO obj) (jps_value_n n) (endB obj) q.1 q.2.1 q.2.2.1 q.2.2.2.1 q.2.2.2.2.1 q.2.2.2.2.2.1 q.2.2.2.2.2.2 o) (((c + 1 : Nat) : Int), keys, s, (plc s t : Int), o, (d : Int), 250) r ∧ iR s o d obj c (itemsN d obj seen t) r := by
      intro key t2 keys2 hr2 hle hb hk2 ekey
      obtain ⟨oo, h1, h2⟩ := jmany3 (obj := obj) hs (hv t2 hle hr2) hd (key := key) (o := o) (by omega) hr2 (c := c) (by omega) keys2
      have hrest := hr2.valN (d := d) (key := key)
      have hsh := valN_sh d key t2
      have hsz := @valN_sz d key t2
      rw [itemsN_eq, ekey]
      dsimp only
      cases e : valN d key t2 with
      | no ee q =>
        rw [e] at h2
        obtain ⟨r, rfl, h3⟩ := h2
        exact ⟨r, .done (hb _ h1), h3⟩
      | ok p q =>
        rw [e] at h2 hrest hsh hsz
        have hrest' : Rest s q := hrest
        have hsh' : q.length < t2.length := hsh
        have hsz' := hsz rfl
        have hb1 := blL_len q
        have hb2 := tail_le (blL q)
        have hb3 := blL_len (blL q).tail
        dsimp only at h2 ⊢
        by_cases g1 : isL (endO obj) (blL q) = true
        · rw [if_pos g1] at h2 ⊢
          subst h2
          refine ⟨_, .done (hb _ h1), ?_⟩
          show _ = (kindO obj, ((c + cnt (.cons p.1 p.2 .nil) : Nat) : Int), true, J s (blL q).tail (o ++ flat (.cons p.1 p.2 .nil)) (d : Int) 250)
          simp only [cnt, flat, List.append_nil, Nat.zero_add]
        · rw [if_neg g1] at h2 ⊢
          by_cases g2 : isL [44] (blL q) = true
          · rw [if_pos g2] at h2 ⊢
            subst h2
            obtain ⟨r, r1, r2⟩ := jitems hs hd m (blL (blL q).tail) (c + 1) keys2 (key :: seen) (o ++ p.1 :: flat p.2) (by omega) (fun t3 h3 => hv t3 (by omega)) hrest'.bl.tail.bl (by rw [List.length_append, List.length_cons]; omega) (by omega) hk2
            refine ⟨r, .next (hb _ h1) r1, ?_⟩
            cases e3 : itemsN d obj (key :: seen) (blL (blL q).tail) with
            | ok k u =>
              rw [e3] at r2
              have r2' : r = (kindO obj, ((c + 1 + cnt k : Nat) : Int), true, J s u (o ++ p.1 :: flat p.2 ++ flat k) (d : Int) 250) := r2
              rw [r2']
              show _ = (kindO obj, ((c + cnt (.cons p.1 p.2 k) : Nat) : Int), true, J s u (o ++ flat (.cons p.1 p.2 k)) (d : Int) 250)
              simp only [cnt, flat, List.append_assoc, List.cons_append]
              rw [show c + 1 + cnt k = c + (cnt k + 1) by omega]
            | no ee u =>
              rw [e3] at r2
              obtain ⟨o', c', h3, h4⟩ := r2
              rw [List.length_append] at h3
              exact ⟨o', c', by omega, h4⟩
          · rw [if_neg g2] at h2 ⊢
            obtain ⟨r, rfl, h3⟩ := h2
            exact ⟨r, .done (hb _ h1), h3⟩
    cases obj with
    | false =>
      refine three ⟨#[]⟩ t keys hr (Nat.le_refl _) (fun oo h => ?_) (fun h => by cases h) rfl
      unfold jps_many_b2
      rw [if_neg (show ¬ kindO false = 7 by decide)]
      exact h
    | true =>
      have hstr := jstr (o := o) (d := (d : Int)) (c := 250) hs hr
      have hq1 := strQ_len t
      have hq2 := hr.strQ
      have hb : ∀ oo, (∃ r589 : ByteArray × Bool × jps, (jps_str (J s t o (d : Int) 250) r589) ∧
  if r589.2.1 = true then
   if keys r589.1 > 0 then
    oo = .inr ((7, ((c + 1 : Nat) : Int), false, (⟨r589.2.2.text, (plc s t : Int), r589.2.2.out, r589.2.2.in_, r589.2.2.code⟩ : jps)))
   else
    ∃ r604 : jps, (jps_blanks r589.2.2 r604) ∧
    ∃ r617 : Bool × jps, (jps_take r604 (⟨#[58]⟩ : ByteArray) r617) ∧
    if r617.1 = true then
     ∃ r631 : jps, (jps_blanks r617.2 r631) ∧
     jps_many_j3 (jps_value_n n) (endB true) 7 ((c + 1 : Nat) : Int) r589.1 r631.text r631.at_ r631.out r631.in_ r631.code (updM keys r589.1 1) oo
    else
     oo = .inr ((7, ((c + 1 : Nat) : Int), false, r617.2))
  else
   oo = .inr ((7, ((c + 1 : Nat) : Int), false, r589.2.2))) → jps_many_b2 7 (jps_value_n n) (endB true) (((c + 1 : Nat) : Int)) keys s (plc s t : Int) o (d : Int) 250 oo := fun oo h => by
        unfold jps_many_b2
        rw [if_pos rfl]
        exact h
      have ekl : keyL true seen t = (match strQ t with
        | (none, r) => .no 250 r
        | (some k, r) => if inK (ofBs k) seen = true then .no 250 t else if isL [58] (blL r) = true then .ok (ofBs k) (blL (blL r).tail) else .no 250 (blL r)) := rfl
      generalize hp : strQ t = p at hstr hq1 hq2 ekl
      obtain ⟨w, q⟩ := p
      cases w with
      | none =>
        dsimp only at ekl
        refine ⟨_, .done (hb _ ⟨_, hstr, by rw [if_neg (by simp [strR])]⟩), ?_⟩
        rw [itemsN_eq, ekl]
        exact ⟨o, _, Nat.le_refl _, rfl⟩
      | some k =>
        dsimp only at ekl hq1 hq2
        have hs2 : jps_str (J s t o (d : Int) 250) (ofBs k, true, J s q o (d : Int) 250) := hstr
        have hks : keys (ofBs k) = if inK (ofBs k) seen = true then 1 else 0 := hk rfl (ofBs k)
        by_cases g1 : inK (ofBs k) seen = true
        · rw [if_pos g1] at ekl hks
          refine ⟨_, .done (hb _ ⟨_, hs2, by dsimp only; rw [if_pos rfl, if_pos (show keys (ofBs k) > 0 by omega)]⟩), ?_⟩
          rw [itemsN_eq, ekl]
          exact ⟨o, _, Nat.le_refl _, rfl⟩
        · rw [if_neg g1] at ekl hks
          have hbl := hq2.bl
          by_cases g2 : isL [58] (blL q) = true
          · rw [if_pos g2] at ekl
            have hb1 := blL_len q
            have hb2 := tail_le (blL q)
            have hb3 := blL_len (blL q).tail
            refine three (ofBs k) (blL (blL q).tail) (updM keys (ofBs k) 1) hbl.tail.bl (by omega) (fun oo h => hb oo ⟨_, hs2, ?_⟩) (fun _ k2 => ?_) ekl
            · dsimp only
              rw [if_pos rfl, if_neg (show ¬ keys (ofBs k) > 0 by omega)]
              refine ⟨_, jblanks hs hq2, _, jtake hs (l := ⟨#[58]⟩) (L := [58]) rfl hbl, ?_⟩
              rw [if_pos g2, if_pos g2]
              exact ⟨_, jblanks hs hbl.tail, h⟩
            · unfold updM inK
              rw [List.any_cons]
              by_cases g : k2 = ofBs k
              · rw [if_pos g, decide_eq_true g]; rfl
              · rw [if_neg g, decide_eq_false g, Bool.false_or, hk rfl]; rfl
          · rw [if_neg g2] at ekl
            refine ⟨(7, ((c + 1 : Nat) : Int), false, J s (blL q) o (d : Int) 250), .done (hb _ ⟨_, hs2, ?_⟩), ?_⟩
            · dsimp only
              rw [if_pos rfl, if_neg (show ¬ keys (ofBs k) > 0 by omega)]
              refine ⟨_, jblanks hs hq2, _, jtake hs (l := ⟨#[58]⟩) (L := [58]) rfl hbl, ?_⟩
              rw [if_neg g2, if_neg g2]
            · rw [itemsN_eq, ekl]
              exact ⟨o, _, Nat.le_refl _, rfl⟩
theorem jmany (hs : s.size ≤ 2 ^ 40) {n : Nat} {t : List Int} {d : Nat} (hd : d < 64) {o : List JNd} (hv : ∀ t2 : List Int, t2.length < t.length → Rest s t2 → VS s n t2) (hr : Rest s t) (ho : o.length + t.length ≤ 2 ^ 41 + 1) (hne : t ≠ []) (hl : t.length ≤ 2 ^ 40) :
    ∃ r, jps_many_n (n + 1) (J s t o ((d + 1 : Nat) : Int) 250) r ∧ (if isL (endO (isL [123] t)) (blL t.tail) = true then r = (kindO (isL [123] t), 0, true, J s (blL t.tail).tail o ((d + 1 : Nat) : Int) 250) else iR s o (d + 1) (isL [123] t) 0 (itemsN (d + 1) (isL [123] t) [] (blL t.tail)) r) := by
  obtain ⟨x, t', rfl⟩ : ∃ x t', t = x :: t' := by cases t with
    | nil => exact absurd rfl hne
    | cons x t' => exact ⟨x, t', rfl⟩
  obtain ⟨hb, hlt⟩ := hr.bt
  have key : ∀ r, jps_many_j1 (isL [123] (x :: t'), J s (x :: t') o ((d + 1 : Nat) : Int) 250) (jps_value_n n) (kindO (isL [123] (x :: t'))) (endB (isL [123] (x :: t'))) r → jps_many_n (n + 1) (J s (x :: t') o ((d + 1 : Nat) : Int) 250) r := fun r h => by
    show jps_many_body (jps_many_n n) (jps_value_n n) _ r
    unfold jps_many_body
    refine ⟨_, jis (l := ⟨#[123]⟩) (L := [123]) rfl hr, ?_⟩
    cases g : isL [123] (x :: t') with
    | true => rw [g] at h; rw [if_pos rfl]; exact h
    | false => rw [g] at h; rw [if_neg (by simp)]; exact h
  have hb1 := blL_len t'
  have htl : (x :: t').tail = t' := rfl
  simp only [List.length_cons] at ho hl hv
  have hrb := hr.tl.1.bl
  have j1 : ∀ r, (if isL (endO (isL [123] (x :: t'))) (blL t') = true then
  r = (kindO (isL [123] (x :: t')), 0, true, J s (blL t').tail o ((d + 1 : Nat) : Int) 250)
 else
  Rounds (fun (q : Int × (ByteArray → Int) × ByteArray × Int × (List JNd) × Int × Int) o => jps_many_b2 (kindO (isL [123] (x :: t'))) (jps_value_n n) (endB (isL [123] (x :: t'))) q.1 q.2.1 q.2.2.1 q.2.2.2.1 q.2.2.2.2.1 q.2.2.2.2.2.1 q.2.2.2.2.2.2 o) (1, (fun _ => 0), s, (plc s (blL t') : Int), o, ((d + 1 : Nat) : Int), 250) r) → jps_many_j1 (isL [123] (x :: t'), J s (x :: t') o ((d + 1 : Nat) : Int) 250) (jps_value_n n) (kindO (isL [123] (x :: t'))) (endB (isL [123] (x :: t'))) r := fun r h => by
    unfold jps_many_j1
    have e : (⟨s, w64 ((plc s (x :: t') : Int) + 1), o, ((d + 1 : Nat) : Int), 250⟩ : jps) = J s t' o ((d + 1 : Nat) : Int) 250 := by
      rw [w64_nat (by omega)]
      show (⟨s, (plc s (x :: t') : Int) + 1, o, _, _⟩ : jps) = ⟨s, (plc s t' : Int), o, _, _⟩
      rw [hr.tl.2]
      rfl
    dsimp only
    rw [e]
    refine ⟨_, jblanks hs hr.tl.1, _, jis (endB_ok _) hrb, ?_⟩
    have hpl := plc_le (s := s) (blL t')
    by_cases g : isL (endO (isL [123] (x :: t'))) (blL t') = true
    · rw [if_pos g] at h ⊢
      rw [h]
      dsimp only
      rw [w64_nat (by omega)]
      show _ = (_, 0, true, (⟨s, (plc s (blL t') : Int) + 1, o, _, _⟩ : jps))
      have e2 : ((plc s (blL t') : Nat) : Int) + 1 = (plc s (blL t').tail : Int) := by rw [plc_tail hrb g]; omega
      rw [e2]
    · rw [if_neg g] at h ⊢
      exact h
  rw [htl]
  by_cases g : isL (endO (isL [123] (x :: t'))) (blL t') = true
  · exact ⟨(kindO (isL [123] (x :: t')), 0, true, J s (blL t').tail o ((d + 1 : Nat) : Int) 250), key _ (j1 _ (by rw [if_pos g])), by rw [if_pos g]⟩
  · obtain ⟨r, r1, r2⟩ := jitems hs (obj := isL [123] (x :: t')) (n := n) (d := d + 1) (by omega) (t'.length + 1) (blL t') 0 (fun _ => 0) [] o (by omega) (fun t2 h2 => hv t2 (by omega)) hrb (by omega) (by omega) (fun _ k => rfl)
    exact ⟨r, key _ (j1 _ (by rw [if_neg g]; exact r1)), by rw [if_neg g]; exact r2⟩
theorem set_at {α : Type} (o : List α) (y : α) (l : List α) (x : α) : (o ++ y :: l).set o.length x = o ++ x :: l := by
  rw [List.set_append_right _ _ (Nat.le_refl _), Nat.sub_self]
  rfl
theorem jv1 {o O : List JNd} {at1 : Int} {d1 c1 : Int} {key : ByteArray} {b : Bool} {q : List Int} {d c kind kids : Int} {text : ByteArray} (h : o.length < O.length) : jps_value_j1 ⟨s, at1, o, d1, c1⟩ key b s (plc s q : Int) O d c kind text kids (b, J s q (O.set o.length ⟨kind, key, text, kids⟩) d c) :=
  ⟨by dsimp only; omega, _, rfl, by rw [Int.toNat_natCast]⟩
theorem jval (hs : s.size ≤ 2 ^ 40) : ∀ (n : Nat) (t : List Int), 2 * t.length + 1 ≤ n → Rest s t → VS s n t
  | 0, t, hn, hr => by omega
  | n + 1, t, hn, hr => by
    intro d key o hd ho
    have hlen : t.length ≤ s.size := hr.1
    have hN : ∀ (kind : Int) (text : ByteArray) (kids : Int), (o ++ [(⟨0, key, (⟨#[]⟩ : ByteArray), 0⟩ : JNd)]).set o.length ⟨kind, key, text, kids⟩ = o ++ [⟨kind, key, text, kids⟩] := fun kind text kids => set_at o _ [] _
    have hO : o.length < (o ++ [(⟨0, key, (⟨#[]⟩ : ByteArray), 0⟩ : JNd)]).length := by rw [List.length_append, List.length_singleton]; omega
    have I : ∀ {l : ByteArray} (V : List Int), bsOf l = V → jps_is (J s t (o ++ [(⟨0, key, (⟨#[]⟩ : ByteArray), 0⟩ : JNd)]) (d : Int) 250) l (isL V t, J s t (o ++ [(⟨0, key, (⟨#[]⟩ : ByteArray), 0⟩ : JNd)]) (d : Int) 250) := fun V hl => jis hl hr
    have W : ∀ {w : ByteArray} {V : List Int} (kind : Int), bsOf w = V → w.size ≤ 10 → ∃ r, (∃ r215 : Bool × jps, (jps_word (J s t (o ++ [(⟨0, key, (⟨#[]⟩ : ByteArray), 0⟩ : JNd)]) (d : Int) 250) w r215) ∧
  jps_value_j1 (J s t o (d : Int) 250) key r215.1 r215.2.text r215.2.at_ r215.2.out r215.2.in_ r215.2.code kind (⟨#[]⟩ : ByteArray) 0 r) ∧ vR s o d (wordH kind V key t) r := fun {w V} kind hw hl => by
      refine ⟨_, ⟨_, jword hs hw hl hr, jv1 hO⟩, ?_⟩
      rw [hN]
      unfold wordH
      by_cases g : (wordL V t).1 = true
      · rw [if_pos g, g]; rfl
      · rw [if_neg g]
        rw [Bool.not_eq_true] at g
        rw [g]
        exact ⟨_, by rw [List.length_append, List.length_singleton]; omega, rfl⟩
    rw [valN_eq]
    have body : ∀ r, (if isL [110] t = true then
  ∃ r215 : Bool × jps, (jps_word (J s t (o ++ [(⟨0, key, (⟨#[]⟩ : ByteArray), 0⟩ : JNd)]) (d : Int) 250) (⟨#[110, 117, 108, 108]⟩ : ByteArray) r215) ∧
  jps_value_j1 (J s t o (d : Int) 250) key r215.1 r215.2.text r215.2.at_ r215.2.out r215.2.in_ r215.2.code 1 (⟨#[]⟩ : ByteArray) 0 r
 else if isL [102] t = true then
   ∃ r242 : Bool × jps, (jps_word (J s t (o ++ [(⟨0, key, (⟨#[]⟩ : ByteArray), 0⟩ : JNd)]) (d : Int) 250) (⟨#[102, 97, 108, 115, 101]⟩ : ByteArray) r242) ∧
   jps_value_j1 (J s t o (d : Int) 250) key r242.1 r242.2.text r242.2.at_ r242.2.out r242.2.in_ r242.2.code 2 (⟨#[]⟩ : ByteArray) 0 r
  else if isL [116] t = true then
    ∃ r269 : Bool × jps, (jps_word (J s t (o ++ [(⟨0, key, (⟨#[]⟩ : ByteArray), 0⟩ : JNd)]) (d : Int) 250) (⟨#[116, 114, 117, 101]⟩ : ByteArray) r269) ∧
    jps_value_j1 (J s t o (d : Int) 250) key r269.1 r269.2.text r269.2.at_ r269.2.out r269.2.in_ r269.2.code 3 (⟨#[]⟩ : ByteArray) 0 r
   else if isL [34] t = true then
     ∃ r296 : ByteArray × Bool × jps, (jps_str (J s t (o ++ [(⟨0, key, (⟨#[]⟩ : ByteArray), 0⟩ : JNd)]) (d : Int) 250) r296) ∧
     jps_value_j1 (J s t o (d : Int) 250) key r296.2.1 r296.2.2.text r296.2.2.at_ r296.2.2.out r296.2.2.in_ r296.2.2.code 5 r296.1 0 r
    else if isL [91, 123] t = true then
      if (d : Int) = 64 then
       r = (false, (⟨s, (plc s t : Int), o ++ [(⟨0, key, (⟨#[]⟩ : ByteArray), 0⟩ : JNd)], (d : Int), 251⟩ : jps))
      else
       ∃ r324 : Int × Int × Bool × jps, (jps_many_n n (⟨s, (plc s t : Int), o ++ [(⟨0, key, (⟨#[]⟩ : ByteArray), 0⟩ : JNd)], w64 ((d : Int) + 1), 250⟩ : jps) r324) ∧
       jps_value_j1 (J s t o (d : Int) 250) key r324.2.2.1 r324.2.2.2.text r324.2.2.2.at_ r324.2.2.2.out (w64 (r324.2.2.2.in_ - 1)) r324.2.2.2.code r324.1 (⟨#[]⟩ : ByteArray) r324.2.1 r
     else
      ∃ r337 : Bool × jps, (jps_number (J s t (o ++ [(⟨0, key, (⟨#[]⟩ : ByteArray), 0⟩ : JNd)]) (d : Int) 250) r337) ∧
      (0 ≤ (plc s t : Int) ∧ (plc s t : Int) ≤ r337.2.at_ ∧ r337.2.at_ ≤ (r337.2.text.size : Int)) ∧
      jps_value_j1 (J s t o (d : Int) 250) key r337.1 r337.2.text r337.2.at_ r337.2.out r337.2.in_ r337.2.code 4 (r337.2.text.extract ((plc s t : Int) : Int).toNat (r337.2.at_ : Int).toNat) 0 r) → jps_value_n (n + 1) (J s t o (d : Int) 250) key r := fun r h => by
      show jps_value_body (jps_many_n n) (jps_value_n n) _ key r
      unfold jps_value_body
      refine ⟨_, rfl, by rw [List.length_append, List.length_singleton]; dsimp only; omega, _, I [110] rfl, ?_⟩
      by_cases g1 : isL [110] t = true
      · rw [if_pos g1] at h ⊢; exact h
      rw [if_neg g1] at h ⊢
      refine ⟨_, I [102] rfl, ?_⟩
      by_cases g2 : isL [102] t = true
      · rw [if_pos g2] at h ⊢; exact h
      rw [if_neg g2] at h ⊢
      refine ⟨_, I [116] rfl, ?_⟩
      by_cases g3 : isL [116] t = true
      · rw [if_pos g3] at h ⊢; exact h
      rw [if_neg g3] at h ⊢
      refine ⟨_, I [34] rfl, ?_⟩
      by_cases g4 : isL [34] t = true
      · rw [if_pos g4] at h ⊢; exact h
      rw [if_neg g4] at h ⊢
      refine ⟨_, I [91, 123] rfl, ?_⟩
      by_cases g5 : isL [91, 123] t = true
      · rw [if_pos g5] at h ⊢; exact h
      rw [if_neg g5] at h ⊢
      exact h
    unfold headL
    by_cases g1 : isL [110] t = true
    · rw [if_pos g1]
      simp only [if_pos g1] at body
      obtain ⟨r, r1, r2⟩ := W (w := ⟨#[110, 117, 108, 108]⟩) 1 rfl (by decide)
      exact ⟨r, body r r1, r2⟩
    rw [if_neg g1]
    simp only [if_neg g1] at body
    by_cases g2 : isL [102] t = true
    · rw [if_pos g2]
      simp only [if_pos g2] at body
      obtain ⟨r, r1, r2⟩ := W (w := ⟨#[102, 97, 108, 115, 101]⟩) 2 rfl (by decide)
      exact ⟨r, body r r1, r2⟩
    rw [if_neg g2]
    simp only [if_neg g2] at body
    by_cases g3 : isL [116] t = true
    · rw [if_pos g3]
      simp only [if_pos g3] at body
      obtain ⟨r, r1, r2⟩ := W (w := ⟨#[116, 114, 117, 101]⟩) 3 rfl (by decide)
      exact ⟨r, body r r1, r2⟩
    rw [if_neg g3]
    simp only [if_neg g3] at body
    by_cases g4 : isL [34] t = true
    · rw [if_pos g4]
      simp only [if_pos g4] at body
      dsimp only
      have hstr := jstr (o := o ++ [(⟨0, key, (⟨#[]⟩ : ByteArray), 0⟩ : JNd)]) (d := (d : Int)) (c := 250) hs hr
      unfold strH
      generalize strQ t = p at hstr ⊢
      obtain ⟨w, q⟩ := p
      cases w with
      | none => exact ⟨_, body _ ⟨_, hstr, jv1 hO⟩, _, by rw [List.length_set]; exact hO, rfl⟩
      | some k =>
        have hs2 : jps_str (J s t (o ++ [(⟨0, key, (⟨#[]⟩ : ByteArray), 0⟩ : JNd)]) (d : Int) 250) (ofBs k, true, J s q (o ++ [(⟨0, key, (⟨#[]⟩ : ByteArray), 0⟩ : JNd)]) (d : Int) 250) := hstr
        refine ⟨_, body _ ⟨_, hs2, jv1 hO⟩, ?_⟩
        dsimp only
        rw [hN]
        rfl
    rw [if_neg g4]
    simp only [if_neg g4] at body
    by_cases g5 : isL [91, 123] t = true
    · rw [if_pos g5]
      simp only [if_pos g5] at body
      unfold manyH
      by_cases g6 : d ≥ 64
      · rw [if_pos g6]
        simp only [if_pos (show (d : Int) = 64 by omega)] at body
        exact ⟨_, body _ rfl, _, hO, rfl⟩
      · rw [if_neg g6]
        simp only [if_neg (show ¬ (d : Int) = 64 by omega)] at body
        have hlt := isL_tail g5
        obtain ⟨n', rfl⟩ : ∃ n', n = n' + 1 := ⟨n - 1, by omega⟩
        obtain ⟨r, r1, r2⟩ := jmany hs (n := n') (d := d) (by omega) (o := o ++ [(⟨0, key, (⟨#[]⟩ : ByteArray), 0⟩ : JNd)]) (fun t2 h2 hr2 => jval hs n' t2 (by omega) hr2) hr (by
          rw [List.length_append, List.length_singleton]
          omega) (by intro e; rw [e] at g5; cases g5) (by omega)
        have hd1 : w64 (((d + 1 : Nat) : Int) - 1) = (d : Int) := by rw [w64_id (by omega)]; omega
        rw [w64_nat (by omega)] at body
        by_cases g7 : isL (endO (isL [123] t)) (blL t.tail) = true
        · rw [if_pos g7] at r2 ⊢
          subst r2
          refine ⟨_, body _ ⟨_, r1, jv1 hO⟩, ?_⟩
          dsimp only
          rw [hN, hd1]
          rfl
        · rw [if_neg g7] at r2 ⊢
          dsimp only
          cases e : itemsN (d + 1) (isL [123] t) [] (blL t.tail) with
          | ok k q =>
            rw [e] at r2
            have r2' : r = (kindO (isL [123] t), ((0 + cnt k : Nat) : Int), true, J s q (o ++ [(⟨0, key, (⟨#[]⟩ : ByteArray), 0⟩ : JNd)] ++ flat k) ((d + 1 : Nat) : Int) 250) := r2
            subst r2'
            refine ⟨_, body _ ⟨_, r1, jv1 (by rw [List.length_append]; omega)⟩, ?_⟩
            dsimp only
            rw [List.append_assoc, List.singleton_append, set_at, hd1, Nat.zero_add]
            rfl
          | no ee q =>
            rw [e] at r2
            obtain ⟨o', c', h1, h2⟩ := r2
            subst h2
            refine ⟨_, body _ ⟨_, r1, jv1 (by dsimp only; omega)⟩, ?_⟩
            dsimp only
            rw [hd1]
            exact ⟨_, by rw [List.length_set]; omega, rfl⟩
    rw [if_neg g5]
    simp only [if_neg g5] at body
    dsimp only
    have hnum := jnum (o := o ++ [(⟨0, key, (⟨#[]⟩ : ByteArray), 0⟩ : JNd)]) (d := (d : Int)) (c := 250) hs hr
    have hnl := (numL_len t).1
    have hnr := hr.num
    have hpl := plc_le (s := s) (numL t).2
    have hpm : plc s t ≤ plc s (numL t).2 := by unfold plc; omega
    have hbe : s.extract (plc s t) (plc s (numL t).2) = ofBs (t.take (t.length - (numL t).2.length)) := by rw [← bs_between hr hnr hnl, ofBs_bsOf]
    refine ⟨_, body _ ⟨_, hnum, by dsimp only; omega, jv1 hO⟩, ?_⟩
    dsimp only
    rw [hN, Int.toNat_natCast, Int.toNat_natCast, hbe]
    unfold numH
    by_cases g : (numL t).1 = true
    · rw [if_pos g, g]; rfl
    · rw [if_neg g]
      rw [Bool.not_eq_true] at g
      rw [g]
      exact ⟨_, by rw [List.length_append, List.length_singleton]; omega, rfl⟩
def parseR (s : ByteArray) : Res F → (List JNd) × Int × Int
  | .ok f _ => (flat f, 0, 0)
  | .no e q => ([], e, (plc s q : Int))
theorem plc_end {t : List Int} (h : Rest s t) : (plc s t : Int) = (s.size : Int) ↔ t = [] := by
  constructor
  · intro e
    cases t with
    | nil => rfl
    | cons x t => have := h.bt.2; omega
  · intro e; rw [e, Rest.nil]
theorem jparse_ok (hs : s.size ≤ 2 ^ 40) : json_Parse s (parseR s (parseL (bsOf s))) := by
  unfold json_Parse
  obtain ⟨w1, w2⟩ := Rest.whole (s := s)
  have hb := jblanks (o := []) (d := 0) (c := 250) hs w1
  have hr := w1.bl
  have hl1 := hr.1
  obtain ⟨r, r1, r2⟩ := jval hs (2 * (blL (bsOf s)).length + 1) (blL (bsOf s)) (Nat.le_refl _) hr 0 ⟨#[]⟩ [] (by omega) (by simp only [List.length_nil]; omega)
  have hrest := hr.valN (d := 0) (key := ⟨#[]⟩)
  have hb' : jps_blanks (⟨s, 0, ([] : List JNd), 0, 250⟩ : jps) (J s (blL (bsOf s)) [] 0 250) := by
    have : J s (bsOf s) [] 0 250 = ⟨s, 0, ([] : List JNd), 0, 250⟩ := by
      show (⟨s, (plc s (bsOf s) : Int), _, _, _⟩ : jps) = _
      rw [w2]; rfl
    rw [← this]
    exact hb
  refine ⟨_, hb', r, ⟨_, r1⟩, ?_⟩
  unfold parseL
  cases e : valN 0 ⟨#[]⟩ (blL (bsOf s)) with
  | no ee q =>
    rw [e] at r2
    obtain ⟨o', h1, h2⟩ := r2
    subst h2
    dsimp only
    rw [if_neg (by simp)]
    unfold json_Parse_j1
    rw [if_neg (by simp)]
    rfl
  | ok p q =>
    rw [e] at r2 hrest
    have r2' : r = (true, J s q ([] ++ p.1 :: flat p.2) ((0 : Nat) : Int) 250) := r2
    subst r2'
    have hq : Rest s q := hrest
    dsimp only
    rw [if_pos rfl]
    refine ⟨_, jblanks hs hq, ?_⟩
    unfold json_Parse_j1
    by_cases g : blL q = []
    · rw [if_pos g, if_pos (by rw [beq_iff_eq]; exact (plc_end hq.bl).2 g)]
      show (flat (.cons p.1 p.2 .nil), (0 : Int), (0 : Int)) = _
      simp only [flat, List.append_nil, List.nil_append]
    · rw [if_neg g, if_neg (by rw [beq_iff_eq]; exact fun h => g ((plc_end hq.bl).1 h))]
      rfl
end
end Go.Proofs.YtmfopcbjgbphaaaDoor.L
