/- JSON: the document's Reader on values; JsonParses. Condition: sizes. -/
import Derived.Test.YtmfopcbjgbphaaaDoorQ22
set_option linter.unusedVariables false
namespace Go.Proofs.YtmfopcbjgbphaaaDoor.L
open Go.Proofs.YtmfopcbjgbphaaaDoor.B Go.Proofs.YtmfopcbjgbphaaaDoor.R
section
variable {s : ByteArray}
def vP (s : ByteArray) (K : List api_JNode) : Res (api_JNode × F) → Int × trellisref25_Reader → Prop
  | .ok p q, r => r = ((plc s q : Int), Gd s (K ++ p.1 :: flat p.2))
  | .no e q, r => ∃ K', K.length < K'.length ∧ r.2 = Bd s K' e q
def iP (s : ByteArray) (K : List api_JNode) (c : Nat) : Res F → Int × Int × trellisref25_Reader → Prop
  | .ok k q, r => r = (((c + cnt k : Nat) : Int), (plc s q : Int), Gd s (K ++ flat k))
  | .no e q, r => ∃ K', K.length ≤ K'.length ∧ r.2.2 = Bd s K' e q
def VD (s : ByteArray) (n : Nat) (t : List Int) : Prop := ∀ (d : Nat) (key : ByteArray) (K : List api_JNode), d ≤ 64 → K.length + t.length ≤ 2 ^ 41 → ∃ r, trellisref25_Reader_value_n n (Gd s K) (plc s t : Int) key (d : Int) r ∧ vP s K (valN d key t) r
theorem valN_e {d : Nat} {key : ByteArray} {t : List Int} {e : Int} {r : List Int} (h : valN d key t = .no e r) : ¬ e = 0 := by
  intro h0
  subst h0
  exact (val_zero _).1 d key t r (Nat.le_refl _) h
theorem keyL_e {obj : Bool} {seen : List ByteArray} {t : List Int} {e : Int} {r : List Int} (h : keyL obj seen t = .no e r) : ¬ e = 0 := by
  have : e = 250 := by
    unfold keyL at h
    split at h
    · split at h
      · injection h with h _; exact h.symm
      · split at h
        · injection h with h _; exact h.symm
        split at h
        · cases h
        · injection h with h _; exact h.symm
    · cases h
  omega
section
variable {K : List api_JNode} {n : Nat} {d : Nat} {obj : Bool}
theorem ritems_e {keys : List ByteArray} {x c e a : Int} (he : ¬ e = 0) : Rounds (fun (q : Int × (List ByteArray) × Int × ByteArray × (List api_JNode) × Int × Int) o => trellisref25_Reader_all_b2 (kindO obj) (trellisref25_Reader_value_n n) (d : Int) (endB obj) q.1 q.2.1 q.2.2.1 q.2.2.2.1 q.2.2.2.2.1 q.2.2.2.2.2.1 q.2.2.2.2.2.2 o) (x, keys, c, s, K, e, a) (c, x, ⟨s, K, e, a⟩) := by
  refine .done ?_
  show trellisref25_Reader_all_b2 (kindO obj) (trellisref25_Reader_value_n n) (d : Int) (endB obj) x keys c s K e a _
  unfold trellisref25_Reader_all_b2
  rw [if_neg he]
theorem rj4_e {keys : List ByteArray} {c : Nat} (hc : c ≤ 2 ^ 41) {x e a : Int} (he : ¬ e = 0) : trellisref25_Reader_all_j4 (endB obj) (c : Int) keys x s K e a (.inl (x, keys, ((c + 1 : Nat) : Int), s, K, e, a)) := by
  unfold trellisref25_Reader_all_j4
  refine ⟨_, skip_no he, ?_⟩
  rw [if_neg he]
  unfold trellisref25_Reader_all_j5
  rw [if_neg (by simp)]
  exact ⟨_, need_no he, _, skip_no he, by rw [w64_nat (by omega)]; rfl⟩
theorem rj4 (hs : s.size ≤ 2 ^ 40) {keys : List ByteArray} {c : Nat} (hc : c ≤ 2 ^ 41) {q : List Int} (hq : Rest s q) : trellisref25_Reader_all_j4 (endB obj) (c : Int) keys (plc s q : Int) s K 0 0 (if isL (endO obj) (blL q) = true then .inr (((c + 1 : Nat) : Int), (plc s (blL q).tail : Int), Gd s K) else if isL [44] (blL q) = true then .inl ((plc s (blL (blL q).tail) : Int), keys, ((c + 1 : Nat) : Int), s, K, 0, 0) else .inl ((plc s (blL q) : Int), keys, ((c + 1 : Nat) : Int), s, K, 250, (plc s (blL q) : Int))) := by
  have hzb : (endB obj).size ≤ 2 ^ 40 := by cases obj <;> decide
  have hb := hq.bl
  have hpl := plc_le (s := s) (blL q)
  unfold trellisref25_Reader_all_j4
  refine ⟨_, rskip hs hq, ?_⟩
  rw [if_pos (show (0 : Int) = 0 from rfl)]
  refine ⟨_, rhas (r := Gd s K) (endB_ok obj) hzb rfl hb, ?_⟩
  unfold trellisref25_Reader_all_j5
  by_cases g1 : isL (endO obj) (blL q) = true
  · rw [if_pos g1, if_pos g1]
    dsimp only
    rw [w64_nat (by omega), w64_nat (by omega)]
    have e2 : ((plc s (blL q) : Nat) : Int) + 1 = (plc s (blL q).tail : Int) := by rw [plc_tail hb g1]; omega
    rw [e2]
    rfl
  rw [if_neg g1, if_neg g1]
  by_cases g2 : isL [44] (blL q) = true
  · rw [if_pos g2]
    exact ⟨_, rneed_yes hs rfl (by decide) hb g2, _, rskip hs hb.tail, by rw [w64_nat (by omega)]; rfl⟩
  · rw [if_neg g2]
    exact ⟨_, rneed_not hs rfl (by decide) hb g2, _, skip_no n250, by rw [w64_nat (by omega)]; rfl⟩
theorem ritems (hs : s.size ≤ 2 ^ 40) (hd : d ≤ 64) : ∀ (m : Nat) (t : List Int) (c : Nat) (keys seen : List ByteArray) (K : List api_JNode), t.length < m → (∀ t2 : List Int, t2.length ≤ t.length → Rest s t2 → VD s n t2) → Rest s t → K.length + t.length ≤ 2 ^ 41 → c + t.length ≤ 2 ^ 41 → keys.length ≤ c → (obj = true → ∀ q, q ∈ keys ↔ q ∈ seen) →
    ∃ r, Rounds (fun (q : Int × (List ByteArray) × Int × ByteArray × (List api_JNode) × Int × Int) o => trellisref25_Reader_all_b2 (kindO obj) (trellisref25_Reader_value_n n) (d : Int) (endB obj) q.1 q.2.1 q.2.2.1 q.2.2.2.1 q.2.2.2.2.1 q.2.2.2.2.2.1 q.2.2.2.2.2.2 o) ((plc s t : Int), keys, (c : Int), s, K, 0, 0) r ∧ iP s K c (itemsN d obj seen t) r
  | 0, t, c, keys, seen, K, hm, hv, hr, ho, hc, hkl, hk => absurd hm (Nat.not_lt_zero _)
  | m + 1, t, c, keys, seen, K, hm, hv, hr, ho, hc, hkl, hk => by
    have three : ∀ (key : ByteArray) (t2 : List Int) (keys2 : List ByteArray), Rest s t2 → t2.length ≤ t.length → (∀ oo, trellisref25_Reader_all_j3 (trellisref25_Reader_value_n n) (d : Int) (endB obj) (c : Int) (plc s t2 : Int) keys2 key s K 0 0 oo → trellisref25_Reader_all_b2 (kindO obj) (trellisref25_Reader_value_n n) (d : Int) (endB obj) (plc s t : Int) keys (c : Int) s K 0 0 oo) → keys2.length ≤ c + 1 → (obj = true → ∀ q, q ∈ keys2 ↔ q ∈ key :: seen) → keyL obj seen t = .ok key t2 →
        ∃ r, Rounds (fun (q : Int × (List ByteArray) × Int × ByteArray × (List api_JNode) × Int × Int) o => trellisref25_Reader_all_b2 (kindO obj) (trellisref25_Reader_value_n n) (d : Int) (endB obj) q.1 q.2.1 q.2.2.1 q.2.2.2.1 q.2.2.2.2.1 q.2.2.2.2.2.1 q.2.2.2.2.2.2 o) ((plc s t : Int), keys, (c : Int), s, K, 0, 0) r ∧ iP s K c (itemsN d obj seen t) r := by
      intro key t2 keys2 hr2 hle hb hkl2 hk2 ekey
      obtain ⟨z, z1, z2⟩ := hv t2 hle hr2 d key K hd (by omega)
      have hrest := hr2.valN (d := d) (key := key)
      have hsh := valN_sh d key t2
      have hsz := @valN_sz d key t2
      have hee := @valN_e d key t2
      have hb2 : ∀ oo, trellisref25_Reader_all_j4 (endB obj) (c : Int) keys2 z.1 z.2.s z.2.l z.2.e z.2.at_ oo → trellisref25_Reader_all_b2 (kindO obj) (trellisref25_Reader_value_n n) (d : Int) (endB obj) (plc s t : Int) keys (c : Int) s K 0 0 oo := fun oo h => by
        refine hb oo ?_
        unfold trellisref25_Reader_all_j3
        rw [if_pos (show (0 : Int) = 0 from rfl)]
        exact ⟨z, z1, h⟩
      rw [itemsN_eq, ekey]
      dsimp only
      cases e : valN d key t2 with
      | no ee q =>
        rw [e] at z2 hee
        have he := hee rfl
        obtain ⟨K', k1, k2⟩ := z2
        obtain ⟨z0, zr⟩ := z
        have k2' : zr = Bd s K' ee q := k2
        subst k2'
        exact ⟨(((c + 1 : Nat) : Int), z0, Bd s K' ee q), .next (hb2 _ (rj4_e (by omega) he)) (ritems_e he), K', by omega, rfl⟩
      | ok p q =>
        rw [e] at z2 hrest hsh hsz
        have hrest' : Rest s q := hrest
        have hsh' : q.length < t2.length := hsh
        have hsz' := hsz rfl
        have z2' : z = ((plc s q : Int), Gd s (K ++ p.1 :: flat p.2)) := z2
        subst z2'
        have hl1 := blL_len q
        have hl2 := tail_le (blL q)
        have hl3 := blL_len (blL q).tail
        have h4 := rj4 (K := K ++ p.1 :: flat p.2) (obj := obj) (keys := keys2) (c := c) hs (by omega) hrest'
        dsimp only at hb2 ⊢
        by_cases g1 : isL (endO obj) (blL q) = true
        · rw [if_pos g1] at h4 ⊢
          refine ⟨_, .done (hb2 _ h4), ?_⟩
          show _ = (((c + cnt (.cons p.1 p.2 .nil) : Nat) : Int), (plc s (blL q).tail : Int), Gd s (K ++ flat (.cons p.1 p.2 .nil)))
          simp only [cnt, flat, List.append_nil, Nat.zero_add]
        · rw [if_neg g1] at h4 ⊢
          by_cases g2 : isL [44] (blL q) = true
          · rw [if_pos g2] at h4 ⊢
            obtain ⟨r, r1, r2⟩ := ritems hs hd m (blL (blL q).tail) (c + 1) keys2 (key :: seen) (K ++ p.1 :: flat p.2) (by omega) (fun t3 h3 => hv t3 (by omega)) hrest'.bl.tail.bl (by rw [List.length_append, List.length_cons]; omega) (by omega) hkl2 hk2
            refine ⟨r, .next (hb2 _ h4) r1, ?_⟩
            cases e3 : itemsN d obj (key :: seen) (blL (blL q).tail) with
            | ok k u =>
              rw [e3] at r2
              have r2' : r = (((c + 1 + cnt k : Nat) : Int), (plc s u : Int), Gd s (K ++ p.1 :: flat p.2 ++ flat k)) := r2
              rw [r2']
              show _ = (((c + cnt (.cons p.1 p.2 k) : Nat) : Int), (plc s u : Int), Gd s (K ++ flat (.cons p.1 p.2 k)))
              simp only [cnt, flat, List.append_assoc, List.cons_append]
              rw [show c + 1 + cnt k = c + (cnt k + 1) by omega]
            | no ee u =>
              rw [e3] at r2
              obtain ⟨K', h3, h5⟩ := r2
              rw [List.length_append] at h3
              exact ⟨K', by omega, h5⟩
          · rw [if_neg g2] at h4 ⊢
            exact ⟨_, .next (hb2 _ h4) (ritems_e n250), K ++ p.1 :: flat p.2, by rw [List.length_append]; omega, rfl⟩
    cases obj with
    | false =>
      refine three ⟨#[]⟩ t keys hr (Nat.le_refl _) (fun oo h => ?_) (by omega) (fun h => by cases h) rfl
      unfold trellisref25_Reader_all_b2
      rw [if_pos (show (0 : Int) = 0 from rfl), if_neg (show ¬ kindO false = 7 by decide)]
      exact h
    | true =>
      obtain ⟨z, z1, z2⟩ := rkey (K := K) hs hr (keys := keys) (seen := seen) (by omega) (hk rfl)
      have hks := keyL_sh true seen t
      have hkr := hr.key (obj := true) (seen := seen)
      have hke := @keyL_e true seen t
      have hb : ∀ oo, trellisref25_Reader_all_j3 (trellisref25_Reader_value_n n) (d : Int) (endB true) (c : Int) z.2.1 (keys ++ [z.1]) z.1 z.2.2.s z.2.2.l z.2.2.e z.2.2.at_ oo → trellisref25_Reader_all_b2 (kindO true) (trellisref25_Reader_value_n n) (d : Int) (endB true) (plc s t : Int) keys (c : Int) s K 0 0 oo := fun oo h => by
        unfold trellisref25_Reader_all_b2
        rw [if_pos (show (0 : Int) = 0 from rfl), if_pos (show kindO true = 7 from rfl)]
        exact ⟨z, z1, _, rfl, by rw [List.length_append, List.length_singleton]; omega, h⟩
      cases e : keyL true seen t with
      | no ee q =>
        rw [e] at z2 hke
        have he := hke rfl
        obtain ⟨z0, zx, zr⟩ := z
        have z2' : zr = Bd s K ee q := z2
        subst z2'
        have h3 : trellisref25_Reader_all_j3 (trellisref25_Reader_value_n n) (d : Int) (endB true) (c : Int) zx (keys ++ [z0]) z0 s K ee (plc s q : Int) (.inl (zx, keys ++ [z0], ((c + 1 : Nat) : Int), s, K, ee, (plc s q : Int))) := by
          unfold trellisref25_Reader_all_j3
          rw [if_neg he]
          exact rj4_e (by omega) he
        refine ⟨(((c + 1 : Nat) : Int), zx, Bd s K ee q), .next (hb _ h3) (ritems_e he), ?_⟩
        rw [itemsN_eq, e]
        exact ⟨K, Nat.le_refl _, rfl⟩
      | ok key t2 =>
        rw [e] at z2 hks hkr
        have z2' : z = (key, (plc s t2 : Int), Gd s K) := z2
        subst z2'
        have hks' : t2.length < t.length + 1 := hks
        refine three key t2 (keys ++ [key]) hkr (by omega) hb (by rw [List.length_append, List.length_singleton]; omega) (fun _ q => ?_) e
        rw [List.mem_append, List.mem_singleton, List.mem_cons, hk rfl]
        exact Or.comm
end
theorem rall (hs : s.size ≤ 2 ^ 40) {n : Nat} {t : List Int} {d : Nat} (hd : d < 64) {K : List api_JNode} {b : Bool} (hv : ∀ t2 : List Int, t2.length < t.length → Rest s t2 → VD s n t2) (hr : Rest s t) (ho : K.length + t.length ≤ 2 ^ 41 + 1) (hne : t ≠ []) (hl : t.length ≤ 2 ^ 40) :
    ∃ r, trellisref25_Reader_all_n (n + 1) (Gd s K) (plc s t : Int) (kindO b) ((d + 1 : Nat) : Int) r ∧ (if isL (endO b) (blL t.tail) = true then r = (0, (plc s (blL t.tail).tail : Int), Gd s K) else iP s K 0 (itemsN (d + 1) b [] (blL t.tail)) r) := by
  obtain ⟨x, t', rfl⟩ : ∃ x t', t = x :: t' := by cases t with
    | nil => exact absurd rfl hne
    | cons x t' => exact ⟨x, t', rfl⟩
  obtain ⟨hb, hlt⟩ := hr.bt
  have key : ∀ r, trellisref25_Reader_all_j1 (Gd s K) (plc s (x :: t') : Int) (kindO b) (trellisref25_Reader_value_n n) ((d + 1 : Nat) : Int) (endB b) r → trellisref25_Reader_all_n (n + 1) (Gd s K) (plc s (x :: t') : Int) (kindO b) ((d + 1 : Nat) : Int) r := fun r h => by
    show trellisref25_Reader_all_body (trellisref25_Reader_all_n n) (trellisref25_Reader_value_n n) _ _ _ _ r
    unfold trellisref25_Reader_all_body
    cases b with
    | true => rw [if_pos (show kindO true = 7 from rfl)]; exact h
    | false => rw [if_neg (show ¬ kindO false = 7 by decide)]; exact h
  have hb1 := blL_len t'
  have htl : (x :: t').tail = t' := rfl
  simp only [List.length_cons] at ho hl hv
  have hrb := hr.tl.1.bl
  have hzb : (endB b).size ≤ 2 ^ 40 := by cases b <;> decide
  have hpl := plc_le (s := s) (blL t')
  have j1 : ∀ r, (if isL (endO b) (blL t') = true then
  r = (0, (plc s (blL t').tail : Int), Gd s K)
 else
  Rounds (fun (q : Int × (List ByteArray) × Int × ByteArray × (List api_JNode) × Int × Int) o => trellisref25_Reader_all_b2 (kindO b) (trellisref25_Reader_value_n n) ((d + 1 : Nat) : Int) (endB b) q.1 q.2.1 q.2.2.1 q.2.2.2.1 q.2.2.2.2.1 q.2.2.2.2.2.1 q.2.2.2.2.2.2 o) ((plc s (blL t') : Int), ([] : List ByteArray), 0, s, K, 0, 0) r) → trellisref25_Reader_all_j1 (Gd s K) (plc s (x :: t') : Int) (kindO b) (trellisref25_Reader_value_n n) ((d + 1 : Nat) : Int) (endB b) r := fun r h => by
    unfold trellisref25_Reader_all_j1
    have e : w64 ((plc s (x :: t') : Int) + 1) = (plc s t' : Int) := by rw [w64_nat (by omega), hr.tl.2]; rfl
    rw [e]
    refine ⟨_, rskip hs hr.tl.1, _, rhas (r := Gd s K) (endB_ok b) hzb rfl hrb, ?_⟩
    by_cases g : isL (endO b) (blL t') = true
    · rw [if_pos g] at h
      rw [if_pos g]
      rw [h]
      dsimp only
      rw [w64_nat (by omega)]
      have e2 : ((plc s (blL t') : Nat) : Int) + 1 = (plc s (blL t').tail : Int) := by rw [plc_tail hrb g]; omega
      rw [e2]
    · rw [if_neg g] at h
      rw [if_neg g]
      exact h
  rw [htl]
  by_cases g : isL (endO b) (blL t') = true
  · exact ⟨(0, (plc s (blL t').tail : Int), Gd s K), key _ (j1 _ (by rw [if_pos g])), by rw [if_pos g]⟩
  · obtain ⟨r, r1, r2⟩ := ritems hs (obj := b) (n := n) (d := d + 1) (by omega) (t'.length + 1) (blL t') 0 [] [] K (by omega) (fun t2 h2 => hv t2 (by omega)) hrb (by omega) (by omega) (Nat.le_refl _) (fun _ q => Iff.rfl)
    exact ⟨r, key _ (j1 _ (by rw [if_neg g]; exact r1)), by rw [if_neg g]; exact r2⟩
theorem rv1 {K O : List api_JNode} {e a x : Int} {key : ByteArray} {kind kids : Int} {text : ByteArray} (h : K.length < O.length) : trellisref25_Reader_value_j1 (Gd s K) key x s O e a kind text kids (x, ⟨s, O.set K.length ⟨kind, key, text, kids⟩, e, a⟩) :=
  ⟨by dsimp only; omega, _, rfl, by rw [Int.toNat_natCast]⟩
theorem rval (hs : s.size ≤ 2 ^ 40) : ∀ (n : Nat) (t : List Int), 2 * t.length + 1 ≤ n → Rest s t → VD s n t
  | 0, t, hn, hr => by omega
  | n + 1, t, hn, hr => by
    intro d key K hd ho
    have hlen : t.length ≤ s.size := hr.1
    generalize hK1 : K ++ [(⟨0, key, (⟨#[]⟩ : ByteArray), 0⟩ : api_JNode)] = K1
    have hN : ∀ (kind : Int) (text : ByteArray) (kids : Int), K1.set K.length ⟨kind, key, text, kids⟩ = K ++ [⟨kind, key, text, kids⟩] := fun kind text kids => by rw [← hK1]; exact set_at K _ [] _
    have hO : K.length < K1.length := by rw [← hK1, List.length_append, List.length_singleton]; omega
    have hO1 : K1.length = K.length + 1 := by rw [← hK1, List.length_append, List.length_singleton]
    have I : ∀ {l : ByteArray} (V : List Int), bsOf l = V → l.size ≤ 2 ^ 40 → trellisref25_Reader_has (Gd s K1) (plc s t : Int) l (isL V t, Gd s K1) := fun V hl hz => rhas (r := Gd s K1) hl hz rfl hr
    have W : ∀ {w : ByteArray} {V : List Int} (kind : Int), bsOf w = V → w.size ≤ 10 → ∃ r, (∃ z : Int × trellisref25_Reader, (trellisref25_Reader_word (Gd s K1) (plc s t : Int) w z) ∧
  trellisref25_Reader_value_j1 (Gd s K) key z.1 z.2.s z.2.l z.2.e z.2.at_ kind (⟨#[]⟩ : ByteArray) 0 r) ∧ vP s K (wordH kind V key t) r := fun {w V} kind hw hl => by
      have hword := rword (K := K1) hs hw hl hr
      unfold wR at hword
      unfold wordH
      by_cases g : (wordL V t).1 = true
      · rw [if_pos g] at hword ⊢
        refine ⟨_, ⟨_, hword, rv1 hO⟩, ?_⟩
        rw [hN]
        rfl
      · rw [if_neg g] at hword ⊢
        exact ⟨_, ⟨_, hword, rv1 hO⟩, _, by rw [List.length_set]; exact hO, rfl⟩
    rw [valN_eq]
    have body : ∀ r, (if isL [110] t = true then
  ∃ z : Int × trellisref25_Reader, (trellisref25_Reader_word (Gd s K1) (plc s t : Int) (⟨#[110, 117, 108, 108]⟩ : ByteArray) z) ∧
  trellisref25_Reader_value_j1 (Gd s K) key z.1 z.2.s z.2.l z.2.e z.2.at_ 1 (⟨#[]⟩ : ByteArray) 0 r
 else if isL [102] t = true then
   ∃ z : Int × trellisref25_Reader, (trellisref25_Reader_word (Gd s K1) (plc s t : Int) (⟨#[102, 97, 108, 115, 101]⟩ : ByteArray) z) ∧
   trellisref25_Reader_value_j1 (Gd s K) key z.1 z.2.s z.2.l z.2.e z.2.at_ 2 (⟨#[]⟩ : ByteArray) 0 r
  else if isL [116] t = true then
    ∃ z : Int × trellisref25_Reader, (trellisref25_Reader_word (Gd s K1) (plc s t : Int) (⟨#[116, 114, 117, 101]⟩ : ByteArray) z) ∧
    trellisref25_Reader_value_j1 (Gd s K) key z.1 z.2.s z.2.l z.2.e z.2.at_ 3 (⟨#[]⟩ : ByteArray) 0 r
   else if isL [34] t = true then
     ∃ z : ByteArray × Int × trellisref25_Reader, (trellisref25_Reader_str (Gd s K1) (plc s t : Int) z) ∧
     trellisref25_Reader_value_j1 (Gd s K) key z.2.1 z.2.2.s z.2.2.l z.2.2.e z.2.2.at_ 5 z.1 0 r
    else if isL [91, 123] t = true then
      trellisref25_Reader_value_j2 (d : Int) (true, Gd s K1) (plc s t : Int) (trellisref25_Reader_all_n n) (Gd s K) key (kindO (isL [123] t)) r
     else
      ∃ z : Int × trellisref25_Reader, (trellisref25_Reader_number (Gd s K1) (plc s t : Int) z) ∧
      if z.2.e = 0 then
       (0 ≤ (plc s t : Int) ∧ (plc s t : Int) ≤ z.1 ∧ z.1 ≤ (z.2.s.size : Int)) ∧
       trellisref25_Reader_value_j1 (Gd s K) key z.1 z.2.s z.2.l z.2.e z.2.at_ 4 (z.2.s.extract ((plc s t : Int) : Int).toNat (z.1 : Int).toNat) 0 r
      else
       trellisref25_Reader_value_j1 (Gd s K) key z.1 z.2.s z.2.l z.2.e z.2.at_ 4 (⟨#[]⟩ : ByteArray) 0 r) → trellisref25_Reader_value_n (n + 1) (Gd s K) (plc s t : Int) key (d : Int) r := fun r h => by
      show trellisref25_Reader_value_body (trellisref25_Reader_all_n n) (trellisref25_Reader_value_n n) _ _ key _ r
      unfold trellisref25_Reader_value_body
      refine ⟨K1, hK1.symm, by omega, _, I [110] rfl (by decide), ?_⟩
      by_cases g1 : isL [110] t = true
      · rw [if_pos g1] at h ⊢; exact h
      rw [if_neg g1] at h ⊢
      refine ⟨_, I [102] rfl (by decide), ?_⟩
      by_cases g2 : isL [102] t = true
      · rw [if_pos g2] at h ⊢; exact h
      rw [if_neg g2] at h ⊢
      refine ⟨_, I [116] rfl (by decide), ?_⟩
      by_cases g3 : isL [116] t = true
      · rw [if_pos g3] at h ⊢; exact h
      rw [if_neg g3] at h ⊢
      refine ⟨_, I [34] rfl (by decide), ?_⟩
      by_cases g4 : isL [34] t = true
      · rw [if_pos g4] at h ⊢; exact h
      rw [if_neg g4] at h ⊢
      refine ⟨_, I [91, 123] rfl (by decide), ?_⟩
      by_cases g5 : isL [91, 123] t = true
      · rw [if_pos g5] at h ⊢
        rw [g5]
        obtain ⟨x, t', rfl, hx⟩ := isL_ex g5
        obtain ⟨b1, b2⟩ := hr.bt
        refine ⟨⟨by omega, by show (plc s (x :: t') : Int) < (s.size : Int); omega⟩, ?_⟩
        show (if bt s (plc s (x :: t') : Int) = 123 then _ else _)
        rw [b1]
        by_cases g : x = 123
        · rw [if_pos g]
          have : isL [123] (x :: t') = true := by rw [g, isL_cons]; decide
          rw [this] at h
          exact h
        · rw [if_neg g]
          have : isL [123] (x :: t') = false := by
            rw [isL_cons, ← Bool.not_eq_true]
            intro e
            exact g (List.mem_singleton.1 (List.contains_iff_mem.1 e))
          rw [this] at h
          exact h
      rw [if_neg g5] at h ⊢
      exact h
    unfold headL
    by_cases g1 : isL [110] t = true
    · rw [if_pos g1]
      simp only [if_pos g1] at body
      obtain ⟨r, r1, r2⟩ := W (w := ⟨#[110, 117, 108, 108]⟩) 1 rfl (by decide)
      exact ⟨r, body r r1, r2⟩
    rw [if_neg g1]
    simp only [if_neg g1] at body
    by_cases g2 : isL [102] t = true
    · rw [if_pos g2]
      simp only [if_pos g2] at body
      obtain ⟨r, r1, r2⟩ := W (w := ⟨#[102, 97, 108, 115, 101]⟩) 2 rfl (by decide)
      exact ⟨r, body r r1, r2⟩
    rw [if_neg g2]
    simp only [if_neg g2] at body
    by_cases g3 : isL [116] t = true
    · rw [if_pos g3]
      simp only [if_pos g3] at body
      obtain ⟨r, r1, r2⟩ := W (w := ⟨#[116, 114, 117, 101]⟩) 3 rfl (by decide)
      exact ⟨r, body r r1, r2⟩
    rw [if_neg g3]
    simp only [if_neg g3] at body
    by_cases g4 : isL [34] t = true
    · rw [if_pos g4]
      simp only [if_pos g4] at body
      dsimp only
      obtain ⟨z, z1, z2⟩ := rstr (K := K1) hs hr
      unfold strH
      generalize strQ t = p at z2 ⊢
      obtain ⟨w, q⟩ := p
      cases w with
      | none =>
        obtain ⟨z0, zx, zr⟩ := z
        have z2' : zr = Bd s K1 250 q := z2
        subst z2'
        exact ⟨_, body _ ⟨_, z1, rv1 hO⟩, _, by rw [List.length_set]; exact hO, rfl⟩
      | some k =>
        have z2' : z = (ofBs k, (plc s q : Int), Gd s K1) := z2
        subst z2'
        refine ⟨_, body _ ⟨_, z1, rv1 hO⟩, ?_⟩
        dsimp only
        rw [hN]
        rfl
    rw [if_neg g4]
    simp only [if_neg g4] at body
    by_cases g5 : isL [91, 123] t = true
    · rw [if_pos g5]
      simp only [if_pos g5] at body
      unfold manyH
      unfold trellisref25_Reader_value_j2 at body
      by_cases g6 : d ≥ 64
      · rw [if_pos g6]
        simp only [if_pos (show (d : Int) ≥ 64 by omega)] at body
        exact ⟨((plc s t : Int), Bd s K1 251 t), body _ ⟨_, rstop, rfl⟩, K1, hO, rfl⟩
      · rw [if_neg g6]
        simp only [if_neg (show ¬ (d : Int) ≥ 64 by omega)] at body
        have hlt := isL_tail g5
        obtain ⟨n', rfl⟩ : ∃ n', n = n' + 1 := ⟨n - 1, by omega⟩
        obtain ⟨r, r1, r2⟩ := rall hs (n := n') (d := d) (by omega) (K := K1) (b := isL [123] t) (fun t2 h2 hr2 => rval hs n' t2 (by omega) hr2) hr (by omega) (by intro e; rw [e] at g5; cases g5) (by omega)
        rw [w64_nat (by omega)] at body
        by_cases g7 : isL (endO (isL [123] t)) (blL t.tail) = true
        · rw [if_pos g7] at r2 ⊢
          subst r2
          refine ⟨_, body _ ⟨_, r1, rv1 hO⟩, ?_⟩
          dsimp only
          rw [hN]
          rfl
        · rw [if_neg g7] at r2 ⊢
          dsimp only
          cases e : itemsN (d + 1) (isL [123] t) [] (blL t.tail) with
          | ok k q =>
            rw [e] at r2
            have r2' : r = (((0 + cnt k : Nat) : Int), (plc s q : Int), Gd s (K1 ++ flat k)) := r2
            subst r2'
            refine ⟨_, body _ ⟨_, r1, rv1 (by rw [List.length_append]; omega)⟩, ?_⟩
            dsimp only
            rw [← hK1, List.append_assoc, List.singleton_append, set_at, Nat.zero_add]
            rfl
          | no ee q =>
            rw [e] at r2
            obtain ⟨K', h1, h2⟩ := r2
            obtain ⟨z0, zx, zr⟩ := r
            have h2' : zr = Bd s K' ee q := h2
            subst h2'
            exact ⟨_, body _ ⟨_, r1, rv1 (by show K.length < K'.length; omega)⟩, _, by rw [List.length_set]; show K.length < K'.length; omega, rfl⟩
    rw [if_neg g5]
    simp only [if_neg g5] at body
    dsimp only
    have hnum := rnum_ok (r := Gd s K1) rfl (by show s.size ≤ _; omega) (a := plc s t) (plc_le t)
    have hnF : numF (Gd s K1).s (plc s t) = ((numL t).1, plc s (numL t).2) := (numF_L hr).1
    rw [hnF] at hnum
    have hnl := (numL_len t).1
    have hnr := hr.num
    have hpl := plc_le (s := s) (numL t).2
    have hpm : plc s t ≤ plc s (numL t).2 := by unfold plc; omega
    have hbe : s.extract (plc s t) (plc s (numL t).2) = ofBs (t.take (t.length - (numL t).2.length)) := by rw [← bs_between hr hnr hnl, ofBs_bsOf]
    unfold numH
    by_cases g : (numL t).1 = true
    · rw [if_pos g]
      have hnum' : trellisref25_Reader_number (Gd s K1) (plc s t : Int) ((plc s (numL t).2 : Int), Gd s K1) := by
        rw [g] at hnum
        exact hnum
      refine ⟨((plc s (numL t).2 : Int), Gd s (K1.set K.length ⟨4, key, s.extract ((plc s t : Int) : Int).toNat ((plc s (numL t).2 : Int) : Int).toNat, 0⟩)), body _ ⟨_, hnum', ?_⟩, ?_⟩
      · rw [if_pos (show (0 : Int) = 0 from rfl)]
        exact ⟨⟨by omega, by dsimp only; omega, by dsimp only; omega⟩, rv1 hO⟩
      · rw [hN, Int.toNat_natCast, Int.toNat_natCast, hbe]
        rfl
    · rw [if_neg g]
      have hnum' : trellisref25_Reader_number (Gd s K1) (plc s t : Int) ((plc s (numL t).2 : Int), Bd s K1 250 (numL t).2) := by
        rw [Bool.not_eq_true] at g
        rw [g] at hnum
        exact hnum
      refine ⟨((plc s (numL t).2 : Int), ⟨s, K1.set K.length ⟨4, key, ⟨#[]⟩, 0⟩, 250, (plc s (numL t).2 : Int)⟩), body _ ⟨_, hnum', ?_⟩, ?_⟩
      · rw [if_neg n250]
        exact rv1 hO
      · exact ⟨_, by rw [List.length_set]; exact hO, rfl⟩
theorem rparse_ok (hs : s.size ≤ 2 ^ 40) : trellisref25_Parse s (parseR s (parseL (bsOf s))) := by
  unfold trellisref25_Parse
  obtain ⟨w1, w2⟩ := Rest.whole (s := s)
  have hsk := rskip (K := []) hs w1
  rw [w2] at hsk
  have hr := w1.bl
  have hl1 := hr.1
  obtain ⟨r, r1, r2⟩ := rval hs (2 * (blL (bsOf s)).length + 1) (blL (bsOf s)) (Nat.le_refl _) hr 0 ⟨#[]⟩ [] (by omega) (by simp only [List.length_nil]; omega)
  have hrest := hr.valN (d := 0) (key := ⟨#[]⟩)
  have hee := @valN_e 0 ⟨#[]⟩ (blL (bsOf s))
  refine ⟨_, hsk, r, ⟨_, r1⟩, ?_⟩
  unfold parseL
  cases e : L.valN 0 ⟨#[]⟩ (blL (bsOf s)) with
  | no ee q =>
    rw [e] at r2 hee
    have he := hee rfl
    obtain ⟨K', h1, h2⟩ := r2
    obtain ⟨z0, zr⟩ := r
    have h2' : zr = Bd s K' ee q := h2
    subst h2'
    refine ⟨_, skip_no he, ?_⟩
    rw [if_neg he]
    unfold trellisref25_Parse_j1
    rw [if_neg (by simp)]
    unfold trellisref25_Parse_j2
    rw [if_neg he]
    rfl
  | ok p q =>
    rw [e] at r2 hrest
    have r2' : r = ((plc s q : Int), Gd s ([] ++ p.1 :: flat p.2)) := r2
    subst r2'
    have hq : Rest s q := hrest
    refine ⟨_, rskip hs hq, ?_⟩
    rw [if_pos (show (0 : Int) = 0 from rfl)]
    unfold trellisref25_Parse_j1
    have hpl := plc_le (s := s) (blL q)
    dsimp only
    by_cases g : blL q = []
    · rw [if_pos g, if_neg (by
        rw [g, Rest.nil]
        simp)]
      unfold trellisref25_Parse_j2
      rw [if_pos (show (0 : Int) = 0 from rfl)]
      show (flat (.cons p.1 p.2 .nil), (0 : Int), (0 : Int)) = _
      simp only [flat, List.append_nil, List.nil_append]
    · have hlt : (plc s (blL q) : Int) < (s.size : Int) := by
        have h2 : ¬ (plc s (blL q) : Int) = (s.size : Int) := fun h => g ((plc_end hq.bl).1 h)
        omega
      rw [if_neg g, if_pos (by rw [decide_eq_true_eq]; exact hlt)]
      refine ⟨_, rstop, ?_⟩
      unfold trellisref25_Parse_j2
      rw [if_neg n250]
      rfl
theorem parses_law (hs : s.size ≤ 2 ^ 30) : trellislaw25_JsonParses s true := by
  refine ⟨_, jparse_ok (by omega), _, rparse_ok (by omega), true, by
    have h1 := parse_len (s := s)
    have h2 := same_ok (v := (parseR s (parseL (bsOf s))).1) (w := (parseR s (parseL (bsOf s))).1) (by omega)
    rwa [decide_eq_true rfl] at h2, ?_⟩
  rw [if_pos rfl, if_pos rfl]
  simp
end
end Go.Proofs.YtmfopcbjgbphaaaDoor.L
