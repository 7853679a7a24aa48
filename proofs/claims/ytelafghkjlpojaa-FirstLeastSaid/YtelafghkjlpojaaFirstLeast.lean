/- The plain side of FirstLeast. No condition. -/
import Derived.Test.YtelafghkjlpojaaL
import Derived.Test.YtelafghkjlpojaaT
set_option linter.unusedVariables false
namespace Go.Proofs.Ytelafghkjlpojaa.firstLeast
open Go.Proofs.Ytelafghkjlpojaa.B Go.Proofs.Ytelafghkjlpojaa.K Go.Proofs.Ytelafghkjlpojaa.R Go.Proofs.Ytelafghkjlpojaa.L
/-- lists as sets -/
def sOf (n : List Bool) (f : List Int) : first_sets := ⟨fun j => if 0 ≤ j ∧ j < (f.length : Int) then ix f j else 0, fun j => if 0 ≤ j ∧ j < (n.length : Int) then ix n j else false⟩
theorem sOf_f {n : List Bool} {f : List Int} {j : Int} (h : 0 ≤ j ∧ j < (f.length : Int)) : (sOf n f).first j = ix f j := if_pos h
theorem sOf_v {n : List Bool} {f : List Int} {j : Int} (h : 0 ≤ j ∧ j < (n.length : Int)) : (sOf n f).vanishes j = ix n j := if_pos h
theorem sOf_ok {n : List Bool} {f : List Int} (h : ∀ x ∈ f, U x) : Ok (sOf n f) := fun j => by
  unfold sOf
  show U (if _ then _ else _)
  split
  · rename_i hj
    have := ix_get hj
    exact h _ (List.mem_of_getElem? this)
  · exact U.zero
theorem along_ok {g : api_Gram} {n : List Bool} {f : List Int} (hn : n.length = nA g) (hf : f.length = nA g) {row : List api_Ref} (hl : row.length < 2 ^ 60) (hr : rowOk g row = true) : trellislaw11_along n f row (ofS (sOf n f) row 0) := by
  unfold trellislaw11_along
  refine Rounds.pair row (fun out i => ((out, i) : Int × Int)) (ofF (sOf n f)) (fun out => (out, true)) id (fun i hi out => ?_) (fun out => ?_) 0
  · obtain ⟨h1, h2⟩ := rowOk_mem hr (List.getElem_mem hi)
    have a1 : 0 ≤ row[i].sym ∧ row[i].sym < (f.length : Int) := by rw [hf]; unfold nA; omega
    have a2 : 0 ≤ row[i].sym ∧ row[i].sym < (n.length : Int) := by rw [hn]; unfold nA; omega
    constructor
    · intro s' h
      unfold ofF at h
      rw [sOf_f a1, sOf_v a2] at h
      split at h
      · rename_i hv
        injection h with h
        subst h
        unfold trellislaw11_along_b1
        simp only
        rw [if_pos (by omega), ix_nat hi, w64_nat (by omega)]
        exact ⟨by omega, a1, a2, by rw [if_pos hv]⟩
      · cases h
    · intro r h
      unfold ofF at h
      rw [sOf_f a1, sOf_v a2] at h
      split at h
      · cases h
      · rename_i hv
        injection h with h
        subst h
        unfold trellislaw11_along_b1
        simp only
        rw [if_pos (by omega), ix_nat hi]
        exact ⟨by omega, a1, a2, by rw [if_neg hv]; rfl⟩
  · unfold trellislaw11_along_b1
    rw [if_neg (by show ¬ _ < _; omega)]
    rfl
def prodC (g : api_Gram) (s : first_sets) (p : api_Prod) : Bool :=
  if p.lhs < 0 then true else (AN (ofS s p.rhs 0).1 (s.first (xOf g p)) == 0) && (!(ofS s p.rhs 0).2 || s.vanishes (xOf g p))
theorem prodC_iff {g : api_Gram} {s : first_sets} (hs : Ok s) {p : api_Prod} : prodC g s p = true ↔ ClAt g s p := by
  unfold prodC ClAt
  split
  · simp; omega
  · rename_i h
    rw [Bool.and_eq_true, beq_iff_eq, an_zero (ofS_U hs U.zero) (hs _), Bool.or_eq_true, Bool.not_eq_true']
    constructor
    · rintro ⟨h1, h2⟩ _
      exact ⟨h1, fun h3 => by rcases h2 with h2 | h2; · rw [h2] at h3; cases h3
                              · exact h2⟩
    · intro h1
      obtain ⟨h2, h3⟩ := h1 (by omega)
      refine ⟨h2, ?_⟩
      cases h4 : (ofS s p.rhs 0).2 with
      | false => exact .inl rfl
      | true => exact .inr (h3 h4)
def closedB (g : api_Gram) (s : first_sets) : Bool := (List.range g.terms.length).all (fun t => has (s.first t) t) && g.prods.all (prodC g s)
theorem closed_ok {g : api_Gram} (hl : Lg g) (hg : soundB g = true) {n : List Bool} {f : List Int} (hn : n.length = nA g) (hf : f.length = nA g) (hu : ∀ x ∈ f, U x) : trellislaw11_closed g n f (closedB g (sOf n f)) := by
  obtain ⟨t0, t1, t2⟩ := soundB_T hg
  have hok := sOf_ok (n := n) hu
  have hT : g.terms.length ≤ f.length := by rw [hf]; unfold nA; omega
  have h2 : Rounds (fun (s : Int) o => trellislaw11_closed_b2 g n f s o) 0 ((.inr (g.prods.all (prodC g (sOf n f)))) : Sum Int Bool) := by
    refine Rounds.pair (κ := Bool) (ρ := Sum Int Bool) g.prods (fun (_ : Unit) i => i) (fun a (_ : Unit) => if prodC g (sOf n f) a = true then .inl () else .inr false) (fun _ => true) (fun b => .inr b) (fun i hi _ => ?_) (fun _ => ?_) () |> fun h => by rwa [runL_all] at h
    · obtain ⟨p1, p2, p3⟩ := soundB_p hg (List.getElem_mem hi)
      have hw : w64 ((g.terms.length : Int) + g.prods[i].lhs) = xOf g g.prods[i] := w64_id (by omega)
      have key : (prodC g (sOf n f) g.prods[i] = true → trellislaw11_closed_b2 g n f (i : Int) (.inl ((i : Int) + 1))) ∧ (prodC g (sOf n f) g.prods[i] = false → trellislaw11_closed_b2 g n f (i : Int) (.inr (.inr false))) := by
        have b1 : 0 ≤ g.prods[i].lhs → 0 ≤ xOf g g.prods[i] ∧ xOf g g.prods[i] < (f.length : Int) := fun h => by rw [hf]; unfold xOf nA; omega
        have b2 : 0 ≤ g.prods[i].lhs → 0 ≤ xOf g g.prods[i] ∧ xOf g g.prods[i] < (n.length : Int) := fun h => by rw [hn]; unfold xOf nA; omega
        refine ⟨fun hc => ?_, fun hc => ?_⟩ <;> unfold prodC at hc <;> unfold trellislaw11_closed_b2 <;> rw [if_pos (by omega), ix_nat hi, hw]
        · rw [w64_nat (by have := hl.p; omega)]
          refine ⟨by omega, ?_⟩
          by_cases h0 : g.prods[i].lhs < 0
          · rw [if_pos h0]
          · rw [if_neg h0] at hc ⊢
            have b1 := b1 (by omega)
            have b2 := b2 (by omega)
            rw [sOf_f b1, sOf_v b2, Bool.and_eq_true, beq_iff_eq] at hc
            refine ⟨_, along_ok hn hf (hl.r _ (List.getElem_mem hi)) p3, b1, ?_⟩
            rw [if_pos hc.1]
            split
            · rename_i hv
              have hc2 := hc.2
              rw [hv] at hc2
              exact ⟨b2, by rw [if_pos (by simpa using hc2)]⟩
            · rfl
        · refine ⟨by omega, ?_⟩
          by_cases h0 : g.prods[i].lhs < 0
          · rw [if_pos h0] at hc; cases hc
          · rw [if_neg h0] at hc ⊢
            have b1 := b1 (by omega)
            have b2 := b2 (by omega)
            rw [sOf_f b1, sOf_v b2] at hc
            refine ⟨_, along_ok hn hf (hl.r _ (List.getElem_mem hi)) p3, b1, ?_⟩
            split
            · rename_i ha
              have ha2 : AN (ofS (sOf n f) g.prods[i].rhs 0).1 (ix f (xOf g g.prods[i])) = 0 := ha
              split
              · rename_i hv
                refine ⟨b2, ?_⟩
                rw [if_neg]
                intro hv2
                rw [hv, hv2] at hc
                simp [ha2] at hc
              · rename_i hv
                simp [ha2] at hc
                exact absurd hc.1 hv
            · rfl
      refine ⟨fun s' h => key.1 ?_, fun r h => ?_⟩
      · by_cases h3 : prodC g (sOf n f) g.prods[i] = true
        · exact h3
        · simp [h3] at h
      · by_cases h3 : prodC g (sOf n f) g.prods[i] = true
        · simp [h3] at h
        · simp [h3] at h; subst h; exact key.2 (by simpa using h3)
    · show trellislaw11_closed_b2 g n f (g.prods.length : Int) _
      unfold trellislaw11_closed_b2
      rw [if_neg (by omega)]
  unfold trellislaw11_closed
  have bit : ∀ i : Nat, i < g.terms.length → 0 ≤ IntKind.u64.wrap (i : Int) ∧ (bits .and .u64 (shrV .u64 (ix f i) (IntKind.u64.wrap (i : Int))) 1 = 1 ↔ has ((sOf n f).first i) i = true) := fun i hi => by
    rw [wrapU (U.small (by omega) (by omega)), sOf_f (by omega)]
    exact ⟨by omega, bit_one (by have := hok i; rwa [sOf_f (by omega)] at this) (by omega)⟩
  have e : closedB g (sOf n f) = if (List.range g.terms.length).all (fun t => has ((sOf n f).first t) t) = true then g.prods.all (prodC g (sOf n f)) else false := by
    unfold closedB
    cases (List.range g.terms.length).all (fun t => has ((sOf n f).first t) t) <;> simp
  rw [e]
  refine (Rounds.allThen (List.range g.terms.length) (fun t => has ((sOf n f).first t) t) (fun i hi hp => ?_) (fun i hi hp => ?_) (fun _ => ?_))
  · have hi : i < g.terms.length := by simpa using hi
    unfold trellislaw11_closed_b1
    rw [if_pos (by omega), w64_nat (by omega)]
    refine ⟨by omega, (bit i hi).1, ?_⟩
    rw [if_pos ((bit i hi).2.2 (by simpa using hp))]
  · have hi : i < g.terms.length := by simpa using hi
    unfold trellislaw11_closed_b1
    rw [if_pos (by omega)]
    refine ⟨by omega, (bit i hi).1, ?_⟩
    rw [if_neg (fun h => by have := (bit i hi).2.1 h; simp at hp; rw [this] at hp; cases hp)]
  · rw [List.length_range]
    unfold trellislaw11_closed_b1
    rw [if_neg (by omega)]
    exact h2
theorem cl_iff {g : api_Gram} {s : first_sets} (hs : Ok s) : closedB g s = true ↔ (∀ t : Nat, t < g.terms.length → has (s.first t) t = true) ∧ Cl g s := by
  unfold closedB
  rw [Bool.and_eq_true, List.all_eq_true, List.all_eq_true]
  constructor
  · rintro ⟨h1, h2⟩
    exact ⟨fun t ht => h1 t (List.mem_range.2 ht), fun p hp => (prodC_iff hs).1 (h2 p hp)⟩
  · rintro ⟨h1, h2⟩
    exact ⟨fun t ht => h1 t (List.mem_range.1 ht), fun p hp => (prodC_iff hs).2 (h2 p hp)⟩
set_option maxRecDepth 10000 in
theorem law (x1 : api_Gram) (x2 : List Bool) (x3 : List Int) (h1 : q_api_Gram x1) (h2 : x2.length * 1 ≤ reachBytes ∧ ∀ x ∈ x2, True) (h3 : x3.length * 8 ≤ reachBytes ∧ ∀ x ∈ x3, (Lit.int .u64 x).wf = true) : trellislaw11_FirstLeast x1 x2 x3 true := by
  obtain ⟨⟨a1, _⟩, ⟨a2, _⟩, a3, a4⟩ := h1
  have hl : Lg x1 := lg_of a1 a2 a3 fun p hp => (a4 p hp).2.1
  have hb := reachBytes_lt
  unfold trellislaw11_FirstLeast
  refine ⟨true, started_ok, ?_⟩
  rw [if_pos rfl]
  by_cases hg : soundB x1 = true
  · obtain ⟨t0, t1, t2⟩ := soundB_T hg
    obtain ⟨s, hs, hG⟩ := solve_ok hl hg
    refine ⟨_, nullable_ok hl hg hs, _, first_ok hl hg hs, _, sound2 hl, ?_⟩
    have lA : (vansL x1 s).length = nA x1 := by simp [vansL]
    have lB : (firstL x1 s).length = nA x1 := by simp [firstL]
    have hn : nA x1 ≤ 192 := by unfold nA; omega
    have hAT : x1.terms.length ≤ nA x1 := by unfold nA; omega
    rw [if_pos hg, wN hl, if_pos (by rw [lA]), if_pos (by rw [lB])]
    have hu : ∀ x ∈ firstL x1 s, U x := fun x hx => by
      simp only [firstL, List.mem_map] at hx
      obtain ⟨j, _, rfl⟩ := hx
      exact hG.ok _
    have hok := sOf_ok (n := vansL x1 s) hu
    have ag : Agree (nA x1) s (sOf (vansL x1 s) (firstL x1 s)) := fun j j0 j1 => by
      rw [sOf_f (by rw [lB]; omega), sOf_v (by rw [lA]; omega)]
      have e1 := ix_first (g := x1) (s := s) (j := j.toNat) (by omega)
      have e2 := ix_vans (g := x1) (s := s) (j := j.toNat) (by omega)
      rw [show ((j.toNat : Nat) : Int) = j by omega] at e1 e2
      exact ⟨e1.symm, e2.symm⟩
    have hc : closedB x1 (sOf (vansL x1 s) (firstL x1 s)) = true := (cl_iff hok).2 ⟨fun t ht => by
        rw [← (ag t (by omega) (by omega)).1, hG.f t ht, has_one, decide_eq_true rfl], fun p hp => by
        obtain ⟨p1, p2, p3⟩ := soundB_p hg hp
        exact ClAt.agree (n := nA x1) ag (fun h0 => by unfold xOf nA; omega) (fun r hr => by have := rowOk_mem p3 hr; unfold nA; omega) (hG.cl p hp)⟩
    refine ⟨_, closed_ok hl hg lA lB hu, ?_⟩
    rw [hc]
    unfold trellislaw11_FirstLeast_j1
    rw [if_neg (by simp)]
    refine Rounds.cnt x1.terms.length (fun i hi => ?_) ?_
    · unfold trellislaw11_FirstLeast_b2
      rw [if_pos (by omega), ix_vans (by omega), ix_first (by omega), wrapU (U.small (by omega) (by omega)), w64_nat (by omega)]
      refine ⟨by rw [lA]; omega, ?_⟩
      rw [if_neg (by rw [hG.v i hi]; simp)]
      refine ⟨by rw [lB]; omega, by omega, ?_⟩
      rw [if_pos (by rw [hG.f i hi, shl_one (by omega)])]
    · unfold trellislaw11_FirstLeast_b2
      rw [if_neg (by omega), wN hl]
      have jt : trellislaw11_FirstLeast_j3 x1 (vansL x1 s) x2 (firstL x1 s) x3 true (.inr true) := by
        unfold trellislaw11_FirstLeast_j3
        rw [if_pos rfl]
      by_cases e1 : (x2.length : Int) = (nA x1 : Int)
      · rw [if_pos e1]
        by_cases e2 : (x3.length : Int) = (nA x1 : Int)
        · rw [if_pos e2]
          have e1 : x2.length = nA x1 := by omega
          have e2 : x3.length = nA x1 := by omega
          have hu3 : ∀ x ∈ x3, U x := fun x hx => U.of_wf (h3.2 x hx)
          refine ⟨_, closed_ok hl hg e1 e2 hu3, ?_⟩
          by_cases hc3 : closedB x1 (sOf x2 x3) = true
          · rw [hc3]
            unfold trellislaw11_FirstLeast_j3
            rw [if_neg (by simp)]
            obtain ⟨c1, c2⟩ := (cl_iff (sOf_ok (n := x2) hu3)).1 hc3
            have hle := hG.least _ (sOf_ok (n := x2) hu3) c1 c2
            have step : ∀ i : Nat, i < nA x1 → (s.vanishes i = true → ix x2 (i : Int) = true) ∧ bits .andNot .u64 (s.first i) (ix x3 (i : Int)) = 0 := fun i hi => by
              obtain ⟨k1, k2⟩ := hle i
              have k0 := sOf_ok (n := x2) hu3 i
              rw [sOf_f (by rw [e2]; omega)] at k1 k0
              rw [sOf_v (by rw [e1]; omega)] at k2
              exact ⟨k2, (an_zero (hG.ok _) k0).2 k1⟩
            refine Rounds.cnt (nA x1) (fun i hi => ?_) ?_
            · unfold trellislaw11_FirstLeast_b4
              obtain ⟨k1, k2⟩ := step i hi
              rw [wN hl, if_pos (by omega), ix_vans hi, ix_first hi, w64_nat (by omega)]
              refine ⟨by rw [lA]; omega, ?_⟩
              by_cases hv : s.vanishes i = true
              · rw [if_pos hv]
                refine ⟨by rw [e1]; omega, ?_⟩
                rw [if_pos (k1 hv)]
                refine ⟨by rw [lB]; omega, by rw [e2]; omega, ?_⟩
                rw [if_pos k2]
              · rw [if_neg hv]
                refine ⟨by rw [lB]; omega, by rw [e2]; omega, ?_⟩
                rw [if_pos k2]
            · unfold trellislaw11_FirstLeast_b4
              rw [wN hl, if_neg (by omega)]
          · rw [Bool.not_eq_true] at hc3
            rw [hc3]
            exact jt
        · rw [if_neg e2]; exact jt
      · rw [if_neg e1]; exact jt
  · rw [Bool.not_eq_true] at hg
    refine ⟨_, nullable_no hl hg, _, first_no hl hg, _, sound2 hl, ?_⟩
    rw [hg, if_neg (by simp), if_pos (by rfl)]
    rfl
end Go.Proofs.Ytelafghkjlpojaa.firstLeast
