/- The plain side of FirstDerives. No condition. -/
import Derived.Test.YtelafghkjlpojaaL
import Derived.Test.YtelafghkjlpojaaT
set_option linter.unusedVariables false
namespace Go.Proofs.Ytelafghkjlpojaa.firstDerives
open Go.Proofs.Ytelafghkjlpojaa.B Go.Proofs.Ytelafghkjlpojaa.K Go.Proofs.Ytelafghkjlpojaa.R Go.Proofs.Ytelafghkjlpojaa.L
/-- may a token begin a row, if it may begin what is behind? -/
def mem (s : first_sets) (t : Nat) : List api_Ref → Bool → Bool
  | [], k => k
  | r :: l, k => has (s.first r.sym) t || (s.vanishes r.sym && mem s t l k)
theorem mem_app (s : first_sets) (t : Nat) (k : Bool) : ∀ (a b : List api_Ref), mem s t (a ++ b) k = mem s t a (mem s t b k)
  | [], b => rfl
  | r :: a, b => by rw [List.cons_append, mem, mem, mem_app]
theorem mem_mono (s : first_sets) (t : Nat) {k k' : Bool} (h : k = true → k' = true) : ∀ (a : List api_Ref), mem s t a k = true → mem s t a k' = true
  | [], hk => h hk
  | r :: a, hk => by
    rw [mem, Bool.or_eq_true, Bool.and_eq_true] at hk ⊢
    rcases hk with hk | ⟨h1, h2⟩
    · exact .inl hk
    · exact .inr ⟨h1, mem_mono s t h a h2⟩
theorem ofS_mem {s : first_sets} (hs : Ok s) (t : Nat) (k : Bool) : ∀ {row : List api_Ref} {out : Int}, U out → (has (ofS s row out).1 t || ((ofS s row out).2 && k)) = (has out t || mem s t row k)
  | [], out, h => by rw [ofS_nil, mem]; rfl
  | r :: l, out, h => by
    rw [mem]
    cases hv : s.vanishes r.sym with
    | true => rw [ofS_go hv, ofS_mem hs t k (h.or (hs _)), has_or h (hs _), Bool.true_and, Bool.or_assoc]
    | false => rw [ofS_end hv, has_or h (hs _)]; simp
theorem ofV_U {s : first_sets} (hs : Ok s) {row : List api_Ref} {behind : Int} (hb : U behind) : U (ofV s row behind) := by
  unfold ofV
  split
  · exact (ofS_U hs U.zero).or hb
  · exact ofS_U hs U.zero
theorem ofV_mem {s : first_sets} (hs : Ok s) (t : Nat) {row : List api_Ref} {behind : Int} (hb : U behind) : has (ofV s row behind) t = mem s t row (has behind t) := by
  have h := ofS_mem hs t (has behind t) (row := row) U.zero
  rw [has_zero, Bool.false_or] at h
  rw [← h]
  unfold ofV
  split
  · rename_i hv; rw [has_or (ofS_U hs U.zero) hb, hv, Bool.true_and]
  · rename_i hv; rw [Bool.not_eq_true] at hv; rw [hv]; simp
theorem mem_prod {g : api_Gram} {s : first_sets} (hs : Ok s) {p : api_Prod} (h : ClAt g s p) (h0 : 0 ≤ p.lhs) {r : api_Ref} (hr : r.sym = xOf g p) (t : Nat) {k : Bool} (hm : mem s t p.rhs k = true) : mem s t [r] k = true := by
  obtain ⟨c1, c2⟩ := h h0
  have h1 := ofS_mem hs t k (row := p.rhs) U.zero
  rw [has_zero, Bool.false_or, hm, Bool.or_eq_true, Bool.and_eq_true] at h1
  rw [mem, mem, hr, Bool.or_eq_true, Bool.and_eq_true]
  rcases h1 with h1 | ⟨h1, h2⟩
  · exact .inl (c1 t h1)
  · exact .inr ⟨c2 h1, h2⟩
theorem mod_ok (k : Int) {n : Nat} (hn : 0 < n) (h : n < 2 ^ 60) : ∃ m : Nat, trellislaw11_mod k n m ∧ m < n := by
  have h1 := Int.tmod_lt_of_pos k (b := (n : Int)) (by omega)
  have h2 : -(n : Int) < Int.tmod k n := Int.lt_tmod_of_pos k (by omega)
  unfold trellislaw11_mod
  by_cases h0 : Int.tmod k n < 0
  · refine ⟨(Int.tmod k n + n).toNat, ⟨by omega, ?_⟩, by omega⟩
    rw [if_pos h0, w64_id (by omega)]
    omega
  · refine ⟨(Int.tmod k n).toNat, ⟨by omega, ?_⟩, by omega⟩
    rw [if_neg h0]
    omega
theorem take_snoc {α : Type} [Inhabited α] {xs : List α} {i : Nat} (h : i < xs.length) : xs.take i ++ [ix xs (i : Int)] = xs.take (i + 1) := by
  rw [ix_nat h, List.take_succ_eq_append_getElem h]
theorem rowOk_app {g : api_Gram} {a b : List api_Ref} : rowOk g (a ++ b) = true ↔ rowOk g a = true ∧ rowOk g b = true := by
  unfold rowOk
  rw [List.all_append, Bool.and_eq_true]
theorem replaced_ok {g : api_Gram} (hl : Lg g) (hg : soundB g = true) {s : first_sets} (hG : L.Good g s) {now : List api_Ref} (hn : now.length < 2 ^ 60) (hk : rowOk g now = true) (st : trellislaw11_Replace) :
    ∃ r, trellislaw11_replaced g now st r ∧ r.length < 2 ^ 60 ∧ rowOk g r = true ∧ ∀ t k, mem s t r k = true → mem s t now k = true := by
  have stay : trellislaw11_replaced g now st now → ∃ r, trellislaw11_replaced g now st r ∧ r.length < 2 ^ 60 ∧ rowOk g r = true ∧ ∀ t k, mem s t r k = true → mem s t now k = true := fun h => ⟨now, h, hn, hk, fun _ _ h => h⟩
  unfold trellislaw11_replaced at stay ⊢
  by_cases h1 : (now.length : Int) = 0
  · simp only [if_pos h1] at stay ⊢
    exact stay (by unfold trellislaw11_replaced_j1; rw [if_pos rfl])
  · simp only [if_neg h1] at stay ⊢
    by_cases h2 : g.prods.length = 0
    · exact stay (by unfold trellislaw11_replaced_j1; rw [if_pos (by simp [h2])])
    · have h2' : ((g.prods.length : Int) == 0) = false := beq_eq_false_iff_ne.2 (by omega)
      rw [h2'] at stay ⊢
      obtain ⟨a, ha, ha2⟩ := mod_ok st.at_ (n := now.length) (by omega) hn
      obtain ⟨q, hq, hq2⟩ := mod_ok st.prod (n := g.prods.length) (by omega) hl.p
      have hp := soundB_p hg (List.getElem_mem hq2)
      have hpl := hl.r _ (List.getElem_mem hq2)
      have hw : w64 ((g.terms.length : Int) + g.prods[q].lhs) = xOf g g.prods[q] := w64_id (by obtain ⟨_, t1, t2⟩ := soundB_T hg; omega)
      unfold trellislaw11_replaced_j1 at stay ⊢
      simp only [if_neg (show ¬ false = true by simp)] at stay ⊢
      have stay2 : ((0 ≤ (q : Int) ∧ (q : Int) < (g.prods.length : Int)) ∧ if (ix g.prods q).lhs < 0 then trellislaw11_replaced_j2 now a g q true now else (0 ≤ (a : Int) ∧ (a : Int) < (now.length : Int)) ∧ if (ix now a).sym = w64 ((g.terms.length : Int) + ((ix g.prods q).lhs)) then trellislaw11_replaced_j2 now a g q (decide (w64 ((now.length : Int) + (((ix g.prods q).rhs).length : Int)) > 65536)) now else trellislaw11_replaced_j2 now a g q true now) → _ := fun h => stay ⟨_, ha, _, hq, h⟩
      have j2t : trellislaw11_replaced_j2 now a g q true now := by unfold trellislaw11_replaced_j2; rw [if_pos rfl]
      rw [ix_nat hq2, ix_nat ha2, hw, w64_id (by omega)] at stay2
      by_cases h3 : g.prods[q].lhs < 0
      · rw [if_pos h3] at stay2; exact stay2 ⟨by omega, j2t⟩
      · rw [if_neg h3] at stay2
        by_cases h4 : now[a].sym = xOf g g.prods[q]
        · rw [if_pos h4] at stay2
          by_cases h5 : now.length + g.prods[q].rhs.length > 65536
          · rw [show decide ((now.length : Int) + (g.prods[q].rhs.length : Int) > 65536) = true from decide_eq_true (by omega)] at stay2
            exact stay2 ⟨by omega, by omega, j2t⟩
          · have e : now = now.take a ++ ([now[a]] ++ now.drop (a + 1)) := by rw [← List.append_assoc, ← List.take_succ_eq_append_getElem ha2, List.take_append_drop]
            have hk2 := hk
            rw [e, rowOk_app, rowOk_app] at hk2
            have hdl : (now.drop (a + 1)).length = now.length - (a + 1) := by simp
            refine ⟨now.take a ++ (g.prods[q].rhs ++ now.drop (a + 1)), ⟨_, ha, _, hq, ?_⟩, by simp; omega, by rw [rowOk_app, rowOk_app]; exact ⟨hk2.1, hp.2.2, hk2.2.2⟩, fun t k hm => ?_⟩
            · rw [ix_nat hq2, ix_nat ha2, hw, w64_id (by omega), if_neg h3, if_pos h4, show decide ((now.length : Int) + (g.prods[q].rhs.length : Int) > 65536) = false from decide_eq_false (by omega)]
              refine ⟨by omega, by omega, ?_⟩
              unfold trellislaw11_replaced_j2
              rw [if_neg (by simp)]
              have l3 := Rounds.upto (B := fun (s : (List api_Ref) × Int) o => trellislaw11_replaced_b5 now s.1 s.2 o) (r := (.inr (.inr (now.take a ++ (g.prods[q].rhs ++ now.drop (a + 1)))) : Sum ((List api_Ref) × Int) (Sum ((List api_Ref) × Int) (List api_Ref)))) (fun i => (now.take a ++ (g.prods[q].rhs ++ (now.drop (a + 1)).take i), ((a + 1 + i : Nat) : Int))) (now.length - (a + 1)) (fun i hi => by
                show trellislaw11_replaced_b5 now _ _ _
                unfold trellislaw11_replaced_b5
                rw [if_pos (by omega), w64_nat (by omega)]
                refine ⟨by omega, _, rfl, by simp; omega, ?_⟩
                rw [List.append_assoc, List.append_assoc]
                have : ix now ((a + 1 + i : Nat) : Int) = ix (now.drop (a + 1)) (i : Int) := by
                  rw [ix_nat (by omega), ix_nat (by rw [hdl]; exact hi), List.getElem_drop]
                rw [this, take_snoc (by rw [hdl]; exact hi)]
                rfl) (by
                show trellislaw11_replaced_b5 now _ _ _
                unfold trellislaw11_replaced_b5
                rw [if_neg (by omega), show (now.drop (a + 1)).take (now.length - (a + 1)) = now.drop (a + 1) from List.take_of_length_le (by rw [hdl]; omega)])
              have l2 := Rounds.upto (B := fun (s : (List api_Ref) × Int) o => trellislaw11_replaced_b4 g q now a s.1 s.2 o) (r := (.inr (now.take a ++ (g.prods[q].rhs ++ now.drop (a + 1))) : Sum ((List api_Ref) × Int) (List api_Ref))) (fun i => (now.take a ++ g.prods[q].rhs.take i, (i : Int))) g.prods[q].rhs.length (fun i hi => by
                show trellislaw11_replaced_b4 g q now a _ _ _
                unfold trellislaw11_replaced_b4
                rw [ix_nat hq2, if_pos (by omega), w64_nat (by omega)]
                refine ⟨by omega, _, rfl, by simp; omega, ?_⟩
                rw [List.append_assoc, take_snoc hi]
                rfl) (by
                show trellislaw11_replaced_b4 g q now a _ _ _
                unfold trellislaw11_replaced_b4
                rw [ix_nat hq2, if_neg (by omega), List.take_length, w64_nat (by omega)]
                simpa using l3)
              have l1 := Rounds.upto (B := fun (s : (List api_Ref) × Int) o => trellislaw11_replaced_b3 a now g q s.1 s.2 o) (r := now.take a ++ (g.prods[q].rhs ++ now.drop (a + 1))) (fun i => (now.take i, (i : Int))) a (fun i hi => by
                show trellislaw11_replaced_b3 a now g q _ _ _
                unfold trellislaw11_replaced_b3
                rw [if_pos (by omega), w64_nat (by omega)]
                refine ⟨by omega, _, rfl, by simp; omega, ?_⟩
                rw [take_snoc (by omega)]
                rfl) (by
                show trellislaw11_replaced_b3 a now g q _ _ _
                unfold trellislaw11_replaced_b3
                rw [if_neg (by omega)]
                simpa using l2)
              simpa using l1
            · rw [e, mem_app, mem_app]
              rw [mem_app, mem_app] at hm
              exact mem_mono s t (fun h => mem_prod hG.ok (hG.cl _ (List.getElem_mem hq2)) (by omega) h4 t h) _ hm
        · rw [if_neg h4] at stay2; exact stay2 ⟨by omega, by omega, j2t⟩
theorem law (x1 : api_Gram) (x2 : List api_Ref) (x3 : Int) (x4 : List trellislaw11_Replace) (h1 : q_api_Gram x1) (h2 : x2.length * 40 ≤ reachBytes ∧ ∀ x ∈ x2, q_api_Ref x) (h3 : (Lit.int .u64 x3).wf = true) (h4 : x4.length * 16 ≤ reachBytes ∧ ∀ x ∈ x4, q_trellislaw11_Replace x) : trellislaw11_FirstDerives x1 x2 x3 x4 true := by
  obtain ⟨⟨a1, _⟩, ⟨a2, _⟩, a3, a4⟩ := h1
  have hl : Lg x1 := lg_of a1 a2 a3 fun p hp => (a4 p hp).2.1
  have hb := reachBytes_lt
  have hx2 : x2.length < 2 ^ 60 := by have := h2.1; omega
  have hx4 : x4.length < 2 ^ 60 := by have := h4.1; omega
  have hu := U.of_wf h3
  unfold trellislaw11_FirstDerives
  refine ⟨true, started_ok, ?_⟩
  rw [if_pos rfl]
  by_cases hg : soundB x1 = true
  · by_cases hk : rowOk x1 x2 = true
    · obtain ⟨s, hs, hG⟩ := solve_ok hl hg
      obtain ⟨_, t1, t2⟩ := soundB_T hg
      refine ⟨_, of_ok hl hg hs hx2 hk x3, _, sound2 hl, ?_⟩
      rw [if_pos hg]
      refine ⟨_, symbols2 hl hx2, ?_⟩
      rw [hk]
      unfold trellislaw11_FirstDerives_j1
      rw [if_neg (by simp)]
      have hUT := ofV_U hG.ok (row := x2) hu
      refine Rounds.to (fun q : (List api_Ref) × Int => 0 ≤ q.2 ∧ q.2 ≤ (x4.length : Int) ∧ q.1.length < 2 ^ 60 ∧ rowOk x1 q.1 = true ∧ ∀ t k, mem s t q.1 k = true → mem s t x2 k = true) (fun q => x4.length - q.2.toNat) (fun q hq => ?_) ⟨by omega, by omega, hx2, hk, fun _ _ h => h⟩
      obtain ⟨i0, i1, i2, i3, i4⟩ := hq
      unfold trellislaw11_FirstDerives_b2
      by_cases hi : q.2 < (x4.length : Int)
      · right
        obtain ⟨r, r1, r2, r3, r4⟩ := replaced_ok hl hg hG i2 i3 (ix x4 q.2)
        refine ⟨(r, q.2 + 1), ?_, ⟨by show 0 ≤ q.2 + 1; omega, by show q.2 + 1 ≤ _; omega, r2, r3, fun t k h => i4 t k (r4 t k h)⟩, by show x4.length - (q.2 + 1).toNat < x4.length - q.2.toNat; omega⟩
        rw [if_pos hi]
        refine ⟨by omega, r, r1, ?_⟩
        by_cases h0 : (r.length : Int) = 0
        · rw [if_pos h0]
          have hr : r = [] := List.eq_nil_of_length_eq_zero (by omega)
          subst hr
          have hsub : Sub x3 (ofV s x2 x3) := fun t ht => by
            rw [ofV_mem hG.ok t hu]
            exact i4 t _ (r4 t _ ht)
          rw [show (bits .andNot .u64 x3 (ofV s x2 x3) != 0) = false by rw [show bits .andNot .u64 x3 (ofV s x2 x3) = 0 from (an_zero hu hUT).2 hsub]; rfl]
          unfold trellislaw11_FirstDerives_j3
          rw [if_neg (by simp), if_neg (by simp), w64_id (by omega)]
        · rw [if_neg h0]
          unfold trellislaw11_FirstDerives_j3
          rw [if_neg (by simp), if_pos (by omega)]
          refine ⟨by omega, ?_⟩
          have hlt0 : 0 < r.length := by omega
          have e0 : ix r 0 = r[0] := ix_nat (i := 0) hlt0
          rw [e0]
          have hrow := rowOk_mem r3 (List.getElem_mem hlt0)
          by_cases hT : r[0].sym < (x1.terms.length : Int)
          · rw [if_pos hT, wrapU (U.small (by omega) (by omega))]
            refine ⟨by omega, ?_⟩
            have hf := hG.f r[0].sym.toNat (by omega)
            rw [show ((r[0].sym.toNat : Nat) : Int) = r[0].sym by omega] at hf
            have hb1 : bits .and .u64 (shrV .u64 (ofV s x2 x3) r[0].sym) 1 = 1 := by
              have := (bit_one hUT (t := r[0].sym.toNat) (by omega)).2
              rw [show ((r[0].sym.toNat : Nat) : Int) = r[0].sym by omega] at this
              apply this
              rw [ofV_mem hG.ok _ hu]
              refine i4 _ _ (r4 _ _ ?_)
              match r, hlt0, hf with
              | r0 :: l, _, hf =>
                rw [mem]
                have hf : s.first r0.sym = _ := hf
                rw [hf, has_one]
                simp
            rw [if_pos hb1, w64_id (by omega)]
          · rw [if_neg hT, w64_id (by omega)]
      · left
        rw [if_neg hi]
        refine ⟨_, of_ok hl hg hs i2 i3 x3, ?_⟩
        have hsub : Sub (ofV s q.1 x3) (ofV s x2 x3) := fun t ht => by
          rw [ofV_mem hG.ok t hu] at ht ⊢
          exact i4 t _ ht
        rw [show bits .andNot .u64 (ofV s q.1 x3) (ofV s x2 x3) = 0 from (an_zero (ofV_U hG.ok hu) hUT).2 hsub]
        rfl
    · rw [Bool.not_eq_true] at hk
      refine ⟨0, of_no hl hx2 (.inr hk) x3, _, sound2 hl, ?_⟩
      rw [if_pos hg]
      refine ⟨_, symbols2 hl hx2, ?_⟩
      rw [hk]
      unfold trellislaw11_FirstDerives_j1
      rw [if_pos (by rfl)]
      rfl
  · rw [Bool.not_eq_true] at hg
    refine ⟨0, of_no hl hx2 (.inl hg) x3, _, sound2 hl, ?_⟩
    rw [hg, if_neg (by simp)]
    unfold trellislaw11_FirstDerives_j1
    rw [if_pos (by rfl)]
    rfl
end Go.Proofs.Ytelafghkjlpojaa.firstDerives
