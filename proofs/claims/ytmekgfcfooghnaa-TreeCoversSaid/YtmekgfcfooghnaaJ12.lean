/- The maker of the laws TreeGrows and TreeCovers: what stands on its stack in the end. Conditions: sizes, numbers are ints. -/
import Derived.Test.YtmekgfcfooghnaaJ11
set_option linter.unusedVariables false
namespace Go.Proofs.Ytmekgfcfooghnaa.L
open Go.Proofs.Ytmekgfcfooghnaa.B Go.Proofs.Ytmekgfcfooghnaa.R
theorem Stk.endOf {l : api_Lang} {tk : List api_Node} : ∀ {s : List Made} {lo hi : Int} {a b : Nat}, Stk l tk s lo a hi b → ix (lo :: s.map (·.ends)) (s.length : Int) = hi
 | [], lo, hi, a, b, h => by rw [← h.1]; rfl
 | m :: s, lo, hi, a, b, ⟨c, _, h⟩ => by
  have := Stk.endOf h
  rw [ix_nat (by simp)] at this ⊢
  exact this
theorem wt_cons (m : Made) (s : List Made) : wt (m :: s) = (m.t.length + 1) + wt s := rfl
theorem red_en {l : api_Lang} {tk : List api_Node} {sub : List Made} {lo hi : Int} {a b N : Nat} {p : api_Prod} (hS : Stk l tk sub lo a hi b) (hN : N < l.gram.prods.length) (hp : ix l.gram.prods (N : Int) = p) (hlen : sub.length = p.rhs.length) (hsym : ∀ j (h : j < sub.length), (ix p.rhs (j : Int)).sym = sub[j].sym) (hw : wt sub ≤ 2 ^ 30) (hl : 0 ≤ p.lhs ∧ p.lhs ≤ 9223372036854775807) (hT : l.gram.terms.length ≤ 2 ^ 50) :
  En l tk ⟨w64 (p.lhs + (l.gram.terms.length : Int)), reduceF l (N : Int) (sub.map (·.t)) (lo :: sub.map (·.ends)), hi⟩ lo a b ∧ (reduceF l (N : Int) (sub.map (·.t)) (lo :: sub.map (·.ends))).length ≤ wt sub + 1 := by
 have hend := hS.endOf
 have hle := hS.le
 have inv := runL_inv (f := redF l p (sub.map (·.t)) (lo :: sub.map (·.ends))) (e := topF l p (lo :: sub.map (·.ends))) (fun i out => ∃ mid c, Stk l tk (sub.take i) lo a mid c ∧ Stk l tk (sub.drop i) mid c hi b ∧ Nice (keys out) ∧ Span lo mid (gr (keys out)) ∧ Lv tk a c (lv (keys out)) ∧ Wf out ∧ out.length ≤ wt (sub.take i)) sub.length 0 [] (fun i out _ hi' h => ?_) ⟨lo, a, ⟨rfl, rfl⟩, by rwa [List.drop_zero], trivial, Int.le_refl _, .nil, fun m hm => (by cases hm), Nat.zero_le _⟩
 ·obtain ⟨out, ⟨mid, c, s1, s2, s3, s4, s5, s6, s7⟩, hrun⟩ := inv
  rw [Nat.zero_add, List.take_length] at s1 s7
  rw [Nat.zero_add, List.drop_length] at s2
  obtain ⟨rfl, rfl⟩ := s2
  have ered : reduceF l (N : Int) (sub.map (·.t)) (lo :: sub.map (·.ends)) = topF l p (lo :: sub.map (·.ends)) out := by
   unfold reduceF
   rw [if_neg (by omega), hp, if_neg (by simp [hlen]), List.range_eq_range', ← hlen]
   exact hrun
  have hsm : Sm out := by unfold Sm; omega
  have hww : w64 (w64 (p.lhs + (l.gram.terms.length : Int)) - (l.gram.terms.length : Int)) = p.lhs := by unfold w64; rw [IntKind.wrap_i64, IntKind.wrap_i64]; omega
  have hno : ¬ (0 ≤ w64 (p.lhs + (l.gram.terms.length : Int)) ∧ w64 (p.lhs + (l.gram.terms.length : Int)) < (l.gram.terms.length : Int)) := by unfold w64; rw [IntKind.wrap_i64]; omega
  rw [ered]
  unfold topF
  rw [← hlen, hend]
  by_cases g : 0 ≤ p.lhs ∧ p.lhs < (l.gram.syms.length : Int) ∧ (ix l.gram.syms p.lhs).kind = 1
  ·rw [if_pos g]
   obtain ⟨o1, o2, o3⟩ := ov_nice s3 s4 (e := mid) hle (Int.le_refl _)
   have ek := over_keys s3 (ix l.gram.syms p.lhs).name mid
   refine ⟨⟨s6.over hsm, by rw [ek]; exact o1, by rw [ek]; exact o2, by rw [ek, lv_ov]; exact s5, fun g2 => absurd g2 hno, fun _ _ _ => by rw [ek]; exact o3⟩, by rw [overF_len]; omega⟩
  ·rw [if_neg g]
   refine ⟨⟨s6, s3, s4, s5, fun g2 => absurd g2 hno, fun q1 q2 q3 => ?_⟩, by omega⟩
   rw [hww] at q1 q2 q3
   exact absurd ⟨q1, q2, q3⟩ g
 ·obtain ⟨mid, c, s1, s2, s3, s4, s5, s6, s7⟩ := h
  have hi2 : i < sub.length := by omega
  rw [List.drop_eq_getElem_cons hi2] at s2
  obtain ⟨d, t1, t2⟩ := s2
  have hmem : sub[i] ∈ sub := List.getElem_mem hi2
  have hwm := wt_mem hmem
  have ek : ix (sub.map (·.t)) (i : Int) = sub[i].t := by rw [ix_nat (by rw [List.length_map]; exact hi2), List.getElem_map]
  have ee : ix (lo :: sub.map (·.ends)) ((i : Int) + 1) = sub[i].ends := by
   rw [show (i : Int) + 1 = ((i + 1 : Nat) : Int) by omega, ix_nat (by simp; omega), List.getElem_cons_succ, List.getElem_map]
  obtain ⟨q1, q2, q3⟩ := part_en (r := ix p.rhs (i : Int)) t1 (by omega) (hsym i hi2)
  obtain ⟨S, _, _, _, hnum, _⟩ := roots_key t1.nice
  have hsm : Sm sub[i].t := by unfold Sm; omega
  have hpo := partF_ok (l := l) (r := ix p.rhs (i : Int)) (e := sub[i].ends) t1.wf hsm
  refine ⟨out ++ partF l (ix p.rhs (i : Int)) sub[i].t sub[i].ends, ?_, sub[i].ends, d, ?_, t2, ?_, ?_, ?_, fun m hm => ?_, ?_⟩
  ·unfold redF
   rw [ek, ee, hnum, if_neg (by omega)]
  ·rw [List.take_succ_eq_append_getElem hi2]
   exact Stk.app.2 ⟨mid, c, s1, d, t1, rfl, rfl⟩
  ·rw [keys_app]; exact s3.app q1
  ·rw [keys_app, gr_app _ s3]; exact s4.app q2
  ·rw [keys_app]; unfold lv; rw [List.filter_append]; exact s5.app q3
  ·rcases List.mem_append.1 hm with hm | hm
   ·exact s6 m hm
   ·exact hpo.1 m hm
  ·rw [List.length_append, List.take_succ_eq_append_getElem hi2, wt_app]
   have : wt [sub[i]] = sub[i].t.length + 1 := by unfold wt; simp
   rw [this]
   omega
abbrev MkSt := (List Made) × (List api_Node) × Int × Int
structure MkInv (l : api_Lang) (steps : List trellislaw15_Op) (s : MkSt) : Prop where
 i : ∃ i : Nat, s.2.2.2 = (i : Int) ∧ i ≤ steps.length ∧ i ≤ 65536 ∧ s.2.2.1 ≤ (i : Int) * 2097152 ∧ wt s.1 ≤ 2 * i ∧ s.2.1.length ≤ i
 st : ∃ E : Int, Stk l s.2.1 s.1 0 0 E s.2.1.length ∧ E ≤ s.2.2.1
def MkP (l : api_Lang) (r : (List Made) × (List api_Node) × Bool) : Prop := r.2.2 = true ∧ wt r.1 ≤ 131072 ∧ r.2.1.length ≤ 65536 ∧ ∃ E : Int, Stk l r.2.1 r.1 0 0 E r.2.1.length
def MkNext (l : api_Lang) (steps : List trellislaw15_Op) (i : Nat) (o : Sum MkSt ((List Made) × (List api_Node) × Bool)) : Prop := ∃ s', o = .inl s' ∧ MkInv l steps s' ∧ s'.2.2.2 = ((i + 1 : Nat) : Int)
theorem made_red {l : api_Lang} (hl : LgOk l) (hlh : ∀ p ∈ l.gram.prods, p.lhs ≤ 9223372036854775807) {steps : List trellislaw15_Op} {sk : List Made} {tk : List api_Node} {at_ : Int} {i : Nat} (hI : MkInv l steps (sk, tk, at_, (i : Int))) (hi : i < steps.length) (hi2 : i < 65536) {N : Nat} (hn : (ix steps (i : Int)).n = (N : Int)) (hN : N < l.gram.prods.length) (hlhs : 0 ≤ (ix l.gram.prods (N : Int)).lhs) :
  ∃ o, Rounds (fun (s : Bool × Int) o => trellislaw15_made_b5 l steps (i : Int) sk tk at_ s.1 s.2 o) (decide (w64 ((sk.length : Int) - (((ix l.gram.prods (N : Int)).rhs).length : Int)) ≥ 0), 0) o ∧ MkNext l steps i o := by
 obtain ⟨⟨i', e0, h1, h2, h3, h4, h5⟩, E, hE, hE2⟩ := hI
 obtain rfl : i = i' := by have : (i : Int) = (i' : Int) := e0; omega
 dsimp only at h3 h4 h5 hE hE2
 have hsk := wt_len sk
 have hpm : ix l.gram.prods (N : Int) ∈ l.gram.prods := by rw [ix_nat hN]; exact List.getElem_mem _
 have hlh := hlh _ hpm
 obtain ⟨hr1, hr2⟩ := hl.rh _ hpm
 have hskip : MkNext l steps i (.inl (sk, tk, at_, w64 ((i : Int) + 1))) := ⟨_, rfl, ⟨⟨i + 1, by rw [w64_nat (by omega)]; rfl, hi, hi2, by dsimp only; omega, by dsimp only; omega, by dsimp only; omega⟩, E, hE, hE2⟩, by rw [w64_nat (by omega)]; rfl⟩
 generalize hp : ix l.gram.prods (N : Int) = p at *
 have ed : w64 ((sk.length : Int) - (p.rhs.length : Int)) = (sk.length : Int) - (p.rhs.length : Int) := w64_id (by omega)
 refine Rounds.some (fun s : Bool × Int => ∃ j : Nat, s.2 = (j : Int) ∧ j ≤ p.rhs.length ∧ (s.1 = true → p.rhs.length ≤ sk.length ∧ ∀ k : Nat, k < j → (ix sk (((sk.length - p.rhs.length + k : Nat)) : Int)).sym = (ix p.rhs (k : Int)).sym)) (fun s => p.rhs.length - s.2.toNat) (fun s hs => ?_) ⟨0, rfl, Nat.zero_le _, fun g => ⟨by rw [ed] at g; simp only [decide_eq_true_eq] at g; omega, fun k hk => by omega⟩⟩
 obtain ⟨fits, _⟩ := s
 obtain ⟨j, rfl, hj, hf⟩ := hs
 simp only [Int.toNat_natCast]
 by_cases hlt : j < p.rhs.length
 ·cases fits with
  | false =>
   refine .inl ⟨_, ?_, hskip⟩
   show trellislaw15_made_b5 l steps (i : Int) sk tk at_ false (j : Int) _
   unfold trellislaw15_made_b5
   rw [hn, hp, if_pos (by omega), if_neg (by simp)]
  | true =>
   obtain ⟨f1, f2⟩ := hf rfl
   have e1 : w64 (w64 ((sk.length : Int) - (p.rhs.length : Int)) + (j : Int)) = ((sk.length - p.rhs.length + j : Nat) : Int) := by rw [ed, w64_id (by omega)]; omega
   refine .inr ⟨((ix sk (((sk.length - p.rhs.length + j : Nat)) : Int)).sym == (ix p.rhs (j : Int)).sym, ((j + 1 : Nat) : Int)), ?_, ⟨j + 1, rfl, hlt, fun g => ⟨f1, fun k hk => ?_⟩⟩, by simp only [Int.toNat_natCast]; omega⟩
   ·show trellislaw15_made_b5 l steps (i : Int) sk tk at_ true (j : Int) _
    unfold trellislaw15_made_b5
    rw [hn, hp, if_pos (by omega), if_pos rfl, e1, w64_nat (by omega)]
    exact ⟨by omega, by omega, rfl⟩
   ·rcases Nat.lt_or_ge k j with g2 | g2
    ·exact f2 k g2
    ·obtain rfl : k = j := by omega
     exact beq_iff_eq.1 g
 ·obtain rfl : j = p.rhs.length := by omega
  cases fits with
  | false =>
   refine .inl ⟨_, ?_, hskip⟩
   show trellislaw15_made_b5 l steps (i : Int) sk tk at_ false (p.rhs.length : Int) _
   unfold trellislaw15_made_b5
   rw [hn, hp, if_neg (by omega), if_neg (by simp)]
  | true =>
   left
   obtain ⟨f1, f2⟩ := hf rfl
   obtain ⟨d, hd⟩ : ∃ d, sk.length = d + p.rhs.length := ⟨sk.length - p.rhs.length, by omega⟩
   have e2 : w64 ((sk.length : Int) - (p.rhs.length : Int)) = (d : Int) := by rw [ed]; omega
   have hsplit : sk = sk.take d ++ sk.drop d := (List.take_append_drop d sk).symm
   have hdl : (sk.drop d).length = p.rhs.length := by rw [List.length_drop]; omega
   have hE' := hE
   rw [hsplit] at hE'
   obtain ⟨lo, a, s1, s2⟩ := Stk.app.1 hE'
   have hwt : wt (sk.take d) + wt (sk.drop d) = wt sk := by rw [← wt_app, ← hsplit]
   have hget : ∀ j (h : j < (sk.drop d).length), (sk.drop d)[j] = ix sk ((d + j : Nat) : Int) := fun j h => by rw [List.getElem_drop, ix_nat (by omega)]
   obtain ⟨en, hlen⟩ := red_en s2 hN hp hdl (fun j h => by
    have := f2 j (by omega)
    rw [hget j h, ← this, show sk.length - p.rhs.length + j = d + j by omega]) (by omega) ⟨hlhs, hlh⟩ hl.te
   have hlo : (if d > 0 then (ix sk ((d - 1 : Nat) : Int)).ends else 0) = lo := by
    by_cases g : d > 0
    ·rw [if_pos g]
     have e3 : sk.take d = sk.take (d - 1) ++ [ix sk ((d - 1 : Nat) : Int)] := by
      rw [ix_nat (by omega), ← List.take_succ_eq_append_getElem (by omega)]
      congr 1; omega
     rw [e3] at s1
     exact s1.last
    ·rw [if_neg g]
     obtain rfl : d = 0 := by omega
     exact s1.1
   have b7 : Rounds (fun (s : (List Int) × (List (List api_Node)) × Int) o => trellislaw15_made_b7 l steps (i : Int) sk tk at_ s.1 s.2.1 s.2.2 o) ([lo], ([] : List (List api_Node)), 0) (.inr (.inl (sk.take d ++ [⟨w64 (p.lhs + (l.gram.terms.length : Int)), reduceF l (N : Int) ((sk.drop d).map (·.t)) (lo :: (sk.drop d).map (·.ends)), E⟩], tk, at_, w64 ((i : Int) + 1))) : Sum (Bool × Int) (Sum MkSt ((List Made) × (List api_Node) × Bool))) := by
    refine Rounds.upto (B := fun (s : (List Int) × (List (List api_Node)) × Int) o => trellislaw15_made_b7 l steps (i : Int) sk tk at_ s.1 s.2.1 s.2.2 o) (fun j : Nat => (lo :: ((sk.drop d).take j).map (·.ends), ((sk.drop d).take j).map (·.t), ((j : Nat) : Int))) p.rhs.length (fun j hj => ?_) ?_
    ·have ej : w64 (w64 ((sk.length : Int) - (p.rhs.length : Int)) + (j : Int)) = ((d + j : Nat) : Int) := by rw [e2, w64_id (by omega)]; omega
     have hjl : j < (sk.drop d).length := by omega
     show trellislaw15_made_b7 l steps (i : Int) sk tk at_ (lo :: ((sk.drop d).take j).map (·.ends)) (((sk.drop d).take j).map (·.t)) (j : Int) _
     unfold trellislaw15_made_b7
     rw [hn, hp, if_pos (by omega), ej]
     refine ⟨by omega, _, rfl, ?_, _, rfl, ?_, ?_⟩
     ·simp only [List.length_append, List.length_map, List.length_take, List.length_cons, List.length_nil]; omega
     ·simp only [List.length_append, List.length_map, List.length_take, List.length_cons, List.length_nil]; omega
     ·rw [w64_nat (by omega), List.take_succ_eq_append_getElem hjl, hget j hjl, List.map_append, List.map_append]
      rfl
    ·show trellislaw15_made_b7 l steps (i : Int) sk tk at_ (lo :: ((sk.drop d).take p.rhs.length).map (·.ends)) (((sk.drop d).take p.rhs.length).map (·.t)) (p.rhs.length : Int) _
     have et : (sk.drop d).take p.rhs.length = sk.drop d := List.take_of_length_le (by omega)
     have eend := s2.endOf
     rw [hdl] at eend
     rw [et]
     unfold trellislaw15_made_b7
     rw [hn, hp, if_neg (by omega), e2, eend]
     refine ⟨_, Reduce_ok hl (B := 131073) (by rw [List.length_map]; omega) (by rw [List.length_cons, List.length_map]; omega) (fun k hk => ?_) ?_, by omega, _, rfl, _, rfl, ?_, ?_, _, rfl, ?_, ?_⟩
     ·obtain ⟨m, hm, rfl⟩ := List.mem_map.1 hk
      have hwm := wt_mem hm
      refine ⟨?_, by omega⟩
      have wfs : ∀ {s : List Made} {lo hi : Int} {a b : Nat}, Stk l tk s lo a hi b → ∀ m ∈ s, Wf m.t := by
       intro s
       induction s with
       | nil => intro _ _ _ _ _ m hm; cases hm
       | cons x s ih =>
        rintro _ _ _ _ ⟨c, g1, g2⟩ m hm
        rcases List.mem_cons.1 hm with rfl | hm
        ·exact g1.wf
        ·exact ih g2 m hm
      exact wfs s2 m hm
     ·rw [List.length_map]
      exact Nat.le_trans (Nat.add_le_add_right (Nat.mul_le_mul_right 131073 (show (sk.drop d).length ≤ 131072 by omega)) _) (by decide)
     ·simp only [List.length_append, List.length_take, List.length_nil, Int.toNat_natCast]; omega
     ·rw [List.length_cons, List.length_map]; omega
     ·simp only [List.length_append, List.length_take, List.length_cons, List.length_nil, Int.toNat_natCast]; omega
     ·rw [List.nil_append, Int.toNat_natCast]
   have ew : w64 ((i : Int) + 1) = ((i + 1 : Nat) : Int) := by rw [w64_nat (by omega)]; rfl
   rw [ew] at b7
   refine ⟨.inl (sk.take d ++ [⟨w64 (p.lhs + (l.gram.terms.length : Int)), reduceF l (N : Int) ((sk.drop d).map (·.t)) (lo :: (sk.drop d).map (·.ends)), E⟩], tk, at_, ((i + 1 : Nat) : Int)), ?_, ⟨_, rfl, ⟨⟨i + 1, rfl, hi, hi2, by dsimp only; omega, ?_, by dsimp only; omega⟩, E, ?_, hE2⟩, rfl⟩⟩
   rotate_left
   ·show wt (sk.take d ++ [_]) ≤ 2 * (i + 1)
    rw [wt_app]
    have : wt [(⟨w64 (p.lhs + (l.gram.terms.length : Int)), reduceF l (N : Int) ((sk.drop d).map (·.t)) (lo :: (sk.drop d).map (·.ends)), E⟩ : Made)] = (reduceF l (N : Int) ((sk.drop d).map (·.t)) (lo :: (sk.drop d).map (·.ends))).length + 1 := by unfold wt; simp
    omega
   ·exact Stk.app.2 ⟨lo, a, s1, _, en, rfl, rfl⟩
   ·show trellislaw15_made_b5 l steps (i : Int) sk tk at_ true (p.rhs.length : Int) _
    unfold trellislaw15_made_b5
    rw [hn, hp, if_neg (by omega), if_pos rfl, e2]
    by_cases g : d > 0
    ·rw [if_pos g] at hlo
     rw [if_pos (by omega), w64_id (by omega), show (d : Int) - 1 = ((d - 1 : Nat) : Int) by omega]
     refine ⟨by omega, by simp, _, rfl, ?_⟩
     rw [hlo]
     exact b7
    ·rw [if_neg g] at hlo
     rw [if_neg (by omega)]
     subst hlo
     exact b7
end Go.Proofs.Ytmekgfcfooghnaa.L
