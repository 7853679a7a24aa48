/- The maker walked through; its rows nested. Conditions: sizes, numbers are ints. -/
import Derived.Test.YtmekgfcfooghnaaJ12
set_option linter.unusedVariables false
namespace Go.Proofs.Ytmekgfcfooghnaa.L
open Go.Proofs.Ytmekgfcfooghnaa.B Go.Proofs.Ytmekgfcfooghnaa.R
theorem made_tok {l : api_Lang} (hl : LgOk l) {steps : List trellislaw15_Op} {sk : List Made} {tk : List api_Node} {at_ : Int} {i : Nat} (hI : MkInv l steps (sk, tk, at_, (i : Int))) (hi : i < steps.length) (hi2 : i < 65536) {T : Int} (hT : w64 ((w64 (0 - (w64 ((ix steps (i : Int)).n + 1)))) + 1) = T) (h1 : 1 ≤ T) (h2 : T < (l.gram.terms.length : Int)) (h3 : 0 ≤ (ix steps (i : Int)).pad ∧ (ix steps (i : Int)).pad ≤ 1048576) (h4 : 0 ≤ (ix steps (i : Int)).len ∧ (ix steps (i : Int)).len ≤ 1048576) :
  ∃ o, trellislaw15_made_j3 sk tk at_ (i : Int) l steps false o ∧ MkNext l steps i o := by
 obtain ⟨⟨i', e0, _, _, g3, g4, g5⟩, E, hE, hE2⟩ := hI
 obtain rfl : i = i' := by have : (i : Int) = (i' : Int) := e0; omega
 dsimp only at g3 g4 g5 hE hE2
 have hsk := wt_len sk
 have hle := hE.le
 have hte := hl.te
 generalize hp : (ix steps (i : Int)).pad = P at *
 generalize hn : (ix steps (i : Int)).len = Ln at *
 have e1 : w64 (at_ + P) = at_ + P := w64_id (by omega)
 have e2 : w64 (at_ + P + Ln) = at_ + P + Ln := w64_id (by omega)
 have et : tokenF l T (tk.length : Int) (at_ + P) (at_ + P + Ln) = [⟨(ix l.gram.terms T).name, !(ix l.gram.terms T).lit, (⟨#[]⟩ : ByteArray), at_ + P, at_ + P + Ln, 0, (tk.length : Int)⟩] := by unfold tokenF; rw [if_neg (by omega)]
 generalize hx : (⟨(ix l.gram.terms T).name, !(ix l.gram.terms T).lit, (⟨#[]⟩ : ByteArray), at_ + P, at_ + P + Ln, 0, (tk.length : Int)⟩ : api_Node) = x at et
 have ex : ix (tk ++ [x]) (tk.length : Int) = x := ix_snoc
 have kx : key x = ⟨at_ + P, at_ + P + Ln, 0, (tk.length : Int)⟩ := by rw [← hx]; rfl
 refine ⟨.inl (sk ++ [⟨T, [x], at_ + P + Ln⟩], tk ++ [x], at_ + P + Ln, ((i + 1 : Nat) : Int)), ?_, _, rfl, ⟨⟨i + 1, rfl, hi, hi2, ?_, ?_, ?_⟩, at_ + P + Ln, ?_, Int.le_refl _⟩, rfl⟩
 ·unfold trellislaw15_made_j3
  rw [if_neg (by simp), hT, hp, hn, e1, e2]
  refine ⟨_, Token_ok _ _ _ _ _, ?_⟩
  rw [et, if_pos (by rfl)]
  refine ⟨by simp, _, rfl, ?_, _, rfl, ?_, ?_⟩
  ·rw [List.length_append, List.length_singleton]; omega
  ·rw [List.length_append, List.length_singleton]; omega
  ·rw [w64_nat (by omega)]; rfl
 ·dsimp only; omega
 ·show wt (sk ++ [_]) ≤ 2 * (i + 1)
  rw [wt_app]
  have : wt [(⟨T, [x], at_ + P + Ln⟩ : Made)] = 2 := rfl
  omega
 ·show (tk ++ [x]).length ≤ i + 1
  rw [List.length_append, List.length_singleton]; omega
 ·dsimp only
  rw [List.length_append, List.length_singleton]
  refine Stk.app.2 ⟨E, tk.length, hE.ext, tk.length + 1, ⟨fun n hn => ?_, ?_, ?_, ?_, fun g => ⟨rfl, by rw [List.length_append, List.length_singleton]; omega, by rw [ex, ← hx]⟩, fun q => ?_⟩, rfl, rfl⟩
  ·rw [List.mem_singleton.1 hn, ← hx]; dsimp only; omega
  ·show Nice [key x]
   rw [kx]
   exact ⟨trivial, ⟨Int.le_refl _, Int.le_refl _⟩, by dsimp only; omega, fun h => by simp at h⟩
  ·show Span E (at_ + P + Ln) (gr [key x])
   rw [kx]
   exact ⟨by dsimp only; omega, by dsimp only; omega, Int.le_refl _⟩
  ·show Lv (tk ++ [x]) tk.length (tk.length + 1) (lv [key x])
   have h : Lv (tk ++ [x]) tk.length (tk.length + 1) [⟨(ix (tk ++ [x]) (tk.length : Int)).from_, (ix (tk ++ [x]) (tk.length : Int)).to, 0, (tk.length : Int)⟩] := .take (by rw [List.length_append, List.length_singleton]; omega) .nil
   rw [ex] at h
   have e : lv [key x] = [key x] := by unfold lv; rw [List.filter_cons_of_pos (by rw [kx]; simp), List.filter_nil]
   have e1 : x.from_ = at_ + P := by rw [← hx]
   have e2 : x.to = at_ + P + Ln := by rw [← hx]
   rw [e1, e2] at h
   rw [e, kx]
   exact h
  ·exfalso
   rw [w64_id (by dsimp only; omega)] at q
   dsimp only at q
   omega
def OpOk (s : List trellislaw15_Op) : Prop := s.length ≤ 2 ^ 50 ∧ ∀ o ∈ s, -9223372036854775808 ≤ o.n ∧ o.n ≤ 9223372036854775807
theorem made_ok {l : api_Lang} (hl : LgOk l) (hlh : ∀ p ∈ l.gram.prods, p.lhs ≤ 9223372036854775807) {steps : List trellislaw15_Op} (hs : OpOk steps) : ∃ r, trellislaw15_made l steps r ∧ MkP l r := by
 unfold trellislaw15_made
 refine Rounds.some (fun s : MkSt => MkInv l steps s) (fun s => steps.length - s.2.2.2.toNat) (fun s hI => ?_) ⟨⟨0, rfl, Nat.zero_le _, Nat.zero_le _, Int.le_refl _, Nat.zero_le _, Nat.zero_le _⟩, 0, ⟨rfl, rfl⟩, Int.le_refl _⟩
 obtain ⟨sk, tk, at_, ii⟩ := s
 obtain ⟨i, rfl, h1, h2, h3, h4, h5⟩ := hI.i
 obtain ⟨E, hE, hE2⟩ := hI.st
 dsimp only at h3 h4 h5 hE hE2
 have hs1 := hs.1
 have out : trellislaw15_made_j2 (i : Int) steps sk tk at_ l false (.inr (sk, tk, true)) := by
  unfold trellislaw15_made_j2
  rw [if_neg (by simp)]
 have outP : MkP l (sk, tk, true) := ⟨rfl, by dsimp only; omega, by dsimp only; omega, E, hE⟩
 show (∃ r, trellislaw15_made_b1 steps l sk tk at_ (i : Int) (.inr r) ∧ MkP l r) ∨ ∃ s', trellislaw15_made_b1 steps l sk tk at_ (i : Int) (.inl s') ∧ MkInv l steps s' ∧ steps.length - s'.2.2.2.toNat < steps.length - ((i : Int)).toNat
 have b1 : ∀ (c : Bool) o, (i < steps.length → c = decide ((i : Int) < 65536)) → (¬ i < steps.length → c = false) → trellislaw15_made_j2 (i : Int) steps sk tk at_ l c o → trellislaw15_made_b1 steps l sk tk at_ (i : Int) o := fun c o c1 c2 ho => by
  unfold trellislaw15_made_b1
  by_cases hi : i < steps.length
  ·rw [if_pos (by omega), ← c1 hi]; exact ho
  ·rw [if_neg (by omega), ← c2 hi]; exact ho
 by_cases hi : i < steps.length
 ·by_cases hi2 : i < 65536
  ·right
   have key : ∃ o, trellislaw15_made_j2 (i : Int) steps sk tk at_ l true o ∧ MkNext l steps i o := by
    have hsk : MkNext l steps i (.inl (sk, tk, at_, w64 ((i : Int) + 1))) := ⟨_, rfl, ⟨⟨i + 1, by rw [w64_nat (by omega)]; rfl, hi, hi2, by dsimp only; omega, by dsimp only; omega, by dsimp only; omega⟩, E, hE, hE2⟩, by rw [w64_nat (by omega)]; rfl⟩
    have j3 : trellislaw15_made_j3 sk tk at_ (i : Int) l steps true (.inl (sk, tk, at_, w64 ((i : Int) + 1))) := by unfold trellislaw15_made_j3; rw [if_pos rfl]
    have j4 : trellislaw15_made_j4 sk tk at_ (i : Int) steps l true (.inl (sk, tk, at_, w64 ((i : Int) + 1))) := by unfold trellislaw15_made_j4; rw [if_pos rfl]
    have red : ∀ o, _ → trellislaw15_made_j2 (i : Int) steps sk tk at_ l true o := fun o ho => by
     unfold trellislaw15_made_j2
     rw [if_pos rfl]
     exact ⟨⟨by omega, by omega⟩, ho⟩
    by_cases g0 : (ix steps (i : Int)).n < 0
    ·by_cases g1 : w64 ((w64 (0 - (w64 ((ix steps (i : Int)).n + 1)))) + 1) < 1
     ·exact ⟨_, red _ (by rw [if_pos g0, if_pos g1]; exact j3), hsk⟩
     by_cases g2 : w64 ((w64 (0 - (w64 ((ix steps (i : Int)).n + 1)))) + 1) ≥ (l.gram.terms.length : Int)
     ·exact ⟨_, red _ (by rw [if_pos g0, if_neg g1, if_pos g2]; exact j3), hsk⟩
     by_cases g3 : (ix steps (i : Int)).pad < 0
     ·exact ⟨_, red _ (by rw [if_pos g0, if_neg g1, if_neg g2, if_pos g3]; exact j3), hsk⟩
     by_cases g4 : (ix steps (i : Int)).pad > 1048576
     ·exact ⟨_, red _ (by rw [if_pos g0, if_neg g1, if_neg g2, if_neg g3, if_pos g4]; exact j3), hsk⟩
     by_cases g5 : (ix steps (i : Int)).len < 0
     ·exact ⟨_, red _ (by rw [if_pos g0, if_neg g1, if_neg g2, if_neg g3, if_neg g4, if_pos g5]; exact j3), hsk⟩
     by_cases g6 : (ix steps (i : Int)).len > 1048576
     ·exact ⟨_, red _ (by rw [if_pos g0, if_neg g1, if_neg g2, if_neg g3, if_neg g4, if_neg g5, decide_eq_true g6]; exact j3), hsk⟩
     ·obtain ⟨o, q1, q2⟩ := made_tok hl hI hi hi2 rfl (by omega) (by omega) ⟨by omega, by omega⟩ ⟨by omega, by omega⟩
      exact ⟨o, red _ (by rw [if_pos g0, if_neg g1, if_neg g2, if_neg g3, if_neg g4, if_neg g5, decide_eq_false g6]; exact q1), q2⟩
    ·by_cases g1 : (ix steps (i : Int)).n ≥ (l.gram.prods.length : Int)
     ·exact ⟨_, red _ (by rw [if_neg g0, if_pos g1]; exact j4), hsk⟩
     ·by_cases g2 : (ix l.gram.prods (ix steps (i : Int)).n).lhs < 0
      ·exact ⟨_, red _ (by rw [if_neg g0, if_neg g1, decide_eq_true g2]; exact ⟨by omega, j4⟩), hsk⟩
      ·obtain ⟨N, hN⟩ : ∃ N : Nat, (ix steps (i : Int)).n = N := ⟨(ix steps (i : Int)).n.toNat, by omega⟩
       rw [hN] at g1 g2
       obtain ⟨o, q1, q2⟩ := made_red hl hlh hI hi hi2 hN (by omega) (by omega)
       refine ⟨o, red _ ?_, q2⟩
       rw [if_neg g0, if_neg (by rw [hN]; exact g1), hN, decide_eq_false g2]
       refine ⟨by omega, ?_⟩
       unfold trellislaw15_made_j4
       rw [if_neg (by simp), hN]
       exact ⟨by omega, q1⟩
   obtain ⟨o, q1, s', rfl, q2, q3⟩ := key
   exact ⟨s', b1 _ _ (fun _ => (decide_eq_true (by omega)).symm) (fun g => absurd hi g) q1, q2, by rw [q3]; simp only [Int.toNat_natCast]; omega⟩
  ·exact .inl ⟨_, b1 _ _ (fun _ => (decide_eq_false (by omega)).symm) (fun g => absurd hi g) out, outP⟩
 ·exact .inl ⟨_, b1 _ _ (fun g => absurd g hi) (fun _ => rfl) out, outP⟩
theorem row_at {t : List api_Node} (hn : Nice (keys t)) {i : Nat} {x : Tre} {e : Nat} {r : List (Tre × Nat)} (h : At t i ((x, e) :: r)) : key x.node = key (ix t (i : Int)) ∧ (ix t (i : Int)).from_ ≤ (ix t (i : Int)).to ∧ RowK (key (ix t (i : Int))) (x.kids.map fun y => key y.node) := by
 have hi := h.pos.1
 obtain ⟨ts, k1, k2, k3, k4, k5⟩ := h.kids hi
 have hd := hn.drop i
 have e1 : (keys t).drop i = key t[i] :: keys (t.drop (i + 1)) := by
  unfold keys
  rw [← List.map_drop, List.drop_eq_getElem_cons hi, List.map_cons]
 rw [e1] at hd
 obtain ⟨S, s1, s2⟩ := sfN (t.drop (i + 1)) hd.1 (i + 1)
 have hS : S = ts ++ r := At.uniq ⟨by omega, s1⟩ k1
 subst hS
 have e2 : (gr (keys (t.drop (i + 1)))).take (key t[i]).k.toNat = x.kids.map fun y => key y.node := by
  have : (key t[i]).k.toNat = ts.length := by show t[i].kids.toNat = _; omega
  rw [this, ← s2, List.map_append, List.take_append_of_le_length (by simp), List.take_of_length_le (by simp), k2, List.map_map]
  rfl
 have hr := hd.2.2.2
 rw [e2] at hr
 rw [ix_nat hi, k5]
 exact ⟨rfl, hd.2.2.1, hr⟩
theorem kids_row {t : List api_Node} (hl : Fits t) (hn : Nice (keys t)) {S : List (Tre × Nat)} (h : sf t 0 = some S) {a : Nat} (ha : a < t.length) : (kidsF t (a : Int)).length = (ix t (a : Int)).kids ∧ RowK (key (ix t (a : Int))) ((kidsF t (a : Int)).map fun k => key (ix t k)) ∧ ∀ k ∈ kidsF t (a : Int), 0 ≤ k ∧ k < (t.length : Int) ∧ parF t k = (a : Int) := by
 obtain ⟨ts, r, k1, k2, k3, k4, k5⟩ := kids_at hl h ha
 obtain ⟨r', hr⟩ := At.sub h ha
 have hr : At t a (((sub t a).1, (sub t a).2) :: r') := hr
 obtain ⟨_, q2, q3⟩ := row_at hn hr
 have hlen : (kidsF t (a : Int)).length = ts.length := by rw [k2, List.length_map]
 have ek : (kidsF t (a : Int)).map (fun k => key (ix t k)) = (sub t a).1.kids.map fun y => key y.node := by
  have : kidsF t (a : Int) = (sub t a).1.kids.map (·.at_) := by
   unfold kidsF
   rw [if_pos (inB_true.2 ⟨⟨S, h⟩, by omega, by omega⟩), Int.toNat_natCast]
  rw [this, List.map_map]
  refine List.map_congr_left fun y hy => ?_
  obtain ⟨us, u1, u2, u3, u4, u5⟩ := hr.kids ha
  rw [u2] at hy
  obtain ⟨z, hz, rfl⟩ := List.mem_map.1 hy
  obtain ⟨j, hj, rfl⟩ := List.mem_iff_getElem.1 hz
  have hj2 : j < (us ++ r').length := by rw [List.length_append]; omega
  have hnn := (u1.nth hj2).1
  rw [List.getElem_append_left hj] at hnn
  have := (row_at hn hnn).1
  show key (ix t us[j].1.at_) = key us[j].1.node
  rw [this, hnn.pos.2.1]
 refine ⟨by rw [hlen]; exact k4, by rw [ek]; exact q3, fun k hk => ?_⟩
 obtain ⟨j, hj, rfl⟩ := List.mem_iff_getElem.1 hk
 obtain ⟨p1, p2, p3, _⟩ := k5 j (by omega)
 rw [ix_nat hj] at p1
 rw [p1]
 exact ⟨by omega, by omega, p3⟩
end Go.Proofs.Ytmekgfcfooghnaa.L
