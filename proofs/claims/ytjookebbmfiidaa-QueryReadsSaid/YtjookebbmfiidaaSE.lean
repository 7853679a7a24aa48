/- Queries: copies, comparisons, rows that are kept; the law QueryReads. Condition: sizes. -/
import Derived.Test.YtjookebbmfiidaaSD
import Derived.Test.YtjookebbmfiidaaSW
set_option linter.unusedVariables false
namespace Go.Proofs.Ytjookebbmfiidaa.L
open Go.Proofs.Ytjookebbmfiidaa.B Go.Proofs.Ytjookebbmfiidaa.R
theorem condsT_len : ∀ (f n : Nat) (caps : List ByteArray) (t : List Tk) (l : List api_Cond) (q : List Tk), condsT f n caps t = .ok l q → l = [] ∨ n + l.length ≤ 16
 | 0, n, caps, t, l, q, h => by cases h
 | f + 1, n, caps, [], l, q, h => by
  injection h with h _
  exact .inl h.symm
 | f + 1, n, caps, w :: t, l, q, h => by
  rw [condsT_cons] at h
  cases e1 : condT n caps (w :: t) with
  | no ee u => rw [e1] at h; cases h
  | ok c u =>
   rw [e1] at h
   dsimp only at h
   cases e2 : condsT f (n + 1) caps u with
   | no ee v => rw [e2] at h; cases h
   | ok l2 v =>
    rw [e2] at h
    injection h with h _
    subst h
    have h1 := condT_lt e1
    rcases condsT_len f (n + 1) caps u l2 v e2 with h2 | h2
    ·rw [h2]; exact .inr (by simp only [List.length_cons, List.length_nil]; omega)
    ·exact .inr (by simp only [List.length_cons]; omega)
theorem parseW_len (L : Int) (ct : List api_Word × Int × Int) : (parseW L ct).1.nodes.length ≤ 32 ∧ (parseW L ct).1.conds.length ≤ 16 := by
 unfold parseW
 split
 ·unfold queryT
  cases e1 : patN 0 [] (toks ct.1) with
  | no ee q => exact ⟨by simp, by simp⟩
  | ok p q =>
   obtain ⟨y, k, caps⟩ := p
   dsimp only
   have hm := patN_max e1
   cases e2 : condsT (q.length + 1) 0 caps q with
   | no ee u => exact ⟨by simp, by simp⟩
   | ok l u =>
    refine ⟨by simp only [List.length_cons]; omega, ?_⟩
    rcases condsT_len _ _ _ _ _ _ e2 with h | h
    ·rw [h]; simp
    ·show l.length ≤ 16; omega
 ·exact ⟨by simp, by simp⟩
theorem ix_at {α : Type} [Inhabited α] {xs : List α} {i : Nat} (h : i < xs.length) : ix xs ((i : Nat) : Int) = xs[i] := by
 have := ix_get (xs := xs) (i := (i : Int)) ⟨by omega, by omega⟩
 rw [Int.toNat_natCast, List.getElem?_eq_getElem h] at this
 exact (Option.some.inj this).symm
theorem take_snocQ {α : Type} [Inhabited α] {xs : List α} {i : Nat} (h : i < xs.length) : xs.take i ++ [ix xs (i : Int)] = xs.take (i + 1) := by
 rw [ix_at h, List.take_succ_eq_append_getElem h]
theorem qtwin {q : api_Query} (h1 : q.nodes.length ≤ 2 ^ 40) (h2 : q.conds.length ≤ 2 ^ 40) : trellislaw20_twin q q := by
 have k2 : ∀ (d i : Nat), q.conds.length - i = d → i ≤ q.conds.length → Rounds (fun (s : Int × (List api_Cond)) o => trellislaw20_twin_b2 q q.nodes s.1 s.2 o) ((i : Int), q.conds.take i) (.inr q) := by
  intro d
  induction d with
  | zero =>
   intro i hd hi
   have : i = q.conds.length := by omega
   subst this
   refine .done ?_
   unfold trellislaw20_twin_b2
   rw [if_neg (Int.lt_irrefl _), List.take_length]
  | succ d ih =>
   intro i hd hi
   refine .next (s' := (((i + 1 : Nat) : Int), q.conds.take (i + 1))) ?_ (ih (i + 1) (by omega) (by omega))
   unfold trellislaw20_twin_b2
   rw [if_pos (by omega)]
   refine ⟨⟨by omega, by omega⟩, _, rfl, by rw [List.length_append, List.length_take, List.length_cons, List.length_nil]; omega, ?_⟩
   rw [w64_id (by omega), take_snocQ (by omega)]
   rfl
 have k1 : ∀ (d i : Nat), q.nodes.length - i = d → i ≤ q.nodes.length → Rounds (fun (s : Int × (List api_PatNode)) o => trellislaw20_twin_b1 q s.1 s.2 o) ((i : Int), q.nodes.take i) q := by
  intro d
  induction d with
  | zero =>
   intro i hd hi
   have : i = q.nodes.length := by omega
   subst this
   refine .done ?_
   unfold trellislaw20_twin_b1
   rw [if_neg (Int.lt_irrefl _), List.take_length]
   exact k2 _ 0 rfl (Nat.zero_le _)
  | succ d ih =>
   intro i hd hi
   refine .next (s' := (((i + 1 : Nat) : Int), q.nodes.take (i + 1))) ?_ (ih (i + 1) (by omega) (by omega))
   unfold trellislaw20_twin_b1
   rw [if_pos (by omega)]
   refine ⟨⟨by omega, by omega⟩, _, rfl, by rw [List.length_append, List.length_take, List.length_cons, List.length_nil]; omega, ?_⟩
   rw [w64_id (by omega), take_snocQ (by omega)]
   rfl
 exact k1 _ 0 rfl (Nat.zero_le _)
theorem qsame {q : api_Query} (h1 : q.nodes.length ≤ 2 ^ 40) (h2 : q.conds.length ≤ 2 ^ 40) : trellislaw20_same q q true := by
 unfold trellislaw20_same
 rw [if_pos rfl]
 unfold trellislaw20_same_j1
 rw [if_neg (by simp)]
 refine Rounds.to (fun i => 0 ≤ i ∧ i ≤ (q.nodes.length : Int)) (fun i => ((q.nodes.length : Int) - i).toNat) (fun i hi => ?_) ⟨by omega, by omega⟩
 unfold trellislaw20_same_b2
 by_cases hc : i < (q.nodes.length : Int)
 ·right
  refine ⟨i + 1, ?_, ⟨by omega, by omega⟩, by omega⟩
  rw [if_pos hc]
  refine ⟨⟨hi.1, hc⟩, ⟨hi.1, hc⟩, ?_⟩
  rw [if_pos rfl, w64_id (by omega)]
 ·left
  rw [if_neg hc]
  refine Rounds.to (fun i => 0 ≤ i ∧ i ≤ (q.conds.length : Int)) (fun i => ((q.conds.length : Int) - i).toNat) (fun i hi => ?_) ⟨by omega, by omega⟩
  unfold trellislaw20_same_b3
  by_cases hc : i < (q.conds.length : Int)
  ·right
   refine ⟨i + 1, ?_, ⟨by omega, by omega⟩, by omega⟩
   rw [if_pos hc]
   refine ⟨⟨hi.1, hc⟩, ⟨hi.1, hc⟩, ?_⟩
   rw [if_pos rfl, w64_id (by omega)]
  ·left
   rw [if_neg hc]
abbrev kN : api_PatNode := ⟨noB, false, noB, noB, 77⟩
abbrev kC : api_Cond := ⟨false, noB, noB, ⟨#[115, 112, 111, 105, 108, 116]⟩⟩
theorem set_rep {α : Type} {y : α} {i : Nat} {xs : List α} (h : i < xs.length) : (List.replicate i y ++ xs.drop i).set i y = List.replicate (i + 1) y ++ xs.drop (i + 1) := by
 have e : xs.drop i = xs[i] :: xs.drop (i + 1) := List.drop_eq_getElem_cons h
 rw [List.set_append_right _ _ (by simp), List.length_replicate, Nat.sub_self, e, List.set_cons_zero, List.replicate_succ', List.append_assoc]
 rfl
theorem qkeeps {q : api_Query} (h1 : q.nodes.length ≤ 2 ^ 30) (h2 : q.conds.length ≤ 2 ^ 30) : trellislaw20_keeps q true := by
 have hrn : ∀ (y : api_PatNode) (m i : Nat), i < m → ix (List.replicate m y) ((i : Nat) : Int) = y := fun y m i h => by
  rw [ix_at (by simpa using h)]
  simp
 have hrc : ∀ (y : api_Cond) (m i : Nat), i < m → ix (List.replicate m y) ((i : Nat) : Int) = y := fun y m i h => by
  rw [ix_at (by simpa using h)]
  simp
 have k5 : ∀ (A : List api_PatNode) (Bc : List api_Cond), A.length = q.nodes.length + 70 → Bc.length = q.conds.length + 70 → ∀ (d i : Nat), q.conds.length - i = d → i ≤ q.conds.length → Rounds (fun (s : Int) o => trellislaw20_keeps_b5 (List.replicate q.conds.length kC) A Bc s o) (i : Int) (.inr (.inr (.inr (.inr true)))) := by
  intro A Bc hA hB d
  induction d with
  | zero =>
   intro i hd hi
   refine .done ?_
   unfold trellislaw20_keeps_b5
   rw [if_neg (by rw [List.length_replicate]; omega), w64_id (by omega), decide_eq_true (by omega)]
  | succ d ih =>
   intro i hd hi
   refine .next (s' := ((i + 1 : Nat) : Int)) ?_ (ih (i + 1) (by omega) (by omega))
   unfold trellislaw20_keeps_b5
   rw [if_pos (by rw [List.length_replicate]; omega)]
   refine ⟨⟨by omega, by rw [List.length_replicate]; omega⟩, ?_⟩
   rw [hrc kC _ i (by omega), if_pos rfl, w64_id (by omega)]
   rfl
 have k4 : ∀ (A : List api_PatNode) (Bc : List api_Cond), A.length = q.nodes.length + 70 → Bc.length = q.conds.length + 70 → ∀ (d i : Nat), q.nodes.length - i = d → i ≤ q.nodes.length → Rounds (fun (s : Int) o => trellislaw20_keeps_b4 (List.replicate q.nodes.length kN) (List.replicate q.conds.length kC) A Bc s o) (i : Int) (.inr (.inr (.inr true))) := by
  intro A Bc hA hB d
  induction d with
  | zero =>
   intro i hd hi
   refine .done ?_
   unfold trellislaw20_keeps_b4
   rw [if_neg (by rw [List.length_replicate]; omega)]
   exact k5 A Bc hA hB _ 0 rfl (Nat.zero_le _)
  | succ d ih =>
   intro i hd hi
   refine .next (s' := ((i + 1 : Nat) : Int)) ?_ (ih (i + 1) (by omega) (by omega))
   unfold trellislaw20_keeps_b4
   rw [if_pos (by rw [List.length_replicate]; omega)]
   refine ⟨⟨by omega, by rw [List.length_replicate]; omega⟩, ?_⟩
   rw [hrn kN _ i (by omega), if_pos rfl, w64_id (by omega)]
   rfl
 have k3 : ∀ (d i : Nat) (A : List api_PatNode) (Bc : List api_Cond), A.length = q.nodes.length + i → Bc.length = q.conds.length + i → 70 - i = d → i ≤ 70 → Rounds (fun (s : (List api_PatNode) × (List api_Cond) × Int) o => trellislaw20_keeps_b3 (List.replicate q.nodes.length kN) (List.replicate q.conds.length kC) s.1 s.2.1 s.2.2 o) (A, Bc, (i : Int)) (.inr (.inr true)) := by
  intro d
  induction d with
  | zero =>
   intro i A Bc hA hB hd hi
   refine .done ?_
   unfold trellislaw20_keeps_b3
   dsimp only
   rw [if_neg (by omega)]
   exact k4 A Bc (by omega) (by omega) _ 0 rfl (Nat.zero_le _)
  | succ d ih =>
   intro i A Bc hA hB hd hi
   have hl1 : ∀ y : api_PatNode, (A ++ [y]).length = q.nodes.length + (i + 1) := fun y => by rw [List.length_append, List.length_cons, List.length_nil]; omega
   have hl2 : ∀ y : api_Cond, (Bc ++ [y]).length = q.conds.length + (i + 1) := fun y => by rw [List.length_append, List.length_cons, List.length_nil]; omega
   refine .next (s' := (A ++ [⟨noB, false, noB, noB, 78⟩], Bc ++ [⟨false, noB, noB, ⟨#[109, 111, 114, 101]⟩⟩], ((i + 1 : Nat) : Int))) ?_ (ih (i + 1) _ _ (hl1 _) (hl2 _) (by omega) (by omega))
   unfold trellislaw20_keeps_b3
   dsimp only
   rw [if_pos (by omega)]
   refine ⟨_, rfl, by rw [hl1]; omega, _, rfl, by rw [hl2]; omega, ?_⟩
   rw [w64_id (by omega)]
   rfl
 have k2 : ∀ (d i : Nat), q.conds.length - i = d → i ≤ q.conds.length → Rounds (fun (s : Int × (List api_Cond)) o => trellislaw20_keeps_b2 (List.replicate q.nodes.length kN) s.1 s.2 o) ((i : Int), List.replicate i kC ++ q.conds.drop i) (.inr true) := by
  intro d
  induction d with
  | zero =>
   intro i hd hi
   refine .done ?_
   have : i = q.conds.length := by omega
   subst this
   unfold trellislaw20_keeps_b2
   rw [List.drop_length, List.append_nil, if_neg (by rw [List.length_replicate]; omega)]
   exact k3 70 0 _ _ (by simp) (by simp) rfl (by omega)
  | succ d ih =>
   intro i hd hi
   have hl : (List.replicate i kC ++ q.conds.drop i).length = q.conds.length := by simp; omega
   refine .next (s' := (((i + 1 : Nat) : Int), List.replicate (i + 1) kC ++ q.conds.drop (i + 1))) ?_ (ih (i + 1) (by omega) (by omega))
   unfold trellislaw20_keeps_b2
   dsimp only
   rw [hl, if_pos (by omega)]
   refine ⟨⟨by omega, by omega⟩, _, rfl, ?_⟩
   rw [Int.toNat_natCast, w64_id (by omega)]
   show _ = Sum.inl (((i : Nat) : Int) + 1, (List.replicate i kC ++ q.conds.drop i).set i kC)
   rw [set_rep (by omega)]
   rfl
 have k1 : ∀ (d i : Nat), q.nodes.length - i = d → i ≤ q.nodes.length → Rounds (fun (s : Int × (List api_PatNode)) o => trellislaw20_keeps_b1 q s.1 s.2 o) ((i : Int), List.replicate i kN ++ q.nodes.drop i) true := by
  intro d
  induction d with
  | zero =>
   intro i hd hi
   refine .done ?_
   have : i = q.nodes.length := by omega
   subst this
   unfold trellislaw20_keeps_b1
   rw [List.drop_length, List.append_nil, if_neg (by rw [List.length_replicate]; omega)]
   exact k2 _ 0 rfl (Nat.zero_le _)
  | succ d ih =>
   intro i hd hi
   have hl : (List.replicate i kN ++ q.nodes.drop i).length = q.nodes.length := by simp; omega
   refine .next (s' := (((i + 1 : Nat) : Int), List.replicate (i + 1) kN ++ q.nodes.drop (i + 1))) ?_ (ih (i + 1) (by omega) (by omega))
   unfold trellislaw20_keeps_b1
   dsimp only
   rw [hl, if_pos (by omega)]
   refine ⟨⟨by omega, by omega⟩, _, rfl, ?_⟩
   rw [Int.toNat_natCast, w64_id (by omega)]
   show _ = Sum.inl (((i : Nat) : Int) + 1, (List.replicate i kN ++ q.nodes.drop i).set i kN)
   rw [set_rep (by omega)]
   rfl
 exact k1 _ 0 rfl (Nat.zero_le _)
theorem reads_law (x : ByteArray) : trellislaw20_QueryReads x true := by
 have hp : ∀ y : ByteArray, query_Parse y (parseW (y.size : Int) (cut y)) := fun y => parse_ok (cut_prog y) (by have := cut_len y; omega)
 have hr : trellisref20_Parse x (parseW (x.size : Int) (cut x)) := refparse_ok (cut_ref x) (by have := cut_len x; omega)
 have hx := hp x
 have b1 := parseW_len (x.size : Int) (cut x)
 generalize parseW (x.size : Int) (cut x) = p at hr hx b1
 have hs : trellislaw20_same p.1 p.1 true := qsame (by omega) (by omega)
 have hk : trellislaw20_keeps p.1 true := qkeeps (by omega) (by omega)
 have ho := hp (⟨#[40, 120, 32, 40, 121, 41, 32, 64, 97, 32, 34, 122, 34, 41, 32, 119, 104, 101, 110, 32, 64, 97, 32, 61, 32, 34, 113, 34]⟩ : ByteArray)
 have b2 := parseW_len (((⟨#[40, 120, 32, 40, 121, 41, 32, 64, 97, 32, 34, 122, 34, 41, 32, 119, 104, 101, 110, 32, 64, 97, 32, 61, 32, 34, 113, 34]⟩ : ByteArray).size : Nat) : Int) (cut (⟨#[40, 120, 32, 40, 121, 41, 32, 64, 97, 32, 34, 122, 34, 41, 32, 119, 104, 101, 110, 32, 64, 97, 32, 61, 32, 34, 113, 34]⟩ : ByteArray))
 generalize parseW _ (cut (⟨#[40, 120, 32, 40, 121, 41, 32, 64, 97, 32, 34, 122, 34, 41, 32, 119, 104, 101, 110, 32, 64, 97, 32, 61, 32, 34, 113, 34]⟩ : ByteArray)) = k at ho b2
 have ht : trellislaw20_twin k.1 k.1 := qtwin (by omega) (by omega)
 have hs2 : trellislaw20_same k.1 k.1 true := qsame (by omega) (by omega)
 refine ⟨p, hr, k, ho, k.1, ht, p, hx, p, hx, true, hs, ?_⟩
 rw [if_pos rfl, if_pos rfl, if_pos rfl]
 refine ⟨true, hs2, ?_⟩
 rw [if_pos rfl]
 refine ⟨true, hk, ?_⟩
 rw [if_pos rfl]
 refine ⟨true, hs, ?_⟩
 rw [if_pos rfl]
 refine ⟨true, hs2, ?_⟩
 unfold trellislaw20_QueryReads_j1
 rw [if_neg (by simp)]
 refine ⟨true, hk, ?_⟩
 rw [if_pos rfl]
 exact ⟨true, hs2, rfl⟩
end Go.Proofs.Ytjookebbmfiidaa.L
