/- The concrete calls that the laws of chapter 15 begin with; the law TreeFinds. Conditions: sizes. -/
import Derived.Test.YtmekgfcfooghnaaJ5
set_option linter.unusedVariables false
namespace Go.Proofs.Ytmekgfcfooghnaa.L
open Go.Proofs.Ytmekgfcfooghnaa.B Go.Proofs.Ytmekgfcfooghnaa.R
theorem sameInts_ok {a : List Int} (h : a.length ≤ 2 ^ 60) : trellislaw15_sameInts a a true := by
 unfold trellislaw15_sameInts
 rw [if_pos rfl]
 refine Rounds.cnt a.length (fun i hi => ?_) ?_
 ·unfold trellislaw15_sameInts_b1
  rw [if_pos (by omega), w64_nat (by omega), if_pos rfl]
  exact ⟨by omega, by omega, rfl⟩
 ·unfold trellislaw15_sameInts_b1
  rw [if_neg (by omega)]
theorem marked_ok {a long : List Int} {x y : Int} {n : Nat} (hn : n ≤ 2 ^ 50) (h1 : a = List.replicate n x) (h2 : long = List.replicate n x ++ List.replicate 70 y) : trellislaw15_marked a long x y true := by
 subst h1
 subst h2
 have hl : (List.replicate n x ++ List.replicate 70 y).length = n + 70 := by simp
 unfold trellislaw15_marked
 refine Rounds.cnt (n + 70) (fun i hi => ?_) ?_
 ·unfold trellislaw15_marked_b1
  rw [hl, List.length_replicate, if_pos (by omega), w64_nat (by omega)]
  by_cases g : i < n
  ·have e1 : ix (List.replicate n x) (i : Int) = x := by rw [ix_nat (by simpa using g)]; simp
   have e2 : ix (List.replicate n x ++ List.replicate 70 y) (i : Int) = x := by rw [ix_nat (by rw [hl]; omega), List.getElem_append_left (by simpa using g)]; simp
   rw [if_pos (by omega), e1, e2, if_pos rfl, if_pos rfl, if_neg (by omega)]
   exact ⟨by omega, by omega, rfl⟩
  ·have e2 : ix (List.replicate n x ++ List.replicate 70 y) (i : Int) = y := by rw [ix_nat (by rw [hl]; omega), List.getElem_append_right (by simpa using g), List.getElem_replicate]
   rw [if_neg (by omega), if_pos (by omega), e2, if_pos rfl]
   exact ⟨by omega, rfl⟩
 ·unfold trellislaw15_marked_b1
  rw [hl, List.length_replicate, if_neg (by omega), w64_id (by omega)]
  refine congrArg Sum.inr (Eq.symm ?_)
  rw [beq_iff_eq]
  omega
theorem fill_run {B : (List Int) × Int → Sum ((List Int) × Int) (Sum ((List Int) × Int) Bool) → Prop} : True := trivial
theorem finds_ok {t : List api_Node} (hl : Fits t) (hw : Wf t) (ht : (sf t 0).isSome = true → TxOk t) (i : Int) : trellislaw15_finds (t ++ rooms) t.length t i true := by
 have hk := kids_len (t := t) (i := i)
 have hkl : (kidsF t i).length ≤ t.length := by
  unfold kidsF
  split
  ·rename_i h; rw [List.length_map]; exact hk h
  ·exact Nat.zero_le _
 have hpl := pathF_len t i
 unfold trellislaw15_finds
 rw [take_rooms rfl]
 refine ⟨_, refKids_ok hl i, _, refPath_ok hl i, _, Kids_ok hl hw i, _, Path_ok hl hw i, _, Kids_ok hl hw i, _, Path_ok hl hw i, true, sameInts_ok (by omega), ?_⟩
 rw [if_pos rfl]
 refine ⟨true, sameInts_ok (by omega), ?_⟩
 rw [if_pos rfl]
 refine ⟨true, sameInts_ok (by omega), ?_⟩
 rw [if_pos rfl]
 refine ⟨true, sameInts_ok (by omega), ?_⟩
 unfold trellislaw15_finds_j1
 rw [if_neg (by simp)]
 generalize hK : kidsF t i = K at *
 generalize hP : pathF t i = P at *
 have fin : ∀ {σ : Type} (o : Sum ((List Int) × (List Int) × Int) (Sum ((List Int) × Int) (Sum ((List Int) × Int) Bool))), o = .inr (.inr (.inr true)) →
   trellislaw15_finds_b4 K K P P (t ++ rooms) t.length i (List.replicate K.length (-7)) (List.replicate P.length (-8)) t (List.replicate K.length (-7) ++ List.replicate 70 (-9)) (List.replicate P.length (-8) ++ List.replicate 70 (-10)) ((70 : Nat) : Int) o := fun {_} o ho => by
  subst ho
  unfold trellislaw15_finds_b4
  rw [if_neg (by omega)]
  refine ⟨true, sameInts_ok (by omega), ?_⟩
  rw [if_pos rfl]
  refine ⟨true, sameInts_ok (by omega), ?_⟩
  unfold trellislaw15_finds_j5
  rw [if_neg (by simp), take_rooms rfl]
  refine ⟨K, by rw [← hK]; exact Kids_ok hl hw i, P, by rw [← hP]; exact Path_ok hl hw i, true, sameInts_ok (by omega), ?_⟩
  rw [if_pos rfl]
  refine ⟨true, sameInts_ok (by omega), ?_⟩
  rw [if_pos rfl]
  refine ⟨true, marked_ok (n := K.length) (by omega) rfl rfl, ?_⟩
  rw [if_pos rfl]
  refine ⟨true, marked_ok (n := P.length) (by omega) rfl rfl, ?_⟩
  unfold trellislaw15_finds_j6
  rw [if_neg (by simp), take_rooms rfl]
  refine ⟨_, Roots_ok hl hw, _, Size_ok hl hw i, _, Parent_ok hl hw i, _, Text_ok hl hw ht, _, refRoots_ok hl, ?_⟩
  rw [if_pos rfl]
  refine ⟨_, refSize_ok hl i, ?_⟩
  rw [if_pos rfl]
  refine ⟨_, refParent_ok hl i, ?_⟩
  rw [if_pos rfl]
  refine ⟨_, refText_ok hl ht, ?_⟩
  rw [if_pos rfl]
  exact ⟨true, stays_ok hl, rfl⟩
 have b4 : Rounds (fun (s : (List Int) × (List Int) × Int) o => trellislaw15_finds_b4 K K P P (t ++ rooms) t.length i (List.replicate K.length (-7)) (List.replicate P.length (-8)) t s.1 s.2.1 s.2.2 o) (List.replicate K.length (-7), List.replicate P.length (-8), 0) (Sum.inr (Sum.inr true) : Sum ((List Int) × Int) (Sum ((List Int) × Int) Bool)) := by
  have key := Rounds.upto (B := fun (s : (List Int) × (List Int) × Int) o => trellislaw15_finds_b4 K K P P (t ++ rooms) t.length i (List.replicate K.length (-7)) (List.replicate P.length (-8)) t s.1 s.2.1 s.2.2 o) (r := (Sum.inr (Sum.inr true) : Sum ((List Int) × Int) (Sum ((List Int) × Int) Bool)))
   (fun j => (List.replicate K.length (-7) ++ List.replicate j (-9), List.replicate P.length (-8) ++ List.replicate j (-10), (j : Int))) 70 (fun j hj => ?_) (fin (σ := Unit) _ rfl)
  ·simpa using key
  ·show trellislaw15_finds_b4 _ _ _ _ _ _ _ _ _ _ _ _ (j : Int) _
   unfold trellislaw15_finds_b4
   rw [if_pos (by omega), w64_nat (by omega)]
   refine ⟨_, rfl, by simp; omega, _, rfl, by simp; omega, ?_⟩
   rw [List.append_assoc, List.append_assoc, ← List.replicate_succ', ← List.replicate_succ']
   rfl
 have b3 : Rounds (fun (s : (List Int) × Int) o => trellislaw15_finds_b3 K K P P (t ++ rooms) t.length i (List.replicate K.length (-7)) t s.1 s.2 o) (P, 0) (Sum.inr true : Sum ((List Int) × Int) Bool) := by
  have key := Rounds.upto (B := fun (s : (List Int) × Int) o => trellislaw15_finds_b3 K K P P (t ++ rooms) t.length i (List.replicate K.length (-7)) t s.1 s.2 o) (r := (Sum.inr true : Sum ((List Int) × Int) Bool)) (fun j => (List.replicate j (-8) ++ P.drop j, (j : Int))) P.length (fun j hj => ?_) ?_
  ·simpa using key
  ·show trellislaw15_finds_b3 _ _ _ _ _ _ _ _ _ (List.replicate j (-8) ++ P.drop j) (j : Int) _
   have hlen : (List.replicate j (-8 : Int) ++ P.drop j).length = P.length := by simp; omega
   unfold trellislaw15_finds_b3
   rw [hlen, if_pos (by omega), w64_nat (by omega)]
   refine ⟨by omega, _, rfl, ?_⟩
   rw [Int.toNat_natCast, List.set_append_right _ _ (by simp), List.length_replicate, Nat.sub_self, List.drop_eq_getElem_cons hj, List.set_cons_zero, List.replicate_succ', List.append_assoc]
   rfl
  ·show trellislaw15_finds_b3 _ _ _ _ _ _ _ _ _ (List.replicate P.length (-8) ++ P.drop P.length) (P.length : Int) _
   unfold trellislaw15_finds_b3
   rw [List.drop_length, List.append_nil, List.length_replicate, if_neg (by omega)]
   exact b4
 have key := Rounds.upto (B := fun (s : (List Int) × Int) o => trellislaw15_finds_b2 K K P P (t ++ rooms) t.length i t P s.1 s.2 o) (r := true) (fun j => (List.replicate j (-7) ++ K.drop j, (j : Int))) K.length (fun j hj => ?_) ?_
 ·simpa using key
 ·show trellislaw15_finds_b2 _ _ _ _ _ _ _ _ _ (List.replicate j (-7) ++ K.drop j) (j : Int) _
  have hlen : (List.replicate j (-7 : Int) ++ K.drop j).length = K.length := by simp; omega
  unfold trellislaw15_finds_b2
  rw [hlen, if_pos (by omega), w64_nat (by omega)]
  refine ⟨by omega, _, rfl, ?_⟩
  rw [Int.toNat_natCast, List.set_append_right _ _ (by simp), List.length_replicate, Nat.sub_self, List.drop_eq_getElem_cons hj, List.set_cons_zero, List.replicate_succ', List.append_assoc]
  rfl
 ·show trellislaw15_finds_b2 _ _ _ _ _ _ _ _ _ (List.replicate K.length (-7) ++ K.drop K.length) (K.length : Int) _
  unfold trellislaw15_finds_b2
  rw [List.drop_length, List.append_nil, List.length_replicate, if_neg (by omega)]
  exact b3
def nsz (n : api_Node) : Nat := n.name.size + n.field.size + 1
def tsz (t : List api_Node) : Nat := (t.map nsz).sum
theorem piece_len {n : api_Node} : (fldL n).length + (hdL n).length ≤ 4 * nsz n := by
 have h := qL_len n.name
 unfold fldL hdL nsz
 split <;> split <;> simp [bsOf_len] <;> omega
theorem seg_sz {t : List api_Node} {a b : Nat} (hab : a ≤ b) (hb : b ≤ t.length) : ((t.take b).drop a).map nsz = ((t.map nsz).take b).drop a := by rw [List.map_drop, List.map_take]
theorem txG_len {t : List api_Node} : ∀ (f a : Nat) {S : List (Tre × Nat)} {m : Nat}, At t a S → m ≤ S.length → t.length - a < f → (txG t f a (en a (S.take m))).length ≤ 8 * tsz ((t.take (en a (S.take m))).drop a) := by
 intro f
 induction f with
 | zero => intro a S m _ _ h; omega
 | succ f ih =>
  intro a S m h hm hf
  have hse := seg_end h hm
  by_cases hlt : a < en a (S.take m)
  ·obtain ⟨x, e, r, ts, m', rfl, rfl, g1, g2, g3, g4, g5, g6, g7, g8, g9, g10, g11, g12, g13⟩ := seg_hd h hm hlt
   have h1 := ih (a + 1) (S := ts ++ r) (m := ts.length) g8 (by simp) (by omega)
   have h2 := ih e (S := r) (m := m') g6 g1 (by omega)
   have hs2 := seg_end g6 g1
   have hs3 := seg_end g8 (m := ts.length) (by simp)
   rw [g9] at h1 hs3
   rw [g7] at h2 hs2
   have hp := piece_len (n := ix t (a : Int))
   have hn1 : 1 ≤ nsz (ix t (a : Int)) := by unfold nsz; omega
   rw [txG, if_pos hlt, g5]
   generalize en a (((x, e) :: r).take (m' + 1)) = E at *
   have hsum : tsz ((t.take E).drop a) = nsz (ix t (a : Int)) + tsz ((t.take e).drop (a + 1)) + tsz ((t.take E).drop e) := by
    have e1 : (t.take E).drop a = ix t (a : Int) :: ((t.take e).drop (a + 1) ++ (t.take E).drop e) := by
     have h0 : a < (t.take E).length := by rw [List.length_take]; omega
     rw [List.drop_eq_getElem_cons h0, List.getElem_take, ix_nat g2]
     congr 1
     have u1 : (t.take E).drop (a + 1) = (((t.take E).drop (a + 1)).take (e - (a + 1))) ++ (((t.take E).drop (a + 1)).drop (e - (a + 1))) := (List.take_append_drop _ _).symm
     rw [u1]
     congr 1
     ·rw [List.take_drop, show a + 1 + (e - (a + 1)) = e by omega, List.take_take, Nat.min_eq_left (by omega)]
     ·rw [List.drop_drop]; congr 1; omega
    rw [e1]
    unfold tsz
    simp only [List.map_cons, List.map_append, List.sum_cons, List.sum_append]
    omega
   rw [hsum]
   have hsp : (spL a).length ≤ 1 := by unfold spL; split <;> simp
   simp only [List.length_append]
   split
   ·simp only [List.length_append, List.length_singleton]; omega
   ·omega
  ·unfold txG
   rw [if_neg hlt]
   exact Nat.zero_le _
theorem le_sum : ∀ {l : List Nat} {x : Nat}, x ∈ l → x ≤ l.sum
 | a :: l, x, h => by
  rw [List.sum_cons]
  rcases List.mem_cons.1 h with rfl | h
  ·omega
  ·have := le_sum h; omega
theorem nsz_le {t : List api_Node} {i : Nat} (h : i < t.length) : nsz (ix t (i : Int)) ≤ tsz t := by
 rw [ix_nat h]
 unfold tsz
 have : nsz t[i] ∈ t.map nsz := List.mem_map.2 ⟨_, List.getElem_mem h, rfl⟩
 exact le_sum this
theorem len_tsz (t : List api_Node) : t.length ≤ tsz t := by
 unfold tsz
 induction t with
 | nil => exact Nat.le_refl _
 | cons n t ih =>
  rw [List.length_cons, List.map_cons, List.sum_cons]
  have : 1 ≤ nsz n := by unfold nsz; omega
  omega
theorem txOk {t : List api_Node} (h : tsz t ≤ 2 ^ 40) : (sf t 0).isSome = true → TxOk t := fun hs => by
 obtain ⟨S, hS⟩ := Option.isSome_iff_exists.1 hs
 have hA : At t 0 S := ⟨Nat.zero_le _, hS⟩
 have hl := len_tsz t
 refine ⟨fun i hi => ?_, ?_⟩
 ·have := nsz_le hi
  unfold nsz at this
  omega
 ·have := txG_len (t.length + 1) 0 (m := S.length) hA (Nat.le_refl _) (by omega)
  rw [List.take_length, hA.ens, List.take_length, List.drop_zero] at this
  omega
end Go.Proofs.Ytmekgfcfooghnaa.L
