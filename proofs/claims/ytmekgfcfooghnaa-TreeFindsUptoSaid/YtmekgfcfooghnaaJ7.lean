/- The law TreeFinds. Conditions: sizes. -/
import Derived.Test.YtmekgfcfooghnaaJ6
set_option linter.unusedVariables false
namespace Go.Proofs.Ytmekgfcfooghnaa.L
open Go.Proofs.Ytmekgfcfooghnaa.B Go.Proofs.Ytmekgfcfooghnaa.R
theorem tsz_map {g : api_Node → api_Node} (hg : ∀ n, nsz (g n) ≤ nsz n + 1) : ∀ t : List api_Node, tsz (t.map g) ≤ tsz t + t.length
  | [] => Nat.le_refl _
  | n :: t => by
    have := tsz_map hg t
    have := hg n
    unfold tsz at *
    simp only [List.map_cons, List.sum_cons, List.length_cons]
    omega
def m1 (n : api_Node) : api_Node := { n with kids := 0, name := n.name ++ (⟨#[113]⟩ : ByteArray), to := w64 (n.to + 1) }
def m2 (n : api_Node) : api_Node := { n with kids := 1 }
theorem part_get {α : Type} {g : α → α} {t : List α} {i : Nat} (hi : i < t.length) : ((t.take i).map g ++ t.drop i).length = t.length ∧ ∀ v, ((t.take i).map g ++ t.drop i).set i v = (t.take i).map g ++ (v :: t.drop (i + 1)) := by
  refine ⟨by simp; omega, fun v => ?_⟩
  rw [List.set_append_right _ _ (by simp; omega)]
  have e : i - ((t.take i).map g).length = 0 := by simp; omega
  rw [e, List.drop_eq_getElem_cons hi, List.set_cons_zero]
theorem part_ix {g : api_Node → api_Node} {t : List api_Node} {i : Nat} (hi : i < t.length) (v : api_Node) (r : List api_Node) : ix ((t.take i).map g ++ (v :: t.drop (i + 1)) ++ r) (i : Int) = v := by
  have hz : ((t.take i).map g).length = i := by rw [List.length_map, List.length_take]; omega
  generalize (t.take i).map g = z at *
  subst hz
  rw [ix_nat (by simp)]
  simp
theorem part_next {g : api_Node → api_Node} {t : List api_Node} {i : Nat} (hi : i < t.length) : (t.take i).map g ++ (g t[i] :: t.drop (i + 1)) = (t.take (i + 1)).map g ++ t.drop (i + 1) := by
  rw [List.take_succ_eq_append_getElem hi, List.map_append, List.append_assoc]
  rfl
theorem findsLaw {t : List api_Node} (hl : Fits t) (hw : Wf t) (hs : tsz t ≤ 2 ^ 38) (q : Int) : trellislaw15_TreeFinds t q true := by
  have hlen := len_tsz t
  have hn := fun i (h : i < t.length) => nsz_le (t := t) h
  unfold trellislaw15_TreeFinds
  obtain ⟨b, hb⟩ := beyond_ok hl hw
  refine ⟨b, hb, ?_⟩
  cases b with
  | true => rw [if_pos rfl]
  | false =>
    rw [if_neg (by simp)]
    refine ⟨_, roomy_ok hl, true, finds_ok hl hw (txOk (by omega)) q, ?_⟩
    rw [if_pos rfl]
    dsimp only
    -- the flat list
    have z1 : ∀ n, nsz (m1 n) ≤ nsz n + 1 := fun n => by
      have z : (⟨#[113]⟩ : ByteArray).size = 1 := rfl
      unfold nsz m1
      dsimp only
      rw [ByteArray.size_append, z]
      omega
    have hl1 : Fits (t.map m1) := by show _ ≤ _; rw [List.length_map]; exact hl
    have hw1 : Wf (t.map m1) := fun n hn => by
      obtain ⟨n', _, rfl⟩ := List.mem_map.1 hn
      exact ⟨by show (-9223372036854775808 : Int) ≤ 0; omega, by show (0 : Int) ≤ _; omega⟩
    have ht1 := tsz_map z1 t
    -- the chain
    have hM2 : ∀ j, j ≤ t.length → (((t.map m1).take j).map m2 ++ (t.map m1).drop j).length = t.length := fun j hj => by simp; omega
    have hw2 : ∀ j, j ≤ t.length → Wf (((t.map m1).take j).map m2 ++ (t.map m1).drop j) := fun j hj n hn => by
      rcases List.mem_append.1 hn with hn | hn
      · obtain ⟨n', _, rfl⟩ := List.mem_map.1 hn
        exact ⟨by show (-9223372036854775808 : Int) ≤ 1; omega, by show (1 : Int) ≤ _; omega⟩
      · exact hw1 n (List.mem_of_mem_drop hn)
    have ht2 : ∀ j, tsz (((t.map m1).take j).map m2 ++ (t.map m1).drop j) = tsz (t.map m1) := fun j => by
      unfold tsz
      rw [List.map_append, List.map_map, show nsz ∘ m2 = nsz from rfl, ← List.map_append, List.take_append_drop]
    have step2 : ∀ (zs : List api_Node), zs.length = t.length → trellislaw15_TreeFinds_b2 (t ++ rooms, t.length) q (zs ++ rooms) ((0 : Nat) : Int) (.inr (.inr true)) → True := fun _ _ _ => trivial
    have b2 : Rounds (fun (s : (List api_Node) × Int) o => trellislaw15_TreeFinds_b2 (t ++ rooms, t.length) q s.1 s.2 o) (t.map m1 ++ rooms, 0) (Sum.inr true : Sum ((List api_Node) × Int) Bool) := by
      have key := Rounds.upto (B := fun (s : (List api_Node) × Int) o => trellislaw15_TreeFinds_b2 (t ++ rooms, t.length) q s.1 s.2 o) (r := (Sum.inr true : Sum ((List api_Node) × Int) Bool)) (fun j => (((t.map m1).take j).map m2 ++ (t.map m1).drop j ++ rooms, (j : Int))) (t.length - 1) (fun j hj => ?_) ?_
      · simpa using key
      · show trellislaw15_TreeFinds_b2 _ q (((t.map m1).take j).map m2 ++ (t.map m1).drop j ++ rooms) (j : Int) _
        have hj' : j < (t.map m1).length := by rw [List.length_map]; omega
        obtain ⟨p1, p2⟩ := part_get (g := m2) hj'
        unfold trellislaw15_TreeFinds_b2
        dsimp only
        rw [take_rooms (hM2 j (by omega)), hM2 j (by omega), w64_nat (by omega), if_pos (by omega)]
        refine ⟨by omega, _, rfl, ?_⟩
        have e := part_ix (g := m2) hj' (t.map m1)[j] rooms
        rw [← List.drop_eq_getElem_cons hj'] at e
        rw [e, Int.toNat_natCast, List.set_append_left _ _ (by rw [hM2 j (by omega)]; omega), p2]
        exact congrArg (fun z => (Sum.inl (z ++ rooms, (j : Int) + 1) : Sum ((List api_Node) × Int) (Sum ((List api_Node) × Int) Bool))) (part_next (g := m2) hj').symm
      · show trellislaw15_TreeFinds_b2 _ q (((t.map m1).take (t.length - 1)).map m2 ++ (t.map m1).drop (t.length - 1) ++ rooms) ((t.length - 1 : Nat) : Int) _
        have hx := hM2 (t.length - 1) (by omega)
        have hlz : Fits (((t.map m1).take (t.length - 1)).map m2 ++ (t.map m1).drop (t.length - 1)) := by show _ ≤ _; rw [hx]; exact hl
        have hwz := hw2 (t.length - 1) (by omega)
        have htz := ht2 (t.length - 1)
        generalize ((t.map m1).take (t.length - 1)).map m2 ++ (t.map m1).drop (t.length - 1) = zs at *
        unfold trellislaw15_TreeFinds_b2
        dsimp only
        rw [take_rooms hx, hx, w64_id (by omega), if_neg (by omega)]
        obtain ⟨b, hb⟩ := beyond_ok hlz hwz
        refine ⟨_, twin_ok hlz, b, hb, ?_⟩
        cases b with
        | true => rw [if_pos rfl]
        | false =>
          rw [if_neg (by simp)]
          have := finds_ok hlz hwz (txOk (by omega)) q
          rw [hx] at this
          exact ⟨true, this, rfl⟩
    have hM1 : ∀ j, j ≤ t.length → ((t.take j).map m1 ++ t.drop j).length = t.length := fun j hj => by simp; omega
    have key := Rounds.upto (B := fun (s : (List api_Node) × Int) o => trellislaw15_TreeFinds_b1 (t ++ rooms, t.length) q s.1 s.2 o) (r := true) (fun j => ((t.take j).map m1 ++ t.drop j ++ rooms, (j : Int))) t.length (fun j hj => ?_) ?_
    · simpa using key
    · show trellislaw15_TreeFinds_b1 _ q ((t.take j).map m1 ++ t.drop j ++ rooms) (j : Int) _
      obtain ⟨p1, p2⟩ := part_get (g := m1) hj
      have hlv : ∀ v, ((t.take j).map m1 ++ (v :: t.drop (j + 1))).length = t.length := fun v => by simp; omega
      have hset : ∀ v w, ((t.take j).map m1 ++ (v :: t.drop (j + 1)) ++ rooms).set j w = (t.take j).map m1 ++ (w :: t.drop (j + 1)) ++ rooms := fun v w => by
        rw [List.set_append_left _ _ (by rw [hlv]; omega), List.set_append_right _ _ (by simp; omega)]
        have e : j - ((t.take j).map m1).length = 0 := by simp; omega
        rw [e, List.set_cons_zero]
      have hsz := hn j hj
      rw [ix_nat hj] at hsz
      unfold nsz at hsz
      unfold trellislaw15_TreeFinds_b1
      dsimp only
      rw [List.drop_eq_getElem_cons hj, take_rooms (hlv _), hlv, if_pos (by omega), part_ix hj, Int.toNat_natCast, hset]
      refine ⟨by omega, _, rfl, ?_⟩
      rw [take_rooms (hlv _), hlv, part_ix hj, hset]
      have z : (⟨#[113]⟩ : ByteArray).size = 1 := rfl
      refine ⟨by omega, by rw [z]; dsimp only; omega, _, rfl, ?_⟩
      rw [take_rooms (hlv _), hlv, part_ix hj, hset]
      refine ⟨by omega, _, rfl, ?_⟩
      rw [w64_nat (by omega)]
      have e := part_next (g := m1) hj
      exact congrArg (fun z => (Sum.inl (z ++ rooms, (j : Int) + 1) : Sum ((List api_Node) × Int) Bool)) e.symm
    · show trellislaw15_TreeFinds_b1 _ q ((t.take t.length).map m1 ++ t.drop t.length ++ rooms) (t.length : Int) _
      rw [List.take_length, List.drop_length, List.append_nil]
      unfold trellislaw15_TreeFinds_b1
      dsimp only
      rw [take_rooms (by rw [List.length_map]), List.length_map, if_neg (by omega)]
      have := finds_ok hl1 hw1 (txOk (by omega)) q
      rw [List.length_map] at this
      refine ⟨_, twin_ok hl1, true, this, ?_⟩
      rw [if_pos rfl]
      exact b2
end Go.Proofs.Ytmekgfcfooghnaa.L
