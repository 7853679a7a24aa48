/- Paths and sizes: the program's and the document's. Conditions: the list fits in memory, its numbers are ints. -/
import Derived.Test.YtmekgfcfooghnaaJ3
set_option linter.unusedVariables false
namespace Go.Proofs.Ytmekgfcfooghnaa.L
open Go.Proofs.Ytmekgfcfooghnaa.B Go.Proofs.Ytmekgfcfooghnaa.R
def covN (n : api_Node) (q : Int) : Bool := decide (n.from_ ≤ q) && decide (q < n.to)
def pathG (t : List api_Node) (q : Int) : Nat → Nat → Nat → List Nat
 | 0, _, _ => []
 | f + 1, a, e => if a < e then (if covN (ix t (a : Int)) q = true then a :: pathG t q f (a + 1) (endF t a) else pathG t q f (endF t a) e) else []
def pathF (t : List api_Node) (q : Int) : List Int := if (sf t 0).isSome = true then (pathG t q (t.length + 1) 0 t.length).map fun (n : Nat) => (n : Int) else []
theorem pathG_fuel {t : List api_Node} {q : Int} : ∀ (f g a : Nat) {S : List (Tre × Nat)} {m : Nat}, At t a S → m ≤ S.length → t.length - a < f → t.length - a < g → pathG t q f a (en a (S.take m)) = pathG t q g a (en a (S.take m)) := by
 intro f
 induction f with
 | zero => intro g a S m _ _ h; omega
 | succ f ih =>
  intro g a S m h hm hf hg
  obtain ⟨g, rfl⟩ : ∃ g', g = g' + 1 := ⟨g - 1, by omega⟩
  unfold pathG
  by_cases hlt : a < en a (S.take m)
  ·obtain ⟨x, e, r, ts, m', rfl, rfl, g1, g2, g3, g4, g5, g6, g7, g8, g9, g10, g11, g12, g13⟩ := seg_hd h hm hlt
   have h1 := ih g (a + 1) (S := ts ++ r) (m := ts.length) g8 (by simp) (by omega) (by omega)
   have h2 := ih g e (S := r) (m := m') g6 g1 (by omega) (by omega)
   rw [g9] at h1
   rw [g7] at h2
   rw [if_pos hlt, if_pos hlt, g5, h1, h2]
  ·rw [if_neg hlt, if_neg hlt]
theorem pathG_run {t : List api_Node} (hl : Fits t) {fo : tree_forest} (hE : ∀ k : Nat, k < t.length → k < fo.end_.length ∧ ix fo.end_ (k : Int) = (endF t k : Int)) (q : Int) : ∀ (f a : Nat) {S : List (Tre × Nat)} {m : Nat} {out : List Int}, At t a S → m ≤ S.length → t.length - a < f → out.length ≤ a →
  Rounds (fun (s : (List Int) × Int × Int) o => tree_Path_b1 t q fo s.1 s.2.1 s.2.2 o) (out, (a : Int), (en a (S.take m) : Int)) (out ++ (pathG t q f a (en a (S.take m))).map fun (n : Nat) => (n : Int)) := by
 intro f
 induction f with
 | zero => intro a S m out _ _ h; omega
 | succ f ih =>
  intro a S m out h hm hf ho
  unfold pathG
  by_cases hlt : a < en a (S.take m)
  ·rw [if_pos hlt]
   obtain ⟨x, e, r, ts, m', rfl, rfl, g1, g2, g3, g4, g5, g6, g7, g8, g9, g10, g11, g12, g13⟩ := seg_hd h hm hlt
   obtain ⟨e1, e2⟩ := hE a g2
   rw [g5] at e2
   rw [g5]
   have j2 : ∀ c : Bool, covN (ix t (a : Int)) q = c → tree_Path_j2 out (a : Int) fo (en a (((x, e) :: r).take (m' + 1)) : Int) c (if c = true then .inl (out ++ [(a : Int)], ((a + 1 : Nat) : Int), (e : Int)) else .inl (out, (e : Int), (en a (((x, e) :: r).take (m' + 1)) : Int))) := fun c hc => by
    unfold tree_Path_j2
    cases c with
    | true => rw [if_pos rfl, if_pos rfl]; exact ⟨_, rfl, by simp; omega, by omega, by rw [w64_nat (by omega), e2]; rfl⟩
    | false => rw [if_neg (by simp), if_neg (by simp)]; exact ⟨by omega, by rw [e2]⟩
   have b1 : tree_Path_b1 t q fo out (a : Int) (en a (((x, e) :: r).take (m' + 1)) : Int) (if covN (ix t (a : Int)) q = true then .inl (out ++ [(a : Int)], ((a + 1 : Nat) : Int), (e : Int)) else .inl (out, (e : Int), (en a (((x, e) :: r).take (m' + 1)) : Int))) := by
    unfold tree_Path_b1
    rw [if_pos (by omega)]
    refine ⟨by omega, ?_⟩
    have := j2 _ rfl
    unfold covN at this ⊢
    by_cases h1 : (ix t (a : Int)).from_ ≤ q
    ·rw [if_pos h1]
     rw [decide_eq_true h1, Bool.true_and] at this ⊢
     exact this
    ·rw [if_neg h1]
     rw [decide_eq_false h1, Bool.false_and] at this ⊢
     exact this
   by_cases hh : covN (ix t (a : Int)) q = true
   ·rw [if_pos hh] at b1 ⊢
    have hi := ih (a + 1) (S := ts ++ r) (m := ts.length) (out := out ++ [(a : Int)]) g8 (by simp) (by omega) (by simp; omega)
    rw [g9] at hi
    refine Rounds.next (s' := (out ++ [(a : Int)], ((a + 1 : Nat) : Int), (e : Int))) b1 ?_
    simpa [List.append_assoc] using hi
   ·rw [if_neg hh] at b1 ⊢
    have hi := ih e (S := r) (m := m') (out := out) g6 g1 (by omega) (by omega)
    rw [g7] at hi
    exact Rounds.next (s' := (out, (e : Int), (en a (((x, e) :: r).take (m' + 1)) : Int))) b1 hi
  ·rw [if_neg hlt]
   refine Rounds.done ?_
   show tree_Path_b1 t q fo out (a : Int) (en a (S.take m) : Int) _
   unfold tree_Path_b1
   rw [if_neg (by omega), List.map_nil, List.append_nil]
theorem ends_of {t : List api_Node} {f : tree_forest} (f2 : Planted t f) {S : List (Tre × Nat)} (h : sf t 0 = some S) : ∀ k : Nat, k < t.length → k < f.end_.length ∧ ix f.end_ (k : Int) = (endF t k : Int) := fun k hk => by
 obtain ⟨_, x, e, r, q1, q2⟩ := f2.2.2.2.2 S h k hk
 exact ⟨by rw [f2.2.2.1]; exact hk, by rw [q2, end_at' q1]⟩
theorem Path_ok {t : List api_Node} (hl : Fits t) (hw : Wf t) (q : Int) : tree_Path t q (pathF t q) := by
 obtain ⟨f, f1, f2⟩ := plant_ok (t := t) (by omega) hw
 unfold tree_Path pathF
 refine ⟨f, f1, ?_⟩
 rw [f2.2.2.2.1]
 cases h : sf t 0 with
 | none => rw [if_neg (by simp), if_neg (by simp)]
 | some S =>
  simp only [Option.isSome_some, if_true]
  have hA : At t 0 S := ⟨Nat.zero_le _, h⟩
  have := pathG_run hl (ends_of f2 h) q (t.length + 1) 0 (m := S.length) (out := []) hA (Nat.le_refl _) (by omega) (Nat.le_refl _)
  rw [List.take_length, hA.ens] at this
  simpa using this
theorem pathG_mem {t : List api_Node} (q : Int) : ∀ (f a : Nat) {S : List (Tre × Nat)} {m : Nat}, At t a S → m ≤ S.length → (pathG t q f a (en a (S.take m))).length + a ≤ en a (S.take m) ∧ ∀ v ∈ pathG t q f a (en a (S.take m)), a ≤ v ∧ v < en a (S.take m) ∧ covN (ix t (v : Int)) q = true := by
 intro f
 induction f with
 | zero => intro a S m h hm; simp [pathG]; exact (seg_end h hm).1
 | succ f ih =>
  intro a S m h hm
  have hse := seg_end h hm
  unfold pathG
  by_cases hlt : a < en a (S.take m)
  ·rw [if_pos hlt]
   obtain ⟨x, e, r, ts, m', rfl, rfl, g1, g2, g3, g4, g5, g6, g7, g8, g9, g10, g11, g12, g13⟩ := seg_hd h hm hlt
   have hle : e ≤ en a (((x, e) :: r).take (m' + 1)) := by rw [← g7]; exact (seg_end g6 g1).1
   rw [g5]
   by_cases hh : covN (ix t (a : Int)) q = true
   ·rw [if_pos hh]
    have hi := ih (a + 1) (S := ts ++ r) (m := ts.length) g8 (by simp)
    rw [g9] at hi
    refine ⟨by rw [List.length_cons]; omega, fun v hv => ?_⟩
    rcases List.mem_cons.1 hv with rfl | hv
    ·exact ⟨Nat.le_refl _, hlt, hh⟩
    ·have := hi.2 v hv
     exact ⟨by omega, by omega, this.2.2⟩
   ·rw [if_neg hh]
    have hi := ih e (S := r) (m := m') g6 g1
    rw [g7] at hi
    refine ⟨by omega, fun v hv => ?_⟩
    have := hi.2 v hv
    exact ⟨by omega, this.2⟩
  ·rw [if_neg hlt]
   exact ⟨by simp; exact hse.1, fun v hv => by cases hv⟩
theorem pathF_len (t : List api_Node) (q : Int) : (pathF t q).length ≤ t.length := by
 unfold pathF
 cases h : sf t 0 with
 | none => simp
 | some S =>
  simp only [Option.isSome_some, if_true, List.length_map]
  have hA : At t 0 S := ⟨Nat.zero_le _, h⟩
  have := (pathG_mem q (t.length + 1) 0 (m := S.length) hA (Nat.le_refl _)).1
  rw [List.take_length, hA.ens] at this
  omega
def pathR (t : List api_Node) (q : Int) (y : Tre × Nat) (_ : Unit) : Sum Unit (List Int) := if covN y.1.node q = true then .inr (y.1.at_ :: (pathG t q (t.length + 1) (y.1.at_.toNat + 1) y.2).map fun (n : Nat) => (n : Int)) else .inl ()
theorem pathR_row {t : List api_Node} (q : Int) : ∀ (m a : Nat) {S : List (Tre × Nat)}, At t a S → m ≤ S.length → runL (pathR t q) (fun _ => ([] : List Int)) (S.take m) () = (pathG t q (t.length + 1) a (en a (S.take m))).map fun (n : Nat) => (n : Int) := by
 intro m
 induction m with
 | zero =>
  intro a S h hm
  unfold pathG
  rw [List.take_zero, en_nil, if_neg (Nat.lt_irrefl _)]
  rfl
 | succ m ih =>
  intro a S h hm
  have hlt := (seg_end h hm).2.2.resolve_left (by omega)
  obtain ⟨x, e, r, ts, m', rfl, hm', g1, g2, g3, g4, g5, g6, g7, g8, g9, g10, g11, g12, g13⟩ := seg_hd h hm hlt
  obtain rfl : m = m' := by omega
  have h1 := pathG_fuel (q := q) t.length (t.length + 1) (a + 1) (S := ts ++ r) (m := ts.length) g8 (by simp) (by omega) (by omega)
  have h2 := pathG_fuel (q := q) t.length (t.length + 1) e (S := r) (m := m) g6 g1 (by omega) (by omega)
  rw [g9] at h1
  rw [g7] at h2
  have hi := ih e g6 g1
  rw [g7] at hi
  rw [List.take_succ_cons]
  rw [List.take_succ_cons] at hi h2 hlt
  unfold pathG
  rw [if_pos hlt, g5, h1, h2]
  by_cases hh : covN (ix t (a : Int)) q = true
  ·rw [if_pos hh]
   exact runL_end (by unfold pathR; rw [if_pos (by rw [g11]; exact hh), g13, Int.toNat_natCast]; rfl)
  ·rw [if_neg hh, ← hi]
   exact runL_go (by unfold pathR; rw [if_neg (by rw [g11]; exact hh)])
theorem refPath_n {t : List api_Node} (hl : Fits t) (q : Int) : ∀ (f a : Nat) {S : List (Tre × Nat)} {m : Nat}, t.length - a < f → At t a S → m ≤ S.length → trellisref15_path_n f ((S.take m).map (·.1)) q ((pathG t q (t.length + 1) a (en a (S.take m))).map fun (n : Nat) => (n : Int)) := by
 intro f
 induction f with
 | zero => intro a S m h; omega
 | succ f ih =>
  intro a S m hf h hm
  rw [← pathR_row q m a h hm]
  show trellisref15_path_body (trellisref15_path_n f) _ q _
  unfold trellisref15_path_body
  have hSl := (sf_en _ _ h.2).2
  rw [List.length_drop] at hSl
  have hml : (S.take m).length = m := by rw [List.length_take]; omega
  have hml2 : ((S.take m).map (·.1)).length = m := by rw [List.length_map, hml]
  refine Rounds.row (S.take m) (fun (_ : Unit) i => i) (pathR t q) (fun _ => []) (fun _ _ => True) (fun i hi s _ => ?_) (fun s _ => ?_) trivial
  ·rw [hml] at hi
   have hy : (S.take m)[i]'(by rw [hml]; exact hi) = S[i] := List.getElem_take
   have hix : ix ((S.take m).map (·.1)) (i : Int) = S[i].1 := by rw [ix_nat (by rw [hml2]; exact hi)]; simp
   obtain ⟨a1, a2⟩ := h.nth (j := i) (by omega)
   obtain ⟨p1, p2, p3, p4, p5⟩ := a1.pos
   have hlt : en a (S.take i) < en (en a (S.take i)) (((S[i].1, S[i].2) :: S.drop (i + 1)).take 1) := (seg_end a1 (m := 1) (by simp)).2.2.resolve_left (by omega)
   obtain ⟨x', e', r', ts, m', hS, hm', g1, g2, g3, g4, g5, g6, g7, g8, g9, g10, g11, g12, g13⟩ := seg_hd a1 (by simp) hlt
   injection hS with hS1 hS2
   injection hS1 with hS1 hS3
   have key : trellisref15_path_b1 ((S.take m).map (·.1)) q (trellisref15_path_n f) (i : Int) (match pathR t q S[i] () with | .inl _ => .inl ((i : Int) + 1) | .inr r => .inr r) := by
    unfold trellisref15_path_b1
    rw [hml2, if_pos (by omega), hix]
    refine ⟨by omega, ?_⟩
    have j2 : ∀ c : Bool, covN S[i].1.node q = c → trellisref15_path_j2 (i : Int) ((S.take m).map (·.1)) (trellisref15_path_n f) q c (match pathR t q S[i] () with | .inl _ => .inl ((i : Int) + 1) | .inr r => .inr r) := fun c hc => by
     unfold trellisref15_path_j2 pathR
     rw [hml2, hix, hc]
     cases c with
     | true =>
      rw [if_pos rfl, if_pos rfl]
      have hr := ih (en a (S.take i) + 1) (S := ts ++ r') (m := ts.length) (by omega) g8 (by simp)
      rw [g9, List.take_append_of_le_length (Nat.le_refl _), List.take_length] at hr
      have hlen := (pathG_mem q (t.length + 1) (en a (S.take i) + 1) (m := ts.length) g8 (by simp)).1
      rw [g9] at hlen
      refine ⟨by omega, _, by rw [hS1, g10]; exact hr, _, rfl, by simp; omega, ?_⟩
      rw [p2, Int.toNat_natCast, hS3]
      rfl
     | false =>
      rw [if_neg (by simp), if_neg (by simp), w64_nat (by omega)]
    have := j2 _ rfl
    unfold covN at this
    by_cases h1 : (S[i].1.node).from_ ≤ q
    ·rw [if_pos h1]
     rw [decide_eq_true h1, Bool.true_and] at this
     exact this
    ·rw [if_neg h1]
     rw [decide_eq_false h1, Bool.false_and] at this
     exact this
   rw [hy]
   refine ⟨fun s' hs => ?_, fun r hr => ?_⟩
   ·rw [hs] at key; exact ⟨key, trivial⟩
   ·rw [hr] at key; exact key
  ·show trellisref15_path_b1 _ q _ ((S.take m).length : Int) _
   unfold trellisref15_path_b1
   rw [hml, hml2, if_neg (by omega)]
theorem refPath_ok {t : List api_Node} (hl : Fits t) (q : Int) : trellisref15_Path t q (pathF t q) := by
 unfold trellisref15_Path pathF
 cases h : sf t 0 with
 | none =>
  refine ⟨_, forest_no hl h, [], ⟨1, ?_⟩, by rw [if_neg (by simp)]⟩
  show trellisref15_path_body (trellisref15_path_n 0) [] q []
  unfold trellisref15_path_body
  refine Rounds.done ?_
  unfold trellisref15_path_b1
  rw [if_neg (by simp)]
 | some S =>
  have hA : At t 0 S := ⟨Nat.zero_le _, h⟩
  refine ⟨_, forest_ok hl h, _, ⟨t.length + 1, ?_⟩, by rw [if_pos (by simp)]⟩
  have := refPath_n hl q (t.length + 1) 0 (m := S.length) (by omega) hA (Nat.le_refl _)
  rw [List.take_length, hA.ens] at this
  exact this
theorem refList_n {t : List api_Node} (hl : Fits t) : ∀ (f a : Nat) {S : List (Tre × Nat)} {m : Nat}, t.length - a < f → At t a S → m ≤ S.length → trellisref15_list_n f ((S.take m).map (·.1)) ((t.take (en a (S.take m))).drop a) := by
 intro f
 induction f with
 | zero => intro a S m h; omega
 | succ f ih =>
  intro a S m hf h hm
  show trellisref15_list_body (trellisref15_list_n f) _ _
  unfold trellisref15_list_body
  have hSl := (sf_en _ _ h.2).2
  rw [List.length_drop] at hSl
  have hml : (S.take m).length = m := by rw [List.length_take]; omega
  have hml2 : ((S.take m).map (·.1)).length = m := by rw [List.length_map, hml]
  have key := Rounds.upto (B := fun (s : (List api_Node) × Int) o => trellisref15_list_b1 ((S.take m).map (·.1)) (trellisref15_list_n f) s.1 s.2 o) (r := (t.take (en a (S.take m))).drop a) (fun j => ((t.take (en a (S.take j))).drop a, (j : Int))) m (fun i hi => ?_) ?_
  ·have e0 : (t.take (en a (S.take 0))).drop a = [] := by rw [List.take_zero, en_nil]; simp
   have key' : Rounds _ ((t.take (en a (S.take 0))).drop a, ((0 : Nat) : Int)) _ := key
   rw [e0] at key'
   exact key'
  ·show trellisref15_list_b1 _ _ ((t.take (en a (S.take i))).drop a) (i : Int) _
   have hix : ix ((S.take m).map (·.1)) (i : Int) = S[i].1 := by rw [ix_nat (by rw [hml2]; exact hi)]; simp
   obtain ⟨a1, a2⟩ := h.nth (j := i) (by omega)
   obtain ⟨p1, p2, p3, p4, p5⟩ := a1.pos
   have hlt : en a (S.take i) < en (en a (S.take i)) (((S[i].1, S[i].2) :: S.drop (i + 1)).take 1) := (seg_end a1 (m := 1) (by simp)).2.2.resolve_left (by omega)
   obtain ⟨x', e', r', ts, m', hS, hm', g1, g2, g3, g4, g5, g6, g7, g8, g9, g10, g11, g12, g13⟩ := seg_hd a1 (by simp) hlt
   injection hS with hS1 hS2
   injection hS1 with hS1 hS3
   have hen : en a (S.take (i + 1)) = S[i].2 := en_take (by omega)
   have hr := ih (en a (S.take i) + 1) (S := ts ++ r') (m := ts.length) (by omega) g8 (by simp)
   rw [g9, List.take_append_of_le_length (Nat.le_refl _), List.take_length] at hr
   have hnode : (⟨(S[i].1.node).name, (S[i].1.node).named, (S[i].1.node).field, (S[i].1.node).from_, (S[i].1.node).to, ((S[i].1.kids).length : Int), (S[i].1.node).leaf⟩ : api_Node) = ix t (en a (S.take i) : Int) := by
    rw [hS1, g10, List.length_map, ← g12, g11]
   have hx : (t.take (en a (S.take i))).drop a ++ [ix t (en a (S.take i) : Int)] = (t.take (en a (S.take i) + 1)).drop a := by
    rw [List.take_succ_eq_append_getElem p1, List.drop_append_of_le_length (by rw [List.length_take]; omega), ix_nat p1]
   have hx2 : (t.take (en a (S.take i) + 1)).drop a ++ (t.take S[i].2).drop (en a (S.take i) + 1) = (t.take S[i].2).drop a := by
    have hh : (t.take S[i].2).drop (en a (S.take i) + 1) = ((t.take S[i].2).drop a).drop (en a (S.take i) + 1 - a) := by rw [List.drop_drop]; congr 1; omega
    have hh2 : (t.take (en a (S.take i) + 1)).drop a = ((t.take S[i].2).drop a).take (en a (S.take i) + 1 - a) := by
     rw [List.take_drop, show a + (en a (S.take i) + 1 - a) = en a (S.take i) + 1 by omega, List.take_take, Nat.min_eq_left (by omega)]
    rw [hh, hh2, List.take_append_drop]
   unfold trellisref15_list_b1
   rw [hml2, if_pos (by omega), hix, hnode]
   refine ⟨by omega, _, rfl, by simp; omega, _, by rw [hS1, g10]; exact hr, _, rfl, by simp; omega, ?_⟩
   rw [hx, ← hS3, hx2, hen, w64_nat (by omega)]
   rfl
  ·show trellisref15_list_b1 _ _ _ (m : Int) _
   unfold trellisref15_list_b1
   rw [hml2, if_neg (by omega)]
theorem refSize_ok {t : List api_Node} (hl : Fits t) (i : Int) : trellisref15_Size t i (if inB t i = true then ((endF t i.toNat : Int) - i) else 0) := by
 obtain ⟨l, ok, h1, ⟨h2, h3⟩ | ⟨h2, h3⟩⟩ := find_at hl i
 ·refine ⟨_, h1, _, h3, ?_⟩
  rw [if_neg (by simp), h2, if_neg (by simp)]
 ·refine ⟨_, h1, _, h3, ?_⟩
  rw [if_pos rfl, if_pos h2]
  obtain ⟨⟨S, hS⟩, g1, g2⟩ := inB_true.1 h2
  obtain ⟨n, rfl⟩ : ∃ n : Nat, i = n := ⟨i.toNat, by omega⟩
  rw [Int.toNat_natCast]
  obtain ⟨r, hr⟩ := At.sub hS (i := n) (by omega)
  have hr : At t n (((sub t n).1, (sub t n).2) :: r) := hr
  have hpos := hr.pos
  have := refList_n hl (t.length + 1) n (m := 1) (by omega) hr (by simp)
  rw [List.take_succ_cons, List.take_zero, en_cons, en_nil] at this
  refine ⟨_, ⟨_, this⟩, ?_⟩
  have hE : endF t n = (sub t n).2 := rfl
  simp
  omega
theorem Size_ok {t : List api_Node} (hl : Fits t) (hw : Wf t) (i : Int) : tree_Size t i (if inB t i = true then ((endF t i.toNat : Int) - i) else 0) := by
 obtain ⟨f, f1, f2⟩ := plant_ok (t := t) (by omega) hw
 unfold tree_Size
 refine ⟨f, f1, _, has_ok f2 i, ?_⟩
 by_cases h : inB t i = true
 ·rw [if_pos h, if_pos h]
  obtain ⟨⟨S, hS⟩, g1, g2⟩ := inB_true.1 h
  obtain ⟨n, rfl⟩ : ∃ n : Nat, i = n := ⟨i.toNat, by omega⟩
  obtain ⟨e1, e2⟩ := ends_of f2 hS n (by omega)
  obtain ⟨r, hr⟩ := At.sub hS (i := n) (by omega)
  have hpos := (show At t n (((sub t n).1, (sub t n).2) :: r) from hr).pos
  have hE : endF t n = (sub t n).2 := rfl
  rw [Int.toNat_natCast]
  exact ⟨by omega, by rw [e2, w64_id (by omega)]⟩
 ·rw [if_neg h, if_neg h]
end Go.Proofs.Ytmekgfcfooghnaa.L
