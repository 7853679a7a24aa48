/- Queries: whole queries that are well shaped; what both print. Condition: sizes. -/
import Derived.Test.YtjookebbmfiidaaDoorSI
set_option linter.unusedVariables false
namespace Go.Proofs.YtjookebbmfiidaaDoor.L
open Go.Proofs.YtjookebbmfiidaaDoor.B Go.Proofs.YtjookebbmfiidaaDoor.R
theorem SeenOk.self (v : List api_PatNode) : SeenOk v (capsL v) := fun c => Iff.rfl
theorem capN_mem {v : List api_PatNode} {c : ByteArray} : 0 ≤ capN c v ↔ c ∈ capsL v := by
 rw [← inC_iff]
 exact capN_iff (SeenOk.self v) c
theorem nodup_of {v : List api_PatNode} (h : ∀ i, i < v.length → (ix v (i : Int)).capture = noB ∨ capN (ix v (i : Int)).capture v = (i : Int)) : (capsL v).Nodup := by
 unfold capsL
 rw [List.Nodup, List.pairwise_filter, List.pairwise_map, List.pairwise_iff_getElem]
 intro i j hi hj hij hp hq he
 have hp' : v[i].capture ≠ noB := by simpa using hp
 have h1 := (h j hj).resolve_left (by rw [ix_el hj, ← he]; exact hp')
 rw [ix_el hj, ← he] at h1
 unfold capN at h1
 rw [if_neg hp'] at h1
 cases e : capIx v[i].capture v with
 | none => rw [e] at h1; dsimp only at h1; omega
 | some m =>
  rw [e] at h1
  dsimp only at h1
  unfold capIx at e
  rw [List.findIdx?_eq_some_iff_getElem] at e
  obtain ⟨h2, h3, h4⟩ := e
  exact h4 i (by omega) (decide_eq_true rfl)
theorem of_nodup {v : List api_PatNode} (h : (capsL v).Nodup) {i : Nat} (hi : i < v.length) : (ix v (i : Int)).capture = noB ∨ capN (ix v (i : Int)).capture v = (i : Int) := by
 by_cases g : (ix v (i : Int)).capture = noB
 ·exact .inl g
 right
 unfold capN
 rw [if_neg g]
 have hex : (capIx (ix v (i : Int)).capture v).isSome = true := capIx_ex.2 ⟨_, ix_mem hi, rfl⟩
 cases e : capIx (ix v (i : Int)).capture v with
 | none => rw [e] at hex; cases hex
 | some m =>
  dsimp only
  unfold capIx at e
  rw [List.findIdx?_eq_some_iff_getElem] at e
  obtain ⟨h2, h3, h4⟩ := e
  have h3' := of_decide_eq_true h3
  rw [ix_el hi] at g h3' h4
  have hm : m ≤ i := by
   by_cases hc : i < m
   ·exact absurd (decide_eq_true rfl) (h4 i hc)
   ·omega
  by_cases hc : m < i
  ·exfalso
   unfold capsL at h
   rw [List.Nodup, List.pairwise_filter, List.pairwise_map, List.pairwise_iff_getElem] at h
   exact h m i h2 hi hc (by simpa [h3'] using g) (by simpa using g) h3'
  ·congr 1; omega
theorem shapedB_iff {q : api_Query} : shapedB q = true ↔ ShapedV nmQ q.nodes q.conds := by
 unfold shapedB ShapedV
 simp only [Bool.and_eq_true, decide_eq_true_eq, List.all_eq_true, List.mem_range]
 have hbeh : behI q.nodes 0 = (q.nodes.length : Int) ↔ behP q.nodes 1 = some [] := by
  unfold behI
  rw [List.drop_zero]
  cases e : behP q.nodes 1 with
  | none => exact ⟨fun h => (by dsimp only at h; omega), fun h => by cases h⟩
  | some r =>
   have := (behP_len _ _ _ e).1
   constructor
   ·intro h
    dsimp only at h
    rw [List.eq_nil_of_length_eq_zero (show r.length = 0 by omega)]
   ·intro h
    injection h with h
    subst h
    simp
 have hcond : ∀ c : api_Cond, condB q.nodes c = true ↔ goodC (capsL q.nodes) c := fun c => by
  unfold condB goodC
  simp only [Bool.and_eq_true, Bool.or_eq_true, decide_eq_true_eq]
  rw [capN_mem, capN_mem]
 constructor
 ·rintro ⟨h1, h2, h3, h4, h5⟩
  have h4' : ∀ i, i < q.nodes.length → sndN nmQ (ix q.nodes (i : Int)) = true ∧ ((ix q.nodes (i : Int)).capture = noB ∨ capN (ix q.nodes (i : Int)).capture q.nodes = (i : Int)) := fun i hi => by
   have := h4 i hi
   unfold nodeB at this
   simpa only [Bool.and_eq_true, Bool.or_eq_true, decide_eq_true_eq] using this
  refine ⟨h1, h2, hbeh.1 h3, fun x hx => ?_, nodup_of fun i hi => (h4' i hi).2, fun c hc => (hcond c).1 (h5 c hc)⟩
  obtain ⟨i, hi, rfl⟩ := List.getElem_of_mem hx
  rw [← ix_el hi]
  exact (h4' i hi).1
 ·rintro ⟨h1, h2, h3, h4, h5, h6⟩
  refine ⟨h1, h2, hbeh.2 h3, fun i hi => ?_, fun c hc => (hcond c).2 (h6 c hc)⟩
  unfold nodeB
  simp only [Bool.and_eq_true, Bool.or_eq_true, decide_eq_true_eq]
  exact ⟨h4 _ (ix_mem hi), of_nodup h5 hi⟩
theorem shapedB_forest {q : api_Query} (h : shapedB q = true) : ∃ x k, q.nodes = x :: flatP k ∧ ShapedQ nmQ x k q.conds := by
 obtain ⟨x, k, h1, h2⟩ := shaped_iffQ.1 (shapedB_iff.1 h)
 refine ⟨x, k, ?_, h2⟩
 rw [h1]
 simp [flatP]
theorem shapedB_of {x : api_PatNode} {k : PF} {l : List api_Cond} (h : ShapedQ nmQ x k l) : shapedB ⟨x :: flatP k, l⟩ = true := by
 refine shapedB_iff.2 (shaped_iffQ.2 ⟨x, k, ?_, h⟩)
 simp [flatP]
def SzT (t : Tk) : Prop := t.2.size ≤ 1048576
theorem mkW_sz {t : Tk} (h : SzT t) : (mkW t).text.size ≤ 1048576 ∧ (-9223372036854775808 ≤ (mkW t).n ∧ (mkW t).n ≤ 9223372036854775807) := ⟨h, show (-9223372036854775808 : Int) ≤ 0 by decide, show (0 : Int) ≤ 9223372036854775807 by decide⟩
theorem wordsP_sz : ∀ (g : PF), (∀ x ∈ flatP g, SzN x) → ∀ t ∈ wordsP g, SzT t
 | .nil, _, t, ht => by cases ht
 | .cons x k s, hz, t, ht => by
  have h0 := hz x (by simp [flatP])
  obtain ⟨h1, h2, h3⟩ := h0
  have hk := wordsP_sz k (fun y hy => hz y (by simp [flatP, hy]))
  have hs := wordsP_sz s (fun y hy => hz y (by simp [flatP, hy]))
  have small : ∀ b : ByteArray, b.size ≤ 8 → b.size ≤ 1048576 := fun b h => by omega
  simp only [wordsP, List.mem_append] at ht
  rcases ht with ht | ht | ht | ht
  ·unfold fldW at ht
   split at ht
   ·cases ht
   ·rcases List.mem_cons.1 ht with rfl | ht
    ·exact h2
    ·rw [List.mem_singleton.1 ht]; exact small _ (by decide)
  ·split at ht
   ·rw [List.mem_singleton.1 ht]; exact h1
   ·rcases List.mem_cons.1 ht with rfl | ht
    ·exact small _ (by decide)
    rcases List.mem_cons.1 ht with rfl | ht
    ·unfold nameW SzT
     dsimp only
     split
     ·exact small _ (by decide)
     ·exact h1
    rcases List.mem_append.1 ht with ht | ht
    ·exact hk t ht
    ·rw [List.mem_singleton.1 ht]; exact small _ (by decide)
  ·unfold capW at ht
   split at ht
   ·cases ht
   ·rcases List.mem_cons.1 ht with rfl | ht
    ·exact small _ (by decide)
    ·rw [List.mem_singleton.1 ht]; exact h3
  ·exact hs t ht
theorem wordsC_sz {c : api_Cond} (h : c.a.size ≤ 1048576 ∧ c.b.size ≤ 1048576 ∧ c.text.size ≤ 1048576) : ∀ t ∈ wordsC c, SzT t := fun t ht => by
 obtain ⟨h1, h2, h3⟩ := h
 have small : ∀ b : ByteArray, b.size ≤ 8 → b.size ≤ 1048576 := fun b h => by omega
 unfold wordsC at ht
 rcases List.mem_cons.1 ht with rfl | ht
 ·unfold SzT
  dsimp only
  split
  ·exact small _ (by decide)
  ·exact small _ (by decide)
 rcases List.mem_cons.1 ht with rfl | ht
 ·exact small _ (by decide)
 rcases List.mem_cons.1 ht with rfl | ht
 ·exact h1
 rcases List.mem_cons.1 ht with rfl | ht
 ·exact small _ (by decide)
 split at ht
 ·rw [List.mem_singleton.1 ht]; exact h3
 ·rcases List.mem_cons.1 ht with rfl | ht
  ·exact small _ (by decide)
  ·rw [List.mem_singleton.1 ht]; exact h2
theorem wordsQ_sz {x : api_PatNode} {k : PF} {l : List api_Cond} (hz : SzQ ⟨x :: flatP k, l⟩) : ∀ t ∈ wordsQ x k l, SzT t := fun t ht => by
 unfold wordsQ at ht
 rcases List.mem_append.1 ht with ht | ht
 ·exact wordsP_sz (.cons x k .nil) (fun y hy => hz.1 y (by simpa [flatP] using hy)) t ht
 ·obtain ⟨c, hc, ht⟩ := List.mem_flatMap.1 ht
  exact wordsC_sz (hz.2 c hc) t ht
theorem wordsQ_len {x : api_PatNode} {k : PF} {l : List api_Cond} (h : (flatP k).length + 1 ≤ 32) (hc : l.length ≤ 16) : (wordsQ x k l).length ≤ 400 := by
 have hcw : ∀ c : api_Cond, (wordsC c).length ≤ 6 := fun c => by unfold wordsC; by_cases g : c.b = noB <;> simp [g]
 have h1 : ∀ l : List api_Cond, (l.flatMap wordsC).length ≤ 6 * l.length := fun l => by
  induction l with
  | nil => exact Nat.le_refl _
  | cons c l ih =>
   rw [List.flatMap_cons, List.length_append, List.length_cons]
   have := hcw c
   omega
 have h2 := wordsP_len (.cons x k .nil)
 simp only [flatP, List.append_nil, List.length_cons] at h2
 unfold wordsQ
 rw [List.length_append]
 have := h1 l
 omega
def textQ (x : api_PatNode) (k : PF) (l : List api_Cond) : ByteArray := joinF ((wordsQ x k l).map mkW)
theorem ShapedQ.len {x : api_PatNode} {k : PF} {l : List api_Cond} (h : ShapedQ nmQ x k l) : (flatP k).length + 1 ≤ 32 ∧ l.length ≤ 16 := by
 obtain ⟨_, _, _, h4, h5, _⟩ := h
 simp only [flatP, List.append_nil, List.length_cons] at h4
 exact ⟨h4, h5⟩
theorem wordsQ_join {x : api_PatNode} {k : PF} {l : List api_Cond} (h : ShapedQ nmQ x k l) (hz : SzQ ⟨x :: flatP k, l⟩) : ((wordsQ x k l).map mkW).length ≤ 400 ∧ ∀ w ∈ (wordsQ x k l).map mkW, w.text.size ≤ 1048576 ∧ (-9223372036854775808 ≤ w.n ∧ w.n ≤ 9223372036854775807) := by
 refine ⟨by rw [List.length_map]; exact wordsQ_len h.len.1 h.len.2, fun w hw => ?_⟩
 obtain ⟨t, ht, rfl⟩ := List.mem_map.1 hw
 exact mkW_sz (wordsQ_sz hz t ht)
theorem print_shaped {x : api_PatNode} {k : PF} {l : List api_Cond} (h : ShapedQ nmQ x k l) (hz : SzQ ⟨x :: flatP k, l⟩) : query_Print ⟨x :: flatP k, l⟩ (textQ x k l, 0) := by
 obtain ⟨hl1, hl2⟩ := h.len
 obtain ⟨w1, w2⟩ := wordsQ_join h hz
 refine ⟨true, ?_, ?_⟩
 ·rw [← shapedB_of h]; exact qshaped_ok hz
 rw [if_pos rfl]
 have hn := qnode (q := ⟨x :: flatP k, l⟩) (by simp only [List.length_cons]; omega) ((flatP k).length + 1) x k [] [] [] (by simp) h.1 h.2.1 (Nat.le_refl _) (by simp only [List.length_nil]; omega)
 refine ⟨_, ⟨_, hn⟩, ?_⟩
 have hwp := wordsP_len (.cons x k .nil)
 simp only [flatP, List.append_nil, List.length_cons] at hwp
 refine qconds (q := ⟨x :: flatP k, l⟩) hl2 (l := [] ++ (wordsP (.cons x k .nil)).map mkW) (by rw [List.nil_append, List.length_map]; omega) ?_
 rw [List.nil_append, ← List.map_append]
 show words_Join ((wordsQ x k l).map mkW) _
 have hsz := join_size (fun w hw => (w2 w hw).1)
 have : ((wordsQ x k l).map mkW).length * (4 * 1048576 + 9) ≤ 400 * (4 * 1048576 + 9) := Nat.mul_le_mul_right _ w1
 exact joinF_ok (by omega) w2 (by omega)
theorem refprint_shaped {x : api_PatNode} {k : PF} {l : List api_Cond} (h : ShapedQ nmQ x k l) (hz : SzQ ⟨x :: flatP k, l⟩) : trellisref20_Print ⟨x :: flatP k, l⟩ (textQ x k l, 0) := by
 obtain ⟨hl1, hl2⟩ := h.len
 obtain ⟨w1, w2⟩ := wordsQ_join h hz
 refine ⟨true, ?_, ?_⟩
 ·rw [← shapedB_of h]; exact refshaped_ok hz
 rw [if_pos rfl]
 have hn := rnodew (v := x :: flatP k) (by simp only [List.length_cons]; omega) ((flatP k).length + 1) x k [] [] (by simp) h.1 h.2.1 (Nat.le_refl _)
 refine ⟨_, ⟨_, hn⟩, ?_⟩
 have hwp := wordsP_len (.cons x k .nil)
 simp only [flatP, List.append_nil, List.length_cons] at hwp
 refine rcondsw (q := ⟨x :: flatP k, l⟩) hl2 (l := (wordsP (.cons x k .nil)).map mkW) (by rw [List.length_map]; omega) ?_
 rw [← List.map_append]
 show trellisref8_Join ((wordsQ x k l).map mkW) _
 exact refJoin_ok (by omega) w2
theorem print_not {q : api_Query} (h : shapedB q = false) (hz : SzQ q) : query_Print q (noB, 200) ∧ trellisref20_Print q (noB, 200) := by
 refine ⟨⟨false, ?_, ?_⟩, ⟨false, ?_, ?_⟩⟩
 ·rw [← h]; exact qshaped_ok hz
 ·rw [if_neg (by simp)]
 ·rw [← h]; exact refshaped_ok hz
 ·rw [if_neg (by simp)]
theorem print_both {q : api_Query} (hz : SzQ q) : ∃ p, query_Print q p ∧ trellisref20_Print q p := by
 cases h : shapedB q with
 | false => exact ⟨_, print_not h hz⟩
 | true =>
  obtain ⟨x, k, h1, h2⟩ := shapedB_forest h
  obtain ⟨ns, cs⟩ := q
  dsimp only at h1 h2
  subst h1
  exact ⟨_, print_shaped h2 hz, refprint_shaped h2 hz⟩
end Go.Proofs.YtjookebbmfiidaaDoor.L
