/- JSON: what is printed is read again as it was; the law JsonBack. Condition: sizes. -/
import Derived.Test.YtmfopcbjgbphaaaDoorQ14
set_option linter.unusedVariables false
namespace Go.Proofs.YtmfopcbjgbphaaaDoor.L
open Go.Proofs.YtmfopcbjgbphaaaDoor.B Go.Proofs.YtmfopcbjgbphaaaDoor.R
abbrev heads : List Int := [110, 102, 116, 34, 91, 123, 45, 48, 49, 50, 51, 52, 53, 54, 55, 56, 57]
theorem heads_ok : ∀ y ∈ heads, blankB.contains y = false ∧ y ≠ 93 ∧ y ≠ 125 := by decide
theorem snd_facts {x : api_JNode} (h : sndB x = true) : validB x.key = true ∧ validB x.text = true ∧ (1 ≤ x.kind ∧ x.kind ≤ 7) ∧ (x.kind = 4 → numB x.text = true) ∧ (x.kind ≠ 4 → x.kind ≠ 5 → x.text = ⟨#[]⟩) := by
 unfold sndB at h
 simp only [Bool.and_eq_true, decide_eq_true_eq] at h
 obtain ⟨⟨⟨⟨⟨h1, h2⟩, h3⟩, h4⟩, h5⟩, h6⟩ := h
 refine ⟨h1, h2, h4, fun k => by rw [if_pos k] at h6; exact h6, fun k1 k2 => ?_⟩
 rw [if_neg k1] at h6
 simpa [k2] using h6
theorem mkN_eq {x : api_JNode} {c : Nat} (h : x.kids = (c : Int)) : mkN x.kind x.key (bsOf x.text) c = x := by
 unfold mkN
 rw [ofBs_bsOf, ← h]
theorem num_text {x : api_JNode} (h : numB x.text = true) : ∃ y l, bsOf x.text = y :: l ∧ y ∈ ([45, 48, 49, 50, 51, 52, 53, 54, 55, 56, 57] : List Int) := num_head (by rw [numB_L.1 h])
theorem valT_head {x : api_JNode} (k : F) (h : sndB x = true) : ∃ y l, valT x k = y :: l ∧ y ∈ heads := by
 obtain ⟨f1, f2, f3, f4, f5⟩ := snd_facts h
 unfold valT
 split
 ·exact ⟨_, _, rfl, by decide⟩
 split
 ·exact ⟨_, _, rfl, by decide⟩
 split
 ·exact ⟨_, _, rfl, by decide⟩
 split
 ·rename_i k4
  obtain ⟨y, l, e, hy⟩ := num_text (f4 k4)
  have : ∀ y ∈ ([45, 48, 49, 50, 51, 52, 53, 54, 55, 56, 57] : List Int), y ∈ heads := by decide
  exact ⟨y, l, e, this y hy⟩
 split
 ·exact ⟨_, _, rfl, by decide⟩
 split
 ·exact ⟨_, _, rfl, by decide⟩
 ·exact ⟨_, _, rfl, by decide⟩
theorem textF_head {x : api_JNode} (k s : F) (obj : Bool) (h : sndB x = true) : ∃ y l, textF (.cons x k s) obj true = y :: l ∧ y ∈ heads := by
 rw [textF_cons]
 obtain ⟨y, l, e, hy⟩ := valT_head k h
 cases obj with
 | false => exact ⟨y, l ++ textF s false false, by show [] ++ ([] ++ (valT x k ++ textF s false false)) = _; rw [e]; rfl, hy⟩
 | true => exact ⟨34, _, rfl, by decide⟩
theorem blL_heads {y : Int} {l : List Int} (h : y ∈ heads) : blL (y :: l) = y :: l := by
 unfold blL skipL
 rw [(heads_ok y h).1, if_neg (by simp)]
theorem blL_one {y : Int} {l : List Int} (h : blankB.contains y = false) : blL (y :: l) = y :: l := by
 unfold blL skipL
 rw [h, if_neg (by simp)]
theorem wordL_back : ∀ (w r : List Int), wordL w (w ++ r) = (true, r)
 | [], r => rfl
 | x :: w, r => by
  rw [List.cons_append]
  unfold wordL
  rw [if_pos (by rw [isL_cons]; simp)]
  exact wordL_back w r
theorem take_back (t r : List Int) : (t ++ r).take ((t ++ r).length - r.length) = t := by
 rw [List.length_append, Nat.add_sub_cancel, List.take_left]
theorem val_back {x : api_JNode} {k : F} (hs : sndB x = true) (hkids : x.kids = (cnt k : Int)) {d : Nat} (hd : isMany x = true → d < 64) (hk : isMany x = true → k ≠ .nil → ∀ r, itemsN (d + 1) (isObj x) [] (textF k (isObj x) true ++ (endO (isObj x) ++ r)) = .ok k r) (hfst : ∀ x1 k1 s1, k = .cons x1 k1 s1 → sndB x1 = true) {r : List Int} (hr : Stop r) : valN d x.key (valT x k ++ r) = .ok (x, k) r := by
 obtain ⟨f1, f2, f3, f4, f5⟩ := snd_facts hs
 have hnil : isMany x = false → k = .nil := fun h => cnt_nil (by have := (snd_kids hs).2 h; omega)
 rw [valN_eq]
 have hword : ∀ (n : Int) (w : List Int), x.kind = n → valT x k = w → n ≠ 4 → n ≠ 5 → n ≠ 6 → n ≠ 7 → wordH n w x.key (valT x k ++ r) = .ok (x, k) r := fun n w hn hw h4 h5 h6 h7 => by
  have hm : isMany x = false := by rw [isMany, decide_eq_false (by omega), decide_eq_false (by omega)]; rfl
  obtain rfl := hnil hm
  unfold wordH
  rw [hw, wordL_back, if_pos rfl]
  have ht := f5 (by omega) (by omega)
  have := mkN_eq hkids
  rw [ht, hn] at this
  rw [show ([] : List Int) = bsOf ⟨#[]⟩ from rfl, show (0 : Nat) = cnt .nil from rfl, this]
 by_cases k1 : x.kind = 1
 ·have e : valT x k = [110, 117, 108, 108] := by unfold valT; rw [if_pos k1]
  have := hword 1 _ k1 e (by decide) (by decide) (by decide) (by decide)
  rw [e] at this ⊢
  exact this
 by_cases k2 : x.kind = 2
 ·have e : valT x k = [102, 97, 108, 115, 101] := by unfold valT; rw [if_neg k1, if_pos k2]
  have := hword 2 _ k2 e (by decide) (by decide) (by decide) (by decide)
  rw [e] at this ⊢
  exact this
 by_cases k3 : x.kind = 3
 ·have e : valT x k = [116, 114, 117, 101] := by unfold valT; rw [if_neg k1, if_neg k2, if_pos k3]
  have := hword 3 _ k3 e (by decide) (by decide) (by decide) (by decide)
  rw [e] at this ⊢
  exact this
 by_cases k4 : x.kind = 4
 ·have e : valT x k = bsOf x.text := by unfold valT; rw [if_neg k1, if_neg k2, if_neg k3, if_pos k4]
  have hm : isMany x = false := by rw [isMany, decide_eq_false (by omega), decide_eq_false (by omega)]; rfl
  obtain rfl := hnil hm
  have hn := numB_L.1 (f4 k4)
  obtain ⟨y, l, e1, hy⟩ := num_text (f4 k4)
  have hno : ∀ y ∈ ([45, 48, 49, 50, 51, 52, 53, 54, 55, 56, 57] : List Int), ([110] : List Int).contains y = false ∧ ([102] : List Int).contains y = false ∧ ([116] : List Int).contains y = false ∧ ([34] : List Int).contains y = false ∧ ([91, 123] : List Int).contains y = false := by decide
  obtain ⟨n1, n2, n3, n4, n5⟩ := hno y hy
  have eh : headL d x.key (valT x .nil ++ r) = .done (numH x.key (bsOf x.text ++ r)) := by
   rw [e, e1]
   unfold headL
   rw [List.cons_append, isL_cons, isL_cons, isL_cons, isL_cons, isL_cons, n1, n2, n3, n4, n5]
   rfl
  rw [eh]
  show numH x.key (bsOf x.text ++ r) = _
  unfold numH
  rw [numL_app hr, hn, if_pos rfl]
  show Res.ok (mkN 4 x.key ((bsOf x.text ++ r).take ((bsOf x.text ++ r).length - ([] ++ r).length)) 0, F.nil) ([] ++ r) = _
  rw [List.nil_append, take_back]
  have := mkN_eq hkids
  rw [k4] at this
  rw [show (0 : Nat) = cnt .nil from rfl, this]
 by_cases k5 : x.kind = 5
 ·have e : valT x k = quoteL (bsOf x.text) := by unfold valT; rw [if_neg k1, if_neg k2, if_neg k3, if_neg k4, if_pos k5]
  have hm : isMany x = false := by rw [isMany, decide_eq_false (by omega), decide_eq_false (by omega)]; rfl
  obtain rfl := hnil hm
  have eh : headL d x.key (valT x .nil ++ r) = .done (strH x.key (quoteL (bsOf x.text) ++ r)) := by rw [e]; rfl
  rw [eh]
  show strH x.key (quoteL (bsOf x.text) ++ r) = _
  unfold strH
  rw [strQ_back f2]
  have := mkN_eq hkids
  rw [k5] at this
  dsimp only
  rw [show (0 : Nat) = cnt .nil from rfl, this]
 have ho : isObj x = decide (x.kind = 7) := rfl
 have hm : isMany x = true := by
  simp only [isMany, Bool.or_eq_true, decide_eq_true_eq]
  omega
 have ht := f5 (by omega) (by omega)
 have hd64 := hd hm
 have ek : kindO (isObj x) = x.kind := by
  unfold kindO
  by_cases k7 : x.kind = 7
  ·rw [ho, decide_eq_true k7, if_pos rfl, k7]
  ·rw [ho, decide_eq_false k7, if_neg (by simp)]; omega
 have emk := mkN_eq hkids
 rw [ht] at emk
 have evt : ∃ c, valT x k = c :: (textF k (isObj x) true ++ endO (isObj x)) ∧ ([123] : List Int).contains c = isObj x ∧ ([110] : List Int).contains c = false ∧ ([102] : List Int).contains c = false ∧ ([116] : List Int).contains c = false ∧ ([34] : List Int).contains c = false ∧ ([91, 123] : List Int).contains c = true := by
  unfold valT
  rw [if_neg k1, if_neg k2, if_neg k3, if_neg k4, if_neg k5]
  by_cases k7 : x.kind = 7
  ·rw [if_pos k7, ho, decide_eq_true k7]; exact ⟨123, rfl, by decide, by decide, by decide, by decide, by decide, by decide⟩
  ·rw [if_neg k7, ho, decide_eq_false k7]; exact ⟨91, rfl, by decide, by decide, by decide, by decide, by decide, by decide⟩
 obtain ⟨c, e, c1, c2, c3, c4, c5, c6⟩ := evt
 have eh : headL d x.key (valT x k ++ r) = manyH d (isObj x) x.key (c :: ((textF k (isObj x) true ++ endO (isObj x)) ++ r)) := by
  rw [e, List.cons_append]
  unfold headL
  rw [isL_cons, isL_cons, isL_cons, isL_cons, isL_cons, isL_cons, c1, c2, c3, c4, c5, c6]
  rfl
 rw [eh]
 unfold manyH
 rw [if_neg (by omega), List.tail_cons, List.append_assoc]
 by_cases hkn : k = .nil
 ·subst hkn
  have eb : blL (textF .nil (isObj x) true ++ (endO (isObj x) ++ r)) = endO (isObj x) ++ r := by
   show blL ([] ++ (endO (isObj x) ++ r)) = _
   cases isObj x <;> rfl
  rw [eb]
  have ei : isL (endO (isObj x)) (endO (isObj x) ++ r) = true := by cases isObj x <;> rfl
  rw [if_pos ei]
  show Res.ok (mkN (kindO (isObj x)) x.key [] 0, F.nil) (endO (isObj x) ++ r).tail = _
  rw [ek, show ([] : List Int) = bsOf ⟨#[]⟩ from rfl, show (0 : Nat) = cnt .nil from rfl, emk]
  rfl
 ·obtain ⟨x1, k1', s1, rfl⟩ : ∃ x1 k1' s1, k = .cons x1 k1' s1 := by cases k with
   | nil => exact absurd rfl hkn
   | cons x1 k1' s1 => exact ⟨x1, k1', s1, rfl⟩
  have hb := hk hm hkn r
  -- the first byte of what stands inside
  have hfirst : ∃ y l, textF (.cons x1 k1' s1) (isObj x) true ++ (endO (isObj x) ++ r) = y :: l ∧ blankB.contains y = false ∧ y ≠ 93 ∧ y ≠ 125 := by
   obtain ⟨y, l, e1, hy⟩ := textF_head k1' s1 (isObj x) (hfst _ _ _ rfl)
   exact ⟨y, l ++ (endO (isObj x) ++ r), by rw [e1]; rfl, heads_ok y hy⟩
  obtain ⟨y, l, e1, b1, b2, b3⟩ := hfirst
  rw [e1, blL_one b1]
  have ei : ¬ isL (endO (isObj x)) (y :: l) = true := by
   rw [isL_cons, List.contains_iff_mem]
   unfold endO
   rw [List.mem_singleton]
   split <;> assumption
  rw [if_neg ei]
  show manyR (isObj x) x.key (itemsN (d + 1) (isObj x) [] (y :: l)) = _
  rw [← e1, hb]
  show Res.ok (mkN (kindO (isObj x)) x.key [] _, _) r = _
  rw [ek, show ([] : List Int) = bsOf ⟨#[]⟩ from rfl, emk]
theorem good_parts {x : api_JNode} {k s : F} {d : Nat} {key : Bool} (h : good sndB (.cons x k s) d key = true) : sndB x = true ∧ (key = false → x.key = ⟨#[]⟩) ∧ (isMany x = true → d < 64 ∧ good sndB k (d + 1) (isObj x) = true ∧ (isObj x = true → (keysF k).Nodup)) ∧ (isMany x = false → cnt k = 0) ∧ good sndB s d key = true := by
 unfold good at h
 rw [Bool.and_eq_true, Bool.and_eq_true, Bool.and_eq_true] at h
 obtain ⟨⟨⟨h1, h2⟩, h3⟩, h4⟩ := h
 refine ⟨h1, fun hk => by rw [hk] at h2; simpa using h2, fun hm => ?_, fun hm => ?_, h4⟩
 ·rw [hm] at h3
  simp only [Bool.not_true, Bool.false_and, Bool.false_or, Bool.true_and, Bool.and_eq_true, decide_eq_true_eq, Bool.or_eq_true, Bool.not_eq_true'] at h3
  refine ⟨h3.1.1, h3.1.2, fun ho => ?_⟩
  rcases h3.2 with g | g
  ·rw [ho] at g; cases g
  ·exact g
 ·rw [hm] at h3
  simpa using h3
theorem stop_44 (r : List Int) : Stop (44 :: r) := by unfold Stop; rw [isL_cons]; decide
theorem stop_end (obj : Bool) (r : List Int) : Stop (endO obj ++ r) := by
 unfold Stop endO
 cases obj <;> (rw [List.singleton_append, isL_cons]; decide)
theorem items_back : ∀ (f : F) (d : Nat) (obj : Bool) (seen : List ByteArray) (r : List Int), f ≠ .nil → Fit f → good sndB f d obj = true → (obj = true → (keysF f).Nodup ∧ ∀ q ∈ keysF f, q ∉ seen) → itemsN d obj seen (textF f obj true ++ (endO obj ++ r)) = .ok f r
 | .nil, d, obj, seen, r, hne, hf, hg, hk => absurd rfl hne
 | .cons x k s, d, obj, seen, r, hne, hf, hg, hk => by
  obtain ⟨f1, f2, f3⟩ := hf
  obtain ⟨g1, g2, g3, g4, g5⟩ := good_parts hg
  obtain ⟨v1, _, _, _, _⟩ := snd_facts g1
  have hval : ∀ r, Stop r → valN d x.key (valT x k ++ r) = .ok (x, k) r := fun r hr => by
   refine val_back g1 f1 (fun hm => (g3 hm).1) (fun hm hkn r => ?_) (fun x1 k1 s1 e => ?_) hr
   ·obtain ⟨a1, a2, a3⟩ := g3 hm
    exact items_back k (d + 1) (isObj x) [] r hkn f2 a2 (fun ho => ⟨a3 ho, fun _ _ hm => by cases hm⟩)
   ·cases hm : isMany x with
    | false => have := g4 hm; rw [e] at this; simp [cnt] at this
    | true =>
     obtain ⟨a1, a2, a3⟩ := g3 hm
     rw [e] at a2
     exact (good_parts a2).1
  -- what stands behind the value
  obtain ⟨q, hq⟩ : ∃ q, q = textF s obj false ++ (endO obj ++ r) := ⟨_, rfl⟩
  have htext : textF (.cons x k s) obj true ++ (endO obj ++ r) = keyT x obj ++ (valT x k ++ q) := by
   rw [textF_cons, hq]
   show ([] ++ (keyT x obj ++ (valT x k ++ textF s obj false))) ++ (endO obj ++ r) = _
   simp only [List.nil_append, List.append_assoc]
  obtain ⟨y, l, ey, hy⟩ := valT_head k g1
  have hbv : blL (valT x k ++ q) = valT x k ++ q := by rw [ey, List.cons_append]; exact blL_heads hy
  have hkey : keyL obj seen (keyT x obj ++ (valT x k ++ q)) = .ok x.key (valT x k ++ q) := by
   cases obj with
   | false =>
    show Res.ok (⟨#[]⟩ : ByteArray) ([] ++ (valT x k ++ q)) = _
    rw [List.nil_append, g2 rfl]
   | true =>
    obtain ⟨n1, n2⟩ := hk rfl
    have hns := n2 x.key (by simp [keysF])
    unfold keyL
    rw [if_pos rfl]
    have e : keyT x true ++ (valT x k ++ q) = quoteL (bsOf x.key) ++ (58 :: (valT x k ++ q)) := by
     show (quoteL (bsOf x.key) ++ [58]) ++ (valT x k ++ q) = _
     rw [List.append_assoc]; rfl
    rw [e, strQ_back v1]
    dsimp only
    rw [ofBs_bsOf, inK_no.2 hns, if_neg (by simp), blL_one (by decide), if_pos (by rw [isL_cons]; decide), List.tail_cons, hbv]
  rw [htext, itemsN_eq, hkey]
  dsimp only
  cases s with
  | nil =>
   have eq : q = endO obj ++ r := by rw [hq]; rfl
   rw [hval q (by rw [eq]; exact stop_end _ _), eq]
   dsimp only
   have eb : blL (endO obj ++ r) = endO obj ++ r := by cases obj <;> rfl
   rw [eb, if_pos (by cases obj <;> rfl)]
   cases obj <;> rfl
  | cons x2 k2 s2 =>
   have eq : q = 44 :: (textF (.cons x2 k2 s2) obj true ++ (endO obj ++ r)) := by
    rw [hq, textF_cons, textF_cons]
    show (44 :: (keyT x2 obj ++ (valT x2 k2 ++ textF s2 obj false))) ++ (endO obj ++ r) = 44 :: (([] ++ (keyT x2 obj ++ (valT x2 k2 ++ textF s2 obj false))) ++ (endO obj ++ r))
    rfl
   rw [hval q (by rw [eq]; exact stop_44 _), eq]
   dsimp only
   rw [blL_one (by decide), if_neg (by rw [isL_cons]; unfold endO; split <;> decide), if_pos (by rw [isL_cons]; decide), List.tail_cons]
   obtain ⟨y2, l2, ey2, hy2⟩ := textF_head k2 s2 obj (good_parts g5).1
   have hb2 : blL (textF (.cons x2 k2 s2) obj true ++ (endO obj ++ r)) = textF (.cons x2 k2 s2) obj true ++ (endO obj ++ r) := by rw [ey2, List.cons_append]; exact blL_heads hy2
   rw [hb2, items_back (.cons x2 k2 s2) d obj (x.key :: seen) r (by simp) f3 g5 (fun ho => ?_)]
   ·rfl
   ·obtain ⟨n1, n2⟩ := hk ho
    have e : keysF (.cons x k (.cons x2 k2 s2)) = x.key :: keysF (.cons x2 k2 s2) := rfl
    rw [e, List.nodup_cons] at n1
    rw [e] at n2
    refine ⟨n1.2, fun z hz hm => ?_⟩
    rcases List.mem_cons.1 hm with h | h
    ·rw [h] at hz; exact n1.1 hz
    ·exact n2 z (List.mem_cons_of_mem _ hz) h
theorem parse_back {x : api_JNode} {k : F} (hf : Fit (.cons x k .nil)) (hg : good sndB (.cons x k .nil) 0 false = true) : parseL (valT x k) = .ok (.cons x k .nil) [] := by
 obtain ⟨f1, f2, f3⟩ := hf
 obtain ⟨g1, g2, g3, g4, g5⟩ := good_parts hg
 obtain ⟨y, l, ey, hy⟩ := valT_head k g1
 have hval : valN 0 x.key (valT x k ++ []) = .ok (x, k) [] := by
  refine val_back g1 f1 (fun hm => (g3 hm).1) (fun hm hkn r => ?_) (fun x1 k1 s1 e => ?_) rfl
  ·obtain ⟨a1, a2, a3⟩ := g3 hm
   exact items_back k (0 + 1) (isObj x) [] r hkn f2 a2 (fun ho => ⟨a3 ho, fun _ _ hm => (by cases hm)⟩)
  ·cases hm : isMany x with
   | false => have := g4 hm; rw [e] at this; simp [cnt] at this
   | true =>
    obtain ⟨a1, a2, a3⟩ := g3 hm
    rw [e] at a2
    exact (good_parts a2).1
 rw [List.append_nil, g2 rfl] at hval
 unfold parseL
 rw [ey, blL_heads hy, ← ey, hval]
 rfl
theorem jparse_back {v : List api_JNode} {x : api_JNode} {k : F} (f1 : Fit (.cons x k .nil)) (f2 : v = flat (.cons x k .nil)) (f3 : good sndB (.cons x k .nil) 0 false = true) (hc : (valT x k).length ≤ 2 ^ 40) : json_Parse (ofBs (valT x k)) (v, 0, 0) := by
 have := jparse_ok (s := ofBs (valT x k)) (by rw [ofBs_size]; exact hc)
 rw [bsOf_ofBs (valT_bts x k), parse_back f1 f3] at this
 rw [f2]
 exact this
end Go.Proofs.YtmfopcbjgbphaaaDoor.L
