/- JSON: depth and keys; JsonBlanks. Its condition: the text is of at most 2^30 bytes. -/
import Derived.Test.YtmfopcbjgbphaaaDoorQ19
set_option linter.unusedVariables false
namespace Go.Proofs.YtmfopcbjgbphaaaDoor.L
open Go.Proofs.YtmfopcbjgbphaaaDoor.B Go.Proofs.YtmfopcbjgbphaaaDoor.R
theorem headL_deep (d : Nat) (key : ByteArray) (t : List Int) : headL (d + 1) key t = headL d key t ∨ (headL (d + 1) key t = .done (.no 251 t) ∧ t ≠ []) := by
 unfold headL
 by_cases h1 : isL [110] t = true
 ·rw [if_pos h1, if_pos h1]; exact .inl rfl
 rw [if_neg h1, if_neg h1]
 by_cases h2 : isL [102] t = true
 ·rw [if_pos h2, if_pos h2]; exact .inl rfl
 rw [if_neg h2, if_neg h2]
 by_cases h3 : isL [116] t = true
 ·rw [if_pos h3, if_pos h3]; exact .inl rfl
 rw [if_neg h3, if_neg h3]
 by_cases h4 : isL [34] t = true
 ·rw [if_pos h4, if_pos h4]; exact .inl rfl
 rw [if_neg h4, if_neg h4]
 by_cases h5 : isL [91, 123] t = true
 ·rw [if_pos h5, if_pos h5]
  unfold manyH
  by_cases h6 : d + 1 ≥ 64
  ·rw [if_pos h6]
   refine .inr ⟨rfl, ?_⟩
   intro e
   rw [e] at h5
   cases h5
  ·rw [if_neg h6, if_neg (by omega : ¬ d ≥ 64)]; exact .inl rfl
 ·rw [if_neg h5, if_neg h5]; exact .inl rfl
theorem val_more : ∀ (f : Nat), (∀ d key t p q, valL f d key t = .ok p q → valL f (d + 1) key t = .ok p q ∨ ∃ w, w ≠ [] ∧ w.length ≤ t.length ∧ valL f (d + 1) key t = .no 251 w) ∧ (∀ d obj seen t k q, itemsL f d obj seen t = .ok k q → itemsL f (d + 1) obj seen t = .ok k q ∨ ∃ w, w ≠ [] ∧ w.length ≤ t.length ∧ itemsL f (d + 1) obj seen t = .no 251 w)
 | 0 => ⟨fun d key t p q h => (by cases h), fun d obj seen t k q h => (by cases h)⟩
 | f + 1 => by
  obtain ⟨i1, i2⟩ := val_more f
  refine ⟨fun d key t p q h => ?_, fun d obj seen t k q h => ?_⟩
  ·rw [valL_succ] at h
   rw [valL_succ]
   rcases headL_deep d key t with g | ⟨g, g2⟩
   ·rw [g]
    have hs := (headL_sh d key t).2
    cases e1 : headL d key t with
    | done r => rw [e1] at h; exact .inl h
    | many obj t1 =>
     rw [e1] at h
     have hlt := hs obj t1 e1
     dsimp only at h ⊢
     cases e2 : itemsL f (d + 1) obj [] t1 with
     | no e r => rw [e2] at h; cases h
     | ok k r =>
      rw [e2] at h
      rcases i2 _ _ _ _ _ _ e2 with g3 | ⟨w, g3, g4, g5⟩
      ·rw [g3]; exact .inl h
      ·rw [g5]; exact .inr ⟨w, g3, by omega, rfl⟩
   ·rw [g]
    exact .inr ⟨t, g2, Nat.le_refl _, rfl⟩
  ·rw [itemsL_succ] at h
   rw [itemsL_succ]
   have hks := keyL_sh obj seen t
   cases e1 : keyL obj seen t with
   | no e r => rw [e1] at h; cases h
   | ok key t2 =>
    rw [e1] at h hks
    have hks' : t2.length < t.length + 1 := hks
    dsimp only at h ⊢
    have hvs := (val_sh f).1 d key t2
    cases e2 : valL f d key t2 with
    | no e r => rw [e2] at h; cases h
    | ok p r =>
     rw [e2] at h hvs
     have hvs' : r.length < t2.length := hvs
     dsimp only at h
     rcases i1 _ _ _ _ _ e2 with g3 | ⟨w, g3, g4, g5⟩
     ·rw [g3]
      dsimp only
      by_cases c1 : isL (endO obj) (blL r) = true
      ·rw [if_pos c1] at h ⊢; exact .inl h
      ·rw [if_neg c1] at h ⊢
       by_cases c2 : isL [44] (blL r) = true
       ·rw [if_pos c2] at h ⊢
        have hl1 := blL_len r
        have hl2 := tail_le (blL r)
        have hl3 := blL_len (blL r).tail
        cases e3 : itemsL f d obj (key :: seen) (blL (blL r).tail) with
        | no e u => rw [e3] at h; cases h
        | ok s u =>
         rw [e3] at h
         rcases i2 _ _ _ _ _ _ e3 with g6 | ⟨w, g6, g7, g8⟩
         ·rw [g6]; exact .inl h
         ·rw [g8]; exact .inr ⟨w, g6, by omega, rfl⟩
       ·rw [if_neg c2] at h; cases h
     ·rw [g5]; exact .inr ⟨w, g3, by omega, rfl⟩
def rek (key : ByteArray) : Res (JNd × F) → Res (JNd × F)
 | .ok p q => .ok ({ p.1 with key := key }, p.2) q
 | .no e q => .no e q
theorem rek_many (obj : Bool) (key key' : ByteArray) (R : Res F) : manyR obj key R = rek key (manyR obj key' R) := by cases R <;> rfl
theorem headL_key (d : Nat) (key key' : ByteArray) (t : List Int) : headL d key t = (match headL d key' t with
  | .done r => .done (rek key r)
  | .many obj t1 => .many obj t1) := by
 have hw : ∀ kind w, wordH kind w key t = rek key (wordH kind w key' t) := fun kind w => by unfold wordH; split <;> rfl
 unfold headL
 by_cases h1 : isL [110] t = true
 ·rw [if_pos h1, if_pos h1, hw]
 rw [if_neg h1, if_neg h1]
 by_cases h2 : isL [102] t = true
 ·rw [if_pos h2, if_pos h2, hw]
 rw [if_neg h2, if_neg h2]
 by_cases h3 : isL [116] t = true
 ·rw [if_pos h3, if_pos h3, hw]
 rw [if_neg h3, if_neg h3]
 by_cases h4 : isL [34] t = true
 ·rw [if_pos h4, if_pos h4]
  unfold strH
  split <;> rfl
 rw [if_neg h4, if_neg h4]
 by_cases h5 : isL [91, 123] t = true
 ·rw [if_pos h5, if_pos h5]
  unfold manyH
  by_cases h6 : d ≥ 64
  ·rw [if_pos h6, if_pos h6]; rfl
  rw [if_neg h6, if_neg h6]
  by_cases h7 : isL (endO (isL [123] t)) (blL t.tail) = true
  ·rw [if_pos h7, if_pos h7]; rfl
  ·rw [if_neg h7, if_neg h7]
 ·rw [if_neg h5, if_neg h5]
  unfold numH
  split <;> rfl
theorem valN_key (d : Nat) (key key' : ByteArray) (t : List Int) : valN d key t = rek key (valN d key' t) := by
 rw [valN_eq, valN_eq, headL_key d key key' t]
 cases headL d key' t with
 | done r => rfl
 | many obj t1 => exact rek_many _ _ _ _
theorem valN_own {d : Nat} {key : ByteArray} {t : List Int} {p : JNd × F} {q : List Int} (h : valN d key t = .ok p q) : p.1.key = key := by
 have h2 := valN_key d key key t
 rw [h] at h2
 injection h2 with h2 _
 rw [h2]
theorem val_first {d : Nat} {key : ByteArray} {x : Int} (hx : x = 93 ∨ x = 125) {t : List Int} {p : JNd × F} {q : List Int} (h : valN d key t = .ok p q) : isL [x] t = false := by
 cases t with
 | nil => rfl
 | cons y u =>
  rw [isL_cons]
  by_cases hy : y = x
  ·exfalso
   subst hy
   rw [valN_eq] at h
   have hh : headL d key (y :: u) = .done (.no 250 (y :: u)) := by
    rcases hx with hx | hx <;> subst hx <;> rfl
   rw [hh] at h
   cases h
  ·simp only [List.contains_cons, List.contains_nil, Bool.or_false]
   rw [beq_eq_false_iff_ne]
   exact hy
theorem parse_val {t : List Int} {f : F} {r : List Int} (h : parseL t = .ok f r) : ∃ p q, valN 0 ⟨#[]⟩ (blL t) = .ok p q ∧ blL q = [] ∧ f = .cons p.1 p.2 .nil ∧ r = [] ∧ p.1.key = ⟨#[]⟩ := by
 unfold parseL at h
 cases e : valN 0 ⟨#[]⟩ (blL t) with
 | no ee q => rw [e] at h; cases h
 | ok p q =>
  rw [e] at h
  dsimp only at h
  by_cases g : blL q = []
  ·rw [if_pos g] at h
   injection h with h1 h2
   exact ⟨p, q, rfl, g, h1.symm, h2.symm, valN_own e⟩
  ·rw [if_neg g] at h; cases h
theorem val_ne {d : Nat} {key : ByteArray} {t : List Int} {p : JNd × F} {q : List Int} (h : valN d key t = .ok p q) : t ≠ [] := by
 intro e
 subst e
 have : valN d key [] = .no 250 [] := val_blanks (o := []) (fun x hx => by cases hx) d key
 rw [this] at h
 cases h
theorem items_one {d : Nat} {obj : Bool} {key : ByteArray} {t : List Int} {p : JNd × F} {q : List Int} (hv : valN d key t = .ok p q ∨ ∃ w, w ≠ [] ∧ w.length ≤ t.length ∧ valN d key t = .no 251 w) (hq : blL q = []) {t0 : List Int} (hk : keyL obj [] t0 = .ok key (t ++ endO obj)) : itemsN d obj [] t0 = .ok (.cons p.1 p.2 .nil) [] ∨ ∃ w, w ≠ [] ∧ w.length ≤ t.length + 1 ∧ itemsN d obj [] t0 = .no 251 w := by
 rw [itemsN_eq, hk]
 dsimp only
 rcases hv with h | ⟨w, g1, g2, g3⟩
 ·have hl := @valN_loc (endO obj) d key t (.inr ⟨by rw [h]; rfl, by have := stop_end obj []; rwa [List.append_nil] at this⟩)
  rw [hl, h]
  left
  show (if isL (endO obj) (blL (q ++ endO obj)) = true then Res.ok (F.cons p.1 p.2 .nil) (blL (q ++ endO obj)).tail else _) = _
  have hb : blL (q ++ endO obj) = endO obj := by
   rw [blL_ahead (bl_of hq)]
   cases obj <;> rfl
  rw [hb, if_pos (by cases obj <;> rfl)]
  rfl
 ·have hl := @valN_loc (endO obj) d key t (.inl (by rw [g3]; exact g1))
  rw [hl, g3]
  right
  exact ⟨w ++ endO obj, by simp [endO], by rw [List.length_append]; show w.length + 1 ≤ _; omega, rfl⟩
theorem list_one {t : List Int} {f : F} {r : List Int} (h : parseL t = .ok f r) : (∃ R, parseL (91 :: (t ++ [93])) = .ok (.cons (mkN 6 ⟨#[]⟩ [] 1) f .nil) R ∧ parseL (123 :: 34 :: 107 :: 34 :: 58 :: (t ++ [125])) = .ok (.cons (mkN 7 ⟨#[]⟩ [] 1) (match f with | .nil => .nil | .cons x k s => .cons { x with key := ⟨#[107]⟩ } k s) .nil) R) ∨ ∃ w, w.length ≤ t.length + 1 ∧ parseL (91 :: (t ++ [93])) = .no 251 w := by
 obtain ⟨p, q, hv, hq, rfl, rfl, hkey⟩ := parse_val h
 have hne := val_ne hv
 have hv1 : valN 1 ⟨#[]⟩ (blL t) = .ok p q ∨ ∃ w, w ≠ [] ∧ w.length ≤ (blL t).length ∧ valN 1 ⟨#[]⟩ (blL t) = .no 251 w := (val_more _).1 0 _ _ _ _ hv
 have hbl := blL_len t
 have hap : ∀ o : List Int, blL (t ++ o) = blL t ++ o := fun o => blL_loc hne
 have hh1 : headL 0 ⟨#[]⟩ (91 :: (t ++ [93])) = .many false (blL t ++ [93]) := by
  show manyH 0 false ⟨#[]⟩ (91 :: (t ++ [93])) = _
  unfold manyH
  rw [if_neg (by decide), List.tail_cons, hap, isL_ne hne, if_neg]
  show ¬ isL [93] (blL t) = true
  rw [val_first (.inl rfl) hv]
  decide
 have hp1 : ∀ R : Res F, itemsN 1 false [] (blL t ++ [93]) = R → parseL (91 :: (t ++ [93])) = (match manyR false ⟨#[]⟩ R with
  | .no e r => .no e r
  | .ok p r => if blL r = [] then .ok (.cons p.1 p.2 .nil) [] else .no 250 (blL r)) := fun R hR => by
  unfold parseL
  have : blL (91 :: (t ++ [93])) = 91 :: (t ++ [93]) := rfl
  rw [this, valN_eq, hh1]
  dsimp only
  rw [hR]
  rfl
 rcases items_one (obj := false) (t0 := blL t ++ [93]) hv1 hq rfl with h1 | ⟨w, h1, h2, h3⟩
 ·left
  have hv2 : valN 1 ⟨#[]⟩ (blL t) = .ok p q := by
   rcases hv1 with g | ⟨w, g1, g2, g3⟩
   ·exact g
   ·exfalso
    have hl := @valN_loc ([93] : List Int) 1 ⟨#[]⟩ (blL t) (.inl (by rw [g3]; exact g1))
    rw [g3] at hl
    rw [itemsN_eq] at h1
    have hk : keyL false [] (blL t ++ [93]) = .ok ⟨#[]⟩ (blL t ++ [93]) := rfl
    rw [hk] at h1
    dsimp only at h1
    rw [hl] at h1
    cases h1
  have hv3 : valN 1 ⟨#[107]⟩ (blL t) = .ok ({ p.1 with key := ⟨#[107]⟩ }, p.2) q := by
   rw [valN_key 1 ⟨#[107]⟩ ⟨#[]⟩, hv2]; rfl
  have hk : keyL true [] (34 :: 107 :: 34 :: 58 :: (t ++ [125])) = .ok ⟨#[107]⟩ (blL t ++ [125]) := by
   have hs := strQ_back (s := ⟨#[107]⟩) (by decide +kernel) (58 :: (t ++ [125]))
   have hq3 : quoteL (bsOf ⟨#[107]⟩) = [34, 107, 34] := by decide +kernel
   rw [hq3] at hs
   have hs' : strQ (34 :: 107 :: 34 :: 58 :: (t ++ [125])) = (some (bsOf ⟨#[107]⟩), 58 :: (t ++ [125])) := hs
   unfold keyL
   rw [if_pos rfl, hs']
   dsimp only
   rw [ofBs_bsOf]
   have h58 : blL (58 :: (t ++ [125])) = 58 :: (t ++ [125]) := rfl
   rw [if_neg (by simp [inK]), h58, if_pos (show isL [58] (58 :: (t ++ [125])) = true from rfl), List.tail_cons, hap]
  have hh2 : headL 0 ⟨#[]⟩ (123 :: 34 :: 107 :: 34 :: 58 :: (t ++ [125])) = .many true (34 :: 107 :: 34 :: 58 :: (t ++ [125])) := rfl
  rcases items_one (obj := true) (t0 := 34 :: 107 :: 34 :: 58 :: (t ++ [125])) (.inl hv3) hq hk with h2 | ⟨w, g1, g2, g3⟩
  ·refine ⟨[], ?_, ?_⟩
   ·rw [hp1 _ h1]
    rfl
   ·unfold parseL
    have : blL (123 :: 34 :: 107 :: 34 :: 58 :: (t ++ [125])) = 123 :: 34 :: 107 :: 34 :: 58 :: (t ++ [125]) := rfl
    rw [this, valN_eq, hh2]
    dsimp only
    rw [h2]
    rfl
  ·exfalso
   have hl := @valN_loc (endO true) 1 ⟨#[107]⟩ (blL t) (.inr ⟨by rw [hv3]; rfl, by have := stop_end true []; rwa [List.append_nil] at this⟩)
   rw [itemsN_eq, hk] at g3
   dsimp only at g3
   have hl' : valN 1 ⟨#[107]⟩ (blL t ++ [125]) = .ok ({ p.1 with key := ⟨#[107]⟩ }, p.2) (q ++ [125]) := by
    have := hl
    rw [hv3] at this
    exact this
   rw [hl'] at g3
   dsimp only at g3
   have hb : blL (q ++ [125]) = [125] := by rw [blL_ahead (bl_of hq)]; rfl
   rw [hb, if_pos (show isL (endO true) [125] = true from rfl)] at g3
   cases g3
 ·right
  refine ⟨w, by omega, ?_⟩
  rw [hp1 _ h3]
  rfl
theorem parse_ahead {a t : List Int} (ha : Bl a) : parseL (a ++ t) = parseL t := by
 unfold parseL
 rw [blL_ahead ha]
theorem parse_around {a t : List Int} (ha : Bl a) {f : F} {r : List Int} (h : parseL t = .ok f r) : parseL (a ++ t ++ a) = .ok f [] := by
 obtain ⟨p, q, hv, hq, rfl, rfl, _⟩ := parse_val h
 rw [List.append_assoc, parse_ahead ha]
 unfold parseL
 have hne := val_ne hv
 rw [blL_loc hne]
 have hl := @valN_loc a 0 ⟨#[]⟩ (blL t) (.inr ⟨by rw [hv]; rfl, ha.stop⟩)
 rw [hl, hv]
 show (if blL (q ++ a) = [] then Res.ok (F.cons p.1 p.2 .nil) [] else _) = _
 rw [if_pos (by rw [blL_ahead (bl_of hq)]; exact ha.bl)]
abbrev spB : List ByteArray := [⟨#[32]⟩, ⟨#[9]⟩, ⟨#[10]⟩, ⟨#[13]⟩]
theorem sp_fin : ∀ k : Fin 9, ∃ b ∈ blankB, bsOf (arrL spB (Int.tmod ((k.val : Nat) : Int) 4)) = [b] ∧ (arrL spB (Int.tmod ((k.val : Nat) : Int) 4)).size = 1 ∧ 0 ≤ Int.tmod ((k.val : Nat) : Int) 4 ∧ Int.tmod ((k.val : Nat) : Int) 4 < 4 := by decide +kernel
theorem same_self {v : List JNd} (hv : v.length ≤ 2 ^ 42) : tl_same v v true := by
 have := same_ok (v := v) (w := v) hv
 rwa [decide_eq_true rfl] at this
theorem brackets {s : ByteArray} (hs : s.size ≤ 2 ^ 30) {f : F} {r : List Int} (h : parseL (bsOf s) = .ok f r) : tl_JsonBlanks_j2 s (flat f, 0, 0) (!true) (.inr true) := by
 have hlen : (flat f).length ≤ s.size := by
  have := parse_len (s := s)
  rw [h] at this
  exact this
 have e1 : bsOf ((⟨#[91]⟩ : ByteArray) ++ s ++ ⟨#[93]⟩) = 91 :: (bsOf s ++ [93]) := by
  rw [bsOf_app, bsOf_app]; rfl
 have e2 : bsOf ((⟨#[123, 34, 107, 34, 58]⟩ : ByteArray) ++ s ++ ⟨#[125]⟩) = 123 :: 34 :: 107 :: 34 :: 58 :: (bsOf s ++ [125]) := by
  rw [bsOf_app, bsOf_app]; rfl
 have z1 : (⟨#[91]⟩ : ByteArray).size = 1 := rfl
 have z2 : (⟨#[93]⟩ : ByteArray).size = 1 := rfl
 have z3 : (⟨#[123, 34, 107, 34, 58]⟩ : ByteArray).size = 5 := rfl
 have z4 : (⟨#[125]⟩ : ByteArray).size = 1 := rfl
 have h1 := jparse_ok (s := (⟨#[91]⟩ : ByteArray) ++ s ++ ⟨#[93]⟩) (by rw [ByteArray.size_append, ByteArray.size_append]; omega)
 have h2 := jparse_ok (s := (⟨#[123, 34, 107, 34, 58]⟩ : ByteArray) ++ s ++ ⟨#[125]⟩) (by rw [ByteArray.size_append, ByteArray.size_append]; omega)
 rw [e1] at h1
 rw [e2] at h2
 obtain ⟨p, q, hv, hq, rfl, rfl, hkey⟩ := parse_val h
 unfold tl_JsonBlanks_j2
 rw [if_neg (by simp)]
 refine ⟨by omega, by rw [ByteArray.size_append]; omega, _, h1, ?_⟩
 rcases list_one h with ⟨R, g1, g2⟩ | ⟨w, g1, g2⟩
 ·rw [g1] at h1 ⊢
  rw [g2] at h2
  dsimp only at h2
  rw [if_pos (show (parseR ((⟨#[91]⟩ : ByteArray) ++ s ++ ⟨#[93]⟩) (.ok (.cons (mkN 6 ⟨#[]⟩ [] 1) (.cons p.1 p.2 .nil) .nil) R)).2.1 = 0 from rfl)]
  refine ⟨by omega, by rw [ByteArray.size_append]; omega, _, h2, ?_⟩
  rw [if_pos (show (parseR ((⟨#[123, 34, 107, 34, 58]⟩ : ByteArray) ++ s ++ ⟨#[125]⟩) (.ok (.cons (mkN 7 ⟨#[]⟩ [] 1) (.cons { p.1 with key := ⟨#[107]⟩ } p.2 .nil) .nil) R)).2.1 = 0 from rfl)]
  have r1 : (parseR ((⟨#[91]⟩ : ByteArray) ++ s ++ ⟨#[93]⟩) (.ok (.cons (mkN 6 ⟨#[]⟩ [] 1) (.cons p.1 p.2 .nil) .nil) R)).1 = mkN 6 ⟨#[]⟩ [] 1 :: flat (.cons p.1 p.2 .nil) := by
   show flat _ = _
   simp only [flat, List.append_nil]
  have r2 : (parseR ((⟨#[123, 34, 107, 34, 58]⟩ : ByteArray) ++ s ++ ⟨#[125]⟩) (.ok (.cons (mkN 7 ⟨#[]⟩ [] 1) (.cons { p.1 with key := ⟨#[107]⟩ } p.2 .nil) .nil) R)).1 = mkN 7 ⟨#[]⟩ [] 1 :: flat (.cons { p.1 with key := ⟨#[107]⟩ } p.2 .nil) := by
   show flat _ = _
   simp only [flat, List.append_nil]
  have l1 : (flat (.cons p.1 p.2 .nil)).length = (flat p.2).length + 1 := by simp only [flat, List.append_nil, List.length_cons]
  have l2 : (flat (.cons { p.1 with key := ⟨#[107]⟩ } p.2 .nil)).length = (flat p.2).length + 1 := by simp only [flat, List.append_nil, List.length_cons]
  rw [l1] at hlen
  have hw : w64 (((flat (.cons p.1 p.2 .nil)).length : Int) + 1) = ((flat p.2).length : Int) + 2 := by
   rw [w64_nat (by rw [l1]; omega), l1]; omega
  dsimp only
  unfold tl_JsonBlanks_j3
  rw [r1, r2]
  dsimp only
  rw [hw]
  have l3 : ((mkN 6 ⟨#[]⟩ [] 1 :: flat (.cons p.1 p.2 .nil)).length : Int) = ((flat p.2).length : Int) + 2 := by rw [List.length_cons, l1]; omega
  have l4 : ((mkN 7 ⟨#[]⟩ [] 1 :: flat (.cons { p.1 with key := ⟨#[107]⟩ } p.2 .nil)).length : Int) = ((flat p.2).length : Int) + 2 := by rw [List.length_cons, l2]; omega
  rw [l3, l4]
  rw [if_pos rfl, if_pos rfl]
  refine ⟨by omega, ?_⟩
  rw [if_pos (show (ix (mkN 6 ⟨#[]⟩ [] 1 :: flat (.cons p.1 p.2 .nil)) 0).kids = 1 from rfl)]
  refine ⟨by omega, ?_⟩
  rw [if_pos (show (ix (mkN 7 ⟨#[]⟩ [] 1 :: flat (.cons { p.1 with key := ⟨#[107]⟩ } p.2 .nil)) 0).kids = 1 from rfl)]
  refine ⟨by omega, ?_⟩
  have i1 : ix (mkN 7 ⟨#[]⟩ [] 1 :: flat (.cons { p.1 with key := ⟨#[107]⟩ } p.2 .nil)) 1 = { p.1 with key := ⟨#[107]⟩ } := rfl
  rw [i1]
  rw [if_neg (show ¬ (!(seq (⟨#[107]⟩ : ByteArray) (⟨#[107]⟩ : ByteArray))) = true by decide +kernel)]
  refine ⟨by omega, _, rfl, by omega, true, ?_, ?_⟩
  ·have : ((mkN 6 ⟨#[]⟩ [] 1 :: flat (.cons p.1 p.2 .nil)).drop (1 : Int).toNat).take ((((flat p.2).length : Int) + 2).toNat - (1 : Int).toNat) = flat (.cons p.1 p.2 .nil) := by
    show (flat (.cons p.1 p.2 .nil)).take _ = _
    rw [List.take_of_length_le]
    rw [l1]
    show _ ≤ (((flat p.2).length : Int) + 2).toNat - 1
    omega
   rw [this]
   exact same_self (by rw [l1]; omega)
  ·rw [if_pos rfl]
   have hset : (mkN 7 ⟨#[]⟩ [] 1 :: flat (.cons { p.1 with key := ⟨#[107]⟩ } p.2 .nil)).set (1 : Int).toNat { ({ p.1 with key := ⟨#[107]⟩ } : JNd) with key := ⟨#[]⟩ } = mkN 7 ⟨#[]⟩ [] 1 :: flat (.cons p.1 p.2 .nil) := by
    show mkN 7 ⟨#[]⟩ [] 1 :: { ({ p.1 with key := ⟨#[107]⟩ } : JNd) with key := ⟨#[]⟩ } :: (flat p.2 ++ flat .nil) = mkN 7 ⟨#[]⟩ [] 1 :: p.1 :: (flat p.2 ++ flat .nil)
    rw [← hkey]
   rw [hset]
   have l5 : ((mkN 7 ⟨#[]⟩ [] 1 :: flat (.cons p.1 p.2 .nil)).length : Int) = ((flat p.2).length : Int) + 2 := by rw [List.length_cons, l1]; omega
   rw [l5]
   refine ⟨by omega, true, ?_, rfl⟩
   have : ((mkN 7 ⟨#[]⟩ [] 1 :: flat (.cons p.1 p.2 .nil)).drop (1 : Int).toNat).take ((((flat p.2).length : Int) + 2).toNat - (1 : Int).toNat) = flat (.cons p.1 p.2 .nil) := by
    show (flat (.cons p.1 p.2 .nil)).take _ = _
    rw [List.take_of_length_le]
    rw [l1]
    show _ ≤ (((flat p.2).length : Int) + 2).toNat - 1
    omega
   rw [this]
   exact same_self (by rw [l1]; omega)
 ·rw [g2]
  rw [if_neg (show ¬ (parseR ((⟨#[91]⟩ : ByteArray) ++ s ++ ⟨#[93]⟩) (.no 251 w)).2.1 = 0 by show ¬ (251 : Int) = 0; decide), if_pos (show (parseR ((⟨#[91]⟩ : ByteArray) ++ s ++ ⟨#[93]⟩) (.no 251 w)).2.1 = 251 from rfl)]
  unfold tl_JsonBlanks_j4
  rw [decide_eq_true]
  show ((plc ((⟨#[91]⟩ : ByteArray) ++ s ++ ⟨#[93]⟩) w : Nat) : Int) > 0
  unfold plc
  rw [ByteArray.size_append, ByteArray.size_append]
  rw [bsOf_len] at g1
  omega
theorem blanks_end {s a : ByteArray} (hs : s.size ≤ 2 ^ 30) (ha : Bl (bsOf a)) (hz : a.size ≤ 9) (i : Int) : tl_JsonBlanks_b1 i (arrL spB) s (parseR s (parseL (bsOf s))) a i (.inr true) := by
 unfold tl_JsonBlanks_b1
 rw [if_neg (by omega)]
 have hsz : ((a ++ s) ++ a).size = a.size + s.size + a.size := by rw [ByteArray.size_append, ByteArray.size_append]
 refine ⟨by omega, by rw [ByteArray.size_append]; omega, _, jparse_ok (s := (a ++ s) ++ a) (by omega), ?_⟩
 have hbs : bsOf ((a ++ s) ++ a) = bsOf a ++ bsOf s ++ bsOf a := by rw [bsOf_app, bsOf_app]
 rw [hbs]
 cases e : parseL (bsOf s) with
 | ok f r =>
  rw [parse_around ha e]
  rw [if_pos (show (parseR s (.ok f r)).2.1 = 0 from rfl), if_pos (show (parseR ((a ++ s) ++ a) (.ok f [])).2.1 = 0 from rfl)]
  have hlen : (flat f).length ≤ s.size := by
   have := parse_len (s := s)
   rw [e] at this
   exact this
  exact ⟨true, same_self (by show (flat f).length ≤ _; omega), brackets hs e⟩
 | no ee r =>
  have h0 := parse_err e
  have hrest := Rest.parse e
  rw [if_neg (show ¬ (parseR s (.no ee r)).2.1 = 0 by show ¬ ee = 0; omega)]
  rw [List.append_assoc, parse_ahead ha]
  have h1 := plc_le (s := s) r
  by_cases hr : r = []
  ·subst hr
   obtain ⟨q, q1, q2⟩ := parse_end ha e
   rw [q1]
   rw [if_pos (show (parseR s (.no ee [])).2.2 = (s.size : Int) from (plc_end hrest).2 rfl), if_pos (show (parseR ((a ++ s) ++ a) (.no 250 q)).2.1 = 250 from rfl)]
   have hge : (parseR ((a ++ s) ++ a) (.no 250 q)).2.2 ≥ w64 ((a.size : Int) + (parseR s (.no ee [])).2.2) := by
    show ((plc ((a ++ s) ++ a) q : Nat) : Int) ≥ w64 ((a.size : Int) + ((plc s [] : Nat) : Int))
    rw [w64_id (by omega)]
    unfold plc
    rw [hsz]
    rw [bsOf_len] at q2
    simp only [List.length_nil]
    omega
   rw [if_pos hge]
   rfl
  ·have hlt : ¬ (plc s r : Int) = (s.size : Int) := fun h => hr ((plc_end hrest).1 h)
   rw [parse_firm e hr]
   rw [if_neg (show ¬ (parseR s (.no ee r)).2.2 = (s.size : Int) from hlt), if_pos (show (parseR ((a ++ s) ++ a) (.no ee (r ++ bsOf a))).2.1 = (parseR s (.no ee r)).2.1 from rfl)]
   have heq : (parseR ((a ++ s) ++ a) (.no ee (r ++ bsOf a))).2.2 = w64 ((parseR s (.no ee r)).2.2 + (a.size : Int)) := by
    show ((plc ((a ++ s) ++ a) (r ++ bsOf a) : Nat) : Int) = w64 (((plc s r : Nat) : Int) + (a.size : Int))
    rw [w64_id (by omega)]
    have hrl : r.length ≤ s.size := hrest.1
    unfold plc
    rw [hsz, List.length_append, bsOf_len]
    omega
   rw [if_pos heq]
   rfl
theorem blanks_law {s : ByteArray} {n : Int} (hs : s.size ≤ 2 ^ 30) : tl_JsonBlanks s n true := by
 unfold tl_JsonBlanks
 refine ⟨_, started_ok, ?_⟩
 rw [if_pos rfl]
 refine ⟨_, jparse_ok (by omega), _, rfl, ?_⟩
 have key : ∀ (k i : Nat) (a : ByteArray), i + k = 9 → Bl (bsOf a) → a.size = i → Rounds (fun (q : ByteArray × Int) o => tl_JsonBlanks_b1 n (arrL spB) s (parseR s (parseL (bsOf s))) q.1 q.2 o) (a, (i : Int)) true := by
  intro k
  induction k with
  | zero =>
   intro i a hi ha hz
   have hb := blanks_end (s := s) hs ha (by omega) (i : Int)
   refine .done ?_
   show tl_JsonBlanks_b1 _ _ _ _ _ _ _
   by_cases c : (i : Int) < n
   ·unfold tl_JsonBlanks_b1 at hb ⊢
    rw [if_neg (by omega)] at hb
    rw [if_pos c, if_neg (by omega)]
    exact hb
   ·unfold tl_JsonBlanks_b1 at hb ⊢
    rw [if_neg (by omega)] at hb
    rw [if_neg c]
    exact hb
  | succ k ih =>
   intro i a hi ha hz
   by_cases c : (i : Int) < n
   ·obtain ⟨b, b2, b1, b3, b4, b5⟩ := sp_fin ⟨i, by omega⟩
    dsimp only at b1 b3 b4 b5
    refine .next (s' := (a ++ arrL spB (Int.tmod (i : Int) 4), ((i + 1 : Nat) : Int))) ?_ (ih (i + 1) _ (by omega) ?_ ?_)
    ·show tl_JsonBlanks_b1 _ _ _ _ _ _ _
     unfold tl_JsonBlanks_b1
     rw [if_pos c, if_pos (by omega)]
     refine ⟨⟨b4, b5⟩, by dsimp only; omega, ?_⟩
     rw [w64_nat (by omega)]
     rfl
    ·rw [bsOf_app, b1]
     exact ha.app fun x hx => by
      rw [List.mem_singleton] at hx
      rw [hx]; exact b2
    ·rw [ByteArray.size_append, b3, hz]
   ·have hb := blanks_end (s := s) hs ha (by omega) (i : Int)
    refine .done ?_
    show tl_JsonBlanks_b1 _ _ _ _ _ _ _
    unfold tl_JsonBlanks_b1 at hb ⊢
    rw [if_neg (by omega)] at hb
    rw [if_neg c]
    exact hb
 exact key 9 0 _ rfl (fun x hx => by cases hx) rfl
end Go.Proofs.YtmfopcbjgbphaaaDoor.L
