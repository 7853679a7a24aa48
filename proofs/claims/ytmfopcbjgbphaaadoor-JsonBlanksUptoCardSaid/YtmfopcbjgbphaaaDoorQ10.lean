/- JSON: texts read, byte by byte, as plain functions on lists of bytes. No condition. -/
import Derived.Test.YtmfopcbjgbphaaaDoorQ3
set_option linter.unusedVariables false
namespace Go.Proofs.YtmfopcbjgbphaaaDoor.L
open Go.Proofs.YtmfopcbjgbphaaaDoor.B Go.Proofs.YtmfopcbjgbphaaaDoor.R
def isL (l : List Int) : List Int → Bool
 | [] => false
 | x :: _ => l.contains x
theorem isL_nil (l : List Int) : isL l [] = false := rfl
theorem isL_cons (l : List Int) (x : Int) (t : List Int) : isL l (x :: t) = l.contains x := rfl
theorem isL_ex {l t : List Int} (h : isL l t = true) : ∃ x t', t = x :: t' ∧ l.contains x = true := by
 cases t with
 | nil => cases h
 | cons x t => exact ⟨x, t, rfl, h⟩
theorem isL_tail {l t : List Int} (h : isL l t = true) : t.tail.length + 1 = t.length := by
 obtain ⟨x, t', rfl, _⟩ := isL_ex h
 rfl
theorem tail_le (t : List Int) : t.tail.length ≤ t.length := by rw [List.length_tail]; omega
abbrev blankB : List Int := [32, 9, 10, 13]
abbrev digB : List Int := [48, 49, 50, 51, 52, 53, 54, 55, 56, 57]
abbrev hexs : List Int := [48, 49, 50, 51, 52, 53, 54, 55, 56, 57, 97, 98, 99, 100, 101, 102, 65, 66, 67, 68, 69, 70]
abbrev lows : List Int := [99, 100, 101, 102, 67, 68, 69, 70]
abbrev high2 : List Int := [48, 49, 50, 51, 52, 53, 54, 55, 56, 57, 97, 98, 65, 66]
def skipL (l : List Int) : List Int → List Int
 | [] => []
 | x :: t => if l.contains x = true then skipL l t else x :: t
theorem skipL_len (l : List Int) : ∀ t : List Int, (skipL l t).length ≤ t.length
 | [] => Nat.le_refl _
 | x :: t => by
  unfold skipL
  have := skipL_len l t
  split
  ·simp only [List.length_cons]; omega
  ·exact Nat.le_refl _
def blL (t : List Int) : List Int := skipL blankB t
theorem blL_len (t : List Int) : (blL t).length ≤ t.length := skipL_len blankB t
def digL (t : List Int) : Bool × List Int := if isL digB t = true then (true, skipL digB t) else (false, t)
def expL (t : List Int) : Bool × List Int := if isL [101, 69] t = true then digL (if isL [43, 45] t.tail = true then t.tail.tail else t.tail) else (true, t)
def fracL (t : List Int) : Bool × List Int := if isL [46] t = true then (if isL digB t.tail = true then expL (digL t.tail).2 else (false, t.tail)) else expL t
def intL (t : List Int) : Bool × List Int := if isL [48] t = true then fracL t.tail else if isL digB t = true then fracL (digL t).2 else (false, t)
def numL (t : List Int) : Bool × List Int := intL (if isL [45] t = true then t.tail else t)
theorem skipL_lt {l t : List Int} (h : isL l t = true) : (skipL l t).length < t.length := by
 obtain ⟨x, t', rfl, hx⟩ := isL_ex h
 unfold skipL
 rw [if_pos hx]
 have := skipL_len l t'
 simp only [List.length_cons]; omega
theorem digL_len (t : List Int) : (digL t).2.length ≤ t.length ∧ ((digL t).1 = true → (digL t).2.length < t.length) := by
 unfold digL
 split
 ·rename_i h; exact ⟨skipL_len _ _, fun _ => skipL_lt h⟩
 ·exact ⟨Nat.le_refl _, fun h => by cases h⟩
theorem expL_len (t : List Int) : (expL t).2.length ≤ t.length := by
 unfold expL
 split
 ·have h2 := tail_le t
  have h3 := tail_le t.tail
  have h4 := (digL_len t.tail.tail).1
  have h5 := (digL_len t.tail).1
  split <;> omega
 ·exact Nat.le_refl _
theorem fracL_len (t : List Int) : (fracL t).2.length ≤ t.length := by
 unfold fracL
 have h2 := tail_le t
 split
 ·split
  ·have h1 := expL_len (digL t.tail).2
   have h3 := (digL_len t.tail).1
   omega
  ·exact h2
 ·exact expL_len t
theorem intL_len (t : List Int) : (intL t).2.length ≤ t.length ∧ ((intL t).1 = true → (intL t).2.length < t.length) := by
 unfold intL
 split
 ·rename_i h
  have := fracL_len t.tail
  have := isL_tail h
  exact ⟨by omega, fun _ => by omega⟩
 ·split
  ·rename_i h
   have h1 := fracL_len (digL t).2
   have h2 := (digL_len t).2 (by unfold digL; rw [if_pos h])
   exact ⟨by omega, fun _ => by omega⟩
  ·exact ⟨Nat.le_refl _, fun h => by cases h⟩
theorem numL_len (t : List Int) : (numL t).2.length ≤ t.length ∧ ((numL t).1 = true → (numL t).2.length < t.length) := by
 unfold numL
 split
 ·have h1 := intL_len t.tail
  have h2 := tail_le t
  exact ⟨by omega, fun h => by have := h1.2 h; omega⟩
 ·exact intL_len t
def wordL : List Int → List Int → Bool × List Int
 | [], t => (true, t)
 | w :: ws, t => if isL [w] t = true then wordL ws t.tail else (false, t)
theorem wordL_len : ∀ (w t : List Int), (wordL w t).2.length ≤ t.length ∧ ((wordL w t).1 = true → (wordL w t).2.length + w.length = t.length)
 | [], t => ⟨Nat.le_refl _, fun _ => rfl⟩
 | w :: ws, t => by
  unfold wordL
  split
  ·rename_i h
   have h1 := wordL_len ws t.tail
   have h2 := isL_tail h
   simp only [List.length_cons]
   exact ⟨by omega, fun h => by have := h1.2 h; omega⟩
  ·exact ⟨Nat.le_refl _, fun h => by cases h⟩
def hexV (x : Int) : Int := if x ≤ 57 then x - 48 else if x ≤ 70 then x - 55 else x - 87
def digsL : List (List Int) → List Int → Int → Option Int × List Int
 | [], t, c => (some c, t)
 | l :: ls, t, c => match t with
  | [] => (none, [])
  | x :: t' => if l.contains x = true then digsL ls t' (16 * c + hexV x) else (none, x :: t')
theorem digsL_len : ∀ (ls : List (List Int)) (t : List Int) (c : Int), (digsL ls t c).2.length ≤ t.length
 | [], t, c => Nat.le_refl _
 | l :: ls, [], c => Nat.le_refl _
 | l :: ls, x :: t, c => by
  unfold digsL
  dsimp only
  split
  ·have := digsL_len ls t (16 * c + hexV x)
   simp only [List.length_cons]; omega
  ·exact Nat.le_refl _
def utf8L (c : Int) : List Int :=
 if c < 128 then [c] else if c < 2048 then [192 + c / 64, 128 + c % 64] else if c < 65536 then [224 + c / 4096, 128 + c / 64 % 64, 128 + c % 64] else [240 + c / 262144, 128 + c / 4096 % 64, 128 + c / 64 % 64, 128 + c % 64]
def saysL (x : Int) : Int := if x = 34 then 34 else if x = 92 then 92 else if x = 47 then 47 else if x = 98 then 8 else if x = 102 then 12 else if x = 110 then 10 else if x = 114 then 13 else if x = 116 then 9 else 0
def unitL (t : List Int) : Option (List Int) × List Int :=
 match digsL [hexs, if isL [100, 68] t = true then high2 else hexs, hexs, hexs] t 0 with
 | (none, r) => (none, r)
 | (some c, r) => if 55296 ≤ c ∧ c ≤ 56319 then
   (if isL [92] r = true then (if isL [117] r.tail = true then (match digsL [[100, 68], lows, hexs, hexs] r.tail.tail 0 with
    | (none, q) => (none, q)
    | (some d, q) => (some (utf8L (65536 + 1024 * (c - 55296) + (d - 56320))), q)) else (none, r.tail)) else (none, r))
  else (some (utf8L c), r)
def escL : List Int → Option (List Int) × List Int
 | [] => (none, [])
 | x :: t => if saysL x = 0 then (if x = 117 then unitL t else (none, x :: t)) else (some [saysL x], t)
theorem escL_cons (x : Int) (t : List Int) : escL (x :: t) = if saysL x = 0 then (if x = 117 then unitL t else (none, x :: t)) else (some [saysL x], t) := rfl
theorem unitL_len (t : List Int) : (unitL t).2.length ≤ t.length := by
 unfold unitL
 have h1 := digsL_len [hexs, if isL [100, 68] t = true then high2 else hexs, hexs, hexs] t 0
 generalize digsL [hexs, if isL [100, 68] t = true then high2 else hexs, hexs, hexs] t 0 = p at h1 ⊢
 obtain ⟨o, r⟩ := p
 have h2 := tail_le r
 have h3 := tail_le r.tail
 cases o with
 | none => exact h1
 | some c =>
  dsimp only at h1 ⊢
  split
  ·split
   ·split
    ·have h4 := digsL_len [[100, 68], lows, hexs, hexs] r.tail.tail 0
     generalize digsL [[100, 68], lows, hexs, hexs] r.tail.tail 0 = p at h4 ⊢
     obtain ⟨o, q⟩ := p
     cases o <;> dsimp only at h4 ⊢ <;> omega
    ·dsimp only; omega
   ·exact h1
  ·exact h1
theorem escL_len (t : List Int) : (escL t).2.length ≤ t.length := by
 cases t with
 | nil => exact Nat.le_refl _
 | cons x t =>
  unfold escL
  have := unitL_len t
  simp only [List.length_cons]
  split
  ·split
   ·omega
   ·simp
  ·simp
def strL : Nat → List Int → List Int → Option (List Int) × List Int
 | 0, t, _ => (none, t)
 | _ + 1, [], _ => (none, [])
 | f + 1, x :: t, acc =>
  if x = 34 then (some acc, t)
  else if x = 92 then (match escL t with
   | (none, r) => (none, r)
   | (some b, r) => strL f r (acc ++ b))
  else if x < 32 then (none, x :: t)
  else match charL (x :: t) with
   | (false, r) => (none, r)
   | (true, r) => strL f r (acc ++ (x :: t).take ((x :: t).length - r.length))
theorem strL_len : ∀ (f : Nat) (t acc : List Int), (strL f t acc).2.length ≤ t.length
 | 0, t, acc => Nat.le_refl _
 | f + 1, [], acc => Nat.le_refl _
 | f + 1, x :: t, acc => by
  unfold strL
  split
  ·simp
  split
  ·have h1 := escL_len t
   generalize escL t = p at h1 ⊢
   obtain ⟨o, r⟩ := p
   cases o with
   | none => dsimp only at h1 ⊢; simp only [List.length_cons]; omega
   | some b =>
    have := strL_len f r (acc ++ b)
    dsimp only at h1 ⊢; simp only [List.length_cons]; omega
  split
  ·exact Nat.le_refl _
  ·have h1 := (charL_len (x :: t)).1
   generalize charL (x :: t) = p at h1 ⊢
   obtain ⟨o, r⟩ := p
   cases o with
   | false => exact h1
   | true =>
    have := strL_len f r (acc ++ (x :: t).take ((x :: t).length - r.length))
    dsimp only at h1 ⊢; omega
def strQ (t : List Int) : Option (List Int) × List Int := if isL [34] t = true then strL (t.length + 1) t.tail [] else (none, t)
theorem strQ_len (t : List Int) : (strQ t).2.length ≤ t.length ∧ ((strQ t).1.isSome = true → (strQ t).2.length < t.length) := by
 unfold strQ
 split
 ·rename_i h
  have h1 := strL_len (t.length + 1) t.tail []
  have h2 := isL_tail h
  exact ⟨by omega, fun _ => by omega⟩
 ·exact ⟨Nat.le_refl _, fun h => by cases h⟩
inductive Res (α : Type) where
 | ok (a : α) (t : List Int)
 | no (e : Int) (t : List Int)
def mkN (kind : Int) (key : ByteArray) (text : List Int) (kids : Nat) : JNd := ⟨kind, key, ofBs text, (kids : Int)⟩
inductive Head where
 | done (r : Res (JNd × F))
 | many (obj : Bool) (t : List Int)
def kindO (obj : Bool) : Int := if obj = true then 7 else 6
def endO (obj : Bool) : List Int := [if obj = true then 125 else 93]
def wordH (kind : Int) (w : List Int) (key : ByteArray) (t : List Int) : Res (JNd × F) := if (wordL w t).1 = true then .ok (mkN kind key [] 0, .nil) (wordL w t).2 else .no 250 (wordL w t).2
def strH (key : ByteArray) (t : List Int) : Res (JNd × F) := match strQ t with
 | (some s, r) => .ok (mkN 5 key s 0, .nil) r
 | (none, r) => .no 250 r
def numH (key : ByteArray) (t : List Int) : Res (JNd × F) := if (numL t).1 = true then .ok (mkN 4 key (t.take (t.length - (numL t).2.length)) 0, .nil) (numL t).2 else .no 250 (numL t).2
def manyH (d : Nat) (obj : Bool) (key : ByteArray) (t : List Int) : Head := if d ≥ 64 then .done (.no 251 t) else if isL (endO obj) (blL t.tail) = true then .done (.ok (mkN (kindO obj) key [] 0, .nil) (blL t.tail).tail) else .many obj (blL t.tail)
def headL (d : Nat) (key : ByteArray) (t : List Int) : Head :=
 if isL [110] t = true then .done (wordH 1 [110, 117, 108, 108] key t)
 else if isL [102] t = true then .done (wordH 2 [102, 97, 108, 115, 101] key t)
 else if isL [116] t = true then .done (wordH 3 [116, 114, 117, 101] key t)
 else if isL [34] t = true then .done (strH key t)
 else if isL [91, 123] t = true then manyH d (isL [123] t) key t
 else .done (numH key t)
def keyL (obj : Bool) (seen : List ByteArray) (t : List Int) : Res ByteArray :=
 if obj = true then (match strQ t with
  | (none, r) => .no 250 r
  | (some k, r) => if inK (ofBs k) seen = true then .no 250 t else if isL [58] (blL r) = true then .ok (ofBs k) (blL (blL r).tail) else .no 250 (blL r))
 else .ok ⟨#[]⟩ t
def manyR (obj : Bool) (key : ByteArray) : Res F → Res (JNd × F)
 | .ok k r => .ok (mkN (kindO obj) key [] (cnt k), k) r
 | .no e r => .no e r
def consR (x : JNd) (k : F) : Res F → Res F
 | .ok s q => .ok (.cons x k s) q
 | .no e q => .no e q
mutual
def valL : Nat → Nat → ByteArray → List Int → Res (JNd × F)
 | 0, _, _, t => .no 0 t
 | f + 1, d, key, t => match headL d key t with
  | .done r => r
  | .many obj t1 => manyR obj key (itemsL f (d + 1) obj [] t1)
def itemsL : Nat → Nat → Bool → List ByteArray → List Int → Res F
 | 0, _, _, _, t => .no 0 t
 | f + 1, d, obj, seen, t => match keyL obj seen t with
  | .no e r => .no e r
  | .ok key t2 => match valL f d key t2 with
   | .no e r => .no e r
   | .ok p r =>
    if isL (endO obj) (blL r) = true then .ok (.cons p.1 p.2 .nil) (blL r).tail
    else if isL [44] (blL r) = true then consR p.1 p.2 (itemsL f d obj (key :: seen) (blL (blL r).tail))
    else .no 250 (blL r)
end
theorem valL_succ (f d : Nat) (key : ByteArray) (t : List Int) : valL (f + 1) d key t = match headL d key t with
  | .done r => r
  | .many obj t1 => manyR obj key (itemsL f (d + 1) obj [] t1) := rfl
theorem itemsL_succ (f d : Nat) (obj : Bool) (seen : List ByteArray) (t : List Int) : itemsL (f + 1) d obj seen t = match keyL obj seen t with
  | .no e r => .no e r
  | .ok key t2 => match valL f d key t2 with
   | .no e r => .no e r
   | .ok p r =>
    if isL (endO obj) (blL r) = true then .ok (.cons p.1 p.2 .nil) (blL r).tail
    else if isL [44] (blL r) = true then consR p.1 p.2 (itemsL f d obj (key :: seen) (blL (blL r).tail))
    else .no 250 (blL r) := rfl
def Sh {α : Type} (n : Nat) : Res α → Prop
 | .ok _ r => r.length < n
 | .no _ r => r.length ≤ n
theorem wordH_sh (kind : Int) (w : List Int) (key : ByteArray) (t : List Int) (hw : 0 < w.length) : Sh t.length (wordH kind w key t) := by
 unfold wordH
 have h1 := wordL_len w t
 split
 ·rename_i h
  have := h1.2 h
  show _ < _
  omega
 ·exact h1.1
theorem strH_sh (key : ByteArray) (t : List Int) : Sh t.length (strH key t) := by
 unfold strH
 have h1 := strQ_len t
 generalize strQ t = p at h1 ⊢
 obtain ⟨o, r⟩ := p
 cases o with
 | none => exact h1.1
 | some s => exact h1.2 rfl
theorem numH_sh (key : ByteArray) (t : List Int) : Sh t.length (numH key t) := by
 unfold numH
 have h1 := numL_len t
 split
 ·rename_i h; exact h1.2 h
 ·exact h1.1
theorem headL_sh (d : Nat) (key : ByteArray) (t : List Int) : (∀ r, headL d key t = .done r → Sh t.length r) ∧ (∀ obj t1, headL d key t = .many obj t1 → t1.length < t.length) := by
 have hd : ∀ r0 : Res (JNd × F), Sh t.length r0 → (∀ r, Head.done r0 = .done r → Sh t.length r) ∧ (∀ obj t1, Head.done r0 = .many obj t1 → t1.length < t.length) := fun r0 h => ⟨fun r e => (by injection e with e; rw [← e]; exact h), fun _ _ e => (by cases e)⟩
 unfold headL
 split
 ·exact hd _ (wordH_sh _ _ _ _ (by decide))
 split
 ·exact hd _ (wordH_sh _ _ _ _ (by decide))
 split
 ·exact hd _ (wordH_sh _ _ _ _ (by decide))
 split
 ·exact hd _ (strH_sh _ _)
 split
 ·rename_i h
  have h1 := isL_tail h
  have h2 := blL_len t.tail
  unfold manyH
  split
  ·exact hd _ (Nat.le_refl _)
  split
  ·have h3 := tail_le (blL t.tail)
   exact hd _ (by show _ < _; omega)
  ·exact ⟨fun _ e => (by cases e), fun _ _ e => (by injection e with _ e; rw [← e]; omega)⟩
 ·exact hd _ (numH_sh _ _)
theorem keyL_sh (obj : Bool) (seen : List ByteArray) (t : List Int) : Sh (t.length + 1) (keyL obj seen t) := by
 unfold keyL
 split
 ·have h1 := strQ_len t
  generalize strQ t = p at h1 ⊢
  obtain ⟨o, r⟩ := p
  cases o with
  | none => show _ ≤ _; have := h1.1; dsimp only at this; omega
  | some k =>
   dsimp only at h1 ⊢
   have h2 := blL_len r
   split
   ·show _ ≤ _; omega
   split
   ·have h3 := tail_le (blL r)
    have h4 := blL_len (blL r).tail
    show _ < _
    omega
   ·show _ ≤ _; omega
 ·show _ < _; omega
theorem val_sh : ∀ (f : Nat), (∀ d key t, Sh t.length (valL f d key t)) ∧ (∀ d obj seen t, Sh (t.length + 1) (itemsL f d obj seen t))
 | 0 => ⟨fun d key t => Nat.le_refl _, fun d obj seen t => Nat.le_succ _⟩
 | f + 1 => by
  obtain ⟨i1, i2⟩ := val_sh f
  refine ⟨fun d key t => ?_, fun d obj seen t => ?_⟩
  ·rw [valL_succ]
   obtain ⟨h1, h2⟩ := headL_sh d key t
   cases e : headL d key t with
   | done r => exact h1 r e
   | many obj t1 =>
    have h3 := h2 obj t1 e
    have h4 := i2 (d + 1) obj [] t1
    dsimp only
    cases e2 : itemsL f (d + 1) obj [] t1 with
    | ok k r => rw [e2] at h4; show r.length < _; have : r.length < t1.length + 1 := h4; omega
    | no e r => rw [e2] at h4; show r.length ≤ _; have : r.length ≤ t1.length + 1 := h4; omega
  ·rw [itemsL_succ]
   have h1 := keyL_sh obj seen t
   cases e : keyL obj seen t with
   | no e r => rw [e] at h1; exact h1
   | ok key t2 =>
    rw [e] at h1
    have h1' : t2.length < t.length + 1 := h1
    have h2 := i1 d key t2
    dsimp only
    cases e2 : valL f d key t2 with
    | no e r => rw [e2] at h2; show r.length ≤ _; have : r.length ≤ t2.length := h2; omega
    | ok p r =>
     rw [e2] at h2
     have h2' : r.length < t2.length := h2
     have h3 := blL_len r
     have h4 := tail_le (blL r)
     have h5 := blL_len (blL r).tail
     dsimp only
     split
     ·show _ < _; omega
     split
     ·have h6 := i2 d obj (key :: seen) (blL (blL r).tail)
      cases e3 : itemsL f d obj (key :: seen) (blL (blL r).tail) with
      | ok s q => rw [e3] at h6; have : q.length < (blL (blL r).tail).length + 1 := h6; show q.length < _; omega
      | no e q => rw [e3] at h6; have : q.length ≤ (blL (blL r).tail).length + 1 := h6; show q.length ≤ _; omega
     ·show _ ≤ _; omega
theorem val_fuel : ∀ (f g : Nat), (∀ d key t, 2 * t.length + 1 ≤ f → 2 * t.length + 1 ≤ g → valL f d key t = valL g d key t) ∧ (∀ d obj seen t, 2 * t.length + 2 ≤ f → 2 * t.length + 2 ≤ g → itemsL f d obj seen t = itemsL g d obj seen t)
 | 0, g => ⟨fun d key t h => by omega, fun d obj seen t h => by omega⟩
 | f + 1, 0 => ⟨fun d key t h k => by omega, fun d obj seen t h k => by omega⟩
 | f + 1, g + 1 => by
  obtain ⟨i1, i2⟩ := val_fuel f g
  refine ⟨fun d key t hf hg => ?_, fun d obj seen t hf hg => ?_⟩
  ·rw [valL_succ, valL_succ]
   obtain ⟨h1, h2⟩ := headL_sh d key t
   cases e : headL d key t with
   | done r => rfl
   | many obj t1 =>
    have h3 := h2 obj t1 e
    dsimp only
    rw [i2 (d + 1) obj [] t1 (by omega) (by omega)]
  ·rw [itemsL_succ, itemsL_succ]
   have h1 := keyL_sh obj seen t
   cases e : keyL obj seen t with
   | no e r => rfl
   | ok key t2 =>
    rw [e] at h1
    have h1' : t2.length < t.length + 1 := h1
    dsimp only
    rw [i1 d key t2 (by omega) (by omega)]
    have h2 := (val_sh g).1 d key t2
    cases e2 : valL g d key t2 with
    | no e r => rfl
    | ok p r =>
     rw [e2] at h2
     have h2' : r.length < t2.length := h2
     have h3 := blL_len r
     have h4 := tail_le (blL r)
     have h5 := blL_len (blL r).tail
     dsimp only
     split
     ·rfl
     split
     ·rename_i h7
      have h8 := isL_tail h7
      rw [i2 d obj (key :: seen) (blL (blL r).tail) (by omega) (by omega)]
     ·rfl
theorem val_sz : ∀ (f : Nat), (∀ d key t p r, valL f d key t = .ok p r → (flat p.2).length + 1 + r.length ≤ t.length) ∧ (∀ d obj seen t s q, itemsL f d obj seen t = .ok s q → (flat s).length + q.length ≤ t.length)
 | 0 => ⟨fun d key t p r h => (by cases h), fun d obj seen t s q h => (by cases h)⟩
 | f + 1 => by
  obtain ⟨i1, i2⟩ := val_sz f
  refine ⟨fun d key t p r h => ?_, fun d obj seen t s q h => ?_⟩
  ·rw [valL_succ] at h
   obtain ⟨h1, h2⟩ := headL_sh d key t
   cases e : headL d key t with
   | done r0 =>
    rw [e] at h
    dsimp only at h
    have h3 := h1 r0 e
    rw [h] at h3
    have h3' : r.length < t.length := h3
    have h4 : flat p.2 = [] := by
     have hd : ∀ r0 : Res (JNd × F), (∀ p r, r0 = .ok p r → p.2 = .nil) → Head.done r0 = .done (.ok p r) → flat p.2 = [] := fun r0 g e => by
      injection e with e
      rw [g p r e]; rfl
     rw [h] at e
     have hw : ∀ (kind : Int) (w : List Int), ∀ p r, wordH kind w key t = .ok p r → p.2 = .nil := fun kind w p r e => by
      unfold wordH at e
      split at e
      ·injection e with e _; rw [← e]
      ·cases e
     unfold headL at e
     split at e
     ·exact hd _ (hw _ _) e
     split at e
     ·exact hd _ (hw _ _) e
     split at e
     ·exact hd _ (hw _ _) e
     split at e
     ·refine hd _ (fun p r e => ?_) e
      unfold strH at e
      split at e
      ·injection e with e _; rw [← e]
      ·cases e
     split at e
     ·unfold manyH at e
      split at e
      ·exact hd _ (fun p r e => by cases e) e
      split at e
      ·exact hd _ (fun p r e => by injection e with e _; rw [← e]) e
      ·cases e
     ·refine hd _ (fun p r e => ?_) e
      unfold numH at e
      split at e
      ·injection e with e _; rw [← e]
      ·cases e
    rw [h4]
    simp only [List.length_nil]
    omega
   | many obj t1 =>
    rw [e] at h
    dsimp only at h
    have h3 := h2 obj t1 e
    cases e2 : itemsL f (d + 1) obj [] t1 with
    | ok k q =>
     rw [e2] at h
     have h4 := i2 _ _ _ _ _ _ e2
     injection h with h5 h6
     rw [← h5, ← h6]
     dsimp only
     omega
    | no e q => rw [e2] at h; cases h
  ·rw [itemsL_succ] at h
   have h1 := keyL_sh obj seen t
   cases e : keyL obj seen t with
   | no e r => rw [e] at h; cases h
   | ok key t2 =>
    rw [e] at h1 h
    have h1' : t2.length < t.length + 1 := h1
    dsimp only at h
    cases e2 : valL f d key t2 with
    | no e r => rw [e2] at h; cases h
    | ok p r =>
     rw [e2] at h
     dsimp only at h
     have h2 := i1 _ _ _ _ _ e2
     have h3 := blL_len r
     have h4 := tail_le (blL r)
     have h5 := blL_len (blL r).tail
     split at h
     ·injection h with h6 h7
      rw [← h6, ← h7]
      simp only [flat, List.append_nil, List.length_cons]
      omega
     split at h
     ·cases e3 : itemsL f d obj (key :: seen) (blL (blL r).tail) with
      | ok s2 q2 =>
       rw [e3] at h
       have h8 := i2 _ _ _ _ _ _ e3
       injection h with h6 h7
       rw [← h6, ← h7]
       simp only [flat, List.length_cons, List.length_append]
       omega
      | no e q => rw [e3] at h; cases h
     ·cases h
def valN (d : Nat) (key : ByteArray) (t : List Int) : Res (JNd × F) := valL (2 * t.length + 1) d key t
def itemsN (d : Nat) (obj : Bool) (seen : List ByteArray) (t : List Int) : Res F := itemsL (2 * t.length + 2) d obj seen t
theorem valN_eq (d : Nat) (key : ByteArray) (t : List Int) : valN d key t = match headL d key t with
  | .done r => r
  | .many obj t1 => manyR obj key (itemsN (d + 1) obj [] t1) := by
 unfold valN
 rw [valL_succ]
 obtain ⟨h1, h2⟩ := headL_sh d key t
 cases e : headL d key t with
 | done r => rfl
 | many obj t1 =>
  have h3 := h2 obj t1 e
  dsimp only
  unfold itemsN
  rw [(val_fuel _ _).2 (d + 1) obj [] t1 (by omega) (Nat.le_refl _)]
theorem itemsN_eq (d : Nat) (obj : Bool) (seen : List ByteArray) (t : List Int) : itemsN d obj seen t = match keyL obj seen t with
  | .no e r => .no e r
  | .ok key t2 => match valN d key t2 with
   | .no e r => .no e r
   | .ok p r =>
    if isL (endO obj) (blL r) = true then .ok (.cons p.1 p.2 .nil) (blL r).tail
    else if isL [44] (blL r) = true then consR p.1 p.2 (itemsN d obj (key :: seen) (blL (blL r).tail))
    else .no 250 (blL r) := by
 unfold itemsN
 rw [itemsL_succ]
 have h1 := keyL_sh obj seen t
 cases e : keyL obj seen t with
 | no e r => rfl
 | ok key t2 =>
  rw [e] at h1
  have h1' : t2.length < t.length + 1 := h1
  dsimp only
  unfold valN
  rw [(val_fuel (2 * t.length + 1) (2 * t2.length + 1)).1 d key t2 (by omega) (Nat.le_refl _)]
  have h2 := (val_sh (2 * t2.length + 1)).1 d key t2
  cases e2 : valL (2 * t2.length + 1) d key t2 with
  | no e r => rfl
  | ok p r =>
   rw [e2] at h2
   have h2' : r.length < t2.length := h2
   have h3 := blL_len r
   have h5 := blL_len (blL r).tail
   have h4 := tail_le (blL r)
   dsimp only
   split
   ·rfl
   split
   ·rw [(val_fuel _ _).2 d obj (key :: seen) (blL (blL r).tail) (by omega) (Nat.le_refl _)]
   ·rfl
def parseL (t : List Int) : Res F := match valN 0 ⟨#[]⟩ (blL t) with
 | .no e r => .no e r
 | .ok p r => if (blL r) = [] then .ok (.cons p.1 p.2 .nil) [] else .no 250 (blL r)
end Go.Proofs.YtmfopcbjgbphaaaDoor.L
