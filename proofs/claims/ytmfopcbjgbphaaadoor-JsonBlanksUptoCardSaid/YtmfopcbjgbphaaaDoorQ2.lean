/- JSON: lists of nodes as forests. No condition. -/
import Derived.Test.YtmfopcbjgbphaaaDoorU1
import Derived.Test.YtmfopcbjgbphaaaDoorU2
import Derived.Test.YtmfopcbjgbphaaaDoorR
set_option linter.unusedVariables false
namespace Go.Proofs.YtmfopcbjgbphaaaDoor.L
open Go.Proofs.YtmfopcbjgbphaaaDoor.B Go.Proofs.YtmfopcbjgbphaaaDoor.R
inductive F where
 | nil : F
 | cons (x : JNd) (k s : F) : F
def flat : F → List JNd
 | .nil => []
 | .cons x k s => x :: (flat k ++ flat s)
def cnt : F → Nat
 | .nil => 0
 | .cons _ _ s => cnt s + 1
def Fit : F → Prop
 | .nil => True
 | .cons x k s => x.kids = (cnt k : Int) ∧ Fit k ∧ Fit s
def keysF : F → List ByteArray
 | .nil => []
 | .cons x _ s => x.key :: keysF s
abbrev isMany (x : JNd) : Bool := decide (x.kind = 6) || decide (x.kind = 7)
abbrev isObj (x : JNd) : Bool := decide (x.kind = 7)
def inK (k : ByteArray) (l : List ByteArray) : Bool := l.any fun y => decide (k = y)
theorem inK_iff {k : ByteArray} {l : List ByteArray} : inK k l = true ↔ k ∈ l := by
 unfold inK
 rw [List.any_eq_true]
 constructor
 ·rintro ⟨y, hy, e⟩
  rw [of_decide_eq_true e]; exact hy
 ·exact fun h => ⟨k, h, decide_eq_true rfl⟩
theorem inK_no {k : ByteArray} {l : List ByteArray} : inK k l = false ↔ k ∉ l := by rw [← inK_iff]; simp
theorem cnt_le : ∀ f : F, cnt f ≤ (flat f).length
 | .nil => Nat.le_refl _
 | .cons x k s => by
  have := cnt_le s
  simp only [cnt, flat, List.length_cons, List.length_append]
  omega
theorem cnt_nil {f : F} (h : cnt f = 0) : f = .nil := by cases f with
 | nil => rfl
 | cons x k s => simp [cnt] at h
def beh : List JNd → Nat → Option (List JNd)
 | l, 0 => some l
 | [], _ + 1 => none
 | x :: xs, c + 1 => if x.kids < 0 then none else beh xs (c + x.kids.toNat)
theorem beh_zero (l : List JNd) : beh l 0 = some l := by cases l <;> rfl
theorem beh_nil (c : Nat) : beh [] (c + 1) = none := rfl
theorem beh_cons (x : JNd) (xs : List JNd) (c : Nat) : beh (x :: xs) (c + 1) = if x.kids < 0 then none else beh xs (c + x.kids.toNat) := rfl
theorem beh_flat : ∀ (f : F) (r : List JNd) (c : Nat), Fit f → beh (flat f ++ r) (cnt f + c) = beh r c
 | .nil, r, c, _ => by simp [flat, cnt]
 | .cons x k s, r, c, hf => by
  obtain ⟨f1, f2, f3⟩ := hf
  have e : cnt (.cons x k s) + c = cnt s + c + 1 := by simp only [cnt]; omega
  rw [e]
  simp only [flat, List.cons_append, List.append_assoc]
  rw [beh_cons, if_neg (by omega), f1, Int.toNat_natCast, show cnt s + c + cnt k = cnt k + (cnt s + c) by omega, beh_flat k _ _ f2, beh_flat s _ _ f3]
theorem beh_le : ∀ (l : List JNd) (c : Nat) {r : List JNd}, beh l c = some r → c ≤ l.length
 | l, 0, r, h => Nat.zero_le _
 | [], c + 1, r, h => by cases h
 | x :: xs, c + 1, r, h => by
  rw [beh_cons] at h
  by_cases g : x.kids < 0
  ·rw [if_pos g] at h; cases h
  ·rw [if_neg g] at h
   have := beh_le xs _ h
   simp only [List.length_cons]; omega
section
variable (snd : JNd → Bool)
def good : F → Nat → Bool → Bool
 | .nil, _, _ => true
 | .cons x k s, d, key => snd x && (key || decide (x.key = ⟨#[]⟩)) && (!isMany x && decide (cnt k = 0) || isMany x && decide (d < 64) && good k (d + 1) (isObj x) && (!isObj x || decide (keysF k).Nodup)) && good s d key
def subs : Nat → List JNd → Nat → Nat → Bool → List ByteArray → Option (List JNd)
 | 0, _, _, _, _, _ => none
 | _ + 1, l, 0, _, _, _ => some l
 | _ + 1, [], _ + 1, _, _, _ => none
 | f + 1, x :: xs, c + 1, d, key, seen =>
  if (snd x && (key || decide (x.key = ⟨#[]⟩))) = true then
   match (if isMany x = true then (if d < 64 then subs f xs x.kids.toNat (d + 1) (isObj x) [] else none) else some xs) with
   | none => none
   | some r => if (key && inK x.key seen) = true then none else subs f r c d key (x.key :: seen)
  else none
def ins : F → Nat → Bool
 | .nil, _ => true
 | .cons x k s, d => (!isMany x || decide (d < 64)) && (!decide (x.kind = 6) || (keysF k).all (fun y => decide (y = ⟨#[]⟩))) && (!isObj x || decide (keysF k).Nodup) && ins k (d + 1) && ins s d
end
section
variable {snd : JNd → Bool}
theorem subs_of (hs : ∀ x, snd x = true → 0 ≤ x.kids ∧ (isMany x = false → x.kids = 0)) : ∀ (f : F) (n : Nat) (r : List JNd) (d c : Nat) (key : Bool) (seen : List ByteArray), Fit f → cnt f = c → (flat f).length < n → good snd f d key = true → (key = true → (keysF f).Nodup ∧ ∀ k ∈ keysF f, k ∉ seen) → subs snd n (flat f ++ r) c d key seen = some r
 | .nil, 0, r, d, c, key, seen, hf, hc, hn, hg, hk => absurd hn (Nat.not_lt_zero _)
 | .nil, n + 1, r, d, c, key, seen, hf, hc, hn, hg, hk => by
  subst hc
  rfl
 | .cons x k s, 0, r, d, c, key, seen, hf, hc, hn, hg, hk => absurd hn (Nat.not_lt_zero _)
 | .cons x k s, n + 1, r, d, c, key, seen, hf, hc, hn, hg, hk => by
  subst hc
  obtain ⟨f1, f2, f3⟩ := hf
  simp only [flat, List.length_cons, List.length_append] at hn
  simp only [flat, List.cons_append, List.append_assoc, cnt]
  unfold good at hg
  rw [Bool.and_eq_true, Bool.and_eq_true] at hg
  obtain ⟨⟨g1, g2⟩, g3⟩ := hg
  unfold subs
  rw [if_pos g1]
  rw [Bool.and_eq_true] at g1
  obtain ⟨h0, h1⟩ := hs x g1.1
  have hin : (if isMany x = true then (if d < 64 then subs snd n (flat k ++ (flat s ++ r)) x.kids.toNat (d + 1) (isObj x) [] else none) else some (flat k ++ (flat s ++ r))) = some (flat s ++ r) := by
   cases hm : isMany x with
   | false =>
    have : cnt k = 0 := by have := h1 hm; omega
    rw [if_neg (by simp), cnt_nil this]
    rfl
   | true =>
    rw [hm] at g2
    simp only [Bool.not_true, Bool.false_and, Bool.false_or, Bool.true_and, Bool.and_eq_true, decide_eq_true_eq, Bool.or_eq_true, Bool.not_eq_true'] at g2
    obtain ⟨⟨e1, e2⟩, e3⟩ := g2
    rw [if_pos rfl, if_pos e1]
    refine subs_of hs k n _ (d + 1) _ (isObj x) [] f2 (by omega) (by omega) e2 (fun ho => ⟨?_, fun _ _ hm => by cases hm⟩)
    rcases e3 with e3 | e3
    ·rw [e3] at ho; cases ho
    ·exact e3
  rw [hin]
  dsimp only
  have hkn : (key && inK x.key seen) = false := by
   cases hkey : key with
   | false => rfl
   | true =>
    have := (hk hkey).2 x.key (by simp [keysF])
    rw [inK_no.2 this]; rfl
  rw [hkn, if_neg (by simp)]
  refine subs_of hs s n r d _ key (x.key :: seen) f3 rfl (by omega) g3 (fun hkey => ?_)
  obtain ⟨k1, k2⟩ := hk hkey
  simp only [keysF, List.nodup_cons] at k1
  refine ⟨k1.2, fun y hy hm => ?_⟩
  rcases List.mem_cons.1 hm with rfl | hm
  ·exact k1.1 hy
  ·exact k2 y (by simp [keysF, hy]) hm
theorem subs_ok (hs : ∀ x, snd x = true → 0 ≤ x.kids ∧ (isMany x = false → x.kids = 0)) : ∀ (n : Nat) (l r : List JNd) (c d : Nat) (key : Bool) (seen : List ByteArray), subs snd n l c d key seen = some r → ∃ f, Fit f ∧ cnt f = c ∧ l = flat f ++ r ∧ good snd f d key = true ∧ (key = true → (keysF f).Nodup ∧ ∀ k ∈ keysF f, k ∉ seen)
 | 0, l, r, c, d, key, seen, h => by cases h
 | n + 1, l, r, 0, d, key, seen, h => by
  unfold subs at h
  injection h with h
  subst h
  exact ⟨.nil, trivial, rfl, rfl, rfl, fun _ => ⟨List.nodup_nil, fun _ hm => by cases hm⟩⟩
 | n + 1, [], r, c + 1, d, key, seen, h => by cases h
 | n + 1, x :: xs, r, c + 1, d, key, seen, h => by
  unfold subs at h
  by_cases g1 : (snd x && (key || decide (x.key = ⟨#[]⟩))) = true
  ·rw [if_pos g1] at h
   have gs : snd x = true := by rw [Bool.and_eq_true] at g1; exact g1.1
   obtain ⟨h0, h1⟩ := hs x gs
   split at h
   ·cases h
   ·rename_i q hq
    by_cases g2 : (key && inK x.key seen) = true
    ·rw [if_pos g2] at h; cases h
    ·rw [if_neg g2] at h
     obtain ⟨s, s1, s2, s3, s4, s5⟩ := subs_ok hs n q r c d key (x.key :: seen) h
     have hkid : ∃ k, Fit k ∧ x.kids = (cnt k : Int) ∧ xs = flat k ++ q ∧ (!isMany x && decide (cnt k = 0) || isMany x && decide (d < 64) && good snd k (d + 1) (isObj x) && (!isObj x || decide (keysF k).Nodup)) = true := by
      cases hm : isMany x with
      | false =>
       rw [hm, if_neg (by simp)] at hq
       injection hq with hq
       subst hq
       exact ⟨.nil, trivial, by have := h1 hm; simp [cnt, this], rfl, rfl⟩
      | true =>
       rw [hm, if_pos rfl] at hq
       by_cases hd : d < 64
       ·rw [if_pos hd] at hq
        obtain ⟨k, k1, k2, k3, k4, k5⟩ := subs_ok hs n xs q _ _ _ _ hq
        refine ⟨k, k1, by omega, k3, ?_⟩
        rw [k4, decide_eq_true hd]
        cases ho : isObj x with
        | false => rfl
        | true => rw [decide_eq_true (k5 ho).1]; rfl
       ·rw [if_neg hd] at hq; cases hq
     obtain ⟨k, k1, k2, k3, k4⟩ := hkid
     refine ⟨.cons x k s, ⟨k2, k1, s1⟩, by simp [cnt, s2], by rw [k3, s3]; simp [flat], ?_, fun hkey => ?_⟩
     ·unfold good
      rw [g1, k4, s4]
      rfl
     ·obtain ⟨e1, e2⟩ := s5 hkey
      rw [hkey] at g2
      rw [Bool.true_and, inK_iff] at g2
      simp only [keysF, List.nodup_cons]
      refine ⟨⟨fun hm => e2 _ hm (List.mem_cons_self ..), e1⟩, fun y hy => ?_⟩
      rcases List.mem_cons.1 hy with rfl | hy
      ·exact g2
      ·exact fun hm => e2 y hy (List.mem_cons_of_mem _ hm)
  ·rw [if_neg g1] at h; cases h
theorem good_ins (hs : ∀ x, snd x = true → 0 ≤ x.kids ∧ (isMany x = false → x.kids = 0)) : ∀ (f : F) (d : Nat) (key : Bool), Fit f → good snd f d key = ((flat f).all snd && (key || (keysF f).all (fun y => decide (y = ⟨#[]⟩))) && ins f d)
 | .nil, d, key, _ => by simp [good, flat, keysF, ins]
 | .cons x k s, d, key, hf => by
  obtain ⟨f1, f2, f3⟩ := hf
  unfold good ins
  simp only [flat, keysF, List.all_cons, List.all_append]
  rw [good_ins hs s d key f3, good_ins hs k (d + 1) (isObj x) f2]
  cases h : snd x with
  | false => simp
  | true =>
   obtain ⟨h0, h1⟩ := hs x h
   cases hm : isMany x with
   | false =>
    have hk : k = .nil := cnt_nil (by have := h1 hm; omega)
    subst hk
    have h6 : decide (x.kind = 6) = false := by cases h6 : decide (x.kind = 6) with
     | false => rfl
     | true => simp [isMany, h6] at hm
    simp only [isMany, h6, Bool.false_or] at hm
    simp only [flat, keysF, cnt, ins, h6, isObj, hm, List.all_nil, Bool.true_and, Bool.not_false, Bool.and_true, decide_true, Bool.true_or, Bool.false_and, Bool.or_false, Bool.or_true]
    cases key <;> cases decide (x.key = ⟨#[]⟩) <;> cases (flat s).all snd <;> cases ins s d <;> simp
   | true =>
    simp only [Bool.not_true, Bool.false_and, Bool.false_or, Bool.true_and]
    have h6 : (!isObj x) = decide (x.kind = 6) := by
     by_cases h7 : x.kind = 7
     ·simp [isObj, h7]
     ·simp only [isMany, h7, decide_false, Bool.or_false] at hm
      simp [isObj, h7, hm]
    have ho : isObj x = !decide (x.kind = 6) := by rw [← h6, Bool.not_not]
    rw [h6, ho]
    generalize decide (x.kind = 6) = a
    generalize (keysF k).all (fun y => decide (y = ⟨#[]⟩)) = b
    generalize decide (keysF k).Nodup = e
    generalize (flat k).all snd = q
    generalize ins k (d + 1) = w
    generalize decide (d < 64) = z
    generalize decide (x.key = ⟨#[]⟩) = y
    generalize (flat s).all snd = p
    generalize ins s d = o
    generalize ((keysF s).all fun y => decide (y = ⟨#[]⟩)) = u
    cases a <;> cases b <;> cases e <;> cases q <;> cases w <;> cases z <;> cases y <;> cases p <;> cases o <;> cases u <;> cases key <;> rfl
end
end Go.Proofs.YtmfopcbjgbphaaaDoor.L
