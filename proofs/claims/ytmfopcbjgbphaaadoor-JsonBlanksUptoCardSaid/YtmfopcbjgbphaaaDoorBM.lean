/- Lemmas of my own on the machine: maps of the call's own with texts as keys and numbers as elements. No condition. -/
import Derived.Test.YtmfopcbjgbphaaaDoorBE
import Derived.MapKept
import GoSem.Instr.Lookup
import GoSem.Instr.MapUpdate
set_option linter.unusedVariables false
set_option linter.unusedSimpArgs false
namespace Go.Proofs.YtmfopcbjgbphaaaDoor.B
open Go.RowKit Go.MapKept
open Classical in
noncomputable def lookE (k : IntKind) : List MapEntry → ByteArray → Int
 | [], _ => 0
 | e :: es, s => if e.key = .string s then (match e.val with | .int _ v => v | _ => 0) else lookE k es s
def MapI (k : IntKind) (w : World) (g : Nat) (m : ByteArray → Int) : Prop :=
 ∃ es clock, w.heap[g]? = some (.map es clock) ∧ (∀ x ∈ es.toList, (∃ s, x.key = .string s) ∧ ∃ v, x.val = .int k v) ∧ ∀ s, lookE k es.toList s = m s
abbrev mapEnt (g : Nat) (k : IntKind) (m : ByteArray → Int) : Ent := .deep (.map (some g)) [g] (fun w => MapI k w g m)
theorem mapOk {w : World} {g : Nat} {k : IntKind} {m : ByteArray → Int} (h : MapI k w g m) : (mapEnt g k m).ok w := by
 obtain ⟨es, c, h1, h2, h3⟩ := h
 refine ⟨fun b hb => ?_, fun w' _ hk => ⟨es, c, (hk g (by simp)).trans h1, h2, h3⟩⟩
 simp only [List.mem_singleton] at hb
 subst hb
 exact (Array.getElem?_eq_some_iff.1 h1).1
theorem okMap {w : World} {g : Nat} {k : IntKind} {m : ByteArray → Int} (h : (mapEnt g k m).ok w) : MapI k w g m := h.2 w (Nat.le_refl _) fun _ _ => rfl
def mpK (P : Program) (T : TypeId) : Option IntKind := match P.underlying T with
 | some (.map a b) => match P.underlying a, P.underlying b, (P.info? b).bind (·.zero) with
  | some .string, some (.int k), some (.int k2 0) => if k = k2 then some k else none
  | _, _, _ => none
 | _ => none
theorem mpK_spec {P : Program} {T : TypeId} {k : IntKind} (h : mpK P T = some k) : ∃ a b, P.underlying T = some (.map a b) ∧ P.underlying a = some .string ∧ ∀ w, (zeroValue b).run P w = .ok (.int k 0) w := by
 unfold mpK at h
 split at h
 ·rename_i a b hu
  split at h
  ·rename_i k1 k2 h1 h2 h3
   split at h
   ·rename_i e
    injection h with h
    subst h e
    refine ⟨a, b, hu, h1, fun w => ?_⟩
    rcases hi : P.info? b with _ | inf
    ·rw [hi] at h3; cases h3
    ·rw [hi] at h3
     have hz : inf.zero = some (.int _ 0) := h3
     simp [zeroValue, typeInfo, hi, hz]
   ·cases h
  ·cases h
 ·cases h
theorem lookE_none {k : IntKind} {s : ByteArray} : ∀ {l : List MapEntry}, (∀ x ∈ l, x.key ≠ .string s) → lookE k l s = 0
 | [], _ => rfl
 | e :: l, h => by rw [lookE, if_neg (h e (.head _)), lookE_none fun x hx => h x (.tail _ hx)]
theorem findS {k : IntKind} {s : ByteArray} : ∀ (l : List MapEntry) (i : Nat), (∀ x ∈ l, (∃ s, x.key = .string s) ∧ ∃ v, x.val = .int k v) →
  (Instr.findNow .string (.string s) l i = some none ∧ ∀ x ∈ l, x.key ≠ .string s) ∨ ∃ j a e b, Instr.findNow .string (.string s) l i = some (some (i + j, e.val)) ∧ l = a ++ e :: b ∧ a.length = j ∧ e.key = .string s ∧ e.val = .int k (lookE k l s) ∧ ∀ x ∈ a, x.key ≠ .string s
 | [], _, _ => .inl ⟨rfl, by simp⟩
 | e :: es, i, h => by
  obtain ⟨⟨t, ht⟩, v, hv⟩ := h e (.head _)
  by_cases he : s = t
  ·subst he
   refine .inr ⟨0, [], e, es, ?_, rfl, rfl, ht, ?_, by simp⟩
   ·have : (s == s) = true := (bytes_beq s s).2 rfl
    simp [Instr.findNow, Instr.sameNow, ht, this]
   ·rw [lookE, if_pos ht, hv]
  ·have hne : e.key ≠ .string s := fun q => he (by rw [ht] at q; injection q with q; exact q.symm)
   have hb : (s == t) = false := by
    cases hb : s == t with
    | false => rfl
    | true => exact absurd ((bytes_beq s t).1 hb) he
   have hs : Instr.findNow .string (.string s) (e :: es) i = Instr.findNow .string (.string s) es (i + 1) := by simp [Instr.findNow, Instr.sameNow, ht, hb]
   rw [hs, lookE, if_neg hne]
   rcases findS es (i + 1) (fun x hx => h x (.tail _ hx)) with ⟨h1, h2⟩ | ⟨j, a, e', b, h1, h2, h3, h4, h5, h6⟩
   ·exact .inl ⟨h1, fun x hx => by cases hx with | head => exact hne | tail _ hx => exact h2 x hx⟩
   ·refine .inr ⟨j + 1, e :: a, e', b, by rw [h1]; congr 3; omega, by rw [h2]; rfl, by rw [List.length_cons, h3], h4, h5, fun x hx => by cases hx with | head => exact hne | tail _ hx => exact h6 x hx⟩
theorem lookE_app {k : IntKind} {s : ByteArray} : ∀ {a : List MapEntry} (b : List MapEntry), (∀ x ∈ a, x.key ≠ .string s) → lookE k (a ++ b) s = lookE k b s
 | [], b, _ => rfl
 | e :: a, b, h => by
  show lookE k (e :: (a ++ b)) s = _
  rw [lookE, if_neg (h e (.head _)), lookE_app b fun x hx => h x (.tail _ hx)]
theorem lookE_other {k : IntKind} {s t : ByteArray} (hne : t ≠ s) : ∀ (a b : List MapEntry) {e e' : MapEntry}, e.key = .string s → e'.key = .string s → lookE k (a ++ e' :: b) t = lookE k (a ++ e :: b) t
 | [], b, e, e', h1, h2 => by
  have n1 : e.key ≠ .string t := fun q => hne (by rw [h1] at q; injection q with q; exact q.symm)
  have n2 : e'.key ≠ .string t := fun q => hne (by rw [h2] at q; injection q with q; exact q.symm)
  show lookE k (e' :: b) t = lookE k (e :: b) t
  rw [lookE, lookE, if_neg n1, if_neg n2]
 | x :: a, b, e, e', h1, h2 => by
  show lookE k (x :: (a ++ e' :: b)) t = lookE k (x :: (a ++ e :: b)) t
  rw [lookE, lookE, lookE_other hne a b h1 h2]
theorem lookE_push {k : IntKind} {s t : ByteArray} {e : MapEntry} (he : e.key = .string s) (hne : t ≠ s) : ∀ (a : List MapEntry), lookE k (a ++ [e]) t = lookE k a t
 | [] => by
  have n1 : e.key ≠ .string t := fun q => hne (by rw [he] at q; injection q with q; exact q.symm)
  show lookE k [e] t = 0
  rw [lookE, if_neg n1]; rfl
 | x :: a => by
  show lookE k (x :: (a ++ [e])) t = lookE k (x :: a) t
  rw [lookE, lookE, lookE_push he hne a]
theorem modify_mid {α : Type} (f : α → α) (e : α) (b : List α) : ∀ a : List α, (a ++ e :: b).modify a.length f = a ++ f e :: b
 | [] => rfl
 | x :: a => by
  show (x :: (a ++ e :: b)).modify (a.length + 1) f = x :: (a ++ f e :: b)
  rw [List.modify_succ_cons, modify_mid f e b a]
section
variable {C : Cx} {l : Fm} {M : List Ent} {S : List Snap} {d : Nat} {ty : TypeId} {pos : String} {after : Ed} {g : Gu}
theorem s_makeMap {Nx : Fm → List Ent → List Snap → Prop} {T : TypeId} (k : IntKind) (hd : Nat.ble (d + 1) C.n = true) (h : ∀ gb, Nx ((d, .map (some gb)) :: l) (mapEnt gb k (fun _ => 0) :: M) S) : Stp C ⟨some d, .makeMap T none, ty, pos, after, g⟩ l M S Nx :=
 s_run hd fun a w hF hL => by
  refine ⟨.map (some w.heap.size), w.alloc (.map #[] 0), _, _, ?_, hL.add (Chg.alloc w _ []) (mapEnt w.heap.size k (fun _ => 0)) (mapOk ⟨#[], 0, (heap_alloc w _).1, by simp, fun _ => rfl⟩) (fun b hb => by simp [Ent.blk] at hb; omega), h _⟩
  simp [execOp, Instr.makeMap, Sem.run_pure, Sem.run_bind]
theorem v_look {T : TypeId} {x y : Operand} {gb : Nat} {k : IntKind} {m : ByteArray → Int} {s : ByteArray} (j : Nat) (hT : mpK C.P T = some k) (hx : evl l x = some (.map (some gb))) (hy : evl l y = some (.string s)) (hM : M[j]? = some (mapEnt gb k m)) :
  Val C ⟨some d, .lookup T x y false, ty, pos, after, g⟩ l M S (.int k (m s)) := fun a w hF hL => by
 obtain ⟨kt, et, hu, hk, hz⟩ := mpK_spec hT
 obtain ⟨es, c, h1, h2, h3⟩ := okMap (hL.ok _ (List.mem_iff_getElem?.2 ⟨j, hM⟩))
 have hck : ∀ b, (Instr.checkKey b 10000 kt (.string s)).run C.P w = .ok () w := fun b => Go.MapKept.run_checkKey hk (by simp [IsKey]) b 9999
 rcases findS (k := k) (s := s) es.toList 0 h2 with ⟨f1, f2⟩ | ⟨j, a', e, b, f1, f2, f3, f4, f5, f6⟩
 ·have : m s = 0 := by rw [← h3, lookE_none f2]
  rw [this]
  simp [execOp, hF.ev hx, hF.ev hy, Instr.lookup, run_underlying hu, Go.MapKept.run_getObj_map h1, hck, Go.MapKept.run_findKey hk f1, hz, Sem.run_pure, Sem.run_bind, Result.andThen]
 ·rw [← h3 s]
  simp [execOp, hF.ev hx, hF.ev hy, Instr.lookup, run_underlying hu, Go.MapKept.run_getObj_map h1, hck, Go.MapKept.run_findKey hk f1, f5, Sem.run_pure, Sem.run_bind, Result.andThen]
theorem s_mapSet {Nx : Fm → List Ent → List Snap → Prop} {T : TypeId} {x y z : Operand} {gb : Nat} {k : IntKind} {m : ByteArray → Int} {s : ByteArray} {v : Int} {M' : List Ent} (j : Nat) (hT : mpK C.P T = some k) (hx : evl l x = some (.map (some gb))) (hy : evl l y = some (.string s)) (hz : evl l z = some (.int k v))
  (hM : M[j]? = some (mapEnt gb k m)) (hM' : M.set j (mapEnt gb k (updM m s v)) = M') (h : Nx l M' S) : Stp C ⟨none, .mapUpdate T x y z, ty, pos, after, g⟩ l M S Nx :=
 s_do fun a w hF hL => by
  obtain ⟨kt, et, hu, hk, hzv⟩ := mpK_spec hT
  obtain ⟨es, c, h1, h2, h3⟩ := okMap (hL.ok _ (List.mem_iff_getElem?.2 ⟨j, hM⟩))
  have hck : ∀ b, (Instr.checkKey b 10000 kt (.string s)).run C.P w = .ok () w := fun b => Go.MapKept.run_checkKey hk (by simp [IsKey]) b 9999
  have hlt : gb < w.heap.size := (Array.getElem?_eq_some_iff.1 h1).1
  subst hM'
  have chg : ∀ o : Obj, Chg [gb] w { w with heap := w.heap.setIfInBounds gb o } := fun o => ⟨⟨rfl, rfl, rfl, by simp⟩, fun b _ hn => (heap_set (o' := o) h1).2 b (fun e => hn (by simp [e]))⟩
  rcases findS (k := k) (s := s) es.toList 0 h2 with ⟨f1, f2⟩ | ⟨j', a', e, b, f1, f2, f3, f4, f5, f6⟩
  ·refine ⟨{ w with heap := w.heap.setIfInBounds gb (.map (es.push { key := .string s, val := .int k v, born := c }) (c + 1)) }, _, _, ?_, hL.upd hM (chg _) (mapOk (m := updM m s v) ⟨_, _, (heap_set h1).1, fun x hx => ?_, fun t => ?_⟩) (fun b hb => .inl hb), h⟩
   ·simp [execOp, hF.ev hx, hF.ev hy, hF.ev hz, Instr.mapUpdate, run_underlying hu, Go.MapKept.run_getObj_map h1, hck, Go.MapKept.run_findKey hk f1, Go.MapKept.run_setObj_map _ h1, Sem.run_pure, Sem.run_bind, Result.andThen]
   ·rw [Array.toList_push] at hx
    rcases List.mem_append.1 hx with hx | hx
    ·exact h2 x hx
    ·rw [List.mem_singleton.1 hx]; exact ⟨⟨s, rfl⟩, v, rfl⟩
   ·rw [Array.toList_push]
    unfold updM
    by_cases ht : t = s
    ·subst ht
     rw [if_pos rfl, lookE_app _ f2, lookE, if_pos rfl]
    ·rw [if_neg ht, lookE_push rfl ht, h3]
  ·have hes : es.size = a'.length + (b.length + 1) := by rw [← Array.length_toList, f2]; simp
   have hget : es[j']? = some e := by rw [← Array.getElem?_toList, f2, List.getElem?_append_right (by omega)]; simp [f3]
   have hmod : (es.modify j' fun e => { e with key := .string s, val := .int k v }).toList = a' ++ { e with key := .string s, val := .int k v } :: b := by
    rw [Array.toList_modify, f2, ← f3, modify_mid]
   refine ⟨{ w with heap := w.heap.setIfInBounds gb (.map (es.modify j' fun e => { e with key := .string s, val := .int k v }) c) }, _, _, ?_, hL.upd hM (chg _) (mapOk (m := updM m s v) ⟨_, _, (heap_set h1).1, fun x hx => ?_, fun t => ?_⟩) (fun b hb => .inl hb), h⟩
   ·have hsb : Instr.sameBits 10000 (.string s) (.string s) = true := by
     show (s == s) = true
     exact (bytes_beq s s).2 rfl
    rw [Nat.zero_add] at f1
    simp [execOp, hF.ev hx, hF.ev hy, hF.ev hz, Instr.mapUpdate, run_underlying hu, Go.MapKept.run_getObj_map h1, hck, Go.MapKept.run_findKey hk f1, hget, f4, Instr.keyThatStays, hsb, Go.MapKept.run_setObj_map _ h1, Sem.run_pure, Sem.run_bind, Result.andThen]
   ·rw [hmod] at hx
    rcases List.mem_append.1 hx with hx | hx
    ·exact h2 x (by rw [f2]; exact List.mem_append_left _ hx)
    ·cases hx with
     | head => exact ⟨⟨s, rfl⟩, v, rfl⟩
     | tail _ hx => exact h2 x (by rw [f2]; exact List.mem_append_right _ (.tail _ hx))
   ·rw [hmod]
    unfold updM
    by_cases ht : t = s
    ·subst ht
     rw [if_pos rfl, lookE_app _ f6, lookE, if_pos rfl]
    ·rw [if_neg ht, ← h3, f2, lookE_other ht a' b f4 rfl]
end
end Go.Proofs.YtmfopcbjgbphaaaDoor.B
