/- What the machine's calls do, function by function, printed by my own tool. Condition of each: its relation holds of the answer, and what is handed in lies in memory as told. -/
import Derived.Test.YtjookebbmfiidaaDoorK4
set_option linter.unusedVariables false
set_option maxRecDepth 100000
set_option maxHeartbeats 4000000
namespace Go.Proofs.YtjookebbmfiidaaDoor.K
open Go.Proofs.YtjookebbmfiidaaDoor.B Go.Proofs.YtjookebbmfiidaaDoor.R Go.RowKit
noncomputable abbrev Xed := Code.fst (Code.snd (Dp Tryd.f86))
noncomputable abbrev Xfl := Code.snd (Code.snd Xed)
noncomputable abbrev q86c9 := Code.snd Xfl
noncomputable abbrev q86c12 := Code.snd (Code.fst (Code.fst Xfl))
noncomputable abbrev q86c24 := Code.snd (Code.snd (Code.snd (Code.snd q86c12)))
abbrev Sr (w : World) (F : Nat → Prop) (r : (List Int) × Int × Int) : Ending → World → Prop := fun e w' => ∃ A0 : Option Addr, ∃ n0 : Nat, ∃ c0 : Nat, e = .returned (.tuple #[.slice A0 n0 c0, .int .i64 r.2.1, .int .i64 r.2.2]) ∧ B.Loc w w' [.own (.slice A0 n0 c0) 5 1 n0 (r.1.flatMap (eI .u8))] [St w []] ∧ Ow w.heap.size A0 n0 c0 r.1
noncomputable abbrev Ny (w : World) (F : Nat → Prop) (r : (List Int) × Int × Int) : Cx := ⟨Tryd.prog, 86, Tryd.f86, 58, Sr w F  r, w⟩
theorem Xbc (w : World) (F : Nat → Prop) (x1 : ByteArray) (x2 : Int) (hF : ∀ b, F b → b < w.heap.size ∧ ∀ o ∈ ([] : List (List Nat)), b ∉ o) (hL0 : B.Loc w w [] [Sm w.heap.size F w [], St w []]) (r : (List Int) × Int × Int) (h : Q9 x1 x2 r) : Calls Tryd.prog 86 #[.string x1, .int .i64 x2] w (Sr w F  r) := by
 unfold Q9 at h
 refine Cb (vs := [.string x1, .int .i64 x2]) 58 Tryd.func86 rfl Tryd.ntmps86 rfl hL0 ?_
 show G (Ny w F r) _ _ _ _
 refine Ai rfl <| Ad rfl rfl <| Aa 0 rfl (Af rfl) gn rfl <| Aa 1 rfl (Af rfl) gn rfl <| Aa 2 rfl (Af rfl) gn rfl <| Ak 3 rfl <| Xi7 rfl <| Ai rfl <| Ad rfl rfl <| Aa 0 rfl (Ae rfl) gn rfl <| Aa 1 rfl (Bh rfl rfl rfl) gn rfl <| Aa 2 rfl (Af rfl) gn rfl ?_
 refine Ak 3 rfl <| Ai rfl <| Xh9 rfl ?_
 have key1 : ∀ s, Bv (fun (s : Int) o => Ii x1 x2 s o) s r → (fun (s : Int) => ∀ (_ : Unit), G (Ny w F r) [.code Xfl, .inScope Xed] [(0, .string x1), (1, .int .i64 x2), (7, .int .i64 s)] [] [Sm w.heap.size F w [], St w []]) s := by
  intro s hs
  refine Bv.ind (mot := (fun (s : Int) => ∀ (_ : Unit), G (Ny w F r) [.code Xfl, .inScope Xed] [(0, .string x1), (1, .int .i64 x2), (7, .int .i64 s)] [] [Sm w.heap.size F w [], St w []])) ?_ hs
  clear hs s
  intro x28 o1 h hO1
  show ∀ (_ : Unit), G (Ny w F r) [.code Xfl, .inScope Xed] [(0, .string x1), (1, .int .i64 x2), (7, .int .i64 x28)] [] [Sm w.heap.size F w [], St w []]
  intro _
  have h : Ii x1 x2 x28 o1 := h
  unfold Ii at h
  refine Ai rfl <| Dt rfl <| Ai rfl ?_
  have j2 : ∀ (x56 : Bool) (h : Jk x2 x28 x1 x56 o1) , G (Ny w F r) [.code q86c12, .inBlock 0, .code q86c9, .inScope Xed] [(0, .string x1), (1, .int .i64 x2), (7, .int .i64 x28), (10, .bool x56)] [] [Sm w.heap.size F w [], St w []] := by
   intro x56 h
   unfold Jk at h
   by_cases hp57 : x56 = true
   ·have h := Aq hp57 h
    refine Bz rfl _ rfl (hp57) <| Ai rfl <| Ad rfl rfl <| Aa 0 rfl (Ae rfl) gn rfl <| Aa 1 rfl (Af rfl) gn rfl <| Aa 2 rfl (Af rfl) gn rfl <| Aa 3 rfl (Af rfl) gn rfl <| Ak 4 rfl <| Px 5 1 ?_
    have h := Out.inr hO1 h
    refine Bo [.slice none 0 0, .int .i64 82, .int .i64 x2] rfl Tryd.func86 rfl (.tmp rfl (.tmp rfl (.tmp rfl (.nil)))) fun wr hLr => ?_
    have hMr := hLr.pkI (.c 0 rfl .n) .n (by kernel_rfl) (.c 1 rfl .n)
    show Sr w F  r (.returned (Ce [.slice none 0 0, .int .i64 82, .int .i64 x2])) wr
    rw [h]
    exact ⟨none, 0, 0, rfl, hMr, (Ow.nil (z := w.heap.size))⟩
   ·have h := Ar hp57 h
    refine Bj rfl _ rfl ((bf hp57)) <| Ai rfl <| Ad rfl rfl <| Aa 0 rfl (Ae rfl) gn rfl <| Aa 1 rfl (Ae rfl) gn rfl ?_
    obtain ⟨hb58, h⟩ := h
    refine Aa 2 rfl (H6 Ko rfl rfl hb58) gn rfl <| Aa 3 rfl (Bh rfl rfl rfl) gn rfl <| Aa 4 rfl (Af rfl) gn rfl <| Ak 5 rfl ?_
    by_cases hp59 : bt x1 x28 = 47
    ·have h := Aq hp59 h
     refine Bz rfl _ rfl ((eqi hp59)) <| Ai rfl <| Ad rfl rfl <| Aa 0 rfl (Ae rfl) gn rfl <| Aa 1 rfl (Ae rfl) gn rfl <| Aa 2 rfl (Bh rfl rfl rfl) gn rfl <| Aa 3 rfl (Ae rfl) gn rfl ?_
     obtain ⟨hb60, h⟩ := h
     refine Aa 4 rfl (Xhb (w64 (x2 + 1)) x28 Ko rfl (.inr ⟨_, _, rfl, rfl⟩) (.inr ⟨_, _, rfl, rfl⟩) ⟨hb60.1, hb60.2.1⟩ hb60.2.2) gn rfl ?_
     obtain ⟨hb61, h⟩ := h
     refine Cj 5 rfl (s_s2b Ko slE_108 un_5 rfl hb61 rfl fun A62 c63 h64 => ?_) gn
     refine Aa 6 rfl (Ae rfl) gn rfl <| Aa 7 rfl (Bh rfl rfl rfl) gn rfl <| Aa 8 rfl (Af rfl) gn rfl <| Aa 9 rfl (Af rfl) gn rfl <| Aa 10 rfl (Af rfl) gn rfl <| Ak 11 rfl ?_
     have h := Out.inr hO1 h
     refine Bo [.slice A62 ((x1.extract (w64 (x2 + 1) : Int).toNat (x28 : Int).toNat).size) c63, .int .i64 0, .int .i64 (w64 (x28 + 1))] rfl Tryd.func86 rfl (.tmp rfl (.tmp rfl (.tmp rfl (.nil)))) fun wr hLr => ?_
     have hMr := hLr.pkI (.c 0 rfl .n) .n (by kernel_rfl) (.c 1 rfl .n)
     show Sr w F  r (.returned (Ce [.slice A62 ((x1.extract (w64 (x2 + 1) : Int).toNat (x28 : Int).toNat).size) c63, .int .i64 0, .int .i64 (w64 (x28 + 1))])) wr
     rw [h]
     exact ⟨A62, (x1.extract (w64 (x2 + 1) : Int).toNat (x28 : Int).toNat).size, c63, rfl, hMr, h64⟩
    ·have h := Ar hp59 h
     refine Bj rfl _ rfl ((nei hp59)) <| Ai rfl ?_
     have j3 : ∀ (x70 : Bool) (h : Gv x28 x70 o1) , G (Ny w F r) [.code q86c24, .inBlock 0, .code q86c9, .inScope Xed] [(0, .string x1), (1, .int .i64 x2), (7, .int .i64 x28), (35, .bool x70)] [] [Sm w.heap.size F w [], St w []] := by
      intro x70 h
      unfold Gv at h
      by_cases hp71 : x70 = true
      ·have h := Aq hp71 h
       refine Bz rfl _ rfl (hp71) <| Ad rfl rfl <| Aa 0 rfl (Ae rfl) gn rfl <| Aa 1 rfl (Bh rfl rfl rfl) gn rfl <| Aa 2 rfl (Af rfl) gn rfl <| Ak 3 rfl <| D9 <| Ai rfl <| Ad rfl rfl <| Aa 0 rfl (Ae rfl) gn rfl <| Aa 1 rfl (Bh rfl rfl rfl) gn rfl <| Aa 2 rfl (Af rfl) gn rfl ?_
       refine Ak 3 rfl <| Po [.code (.seq .skip Xfl), .inScope Xed] rfl rfl <| Ai rfl <| Cf rfl ?_
       have ih := Out.inl hO1 h
       exact D7 [0, 1] (ih ()) ⟨rfl, rfl, rfl, trivial⟩ (.slnil) rfl
      ·have h := Ar hp71 h
       refine Bj rfl _ rfl ((bf hp71)) <| Cf rfl <| D9 <| Ai rfl <| Ad rfl rfl <| Aa 0 rfl (Ae rfl) gn rfl <| Aa 1 rfl (Bh rfl rfl rfl) gn rfl <| Aa 2 rfl (Af rfl) gn rfl <| Ak 3 rfl <| Po [.code (.seq .skip Xfl), .inScope Xed] rfl rfl <| Ai rfl <| Cf rfl ?_
       have ih := Out.inl hO1 h
       exact D7 [0, 1] (ih ()) ⟨rfl, rfl, rfl, trivial⟩ (.slnil) rfl
     refine Ad rfl rfl <| Aa 0 rfl (Ae rfl) gn rfl <| Aa 1 rfl (Ae rfl) gn rfl <| Aa 2 rfl (H6 Ko rfl rfl hb58) gn rfl <| Aa 3 rfl (Bh rfl rfl rfl) gn rfl <| Aa 4 rfl (Ae rfl) gn rfl ?_
     by_cases hp72 : bt x1 x28 = 92
     ·have h := Aq hp72 h
      refine Bl 40 rfl ((eqi hp72)) <| Aa 5 rfl (Ae rfl) (gy 40 rfl rfl) rfl <| Aa 6 rfl (Bh rfl rfl rfl) (gy 40 rfl rfl) rfl <| Aa 7 rfl (Ae rfl) (gy 40 rfl rfl) rfl <| Aa 8 rfl (P6 Ko rfl) (gy 40 rfl rfl) rfl <| Aa 9 rfl (Bh rfl rfl rfl) (gy 40 rfl rfl) rfl <| Aa 10 rfl (Az (b := true) rfl rfl) gn rfl <| Aa 11 rfl (Ae rfl) gn rfl ?_
      by_cases hp73 : w64 (x28 + 1) < (x1.size : Int)
      ·have h := Aq hp73 h
       refine Bl 47 rfl ((decide_eq_true hp73)) <| Aa 12 rfl (Ae rfl) (gy 47 rfl rfl) rfl <| Aa 13 rfl (Ae rfl) (gy 47 rfl rfl) rfl <| Aa 14 rfl (Bh rfl rfl rfl) (gy 47 rfl rfl) rfl ?_
       obtain ⟨hb74, h⟩ := h
       refine Aa 15 rfl (H6 Ko rfl rfl hb74) (gy 47 rfl rfl) rfl <| Aa 16 rfl (Bh rfl rfl rfl) (gy 47 rfl rfl) rfl <| Aa 17 rfl (Az (b := true) rfl rfl) gn rfl <| Aa 18 rfl (Af rfl) gn rfl <| Ak 19 rfl ?_
       exact D7 [0, 1] (j3 ((bt x1 (w64 (x28 + 1))) != 10) h) ⟨rfl, rfl, rfl, rfl, trivial⟩ (.slnil) rfl
      ·have h := Ar hp73 h
       refine Bl 47 rfl ((decide_eq_false hp73)) <| Ac 12 rfl (ps 47 rfl rfl rfl) <| Ac 13 rfl (ps 47 rfl rfl rfl) <| Ac 14 rfl (ps 47 rfl rfl rfl) <| Ac 15 rfl (ps 47 rfl rfl rfl) <| Ac 16 rfl (ps 47 rfl rfl rfl) <| Aa 17 rfl (Az (b := false) rfl rfl) gn rfl <| Aa 18 rfl (Af rfl) gn rfl <| Ak 19 rfl ?_
       exact D7 [0, 1] (j3 false h) ⟨rfl, rfl, rfl, rfl, trivial⟩ (.slnil) rfl
     ·have h := Ar hp72 h
      refine Bl 40 rfl ((nei hp72)) <| Ac 5 rfl (ps 40 rfl rfl rfl) <| Ac 6 rfl (ps 40 rfl rfl rfl) <| Ac 7 rfl (ps 40 rfl rfl rfl) <| Ac 8 rfl (ps 40 rfl rfl rfl) <| Ac 9 rfl (ps 40 rfl rfl rfl) <| Aa 10 rfl (Az (b := false) rfl rfl) gn rfl <| Aa 11 rfl (Ae rfl) gn rfl <| Ac 12 rfl (ps 47 rfl rfl rfl) <| Ac 13 rfl (ps 47 rfl rfl rfl) <| Ac 14 rfl (ps 47 rfl rfl rfl) <| Ac 15 rfl (ps 47 rfl rfl rfl) ?_
      refine Ac 16 rfl (ps 47 rfl rfl rfl) <| Aa 17 rfl (Az (b := false) rfl rfl) gn rfl <| Aa 18 rfl (Af rfl) gn rfl <| Ak 19 rfl ?_
      exact D7 [0, 1] (j3 false h) ⟨rfl, rfl, rfl, rfl, trivial⟩ (.slnil) rfl
  refine Ad rfl rfl <| Aa 0 rfl (Ae rfl) gn rfl <| Aa 1 rfl (Ae rfl) gn rfl <| Aa 2 rfl (P6 Ko rfl) gn rfl <| Aa 3 rfl (Bh rfl rfl rfl) gn rfl <| Aa 4 rfl (Ae rfl) gn rfl ?_
  by_cases hp75 : x28 = (x1.size : Int)
  ·have h := Aq hp75 h
   refine Bl 15 rfl ((eqi hp75)) <| Ac 5 rfl (ps 15 rfl rfl rfl) <| Ac 6 rfl (ps 15 rfl rfl rfl) <| Ac 7 rfl (ps 15 rfl rfl rfl) <| Ac 8 rfl (ps 15 rfl rfl rfl) <| Aa 9 rfl (Az (b := true) rfl rfl) gn rfl <| Aa 10 rfl (Af rfl) gn rfl <| Ak 11 rfl ?_
   exact D7 [0, 1] (j2 true h) ⟨rfl, rfl, rfl, rfl, trivial⟩ (.slnil) rfl
  ·have h := Ar hp75 h
   refine Bl 15 rfl ((nei hp75)) <| Aa 5 rfl (Ae rfl) (gy 15 rfl rfl) rfl <| Aa 6 rfl (Ae rfl) (gy 15 rfl rfl) rfl ?_
   obtain ⟨hb76, h⟩ := h
   refine Aa 7 rfl (H6 Ko rfl rfl hb76) (gy 15 rfl rfl) rfl <| Aa 8 rfl (Bh rfl rfl rfl) (gy 15 rfl rfl) rfl <| Aa 9 rfl (Az (b := false) rfl rfl) gn rfl <| Aa 10 rfl (Af rfl) gn rfl <| Ak 11 rfl ?_
   exact D7 [0, 1] (j2 ((bt x1 x28) == 10) h) ⟨rfl, rfl, rfl, rfl, trivial⟩ (.slnil) rfl
 exact D7 [0, 1] (key1 _ h ()) ⟨rfl, rfl, rfl, trivial⟩ (.slnil) rfl
noncomputable abbrev Mc := Code.fst (Code.snd (Dp Tryd.f59))
noncomputable abbrev Xf := Code.snd (Code.snd (Code.snd (Code.snd (Code.snd (Code.snd Mc)))))
noncomputable abbrev Xbq := Code.snd (Code.snd (Code.snd (Code.snd (Code.snd Xf))))
noncomputable abbrev q59c50 := Code.snd Xbq
noncomputable abbrev q59c52 := Code.snd (Code.fst Xbq)
noncomputable abbrev Xbn := Code.snd (Code.snd q59c50)
noncomputable abbrev q59c65 := Code.snd Xbn
noncomputable abbrev q59c67 := Code.snd (Code.fst Xbn)
noncomputable abbrev Xcd := Code.snd (Code.snd (Code.snd (Code.snd q59c65)))
noncomputable abbrev q59c92 := Code.snd Xcd
noncomputable abbrev q59c94 := Code.snd (Code.fst Xcd)
noncomputable abbrev Xl0 := Code.snd (Code.snd (Code.snd (Code.snd q59c92)))
noncomputable abbrev q59c136 := Code.snd (Code.snd (Code.snd (Code.snd Xl0)))
abbrev O5 (w : World) (F : Nat → Prop) (r : (List Aj) × Int × Int) : Ending → World → Prop := fun e w' => ∃ A0 : Option Addr, ∃ n0 : Nat, ∃ c0 : Nat, e = .returned (.tuple #[.slice A0 n0 c0, .int .i64 r.2.1, .int .i64 r.2.2]) ∧ B.Loc w w' [.own (.slice A0 n0 c0) 84 4 n0 (r.1.flatMap D5)] [St w []] ∧ Ow w.heap.size A0 n0 c0 r.1
noncomputable abbrev Gz (w : World) (F : Nat → Prop) (r : (List Aj) × Int × Int) : Cx := ⟨Tryd.prog, 59, Tryd.f59, 170, O5 w F  r, w⟩
theorem Xeo (w : World) (F : Nat → Prop) (x1 : ByteArray) (hF : ∀ b, F b → b < w.heap.size ∧ ∀ o ∈ ([] : List (List Nat)), b ∉ o) (hL0 : B.Loc w w [] [Sm w.heap.size F w [], St w []]) (r : (List Aj) × Int × Int) (h : U1 x1 r) : Calls Tryd.prog 59 #[.string x1] w (O5 w F  r) := by
 unfold U1 at h
 refine Cb (vs := [.string x1]) 170 Tryd.func59 rfl Tryd.ntmps59 rfl hL0 ?_
 show G (Gz w F r) _ _ _ _
 refine Ai rfl <| Ad rfl rfl <| Aa 0 rfl (Af rfl) gn rfl <| Aa 1 rfl (Af rfl) gn rfl <| Aa 2 rfl (Af rfl) gn rfl <| Ak 3 rfl <| Xi7 rfl <| Ai rfl <| Ai rfl <| Ad rfl rfl <| Aa 0 rfl (Ae rfl) gn rfl <| Aa 1 rfl (P6 Ko rfl) gn rfl ?_
 refine Aa 2 rfl (Bh rfl rfl rfl) gn rfl <| Ak 3 rfl ?_
 by_cases hp2 : (x1.size : Int) > 16384
 ·have h := Aq hp2 h
  refine Bz rfl _ rfl ((decide_eq_true hp2)) <| Ai rfl <| Ad rfl rfl <| Aa 0 rfl (Af rfl) gn rfl <| Aa 1 rfl (Af rfl) gn rfl <| Aa 2 rfl (Af rfl) gn rfl <| Ak 3 rfl <| Px 84 4 ?_
  refine Bo [.slice none 0 0, .int .i64 80, .int .i64 16384] rfl Tryd.func59 rfl (.tmp rfl (.tmp rfl (.tmp rfl (.nil)))) fun wr hLr => ?_
  have hMr := hLr.pkI (.c 0 rfl .n) .n (by kernel_rfl) (.c 1 rfl .n)
  show O5 w F  r (.returned (Ce [.slice none 0 0, .int .i64 80, .int .i64 16384])) wr
  rw [h]
  exact ⟨none, 0, 0, rfl, hMr, (Ow.nil (z := w.heap.size))⟩
 ·have h := Ar hp2 h
  refine Bj rfl _ rfl ((decide_eq_false hp2)) <| Cf rfl <| Ai rfl <| Ad rfl rfl <| Aa 0 rfl (Af rfl) gn rfl <| Ak 1 rfl <| Ai rfl <| Ad rfl rfl <| Aa 0 rfl (Af rfl) gn rfl <| Ak 1 rfl <| Ai rfl <| Ad rfl rfl ?_
  refine Aa 0 rfl (Af rfl) gn rfl <| Ak 1 rfl <| Ai rfl <| Ad rfl rfl <| Aa 0 rfl (Af rfl) gn rfl <| Aa 1 rfl (Af rfl) gn rfl <| Aa 2 rfl (Af rfl) gn rfl <| Ak 3 rfl <| Ai rfl <| Xh9 rfl ?_
  have key1 : ∀ s, Bv (fun (s : (List Aj) × Int) o => Ht x1 s.1 s.2 o) s r → (fun (s : (List Aj) × Int) => ∀ (A439 : Option Addr) (n440 : Nat) (c441 : Nat) (h442 : Ow w.heap.size A439 n440 c441 s.1), G (Gz w F r) [.code Xf, .inScope Mc] [(0, .string x1), (5, .slice A439 n440 c441), (8, .int .i64 s.2)] [.own (.slice A439 n440 c441) 84 4 n440 (s.1.flatMap D5)] [Sm w.heap.size F w [], St w []]) s := by
   intro s hs
   refine Bv.ind (mot := (fun (s : (List Aj) × Int) => ∀ (A439 : Option Addr) (n440 : Nat) (c441 : Nat) (h442 : Ow w.heap.size A439 n440 c441 s.1), G (Gz w F r) [.code Xf, .inScope Mc] [(0, .string x1), (5, .slice A439 n440 c441), (8, .int .i64 s.2)] [.own (.slice A439 n440 c441) 84 4 n440 (s.1.flatMap D5)] [Sm w.heap.size F w [], St w []])) ?_ hs
   clear hs s
   intro s o1 h hO1
   obtain ⟨x438, x443⟩ := s
   show ∀ (A439 : Option Addr) (n440 : Nat) (c441 : Nat) (h442 : Ow w.heap.size A439 n440 c441 x438), G (Gz w F r) [.code Xf, .inScope Mc] [(0, .string x1), (5, .slice A439 n440 c441), (8, .int .i64 x443)] [.own (.slice A439 n440 c441) 84 4 n440 (x438.flatMap D5)] [Sm w.heap.size F w [], St w []]
   intro A439 n440 c441 h442
   have h : Ht x1 x438 x443 o1 := h
   unfold Ht at h
   refine Ai rfl <| Ai rfl <| Ad rfl rfl <| Aa 0 rfl (Ae rfl) gn rfl <| Aa 1 rfl (Ae rfl) gn rfl <| Aa 2 rfl (P6 Ko rfl) gn rfl <| Aa 3 rfl (Bh rfl rfl rfl) gn rfl <| Ak 4 rfl ?_
   by_cases hp867 : x443 = (x1.size : Int)
   ·have h := Aq hp867 h
    refine Bz rfl _ rfl ((eqi hp867)) <| Ai rfl <| Ad rfl rfl <| Aa 0 rfl (Ae rfl) gn rfl <| Aa 1 rfl (Af rfl) gn rfl <| Aa 2 rfl (Af rfl) gn rfl <| Aa 3 rfl (Af rfl) gn rfl <| Ak 4 rfl ?_
    have h := Out.inr hO1 h
    refine Bo [.slice A439 n440 c441, .int .i64 0, .int .i64 0] rfl Tryd.func59 rfl (.tmp rfl (.tmp rfl (.tmp rfl (.nil)))) fun wr hLr => ?_
    have hMr := hLr.pkI (.c 0 rfl .n) .n (by kernel_rfl) (.c 1 rfl .n)
    show O5 w F  r (.returned (Ce [.slice A439 n440 c441, .int .i64 0, .int .i64 0])) wr
    rw [h]
    exact ⟨A439, n440, c441, rfl, hMr, h442⟩
   ·have h := Ar hp867 h
    refine Bj rfl _ rfl ((nei hp867)) <| Cf rfl <| Ai rfl <| Ad rfl rfl <| Aa 0 rfl (Ae rfl) gn rfl <| Aa 1 rfl (Af rfl) gn rfl <| Ak 2 rfl <| Ai rfl <| Ai rfl <| Ad rfl rfl <| Aa 0 rfl (Ae rfl) gn rfl <| Aa 1 rfl (Ae rfl) gn rfl ?_
    obtain ⟨hb868, h⟩ := h
    refine Aa 2 rfl (H6 Ko rfl rfl hb868) gn rfl <| Aa 3 rfl (Af rfl) gn rfl <| Ak 4 rfl <| Dt rfl <| Ai rfl <| Ad rfl rfl <| Aa 0 rfl (Ae rfl) gn rfl ?_
    obtain ⟨r872, hv873, h⟩ := h
    refine Cj 1 rfl (D6 [.int .u8 (bt x1 x443)] rfl Tryd.func81 rfl rfl rfl fun w869 hL870 => ?_) gn
    have hp871 := pmI hL870 .n (.c 0 rfl .n) (by kernel_rfl)
    refine Calls.mono (Xd1 w869 (Fl ([] : List C9)) (bt x1 x443) (hL870.hFl hp871 (Bg [] rfl)) (hL870.into hp871 _) r872 hv873) ?_
    rintro _ w874 ⟨rfl, hM875⟩
    have hL876 := hL870.call hp871 hM875
    refine ⟨_, _, _, rfl, hL876, ?_⟩
    refine Aa 2 rfl (Af rfl) gn rfl <| Ak 3 rfl ?_
    by_cases hp877 : r872 = true
    ·have h := Aq hp877 h
     refine Bz rfl _ rfl (hp877) <| Ai rfl <| Ad rfl rfl <| Aa 0 rfl (Ae rfl) gn rfl <| Aa 1 rfl (Bh rfl rfl rfl) gn rfl <| Aa 2 rfl (Af rfl) gn rfl <| Ak 3 rfl <| Po [.code (.seq .skip Xf), .inScope Mc] rfl rfl <| Ai rfl <| Cf rfl ?_
     have ih := Out.inl hO1 h
     exact D7 [0, 1] (ih A439 n440 c441 h442) ⟨rfl, rfl, rfl, trivial⟩ (.cons_cons _ (.slnil)) rfl
    ·have h := Ar hp877 h
     refine Bj rfl _ rfl ((bf hp877)) <| Ai rfl <| Ad rfl rfl <| Aa 0 rfl (Ae rfl) gn rfl <| Aa 1 rfl (Bh rfl rfl rfl) gn rfl <| Aa 2 rfl (Af rfl) gn rfl <| Ak 3 rfl ?_
     by_cases hp878 : bt x1 x443 = 35
     ·have h := Aq hp878 h
      refine Bz rfl _ rfl ((eqi hp878)) <| Po [.code (.seq .skip Xbq), .inScope Mc] rfl rfl <| Ai rfl <| Cf rfl ?_
      have key2 : ∀ s, Bv (fun (s : Int) o => O8 x1 x438 s o) s o1 → (fun (s : Int) => ∀ (_ : Unit), G (Gz w F r) [.code Xbq, .inScope Mc] [(0, .string x1), (5, .slice A439 n440 c441), (8, .int .i64 s)] [.own (.slice A439 n440 c441) 84 4 n440 (x438.flatMap D5)] [Sm w.heap.size F w [], St w []]) s := by
       intro s hs
       refine Bv.ind (mot := (fun (s : Int) => ∀ (_ : Unit), G (Gz w F r) [.code Xbq, .inScope Mc] [(0, .string x1), (5, .slice A439 n440 c441), (8, .int .i64 s)] [.own (.slice A439 n440 c441) 84 4 n440 (x438.flatMap D5)] [Sm w.heap.size F w [], St w []])) ?_ hs
       clear hs s
       intro x885 o2 h hO2
       show ∀ (_ : Unit), G (Gz w F r) [.code Xbq, .inScope Mc] [(0, .string x1), (5, .slice A439 n440 c441), (8, .int .i64 x885)] [.own (.slice A439 n440 c441) 84 4 n440 (x438.flatMap D5)] [Sm w.heap.size F w [], St w []]
       intro _
       have h : O8 x1 x438 x885 o2 := h
       unfold O8 at h
       refine Ai rfl <| Ai rfl ?_
       have j3 : ∀ (x896 : Bool) (h : Rh x885 x438 x896 o2) , G (Gz w F r) [.code q59c52, .code q59c50, .inScope Mc] [(0, .string x1), (5, .slice A439 n440 c441), (8, .int .i64 x885), (69, .bool x896)] [.own (.slice A439 n440 c441) 84 4 n440 (x438.flatMap D5)] [Sm w.heap.size F w [], St w []] := by
        intro x896 h
        unfold Rh at h
        by_cases hp897 : x896 = true
        ·have h := Aq hp897 h
         refine Bz rfl _ rfl (hp897) <| Ai rfl <| Ad rfl rfl <| Aa 0 rfl (Ae rfl) gn rfl <| Aa 1 rfl (Bh rfl rfl rfl) gn rfl <| Aa 2 rfl (Af rfl) gn rfl <| Ak 3 rfl <| Po [.code (.seq .skip Xbq), .inScope Mc] rfl rfl <| Ai rfl <| Cf rfl ?_
         have ih := Out.inl hO2 h
         exact D7 [0, 1] (ih ()) ⟨rfl, rfl, rfl, trivial⟩ (.cons_cons _ (.slnil)) rfl
        ·have h := Ar hp897 h
         refine Bj rfl _ rfl ((bf hp897)) <| Cf rfl <| Ai rfl <| Po [.code (.seq .skip Xf), .inScope Mc] rfl rfl <| Ai rfl <| Cf rfl ?_
         have h := Out.inr hO2 h
         have ih := Out.inl hO1 h
         exact D7 [0, 1] (ih A439 n440 c441 h442) ⟨rfl, rfl, rfl, trivial⟩ (.cons_cons _ (.slnil)) rfl
       refine Ad rfl rfl <| Aa 0 rfl (Ae rfl) gn rfl <| Aa 1 rfl (Ae rfl) gn rfl <| Aa 2 rfl (P6 Ko rfl) gn rfl <| Aa 3 rfl (Bh rfl rfl rfl) gn rfl <| Aa 4 rfl (Ae rfl) gn rfl ?_
       by_cases hp898 : x885 < (x1.size : Int)
       ·have h := Aq hp898 h
        refine Bl 64 rfl ((decide_eq_true hp898)) <| Aa 5 rfl (Ae rfl) (gy 64 rfl rfl) rfl <| Aa 6 rfl (Ae rfl) (gy 64 rfl rfl) rfl ?_
        obtain ⟨hb899, h⟩ := h
        refine Aa 7 rfl (H6 Ko rfl rfl hb899) (gy 64 rfl rfl) rfl <| Aa 8 rfl (Bh rfl rfl rfl) (gy 64 rfl rfl) rfl <| Aa 9 rfl (Az (b := true) rfl rfl) gn rfl <| Ak 10 rfl ?_
        exact D7 [0, 1] (j3 ((bt x1 x885) != 10) h) ⟨rfl, rfl, rfl, rfl, trivial⟩ (.cons_cons _ (.slnil)) rfl
       ·have h := Ar hp898 h
        refine Bl 64 rfl ((decide_eq_false hp898)) <| Ac 5 rfl (ps 64 rfl rfl rfl) <| Ac 6 rfl (ps 64 rfl rfl rfl) <| Ac 7 rfl (ps 64 rfl rfl rfl) <| Ac 8 rfl (ps 64 rfl rfl rfl) <| Aa 9 rfl (Az (b := false) rfl rfl) gn rfl <| Ak 10 rfl ?_
        exact D7 [0, 1] (j3 false h) ⟨rfl, rfl, rfl, rfl, trivial⟩ (.cons_cons _ (.slnil)) rfl
      exact D7 [0, 1] (key2 _ h ()) ⟨rfl, rfl, rfl, trivial⟩ (.cons_cons _ (.slnil)) rfl
     ·have h := Ar hp878 h
      refine Bj rfl _ rfl ((nei hp878)) <| Ai rfl <| Ad rfl rfl <| Aa 0 rfl (Ae rfl) gn rfl ?_
      obtain ⟨r903, hv904, h⟩ := h
      refine Cj 1 rfl (D6 [.int .u8 (bt x1 x443)] rfl Tryd.func82 rfl rfl rfl fun w900 hL901 => ?_) gn
      have hp902 := pmI hL901 .n (.c 0 rfl .n) (by kernel_rfl)
      refine Calls.mono (Tn w900 (Fl ([] : List C9)) (bt x1 x443) (hL901.hFl hp902 (Bg [] rfl)) (hL901.into hp902 _) r903 hv904) ?_
      rintro _ w905 ⟨rfl, hM906⟩
      have hL907 := hL901.call hp902 hM906
      refine ⟨_, _, _, rfl, hL907, ?_⟩
      refine Aa 2 rfl (Af rfl) gn rfl <| Ak 3 rfl ?_
      by_cases hp908 : r903 = true
      ·have h := Aq hp908 h
       refine Bz rfl _ rfl (hp908) <| Po [.code (.seq .skip Xbn), .inScope Mc] rfl rfl <| Ai rfl <| Cf rfl ?_
       have key4 : ∀ s, Bv (fun (s : Int) o => Lj x1 x443 x438 s o) s o1 → (fun (s : Int) => ∀ (_ : Unit), G (Gz w F r) [.code Xbn, .inScope Mc] [(0, .string x1), (5, .slice A439 n440 c441), (8, .int .i64 s), (9, .int .i64 x443)] [.own (.slice A439 n440 c441) 84 4 n440 (x438.flatMap D5)] [Sm w.heap.size F w [], St w []]) s := by
        intro s hs
        refine Bv.ind (mot := (fun (s : Int) => ∀ (_ : Unit), G (Gz w F r) [.code Xbn, .inScope Mc] [(0, .string x1), (5, .slice A439 n440 c441), (8, .int .i64 s), (9, .int .i64 x443)] [.own (.slice A439 n440 c441) 84 4 n440 (x438.flatMap D5)] [Sm w.heap.size F w [], St w []])) ?_ hs
        clear hs s
        intro x960 o2 h hO2
        show ∀ (_ : Unit), G (Gz w F r) [.code Xbn, .inScope Mc] [(0, .string x1), (5, .slice A439 n440 c441), (8, .int .i64 x960), (9, .int .i64 x443)] [.own (.slice A439 n440 c441) 84 4 n440 (x438.flatMap D5)] [Sm w.heap.size F w [], St w []]
        intro _
        have h : Lj x1 x443 x438 x960 o2 := h
        unfold Lj at h
        refine Ai rfl <| Ai rfl ?_
        have j5 : ∀ (x1033 : Bool) (h : Le x960 x443 x1 x438 x1033 o2) , G (Gz w F r) [.code q59c67, .code q59c65, .inScope Mc] [(0, .string x1), (5, .slice A439 n440 c441), (8, .int .i64 x960), (9, .int .i64 x443), (87, .bool x1033)] [.own (.slice A439 n440 c441) 84 4 n440 (x438.flatMap D5)] [Sm w.heap.size F w [], St w []] := by
         intro x1033 h
         unfold Le at h
         by_cases hp1034 : x1033 = true
         ·have h := Aq hp1034 h
          refine Bz rfl _ rfl (hp1034) <| Ai rfl <| Ad rfl rfl <| Aa 0 rfl (Ae rfl) gn rfl <| Aa 1 rfl (Bh rfl rfl rfl) gn rfl <| Aa 2 rfl (Af rfl) gn rfl <| Ak 3 rfl <| Po [.code (.seq .skip Xbn), .inScope Mc] rfl rfl <| Ai rfl <| Cf rfl ?_
          have ih := Out.inl hO2 h
          exact D7 [0, 1] (ih ()) ⟨rfl, rfl, rfl, rfl, trivial⟩ (.cons_cons _ (.slnil)) rfl
         ·have h := Ar hp1034 h
          refine Bj rfl _ rfl ((bf hp1034)) <| Cf rfl <| Ai rfl <| Ai rfl <| Ad rfl rfl <| Aa 0 rfl (Ae rfl) gn rfl <| Aa 1 rfl (Ae rfl) gn rfl <| Aa 2 rfl (Bh rfl rfl rfl) gn rfl <| Aa 3 rfl (Bh rfl rfl rfl) gn rfl <| Ak 4 rfl ?_
          by_cases hp1035 : w64 (x960 - x443) > 24
          ·have h := Aq hp1035 h
           refine Bz rfl _ rfl ((decide_eq_true hp1035)) <| Ai rfl <| Ad rfl rfl <| Aa 0 rfl (Ae rfl) gn rfl <| Aa 1 rfl (Af rfl) gn rfl <| Aa 2 rfl (Af rfl) gn rfl <| Aa 3 rfl (Af rfl) gn rfl <| Ak 4 rfl <| Px 84 4 ?_
           have h := Out.inr hO2 h
           have h := Out.inr hO1 h
           refine Bo [.slice none 0 0, .int .i64 83, .int .i64 x443] rfl Tryd.func59 rfl (.tmp rfl (.tmp rfl (.tmp rfl (.nil)))) fun wr hLr => ?_
           have hMr := hLr.pkI (.c 0 rfl .n) (.c 1 rfl .n) (by kernel_rfl) (.c 1 rfl .n)
           show O5 w F  r (.returned (Ce [.slice none 0 0, .int .i64 83, .int .i64 x443])) wr
           rw [h]
           exact ⟨none, 0, 0, rfl, hMr, (Ow.nil (z := w.heap.size))⟩
          ·have h := Ar hp1035 h
           refine Bj rfl _ rfl ((decide_eq_false hp1035)) <| Cf rfl <| Ai rfl <| Ad rfl rfl <| Aa 0 rfl (Ae rfl) gn rfl <| Aa 1 rfl (Ae rfl) gn rfl <| Aa 2 rfl (Ae rfl) gn rfl <| Aa 3 rfl (Ae rfl) gn rfl ?_
           obtain ⟨hb1036, h⟩ := h
           refine Aa 4 rfl (Xhb x443 x960 Ko rfl (.inr ⟨_, _, rfl, rfl⟩) (.inr ⟨_, _, rfl, rfl⟩) ⟨hb1036.1, hb1036.2.1⟩ hb1036.2.2) gn rfl <| Aa 5 rfl (Ae rfl) gn rfl <| Aa 6 rfl (Iq #[.int .i64 1, .string (x1.extract (x443 : Int).toNat (x960 : Int).toNat), .int .i64 0, .int .i64 x443] Xff rfl (by kernel_rfl)) gn rfl ?_
           refine Cj 7 rfl (Ib (xs := ([(⟨1, x1.extract (x443 : Int).toNat (x960 : Int).toNat, 0, x443⟩ : Aj)] : List Aj)) [.int .i64 1, .string (x1.extract (x443 : Int).toNat (x960 : Int).toNat), .int .i64 0, .int .i64 x443] Xb5 rfl (by kernel_rfl) rfl rfl rfl rfl fun gb1038 h1039 => ?_) gn
           obtain ⟨x1043, hv1044, h⟩ := h
           obtain ⟨hb1045, h⟩ := h
           refine Cj 8 rfl (Oc (zs := x1043) (cells' := x1043.flatMap D5) 1 Xgk rfl rfl rfl h442 (Nat.le_refl _) (Src.ownF (hl := Ef) (h1 := Ee) 0 rfl h1039) (by rw [hv1044, List.flatMap_append] <;> rfl) (H7 hv1044 h1039.hq) hb1045 rfl rfl fun A1040 c1041 h1042 => ?_) gn
           refine Aa 9 rfl (Af rfl) gn rfl <| Ak 10 rfl <| Ai rfl <| Po [.code (.seq .skip Xf), .inScope Mc] rfl rfl <| Ai rfl <| Cf rfl ?_
           have h := Out.inr hO2 h
           have ih := Out.inl hO1 h
           exact D7 [0, 1] (ih A1040 (n440 + 1) c1041 h1042) ⟨rfl, rfl, rfl, trivial⟩ (.cons _ (.cons_cons _ (.slnil))) rfl
        refine Ad rfl rfl <| Aa 0 rfl (Ae rfl) gn rfl <| Aa 1 rfl (Ae rfl) gn rfl <| Aa 2 rfl (P6 Ko rfl) gn rfl <| Aa 3 rfl (Bh rfl rfl rfl) gn rfl <| Aa 4 rfl (Ae rfl) gn rfl ?_
        by_cases hp1046 : x960 < (x1.size : Int)
        ·have h := Aq hp1046 h
         refine Bl 76 rfl ((decide_eq_true hp1046)) <| Aa 5 rfl (Ae rfl) (gy 76 rfl rfl) rfl <| Aa 6 rfl (Ae rfl) (gy 76 rfl rfl) rfl ?_
         obtain ⟨hb1047, h⟩ := h
         refine Aa 7 rfl (H6 Ko rfl rfl hb1047) (gy 76 rfl rfl) rfl ?_
         obtain ⟨r1051, hv1052, h⟩ := h
         refine Cj 8 rfl (D6 [.int .u8 (bt x1 x960)] rfl Tryd.func82 rfl rfl rfl fun w1048 hL1049 => ?_) (gy 76 rfl rfl)
         have hp1050 := pmI hL1049 .n (.c 0 rfl .n) (by kernel_rfl)
         refine Calls.mono (Tn w1048 (Fl ([] : List C9)) (bt x1 x960) (hL1049.hFl hp1050 (Bg [] rfl)) (hL1049.into hp1050 _) r1051 hv1052) ?_
         rintro _ w1053 ⟨rfl, hM1054⟩
         have hL1055 := hL1049.call hp1050 hM1054
         refine ⟨_, _, _, rfl, hL1055, ?_⟩
         refine Aa 9 rfl (Ae rfl) (gy 76 rfl rfl) rfl ?_
         by_cases hp1056 : r1051 = true
         ·have h := Aq hp1056 h
          refine Bl 81 rfl (hp1056) <| Ac 10 rfl (ps 81 rfl rfl rfl) <| Ac 11 rfl (ps 81 rfl rfl rfl) <| Ac 12 rfl (ps 81 rfl rfl rfl) <| Ac 13 rfl (ps 81 rfl rfl rfl) <| Aa 14 rfl (Az (b := true) rfl rfl) (gy 76 rfl rfl) rfl <| Aa 15 rfl (Az (b := true) rfl rfl) gn rfl <| Ak 16 rfl ?_
          exact D7 [0, 1] (j5 true h) ⟨rfl, rfl, rfl, rfl, rfl, trivial⟩ (.cons_cons _ (.slnil)) rfl
         ·have h := Ar hp1056 h
          refine Bl 81 rfl ((bf hp1056)) <| Aa 10 rfl (Ae rfl) (gy 81 rfl rfl) rfl <| Aa 11 rfl (Ae rfl) (gy 81 rfl rfl) rfl <| Aa 12 rfl (H6 Ko rfl rfl hb1047) (gy 81 rfl rfl) rfl ?_
          obtain ⟨r1060, hv1061, h⟩ := h
          refine Cj 13 rfl (D6 [.int .u8 (bt x1 x960)] rfl Tryd.func83 rfl rfl rfl fun w1057 hL1058 => ?_) (gy 81 rfl rfl)
          have hp1059 := pmI hL1058 .n (.c 0 rfl .n) (by kernel_rfl)
          refine Calls.mono (Ku w1057 (Fl ([] : List C9)) (bt x1 x960) (hL1058.hFl hp1059 (Bg [] rfl)) (hL1058.into hp1059 _) r1060 hv1061) ?_
          rintro _ w1062 ⟨rfl, hM1063⟩
          have hL1064 := hL1058.call hp1059 hM1063
          refine ⟨_, _, _, rfl, hL1064, ?_⟩
          refine Aa 14 rfl (Az (b := false) rfl rfl) (gy 76 rfl rfl) rfl <| Aa 15 rfl (Az (b := true) rfl rfl) gn rfl <| Ak 16 rfl ?_
          exact D7 [0, 1] (j5 r1060 h) ⟨rfl, rfl, rfl, rfl, rfl, trivial⟩ (.cons_cons _ (.slnil)) rfl
        ·have h := Ar hp1046 h
         refine Bl 76 rfl ((decide_eq_false hp1046)) <| Ac 5 rfl (ps 76 rfl rfl rfl) <| Ac 6 rfl (ps 76 rfl rfl rfl) <| Ac 7 rfl (ps 76 rfl rfl rfl) <| Ac 8 rfl (ps 76 rfl rfl rfl) <| Ac 9 rfl (ps 76 rfl rfl rfl) <| Ac 10 rfl (pu 81 rfl rfl) <| Ac 11 rfl (pu 81 rfl rfl) <| Ac 12 rfl (pu 81 rfl rfl) <| Ac 13 rfl (pu 81 rfl rfl) <| Ac 14 rfl (ps 76 rfl rfl rfl) <| Aa 15 rfl (Az (b := false) rfl rfl) gn rfl ?_
         refine Ak 16 rfl ?_
         exact D7 [0, 1] (j5 false h) ⟨rfl, rfl, rfl, rfl, rfl, trivial⟩ (.cons_cons _ (.slnil)) rfl
       exact D7 [0, 1] (key4 _ h ()) ⟨rfl, rfl, rfl, rfl, trivial⟩ (.cons_cons _ (.slnil)) rfl
      ·have h := Ar hp908 h
       refine Bj rfl _ rfl ((bf hp908)) <| Ai rfl <| Ad rfl rfl <| Aa 0 rfl (Ae rfl) gn rfl ?_
       obtain ⟨r1068, hv1069, h⟩ := h
       refine Cj 1 rfl (D6 [.int .u8 (bt x1 x443)] rfl Tryd.func83 rfl rfl rfl fun w1065 hL1066 => ?_) gn
       have hp1067 := pmI hL1066 .n (.c 0 rfl .n) (by kernel_rfl)
       refine Calls.mono (Ku w1065 (Fl ([] : List C9)) (bt x1 x443) (hL1066.hFl hp1067 (Bg [] rfl)) (hL1066.into hp1067 _) r1068 hv1069) ?_
       rintro _ w1070 ⟨rfl, hM1071⟩
       have hL1072 := hL1066.call hp1067 hM1071
       refine ⟨_, _, _, rfl, hL1072, ?_⟩
       refine Aa 2 rfl (Af rfl) gn rfl <| Ak 3 rfl ?_
       by_cases hp1073 : r1068 = true
       ·have h := Aq hp1073 h
        refine Bz rfl _ rfl (hp1073) <| Ai rfl <| Ad rfl rfl <| Aa 0 rfl (Af rfl) gn rfl <| Ak 1 rfl <| Po [.code (.seq .skip Xcd), .inScope Mc] rfl rfl <| Ai rfl <| Cf rfl ?_
        have key6 : ∀ s, Bv (fun (s : Int × Int) o => Iy x1 x443 x438 s.1 s.2 o) s o1 → (fun (s : Int × Int) => ∀ (_ : Unit), G (Gz w F r) [.code Xcd, .inScope Mc] [(0, .string x1), (5, .slice A439 n440 c441), (8, .int .i64 s.1), (9, .int .i64 x443), (10, .int .i64 s.2)] [.own (.slice A439 n440 c441) 84 4 n440 (x438.flatMap D5)] [Sm w.heap.size F w [], St w []]) s := by
         intro s hs
         refine Bv.ind (mot := (fun (s : Int × Int) => ∀ (_ : Unit), G (Gz w F r) [.code Xcd, .inScope Mc] [(0, .string x1), (5, .slice A439 n440 c441), (8, .int .i64 s.1), (9, .int .i64 x443), (10, .int .i64 s.2)] [.own (.slice A439 n440 c441) 84 4 n440 (x438.flatMap D5)] [Sm w.heap.size F w [], St w []])) ?_ hs
         clear hs s
         intro s o2 h hO2
         obtain ⟨x1105, x1106⟩ := s
         show ∀ (_ : Unit), G (Gz w F r) [.code Xcd, .inScope Mc] [(0, .string x1), (5, .slice A439 n440 c441), (8, .int .i64 x1105), (9, .int .i64 x443), (10, .int .i64 x1106)] [.own (.slice A439 n440 c441) 84 4 n440 (x438.flatMap D5)] [Sm w.heap.size F w [], St w []]
         intro _
         have h : Iy x1 x443 x438 x1105 x1106 o2 := h
         unfold Iy at h
         refine Ai rfl <| Ai rfl ?_
         have j7 : ∀ (x1152 : Bool) (h : O4 x1105 x1 x1106 x443 x438 x1152 o2) , G (Gz w F r) [.code q59c94, .code q59c92, .inScope Mc] [(0, .string x1), (5, .slice A439 n440 c441), (8, .int .i64 x1105), (9, .int .i64 x443), (10, .int .i64 x1106), (113, .bool x1152)] [.own (.slice A439 n440 c441) 84 4 n440 (x438.flatMap D5)] [Sm w.heap.size F w [], St w []] := by
          intro x1152 h
          unfold O4 at h
          by_cases hp1153 : x1152 = true
          ·have h := Aq hp1153 h
           refine Bz rfl _ rfl (hp1153) <| Ai rfl <| Ad rfl rfl <| Aa 0 rfl (Ae rfl) gn rfl <| Aa 1 rfl (Bh rfl rfl rfl) gn rfl <| Aa 2 rfl (Ae rfl) gn rfl <| Aa 3 rfl (Ae rfl) gn rfl ?_
           obtain ⟨hb1154, h⟩ := h
           refine Aa 4 rfl (H6 Ko rfl rfl hb1154) gn rfl <| Aa 5 rfl (Bh rfl rfl rfl) gn rfl <| Aa 6 rfl (v_conv ⟨_, un_5⟩ un_3 rfl) gn rfl <| Aa 7 rfl (Bh rfl rfl rfl) gn rfl <| Aa 8 rfl (v_min rfl rfl) gn rfl <| Aa 9 rfl (Af rfl) gn rfl <| Ak 10 rfl <| Ai rfl <| Ad rfl rfl <| Aa 0 rfl (Ae rfl) gn rfl <| Aa 1 rfl (Bh rfl rfl rfl) gn rfl <| Aa 2 rfl (Af rfl) gn rfl ?_
           refine Ak 3 rfl <| Po [.code (.seq .skip Xcd), .inScope Mc] rfl rfl <| Ai rfl <| Cf rfl ?_
           have ih := Out.inl hO2 h
           exact D7 [0, 1] (ih ()) ⟨rfl, rfl, rfl, rfl, rfl, trivial⟩ (.cons_cons _ (.slnil)) rfl
          ·have h := Ar hp1153 h
           refine Bj rfl _ rfl ((bf hp1153)) <| Cf rfl <| Ai rfl <| Ai rfl <| Ad rfl rfl <| Aa 0 rfl (Ae rfl) gn rfl <| Aa 1 rfl (Bh rfl rfl rfl) gn rfl <| Ak 2 rfl ?_
           by_cases hp1155 : x1106 > 65535
           ·have h := Aq hp1155 h
            refine Bz rfl _ rfl ((decide_eq_true hp1155)) <| Ai rfl <| Ad rfl rfl <| Aa 0 rfl (Ae rfl) gn rfl <| Aa 1 rfl (Af rfl) gn rfl <| Aa 2 rfl (Af rfl) gn rfl <| Aa 3 rfl (Af rfl) gn rfl <| Ak 4 rfl <| Px 84 4 ?_
            have h := Out.inr hO2 h
            have h := Out.inr hO1 h
            refine Bo [.slice none 0 0, .int .i64 84, .int .i64 x443] rfl Tryd.func59 rfl (.tmp rfl (.tmp rfl (.tmp rfl (.nil)))) fun wr hLr => ?_
            have hMr := hLr.pkI (.c 0 rfl .n) (.c 1 rfl .n) (by kernel_rfl) (.c 1 rfl .n)
            show O5 w F  r (.returned (Ce [.slice none 0 0, .int .i64 84, .int .i64 x443])) wr
            rw [h]
            exact ⟨none, 0, 0, rfl, hMr, (Ow.nil (z := w.heap.size))⟩
           ·have h := Ar hp1155 h
            refine Bj rfl _ rfl ((decide_eq_false hp1155)) <| Cf rfl <| Ai rfl <| Ad rfl rfl <| Aa 0 rfl (Ae rfl) gn rfl <| Aa 1 rfl (Ae rfl) gn rfl <| Aa 2 rfl (Ae rfl) gn rfl <| Aa 3 rfl (Iq #[.int .i64 4, .string (⟨#[]⟩ : ByteArray), .int .i64 x1106, .int .i64 x443] Xff rfl (by kernel_rfl)) gn rfl ?_
            refine Cj 4 rfl (Ib (xs := ([(⟨4, (⟨#[]⟩ : ByteArray), x1106, x443⟩ : Aj)] : List Aj)) [.int .i64 4, .string (⟨#[]⟩ : ByteArray), .int .i64 x1106, .int .i64 x443] Xb5 rfl (by kernel_rfl) rfl rfl rfl rfl fun gb1157 h1158 => ?_) gn
            obtain ⟨x1162, hv1163, h⟩ := h
            obtain ⟨hb1164, h⟩ := h
            refine Cj 5 rfl (Oc (zs := x1162) (cells' := x1162.flatMap D5) 1 Xgk rfl rfl rfl h442 (Nat.le_refl _) (Src.ownF (hl := Ef) (h1 := Ee) 0 rfl h1158) (by rw [hv1163, List.flatMap_append] <;> rfl) (H7 hv1163 h1158.hq) hb1164 rfl rfl fun A1159 c1160 h1161 => ?_) gn
            refine Aa 6 rfl (Af rfl) gn rfl <| Ak 7 rfl <| Ai rfl <| Po [.code (.seq .skip Xf), .inScope Mc] rfl rfl <| Ai rfl <| Cf rfl ?_
            have h := Out.inr hO2 h
            have ih := Out.inl hO1 h
            exact D7 [0, 1] (ih A1159 (n440 + 1) c1160 h1161) ⟨rfl, rfl, rfl, trivial⟩ (.cons _ (.cons_cons _ (.slnil))) rfl
         refine Ad rfl rfl <| Aa 0 rfl (Ae rfl) gn rfl <| Aa 1 rfl (Ae rfl) gn rfl <| Aa 2 rfl (P6 Ko rfl) gn rfl <| Aa 3 rfl (Bh rfl rfl rfl) gn rfl <| Aa 4 rfl (Ae rfl) gn rfl ?_
         by_cases hp1165 : x1105 < (x1.size : Int)
         ·have h := Aq hp1165 h
          refine Bl 108 rfl ((decide_eq_true hp1165)) <| Aa 5 rfl (Ae rfl) (gy 108 rfl rfl) rfl <| Aa 6 rfl (Ae rfl) (gy 108 rfl rfl) rfl ?_
          obtain ⟨hb1166, h⟩ := h
          refine Aa 7 rfl (H6 Ko rfl rfl hb1166) (gy 108 rfl rfl) rfl ?_
          obtain ⟨r1170, hv1171, h⟩ := h
          refine Cj 8 rfl (D6 [.int .u8 (bt x1 x1105)] rfl Tryd.func83 rfl rfl rfl fun w1167 hL1168 => ?_) (gy 108 rfl rfl)
          have hp1169 := pmI hL1168 .n (.c 0 rfl .n) (by kernel_rfl)
          refine Calls.mono (Ku w1167 (Fl ([] : List C9)) (bt x1 x1105) (hL1168.hFl hp1169 (Bg [] rfl)) (hL1168.into hp1169 _) r1170 hv1171) ?_
          rintro _ w1172 ⟨rfl, hM1173⟩
          have hL1174 := hL1168.call hp1169 hM1173
          refine ⟨_, _, _, rfl, hL1174, ?_⟩
          refine Aa 9 rfl (Az (b := true) rfl rfl) gn rfl <| Ak 10 rfl ?_
          exact D7 [0, 1] (j7 r1170 h) ⟨rfl, rfl, rfl, rfl, rfl, rfl, trivial⟩ (.cons_cons _ (.slnil)) rfl
         ·have h := Ar hp1165 h
          refine Bl 108 rfl ((decide_eq_false hp1165)) <| Ac 5 rfl (ps 108 rfl rfl rfl) <| Ac 6 rfl (ps 108 rfl rfl rfl) <| Ac 7 rfl (ps 108 rfl rfl rfl) <| Ac 8 rfl (ps 108 rfl rfl rfl) <| Aa 9 rfl (Az (b := false) rfl rfl) gn rfl <| Ak 10 rfl ?_
          exact D7 [0, 1] (j7 false h) ⟨rfl, rfl, rfl, rfl, rfl, rfl, trivial⟩ (.cons_cons _ (.slnil)) rfl
        exact D7 [0, 1] (key6 _ h ()) ⟨rfl, rfl, rfl, rfl, rfl, trivial⟩ (.cons_cons _ (.slnil)) rfl
       ·have h := Ar hp1073 h
        refine Bj rfl _ rfl ((bf hp1073)) <| Ai rfl <| Ad rfl rfl <| Aa 0 rfl (Ae rfl) gn rfl <| Aa 1 rfl (Bh rfl rfl rfl) gn rfl <| Aa 2 rfl (Af rfl) gn rfl <| Ak 3 rfl ?_
        by_cases hp1175 : bt x1 x443 = 34
        ·have h := Aq hp1175 h
         refine Bz rfl _ rfl ((eqi hp1175)) <| Po [.code (.seq .skip Xl0), .inScope Mc] rfl rfl <| Ai rfl <| Cf rfl <| Ai rfl <| Ai rfl <| Ad rfl rfl <| Aa 0 rfl (Ae rfl) gn rfl <| Aa 1 rfl (Ae rfl) gn rfl ?_
         obtain ⟨r1203, hv1204, h⟩ := h
         refine Cj 2 rfl (D6 [.string x1, .int .i64 x443] rfl Tryd.func85 rfl rfl rfl fun w1200 hL1201 => ?_) gn
         have hp1202 := pmI hL1201 .n (.c 0 rfl .n) (by kernel_rfl)
         refine Calls.mono (Xc0 w1200 (Fl ([] : List C9)) x1 x443 (hL1201.hFl hp1202 (Bg [] rfl)) (hL1201.into hp1202 _) r1203 hv1204) ?_
         rintro _ w1210 ⟨A1205, n1206, c1207, rfl, hM1211, h1208⟩
         have hL1212 := hL1201.call hp1202 hM1211
         refine ⟨_, _, _, rfl, hL1212, ?_⟩
         refine Aa 3 rfl (Ae rfl) gn rfl <| Aa 4 rfl (Ey rfl rfl) gn rfl <| Aa 5 rfl (Ey rfl rfl) gn rfl <| Aa 6 rfl (Ey rfl rfl) gn rfl <| Aa 7 rfl (Af rfl) gn rfl <| Aa 8 rfl (Af rfl) gn rfl <| Aa 9 rfl (Af rfl) gn rfl <| Ak 10 rfl <| Ai rfl <| Ad rfl rfl <| Aa 0 rfl (Ae rfl) gn rfl <| Aa 1 rfl (Bh rfl rfl rfl) gn rfl ?_
         refine Ak 2 rfl ?_
         by_cases hp1213 : r1203.2.1 = 0
         ·have h := Aq hp1213 h
          refine Bj rfl _ rfl ((Xaf hp1213)) <| Cf rfl <| Ai rfl <| Ad rfl rfl <| Aa 0 rfl (Ae rfl) gn rfl <| Aa 1 rfl (Ae rfl) gn rfl <| Aa 2 rfl (v_b2s Xkm Ko rfl (Src.ownF (hl := (hlI .u8)) (h1 := (Gn .u8)) 0 rfl (Ow.weak hL1201.env.size h1208)) (Ow.weak hL1201.env.size h1208).hq) gn rfl <| Aa 3 rfl (Ae rfl) gn rfl <| Aa 4 rfl (Iq #[.int .i64 2, .string (Jw r1203.1), .int .i64 0, .int .i64 x443] Xff rfl (by kernel_rfl)) gn rfl ?_
          refine Cj 5 rfl (Ib (xs := ([(⟨2, Jw r1203.1, 0, x443⟩ : Aj)] : List Aj)) [.int .i64 2, .string (Jw r1203.1), .int .i64 0, .int .i64 x443] Xb5 rfl (by kernel_rfl) rfl rfl rfl rfl fun gb1215 h1216 => ?_) gn
          obtain ⟨x1220, hv1221, h⟩ := h
          obtain ⟨hb1222, h⟩ := h
          refine Cj 6 rfl (Oc (zs := x1220) (cells' := x1220.flatMap D5) 2 Xgk rfl rfl rfl h442 (Nat.le_refl _) (Src.ownF (hl := Ef) (h1 := Ee) 0 rfl h1216) (by rw [hv1221, List.flatMap_append] <;> rfl) (H7 hv1221 h1216.hq) hb1222 rfl rfl fun A1217 c1218 h1219 => ?_) gn
          refine Aa 7 rfl (Af rfl) gn rfl <| Ak 8 rfl <| Ai rfl <| Po [.code (.seq .skip Xf), .inScope Mc] rfl rfl <| Ai rfl <| Cf rfl ?_
          have ih := Out.inl hO1 h
          exact D7 [0, 1] (ih A1217 (n440 + 1) c1218 h1219) ⟨rfl, rfl, rfl, trivial⟩ (.cons _ (.cons _ (.cons_cons _ (.slnil)))) rfl
         ·have h := Ar hp1213 h
          refine Bz rfl _ rfl ((Zz hp1213)) <| Ai rfl <| Ad rfl rfl <| Aa 0 rfl (Ae rfl) gn rfl <| Aa 1 rfl (Ae rfl) gn rfl <| Aa 2 rfl (Af rfl) gn rfl <| Aa 3 rfl (Af rfl) gn rfl <| Aa 4 rfl (Af rfl) gn rfl <| Ak 5 rfl <| Px 84 4 ?_
          have h := Out.inr hO1 h
          refine Bo [.slice none 0 0, .int .i64 r1203.2.1, .int .i64 r1203.2.2] rfl Tryd.func59 rfl (.tmp rfl (.tmp rfl (.tmp rfl (.nil)))) fun wr hLr => ?_
          have hMr := hLr.pkI (.c 0 rfl .n) (.c 1 rfl (.c 2 rfl .n)) (by kernel_rfl) (.c 1 rfl .n)
          show O5 w F  r (.returned (Ce [.slice none 0 0, .int .i64 r1203.2.1, .int .i64 r1203.2.2])) wr
          rw [h]
          exact ⟨none, 0, 0, rfl, hMr, (Ow.nil (z := w.heap.size))⟩
        ·have h := Ar hp1175 h
         refine Bj rfl _ rfl ((nei hp1175)) <| Ai rfl <| Ad rfl rfl <| Aa 0 rfl (Ae rfl) gn rfl <| Aa 1 rfl (Bh rfl rfl rfl) gn rfl <| Aa 2 rfl (Af rfl) gn rfl <| Ak 3 rfl ?_
         by_cases hp1223 : bt x1 x443 = 47
         ·have h := Aq hp1223 h
          refine Bz rfl _ rfl ((eqi hp1223)) <| Po [.code (.seq .skip q59c136), .inScope Mc] rfl rfl <| Ai rfl <| Cf rfl <| Ai rfl <| Ai rfl <| Ad rfl rfl <| Aa 0 rfl (Ae rfl) gn rfl <| Aa 1 rfl (Ae rfl) gn rfl ?_
          obtain ⟨r1251, hv1252, h⟩ := h
          refine Cj 2 rfl (D6 [.string x1, .int .i64 x443] rfl Tryd.func86 rfl rfl rfl fun w1248 hL1249 => ?_) gn
          have hp1250 := pmI hL1249 .n (.c 0 rfl .n) (by kernel_rfl)
          refine Calls.mono (Xbc w1248 (Fl ([] : List C9)) x1 x443 (hL1249.hFl hp1250 (Bg [] rfl)) (hL1249.into hp1250 _) r1251 hv1252) ?_
          rintro _ w1258 ⟨A1253, n1254, c1255, rfl, hM1259, h1256⟩
          have hL1260 := hL1249.call hp1250 hM1259
          refine ⟨_, _, _, rfl, hL1260, ?_⟩
          refine Aa 3 rfl (Ae rfl) gn rfl <| Aa 4 rfl (Ey rfl rfl) gn rfl <| Aa 5 rfl (Ey rfl rfl) gn rfl <| Aa 6 rfl (Ey rfl rfl) gn rfl <| Aa 7 rfl (Af rfl) gn rfl <| Aa 8 rfl (Af rfl) gn rfl <| Aa 9 rfl (Af rfl) gn rfl <| Ak 10 rfl <| Ai rfl <| Ad rfl rfl <| Aa 0 rfl (Ae rfl) gn rfl <| Aa 1 rfl (Bh rfl rfl rfl) gn rfl ?_
          refine Ak 2 rfl ?_
          by_cases hp1261 : r1251.2.1 = 0
          ·have h := Aq hp1261 h
           refine Bj rfl _ rfl ((Xaf hp1261)) <| Cf rfl <| Ai rfl <| Ad rfl rfl <| Aa 0 rfl (Ae rfl) gn rfl <| Aa 1 rfl (Ae rfl) gn rfl <| Aa 2 rfl (v_b2s Xkm Ko rfl (Src.ownF (hl := (hlI .u8)) (h1 := (Gn .u8)) 0 rfl (Ow.weak hL1249.env.size h1256)) (Ow.weak hL1249.env.size h1256).hq) gn rfl <| Aa 3 rfl (Ae rfl) gn rfl <| Aa 4 rfl (Iq #[.int .i64 3, .string (Jw r1251.1), .int .i64 0, .int .i64 x443] Xff rfl (by kernel_rfl)) gn rfl ?_
           refine Cj 5 rfl (Ib (xs := ([(⟨3, Jw r1251.1, 0, x443⟩ : Aj)] : List Aj)) [.int .i64 3, .string (Jw r1251.1), .int .i64 0, .int .i64 x443] Xb5 rfl (by kernel_rfl) rfl rfl rfl rfl fun gb1263 h1264 => ?_) gn
           obtain ⟨x1268, hv1269, h⟩ := h
           obtain ⟨hb1270, h⟩ := h
           refine Cj 6 rfl (Oc (zs := x1268) (cells' := x1268.flatMap D5) 2 Xgk rfl rfl rfl h442 (Nat.le_refl _) (Src.ownF (hl := Ef) (h1 := Ee) 0 rfl h1264) (by rw [hv1269, List.flatMap_append] <;> rfl) (H7 hv1269 h1264.hq) hb1270 rfl rfl fun A1265 c1266 h1267 => ?_) gn
           refine Aa 7 rfl (Af rfl) gn rfl <| Ak 8 rfl <| Po [.code (.seq .skip Xf), .inScope Mc] rfl rfl <| Ai rfl <| Cf rfl ?_
           have ih := Out.inl hO1 h
           exact D7 [0, 1] (ih A1265 (n440 + 1) c1266 h1267) ⟨rfl, rfl, rfl, trivial⟩ (.cons _ (.cons _ (.cons_cons _ (.slnil)))) rfl
          ·have h := Ar hp1261 h
           refine Bz rfl _ rfl ((Zz hp1261)) <| Ai rfl <| Ad rfl rfl <| Aa 0 rfl (Ae rfl) gn rfl <| Aa 1 rfl (Ae rfl) gn rfl <| Aa 2 rfl (Af rfl) gn rfl <| Aa 3 rfl (Af rfl) gn rfl <| Aa 4 rfl (Af rfl) gn rfl <| Ak 5 rfl <| Px 84 4 ?_
           have h := Out.inr hO1 h
           refine Bo [.slice none 0 0, .int .i64 r1251.2.1, .int .i64 r1251.2.2] rfl Tryd.func59 rfl (.tmp rfl (.tmp rfl (.tmp rfl (.nil)))) fun wr hLr => ?_
           have hMr := hLr.pkI (.c 0 rfl .n) (.c 1 rfl (.c 2 rfl .n)) (by kernel_rfl) (.c 1 rfl .n)
           show O5 w F  r (.returned (Ce [.slice none 0 0, .int .i64 r1251.2.1, .int .i64 r1251.2.2])) wr
           rw [h]
           exact ⟨none, 0, 0, rfl, hMr, (Ow.nil (z := w.heap.size))⟩
         ·have h := Ar hp1223 h
          refine Bj rfl _ rfl ((nei hp1223)) <| Ai rfl <| Ad rfl rfl <| Aa 0 rfl (Ae rfl) gn rfl ?_
          obtain ⟨r1274, hv1275, h⟩ := h
          refine Cj 1 rfl (D6 [.string (⟨#[123, 125, 40, 41, 124, 42, 43, 63, 58, 59, 44, 61, 64]⟩ : ByteArray), .int .u8 (bt x1 x443)] rfl Tryd.func84 rfl rfl rfl fun w1271 hL1272 => ?_) gn
          have hp1273 := pmI hL1272 .n (.c 0 rfl .n) (by kernel_rfl)
          refine Calls.mono (Ye w1271 (Fl ([] : List C9)) (⟨#[123, 125, 40, 41, 124, 42, 43, 63, 58, 59, 44, 61, 64]⟩ : ByteArray) (bt x1 x443) (hL1272.hFl hp1273 (Bg [] rfl)) (hL1272.into hp1273 _) r1274 hv1275) ?_
          rintro _ w1276 ⟨rfl, hM1277⟩
          have hL1278 := hL1272.call hp1273 hM1277
          refine ⟨_, _, _, rfl, hL1278, ?_⟩
          refine Aa 2 rfl (Bh rfl rfl rfl) gn rfl <| Aa 3 rfl (Af rfl) gn rfl <| Ak 4 rfl ?_
          by_cases hp1279 : r1274 ≥ 0
          ·have h := Aq hp1279 h
           refine Bz rfl _ rfl ((decide_eq_true hp1279)) <| Ai rfl <| Ad rfl rfl <| Aa 0 rfl (Ae rfl) gn rfl <| Aa 1 rfl (Bh rfl rfl rfl) gn rfl <| Aa 2 rfl (Af rfl) gn rfl <| Ak 3 rfl <| Ai rfl <| Ad rfl rfl <| Aa 0 rfl (Ae rfl) gn rfl <| Aa 1 rfl (Ae rfl) gn rfl <| Aa 2 rfl (Ae rfl) gn rfl ?_
           refine Aa 3 rfl (Ae rfl) gn rfl ?_
           obtain ⟨hb1280, h⟩ := h
           refine Aa 4 rfl (Xhb x443 (w64 (x443 + 1)) Ko rfl (.inr ⟨_, _, rfl, rfl⟩) (.inr ⟨_, _, rfl, rfl⟩) ⟨hb1280.1, hb1280.2.1⟩ hb1280.2.2) gn rfl <| Aa 5 rfl (Ae rfl) gn rfl <| Aa 6 rfl (Iq #[.int .i64 5, .string (x1.extract (x443 : Int).toNat (w64 (x443 + 1) : Int).toNat), .int .i64 0, .int .i64 x443] Xff rfl (by kernel_rfl)) gn rfl ?_
           refine Cj 7 rfl (Ib (xs := ([(⟨5, x1.extract (x443 : Int).toNat (w64 (x443 + 1) : Int).toNat, 0, x443⟩ : Aj)] : List Aj)) [.int .i64 5, .string (x1.extract (x443 : Int).toNat (w64 (x443 + 1) : Int).toNat), .int .i64 0, .int .i64 x443] Xb5 rfl (by kernel_rfl) rfl rfl rfl rfl fun gb1282 h1283 => ?_) gn
           obtain ⟨x1287, hv1288, h⟩ := h
           obtain ⟨hb1289, h⟩ := h
           refine Cj 8 rfl (Oc (zs := x1287) (cells' := x1287.flatMap D5) 1 Xgk rfl rfl rfl h442 (Nat.le_refl _) (Src.ownF (hl := Ef) (h1 := Ee) 0 rfl h1283) (by rw [hv1288, List.flatMap_append] <;> rfl) (H7 hv1288 h1283.hq) hb1289 rfl rfl fun A1284 c1285 h1286 => ?_) gn
           refine Aa 9 rfl (Af rfl) gn rfl <| Ak 10 rfl <| Po [.code (.seq .skip Xf), .inScope Mc] rfl rfl <| Ai rfl <| Cf rfl ?_
           have ih := Out.inl hO1 h
           exact D7 [0, 1] (ih A1284 (n440 + 1) c1285 h1286) ⟨rfl, rfl, rfl, trivial⟩ (.cons _ (.cons_cons _ (.slnil))) rfl
          ·have h := Ar hp1279 h
           refine Bj rfl _ rfl ((decide_eq_false hp1279)) <| Cf rfl <| D9 <| Ai rfl <| Ai rfl <| Ad rfl rfl <| Aa 0 rfl (Ae rfl) gn rfl <| Aa 1 rfl (Af rfl) gn rfl <| Aa 2 rfl (Af rfl) gn rfl <| Aa 3 rfl (Af rfl) gn rfl <| Ak 4 rfl <| Px 84 4 ?_
           have h := Out.inr hO1 h
           refine Bo [.slice none 0 0, .int .i64 81, .int .i64 x443] rfl Tryd.func59 rfl (.tmp rfl (.tmp rfl (.tmp rfl (.nil)))) fun wr hLr => ?_
           have hMr := hLr.pkI (.c 0 rfl .n) (.c 1 rfl .n) (by kernel_rfl) (.c 1 rfl .n)
           show O5 w F  r (.returned (Ce [.slice none 0 0, .int .i64 81, .int .i64 x443])) wr
           rw [h]
           exact ⟨none, 0, 0, rfl, hMr, (Ow.nil (z := w.heap.size))⟩
  refine Px 84 4 ?_
  exact D7 [0, 1] (key1 _ h none 0 0 (Ow.nil (z := w.heap.size))) ⟨rfl, rfl, rfl, trivial⟩ (.cons_cons _ (.slnil)) rfl
abbrev Ob (w : World) (F : Nat → Prop) (g2 : Nat) (Tb3 : Nat) (A8 : Option Addr) (n9 : Nat) (c10 : Nat) (z12 : Nat) (A14 : Option Addr) (n15 : Nat) (c16 : Nat) (z18 : Nat) (r : Bool × Ah) : Ending → World → Prop := fun e w' => ∃ A1 : Option Addr, ∃ n1 : Nat, ∃ c1 : Nat, ∃ A2 : Option Addr, ∃ n2 : Nat, ∃ c2 : Nat, ∃ A0 : Option Addr, ∃ n0 : Nat, ∃ c0 : Nat, e = .returned (.bool r.1) ∧ B.Loc w w' [.box g2 Tb3 [.slice A0 n0 c0, .int .i64 r.2.at_, .int .i64 r.2.end_, .slice A1 n1 c1, .slice A2 n2 c2, .int .i64 r.2.code, .int .i64 r.2.place], .own (.slice A1 n1 c1) 45 5 n1 (r.2.q.nodes.flatMap Am), .own (.slice A2 n2 c2) 47 4 n2 (r.2.q.conds.flatMap Bf)] [St w [[g2], (Value.slice A8 n9 c10).ownBlock.toList, (Value.slice A14 n15 c16).ownBlock.toList]] ∧ Ow z12 A1 n1 c1 r.2.q.nodes ∧ Ow z18 A2 n2 c2 r.2.q.conds ∧ Rw Cc w' (Nw w w' F [.box g2 Tb3 [.slice A0 n0 c0, .int .i64 r.2.at_, .int .i64 r.2.end_, .slice A1 n1 c1, .slice A2 n2 c2, .int .i64 r.2.code, .int .i64 r.2.place], .own (.slice A1 n1 c1) 45 5 n1 (r.2.q.nodes.flatMap Am), .own (.slice A2 n2 c2) 47 4 n2 (r.2.q.conds.flatMap Bf)]) A0 n0 c0 r.2.words
noncomputable abbrev Xd9 (w : World) (F : Nat → Prop) (g2 : Nat) (Tb3 : Nat) (A8 : Option Addr) (n9 : Nat) (c10 : Nat) (z12 : Nat) (A14 : Option Addr) (n15 : Nat) (c16 : Nat) (z18 : Nat) (r : Bool × Ah) : Cx := ⟨Tryd.prog, 91, Tryd.f91, 40, Ob w F g2 Tb3 A8 n9 c10 z12 A14 n15 c16 z18 r, w⟩
theorem G7 (w : World) (F : Nat → Prop) (x1 : Ah) (x20 : Int) (x21 : Int) (x22 : ByteArray) (g2 : Nat) (Tb3 : Nat) (A4 : Option Addr) (n5 : Nat) (c6 : Nat) (z12 : Nat) (A8 : Option Addr) (n9 : Nat) (c10 : Nat) (z18 : Nat) (A14 : Option Addr) (n15 : Nat) (c16 : Nat) (h7 : Rw Cc w F A4 n5 c6 x1.words) (hz13 : z12 ≤ w.heap.size) (h11 : Ow z12 A8 n9 c10 x1.q.nodes) (hz19 : z18 ≤ w.heap.size) (h17 : Ow z18 A14 n15 c16 x1.q.conds) (hF : ∀ b, F b → b < w.heap.size ∧ ∀ o ∈ ([[g2], (Value.slice A8 n9 c10).ownBlock.toList, (Value.slice A14 n15 c16).ownBlock.toList] : List (List Nat)), b ∉ o) (hL0 : B.Loc w w [.box g2 Tb3 [.slice A4 n5 c6, .int .i64 x1.at_, .int .i64 x1.end_, .slice A8 n9 c10, .slice A14 n15 c16, .int .i64 x1.code, .int .i64 x1.place], .own (.slice A8 n9 c10) 45 5 n9 (x1.q.nodes.flatMap Am), .own (.slice A14 n15 c16) 47 4 n15 (x1.q.conds.flatMap Bf)] [Sm w.heap.size F w [[g2], (Value.slice A8 n9 c10).ownBlock.toList, (Value.slice A14 n15 c16).ownBlock.toList], St w [[g2], (Value.slice A8 n9 c10).ownBlock.toList, (Value.slice A14 n15 c16).ownBlock.toList]]) (r : Bool × Ah) (h : Ew x1 x20 x21 x22 r) : Calls Tryd.prog 91 #[.pointer (some ⟨g2, 0, none⟩), .int .i64 x20, .int .i64 x21, .string x22] w (Ob w F g2 Tb3 A8 n9 c10 z12 A14 n15 c16 z18 r) := by
 unfold Ew at h
 have h7 := Rw.into (bs := [[g2], (Value.slice A8 n9 c10).ownBlock.toList, (Value.slice A14 n15 c16).ownBlock.toList]) hF h7
 refine Cb (vs := [.pointer (some ⟨g2, 0, none⟩), .int .i64 x20, .int .i64 x21, .string x22]) 40 Tryd.func91 rfl Tryd.ntmps91 rfl hL0 ?_
 show G (Xd9 w F g2 Tb3 A8 n9 c10 z12 A14 n15 c16 z18 r) _ _ _ _
 refine Ai rfl <| Ad rfl rfl <| Aa 0 rfl (Af rfl) gn rfl <| Ak 1 rfl <| Ai rfl <| Ad rfl rfl <| Aa 0 rfl (Ae rfl) gn rfl <| Aa 1 rfl (Ae rfl) gn rfl <| Aa 2 rfl (Bc rfl) gn rfl <| Aa 3 rfl (Aw Gq rfl) gn rfl <| Aa 4 rfl (Ap 0 Ld rfl rfl rfl) gn rfl <| Aa 5 rfl (Dy Y1 rfl h7.hq) gn rfl ?_
 refine Aa 6 rfl (Bh rfl rfl rfl) gn rfl <| Aa 7 rfl (Ae rfl) gn rfl ?_
 by_cases hp23 : x20 < (x1.words.length : Int)
 ·have h := Aq hp23 h
  refine Bl 16 rfl ((decide_eq_true hp23)) <| Aa 8 rfl (Ae rfl) (gy 16 rfl rfl) rfl <| Aa 9 rfl (Bc rfl) (gy 16 rfl rfl) rfl <| Aa 10 rfl (Aw Gq rfl) (gy 16 rfl rfl) rfl <| Aa 11 rfl (Ap 0 Ld rfl rfl rfl) (gy 16 rfl rfl) rfl <| Aa 12 rfl (Ae rfl) (gy 16 rfl rfl) rfl ?_
  obtain ⟨hb24, h⟩ := h
  have hr25 := Rw.readF (s := Sm w.heap.size F w [[g2], (Value.slice A8 n9 c10).ownBlock.toList, (Value.slice A14 n15 c16).ownBlock.toList]) (hl := Ef) (h1 := Ee) h7 hb24
  refine Aa 13 rfl (Gm (s := Sm w.heap.size F w [[g2], (Value.slice A8 n9 c10).ownBlock.toList, (Value.slice A14 n15 c16).ownBlock.toList]) Pj rfl rfl h7 hb24) (gy 16 rfl rfl) rfl <| Aa 14 rfl (Oi Uh rfl) (gy 16 rfl rfl) rfl <| Aa 15 rfl (L8 (kk := (x20 : Int).toNat * 4) (j := 0) (Sm w.heap.size F w [[g2], (Value.slice A8 n9 c10).ownBlock.toList, (Value.slice A14 n15 c16).ownBlock.toList]) Xak rfl hr25 rfl (me 0 rfl)) (gy 16 rfl rfl) rfl <| Aa 16 rfl (Ae rfl) (gy 16 rfl rfl) rfl <| Aa 17 rfl (Bh rfl rfl rfl) (gy 16 rfl rfl) rfl <| Aa 18 rfl (Az (b := true) rfl rfl) gn rfl <| Aa 19 rfl (Ae rfl) gn rfl ?_
  by_cases hp26 : (ix x1.words x20).kind = x21
  ·have h := Aq hp26 h
   refine Bl 28 rfl ((eqi hp26)) <| Aa 20 rfl (Ae rfl) (gy 28 rfl rfl) rfl <| Aa 21 rfl (Bc rfl) (gy 28 rfl rfl) rfl <| Aa 22 rfl (Aw Gq rfl) (gy 28 rfl rfl) rfl <| Aa 23 rfl (Ap 0 Ld rfl rfl rfl) (gy 28 rfl rfl) rfl <| Aa 24 rfl (Ae rfl) (gy 28 rfl rfl) rfl ?_
   have hr27 := Rw.readF (s := Sm w.heap.size F w [[g2], (Value.slice A8 n9 c10).ownBlock.toList, (Value.slice A14 n15 c16).ownBlock.toList]) (hl := Ef) (h1 := Ee) h7 hb24
   refine Aa 25 rfl (Gm (s := Sm w.heap.size F w [[g2], (Value.slice A8 n9 c10).ownBlock.toList, (Value.slice A14 n15 c16).ownBlock.toList]) Pj rfl rfl h7 hb24) (gy 28 rfl rfl) rfl <| Aa 26 rfl (Oi J8 rfl) (gy 28 rfl rfl) rfl <| Aa 27 rfl (L8 (kk := (x20 : Int).toNat * 4) (j := 1) (Sm w.heap.size F w [[g2], (Value.slice A8 n9 c10).ownBlock.toList, (Value.slice A14 n15 c16).ownBlock.toList]) H9 rfl hr27 rfl (me 0 rfl)) (gy 28 rfl rfl) rfl <| Aa 28 rfl (Ae rfl) (gy 28 rfl rfl) rfl <| Aa 29 rfl (Y2 rfl rfl) (gy 28 rfl rfl) rfl <| Aa 30 rfl (Az (b := true) rfl rfl) gn rfl <| Aa 31 rfl (Af rfl) gn rfl <| Ak 32 rfl ?_
   refine Bo [.bool (seq ((ix x1.words x20).text) x22)] rfl Tryd.func91 rfl (.tmp rfl (.nil)) fun wr hLr => ?_
   have hMr := hLr.pkI (.c 0 rfl (.c 1 rfl (.c 2 rfl .n))) .n (by kernel_rfl) (.c 1 rfl .n)
   have hMi := hLr.selI (.c 0 rfl (.c 1 rfl (.c 2 rfl .n)))
   show Ob w F g2 Tb3 A8 n9 c10 z12 A14 n15 c16 z18 r (.returned (Ce [.bool (seq ((ix x1.words x20).text) x22)])) wr
   rw [h]
   exact ⟨A8, n9, c10, A14, n15, c16, A4, n5, c6, rfl, hMr, h11, h17, (hLr.outR (s := Sm w.heap.size F w [[g2], (Value.slice A8 n9 c10).ownBlock.toList, (Value.slice A14 n15 c16).ownBlock.toList]) hMi (me 0 rfl) Sm.ok h7)⟩
  ·have h := Ar hp26 h
   refine Bl 28 rfl ((nei hp26)) <| Ac 20 rfl (ps 28 rfl rfl rfl) <| Ac 21 rfl (ps 28 rfl rfl rfl) <| Ac 22 rfl (ps 28 rfl rfl rfl) <| Ac 23 rfl (ps 28 rfl rfl rfl) <| Ac 24 rfl (ps 28 rfl rfl rfl) <| Ac 25 rfl (ps 28 rfl rfl rfl) <| Ac 26 rfl (ps 28 rfl rfl rfl) <| Ac 27 rfl (ps 28 rfl rfl rfl) <| Ac 28 rfl (ps 28 rfl rfl rfl) <| Ac 29 rfl (ps 28 rfl rfl rfl) <| Aa 30 rfl (Az (b := false) rfl rfl) gn rfl ?_
   refine Aa 31 rfl (Af rfl) gn rfl <| Ak 32 rfl ?_
   refine Bo [.bool false] rfl Tryd.func91 rfl (.tmp rfl (.nil)) fun wr hLr => ?_
   have hMr := hLr.pkI (.c 0 rfl (.c 1 rfl (.c 2 rfl .n))) .n (by kernel_rfl) (.c 1 rfl .n)
   have hMi := hLr.selI (.c 0 rfl (.c 1 rfl (.c 2 rfl .n)))
   show Ob w F g2 Tb3 A8 n9 c10 z12 A14 n15 c16 z18 r (.returned (Ce [.bool false])) wr
   rw [h]
   exact ⟨A8, n9, c10, A14, n15, c16, A4, n5, c6, rfl, hMr, h11, h17, (hLr.outR (s := Sm w.heap.size F w [[g2], (Value.slice A8 n9 c10).ownBlock.toList, (Value.slice A14 n15 c16).ownBlock.toList]) hMi (me 0 rfl) Sm.ok h7)⟩
 ·have h := Ar hp23 h
  refine Bl 16 rfl ((decide_eq_false hp23)) <| Ac 8 rfl (ps 16 rfl rfl rfl) <| Ac 9 rfl (ps 16 rfl rfl rfl) <| Ac 10 rfl (ps 16 rfl rfl rfl) <| Ac 11 rfl (ps 16 rfl rfl rfl) <| Ac 12 rfl (ps 16 rfl rfl rfl) <| Ac 13 rfl (ps 16 rfl rfl rfl) <| Ac 14 rfl (ps 16 rfl rfl rfl) <| Ac 15 rfl (ps 16 rfl rfl rfl) <| Ac 16 rfl (ps 16 rfl rfl rfl) <| Ac 17 rfl (ps 16 rfl rfl rfl) <| Aa 18 rfl (Az (b := false) rfl rfl) gn rfl ?_
  refine Aa 19 rfl (Ae rfl) gn rfl <| Ac 20 rfl (ps 28 rfl rfl rfl) <| Ac 21 rfl (ps 28 rfl rfl rfl) <| Ac 22 rfl (ps 28 rfl rfl rfl) <| Ac 23 rfl (ps 28 rfl rfl rfl) <| Ac 24 rfl (ps 28 rfl rfl rfl) <| Ac 25 rfl (ps 28 rfl rfl rfl) <| Ac 26 rfl (ps 28 rfl rfl rfl) <| Ac 27 rfl (ps 28 rfl rfl rfl) <| Ac 28 rfl (ps 28 rfl rfl rfl) <| Ac 29 rfl (ps 28 rfl rfl rfl) <| Aa 30 rfl (Az (b := false) rfl rfl) gn rfl ?_
  refine Aa 31 rfl (Af rfl) gn rfl <| Ak 32 rfl ?_
  refine Bo [.bool false] rfl Tryd.func91 rfl (.tmp rfl (.nil)) fun wr hLr => ?_
  have hMr := hLr.pkI (.c 0 rfl (.c 1 rfl (.c 2 rfl .n))) .n (by kernel_rfl) (.c 1 rfl .n)
  have hMi := hLr.selI (.c 0 rfl (.c 1 rfl (.c 2 rfl .n)))
  show Ob w F g2 Tb3 A8 n9 c10 z12 A14 n15 c16 z18 r (.returned (Ce [.bool false])) wr
  rw [h]
  exact ⟨A8, n9, c10, A14, n15, c16, A4, n5, c6, rfl, hMr, h11, h17, (hLr.outR (s := Sm w.heap.size F w [[g2], (Value.slice A8 n9 c10).ownBlock.toList, (Value.slice A14 n15 c16).ownBlock.toList]) hMi (me 0 rfl) Sm.ok h7)⟩
noncomputable abbrev q87c6 := Code.snd (Code.snd (Code.snd (Dp Tryd.f87)))
noncomputable abbrev q87c8 := Code.snd (Code.fst (Code.snd (Code.snd (Dp Tryd.f87))))
abbrev H5 (w : World) (F : Nat → Prop) (g2 : Nat) (Tb3 : Nat) (A8 : Option Addr) (n9 : Nat) (c10 : Nat) (z12 : Nat) (A14 : Option Addr) (n15 : Nat) (c16 : Nat) (z18 : Nat) (r : Bool × Ah) : Ending → World → Prop := fun e w' => ∃ A1 : Option Addr, ∃ n1 : Nat, ∃ c1 : Nat, ∃ A2 : Option Addr, ∃ n2 : Nat, ∃ c2 : Nat, ∃ A0 : Option Addr, ∃ n0 : Nat, ∃ c0 : Nat, e = .returned (.bool r.1) ∧ B.Loc w w' [.box g2 Tb3 [.slice A0 n0 c0, .int .i64 r.2.at_, .int .i64 r.2.end_, .slice A1 n1 c1, .slice A2 n2 c2, .int .i64 r.2.code, .int .i64 r.2.place], .own (.slice A1 n1 c1) 45 5 n1 (r.2.q.nodes.flatMap Am), .own (.slice A2 n2 c2) 47 4 n2 (r.2.q.conds.flatMap Bf)] [St w [[g2], (Value.slice A8 n9 c10).ownBlock.toList, (Value.slice A14 n15 c16).ownBlock.toList]] ∧ Ow z12 A1 n1 c1 r.2.q.nodes ∧ Ow z18 A2 n2 c2 r.2.q.conds ∧ Rw Cc w' (Nw w w' F [.box g2 Tb3 [.slice A0 n0 c0, .int .i64 r.2.at_, .int .i64 r.2.end_, .slice A1 n1 c1, .slice A2 n2 c2, .int .i64 r.2.code, .int .i64 r.2.place], .own (.slice A1 n1 c1) 45 5 n1 (r.2.q.nodes.flatMap Am), .own (.slice A2 n2 c2) 47 4 n2 (r.2.q.conds.flatMap Bf)]) A0 n0 c0 r.2.words
noncomputable abbrev Un (w : World) (F : Nat → Prop) (g2 : Nat) (Tb3 : Nat) (A8 : Option Addr) (n9 : Nat) (c10 : Nat) (z12 : Nat) (A14 : Option Addr) (n15 : Nat) (c16 : Nat) (z18 : Nat) (r : Bool × Ah) : Cx := ⟨Tryd.prog, 87, Tryd.f87, 77, H5 w F g2 Tb3 A8 n9 c10 z12 A14 n15 c16 z18 r, w⟩
theorem Xl (w : World) (F : Nat → Prop) (x1 : Ah) (g2 : Nat) (Tb3 : Nat) (A4 : Option Addr) (n5 : Nat) (c6 : Nat) (z12 : Nat) (A8 : Option Addr) (n9 : Nat) (c10 : Nat) (z18 : Nat) (A14 : Option Addr) (n15 : Nat) (c16 : Nat) (h7 : Rw Cc w F A4 n5 c6 x1.words) (hz13 : z12 ≤ w.heap.size) (h11 : Ow z12 A8 n9 c10 x1.q.nodes) (hz19 : z18 ≤ w.heap.size) (h17 : Ow z18 A14 n15 c16 x1.q.conds) (hF : ∀ b, F b → b < w.heap.size ∧ ∀ o ∈ ([[g2], (Value.slice A8 n9 c10).ownBlock.toList, (Value.slice A14 n15 c16).ownBlock.toList] : List (List Nat)), b ∉ o) (hL0 : B.Loc w w [.box g2 Tb3 [.slice A4 n5 c6, .int .i64 x1.at_, .int .i64 x1.end_, .slice A8 n9 c10, .slice A14 n15 c16, .int .i64 x1.code, .int .i64 x1.place], .own (.slice A8 n9 c10) 45 5 n9 (x1.q.nodes.flatMap Am), .own (.slice A14 n15 c16) 47 4 n15 (x1.q.conds.flatMap Bf)] [Sm w.heap.size F w [[g2], (Value.slice A8 n9 c10).ownBlock.toList, (Value.slice A14 n15 c16).ownBlock.toList], St w [[g2], (Value.slice A8 n9 c10).ownBlock.toList, (Value.slice A14 n15 c16).ownBlock.toList]]) (r : Bool × Ah) (h : Lc x1 r) : Calls Tryd.prog 87 #[.pointer (some ⟨g2, 0, none⟩)] w (H5 w F g2 Tb3 A8 n9 c10 z12 A14 n15 c16 z18 r) := by
 unfold Lc at h
 have h7 := Rw.into (bs := [[g2], (Value.slice A8 n9 c10).ownBlock.toList, (Value.slice A14 n15 c16).ownBlock.toList]) hF h7
 refine Cb (vs := [.pointer (some ⟨g2, 0, none⟩)]) 77 Tryd.func87 rfl Tryd.ntmps87 rfl hL0 ?_
 show G (Un w F g2 Tb3 A8 n9 c10 z12 A14 n15 c16 z18 r) _ _ _ _
 refine Ai rfl <| Ad rfl rfl <| Aa 0 rfl (Af rfl) gn rfl <| Ak 1 rfl <| Ai rfl <| Ad rfl rfl <| Aa 0 rfl (Ae rfl) gn rfl <| Aa 1 rfl (Bc rfl) gn rfl <| Aa 2 rfl (Aw Ec rfl) gn rfl <| Aa 3 rfl (Ap 0 Ho rfl rfl rfl) gn rfl <| Aa 4 rfl (Af rfl) gn rfl <| Ak 5 rfl ?_
 refine Ai rfl <| Ai rfl ?_
 have j1 : ∀ (x51 : Bool) (x52 : List Aj) (x59 : Int) (x60 : Int) (x61 : List Ag) (x66 : List Bi) (x71 : Int) (x72 : Int) (h : Fj x1 x51 x52 x59 x60 x61 x66 x71 x72 r) (A53 : Option Addr) (n54 : Nat) (c55 : Nat) (sw56 : World) (sb57 : List (List Nat)) (h58 : At Cc (Sm w.heap.size F sw56 sb57) A53 n54 c55 x52) (A62 : Option Addr) (n63 : Nat) (c64 : Nat) (h65 : Ow z12 A62 n63 c64 x61) (A67 : Option Addr) (n68 : Nat) (c69 : Nat) (h70 : Ow z18 A67 n68 c69 x66), G (Un w F g2 Tb3 A8 n9 c10 z12 A14 n15 c16 z18 r) [.code q87c8, .code q87c6] [(0, .pointer (some ⟨g2, 0, none⟩)), (3, .int .i64 x1.at_), (42, .bool x51)] [.own (.slice A62 n63 c64) 45 5 n63 (x61.flatMap Am), .own (.slice A67 n68 c69) 47 4 n68 (x66.flatMap Bf), .box g2 Tb3 [.slice A53 n54 c55, .int .i64 x59, .int .i64 x60, .slice A62 n63 c64, .slice A67 n68 c69, .int .i64 x71, .int .i64 x72]] [Sm w.heap.size F sw56 sb57, Sm w.heap.size F w [[g2], (Value.slice A8 n9 c10).ownBlock.toList, (Value.slice A14 n15 c16).ownBlock.toList], St w [[g2], (Value.slice A8 n9 c10).ownBlock.toList, (Value.slice A14 n15 c16).ownBlock.toList]] := by
  intro x51 x52 x59 x60 x61 x66 x71 x72 h A53 n54 c55 sw56 sb57 h58 A62 n63 c64 h65 A67 n68 c69 h70
  unfold Fj at h
  by_cases hp73 : x51 = true
  ·have h := Aq hp73 h
   refine Bz rfl _ rfl (hp73) <| Ai rfl <| Ad rfl rfl <| Aa 0 rfl (Af rfl) gn rfl <| Ak 1 rfl ?_
   refine Bo [.bool true] rfl Tryd.func87 rfl (.tmp rfl (.nil)) fun wr hLr => ?_
   have hMr := hLr.pkI (.c 2 rfl (.c 0 rfl (.c 1 rfl .n))) .n (by kernel_rfl) (.c 2 rfl .n)
   have hMi := hLr.selI (.c 2 rfl (.c 0 rfl (.c 1 rfl .n)))
   show H5 w F g2 Tb3 A8 n9 c10 z12 A14 n15 c16 z18 r (.returned (Ce [.bool true])) wr
   rw [h]
   exact ⟨A62, n63, c64, A67, n68, c69, A53, n54, c55, rfl, hMr, h65, h70, (hLr.outR (s := Sm w.heap.size F sw56 sb57) hMi (me 0 rfl) Sm.ok h58)⟩
  ·have h := Ar hp73 h
   refine Bj rfl _ rfl ((bf hp73)) <| Cf rfl <| Ai rfl <| Ad rfl rfl <| Aa 0 rfl (Ae rfl) gn rfl <| Aa 1 rfl (Ae rfl) gn rfl ?_
   obtain ⟨r77, hv78, h⟩ := h
   refine Cj 2 rfl (D6 [.pointer (some ⟨g2, 0, none⟩), .int .i64 x1.at_, .int .i64 5, .string (⟨#[40]⟩ : ByteArray)] rfl Tryd.func91 rfl rfl rfl fun w74 hL75 => ?_) gn
   have hp76 := pmI hL75 (.c 2 rfl (.c 0 rfl (.c 1 rfl .n))) .n (by kernel_rfl)
   refine Calls.mono (G7 w74 (Fl ([Sm w.heap.size F sw56 sb57] : List C9)) (⟨x52, x59, x60, (⟨x61, x66⟩ : Au), x71, x72⟩ : Ah) x1.at_ 5 (⟨#[40]⟩ : ByteArray) g2 Tb3 A53 n54 c55 z12 A62 n63 c64 z18 A67 n68 c69 (Rw.mono h58 (hL75.toFl (me 0 rfl) (me 0 rfl))) (Nat.le_trans hz13 hL75.env.size) h65 (Nat.le_trans hz19 hL75.env.size) h70 (hL75.hFl hp76 (Bg [0] rfl)) (hL75.into hp76 _) r77 hv78) ?_
   rintro _ w93 ⟨A83, n84, c85, A88, n89, c90, A79, n80, c81, rfl, hM94, h86, h91, h82⟩
   obtain ⟨sb97, hL95, hv96⟩ := hL75.callB (Sl := ([Sm w.heap.size F sw56 sb57] : List C9)) hp76 hM94 F (Bg [0] rfl) ⟨Sm.ok, trivial⟩
   have h82 : At Cc (Sm w.heap.size F w93 sb97) A79 n80 c81 r77.2.words := Rw.mono h82 hv96
   refine ⟨_, _, _, rfl, hL95, ?_⟩
   refine Aa 3 rfl (Ae rfl) gn rfl ?_
   by_cases hp98 : r77.1 = true
   ·have h := Aq hp98 h
    refine Bl 46 rfl (hp98) <| Ac 4 rfl (ps 46 rfl rfl rfl) <| Ac 5 rfl (ps 46 rfl rfl rfl) <| Ac 6 rfl (ps 46 rfl rfl rfl) <| Ac 7 rfl (ps 46 rfl rfl rfl) <| Ac 8 rfl (ps 46 rfl rfl rfl) <| Ac 9 rfl (ps 46 rfl rfl rfl) <| Ac 10 rfl (ps 46 rfl rfl rfl) <| Ac 11 rfl (ps 46 rfl rfl rfl) <| Ac 12 rfl (pu 54 rfl rfl) <| Ac 13 rfl (pu 54 rfl rfl) <| Ac 14 rfl (pu 54 rfl rfl) ?_
    refine Ac 15 rfl (pu 54 rfl rfl) <| Ac 16 rfl (pu 54 rfl rfl) <| Ac 17 rfl (pu 54 rfl rfl) <| Ac 18 rfl (pu 54 rfl rfl) <| Ac 19 rfl (pu 54 rfl rfl) <| Ac 20 rfl (pu 54 rfl rfl) <| Ac 21 rfl (ps 46 rfl rfl rfl) <| Ac 22 rfl (ps 46 rfl rfl rfl) <| Ac 23 rfl (pu 65 rfl rfl) <| Ac 24 rfl (pu 65 rfl rfl) <| Ac 25 rfl (pu 65 rfl rfl) <| Ac 26 rfl (pu 65 rfl rfl) ?_
    refine Ac 27 rfl (pu 65 rfl rfl) <| Ac 28 rfl (pu 65 rfl rfl) <| Ac 29 rfl (pu 65 rfl rfl) <| Ac 30 rfl (pu 65 rfl rfl) <| Ac 31 rfl (pu 65 rfl rfl) <| Ac 32 rfl (ps 46 rfl rfl rfl) <| Aa 33 rfl (Az (b := true) rfl rfl) gn rfl <| Aa 34 rfl (Af rfl) gn rfl <| Ak 35 rfl ?_
    refine Bo [.bool true] rfl Tryd.func87 rfl (.tmp rfl (.nil)) fun wr hLr => ?_
    have hMr := hLr.pkI (.c 0 rfl (.c 1 rfl (.c 2 rfl .n))) .n (by kernel_rfl) (.c 3 rfl .n)
    have hMi := hLr.selI (.c 0 rfl (.c 1 rfl (.c 2 rfl .n)))
    show H5 w F g2 Tb3 A8 n9 c10 z12 A14 n15 c16 z18 r (.returned (Ce [.bool true])) wr
    rw [h]
    exact ⟨A83, n84, c85, A88, n89, c90, A79, n80, c81, rfl, hMr, h86, h91, (hLr.outR (s := Sm w.heap.size F w93 sb97) hMi (me 0 rfl) Sm.ok h82)⟩
   ·have h := Ar hp98 h
    refine Bl 46 rfl ((bf hp98)) <| Aa 4 rfl (Ae rfl) (gy 46 rfl rfl) rfl <| Aa 5 rfl (Ae rfl) (gy 46 rfl rfl) rfl <| Aa 6 rfl (Bc rfl) (gy 46 rfl rfl) rfl <| Aa 7 rfl (Aw Gq rfl) (gy 46 rfl rfl) rfl <| Aa 8 rfl (Ap 0 Ld rfl rfl rfl) (gy 46 rfl rfl) rfl <| Aa 9 rfl (Dy Y1 rfl h82.hq) (gy 46 rfl rfl) rfl <| Aa 10 rfl (Bh rfl rfl rfl) (gy 46 rfl rfl) rfl <| Aa 11 rfl (Ae rfl) (gy 46 rfl rfl) rfl ?_
    by_cases hp99 : x1.at_ < (r77.2.words.length : Int)
    ·have h := Aq hp99 h
     refine Bl 54 rfl ((decide_eq_true hp99)) <| Aa 12 rfl (Ae rfl) (gy 54 rfl rfl) rfl <| Aa 13 rfl (Bc rfl) (gy 54 rfl rfl) rfl <| Aa 14 rfl (Aw Gq rfl) (gy 54 rfl rfl) rfl <| Aa 15 rfl (Ap 0 Ld rfl rfl rfl) (gy 54 rfl rfl) rfl <| Aa 16 rfl (Ae rfl) (gy 54 rfl rfl) rfl ?_
     obtain ⟨hb100, h⟩ := h
     have hr101 := Rw.readF (s := Sm w.heap.size F w93 sb97) (hl := Ef) (h1 := Ee) h82 hb100
     refine Aa 17 rfl (Gm (s := Sm w.heap.size F w93 sb97) Pj rfl rfl h82 hb100) (gy 54 rfl rfl) rfl <| Aa 18 rfl (Oi Uh rfl) (gy 54 rfl rfl) rfl <| Aa 19 rfl (L8 (kk := (x1.at_ : Int).toNat * 4) (j := 0) (Sm w.heap.size F w93 sb97) Xak rfl hr101 rfl (me 0 rfl)) (gy 54 rfl rfl) rfl <| Aa 20 rfl (Bh rfl rfl rfl) (gy 54 rfl rfl) rfl <| Aa 21 rfl (Az (b := true) rfl rfl) (gy 46 rfl rfl) rfl <| Aa 22 rfl (Ae rfl) (gy 46 rfl rfl) rfl ?_
     by_cases hp102 : (ix r77.2.words x1.at_).kind = 2
     ·have h := Aq hp102 h
      refine Bl 65 rfl ((eqi hp102)) <| Aa 23 rfl (Ae rfl) (gy 65 rfl rfl) rfl <| Aa 24 rfl (Bc rfl) (gy 65 rfl rfl) rfl <| Aa 25 rfl (Aw Gq rfl) (gy 65 rfl rfl) rfl <| Aa 26 rfl (Ap 0 Ld rfl rfl rfl) (gy 65 rfl rfl) rfl <| Aa 27 rfl (Ae rfl) (gy 65 rfl rfl) rfl ?_
      have hr103 := Rw.readF (s := Sm w.heap.size F w93 sb97) (hl := Ef) (h1 := Ee) h82 hb100
      refine Aa 28 rfl (Gm (s := Sm w.heap.size F w93 sb97) Pj rfl rfl h82 hb100) (gy 65 rfl rfl) rfl <| Aa 29 rfl (Oi J8 rfl) (gy 65 rfl rfl) rfl <| Aa 30 rfl (L8 (kk := (x1.at_ : Int).toNat * 4) (j := 1) (Sm w.heap.size F w93 sb97) H9 rfl hr103 rfl (me 0 rfl)) (gy 65 rfl rfl) rfl <| Aa 31 rfl (Ru rfl rfl) (gy 65 rfl rfl) rfl <| Aa 32 rfl (Az (b := true) rfl rfl) (gy 46 rfl rfl) rfl <| Aa 33 rfl (Az (b := false) rfl rfl) gn rfl <| Aa 34 rfl (Af rfl) gn rfl <| Ak 35 rfl ?_
      refine Bo [.bool (!(seq ((ix r77.2.words x1.at_).text) (⟨#[]⟩ : ByteArray)))] rfl Tryd.func87 rfl (.tmp rfl (.nil)) fun wr hLr => ?_
      have hMr := hLr.pkI (.c 0 rfl (.c 1 rfl (.c 2 rfl .n))) .n (by kernel_rfl) (.c 3 rfl .n)
      have hMi := hLr.selI (.c 0 rfl (.c 1 rfl (.c 2 rfl .n)))
      show H5 w F g2 Tb3 A8 n9 c10 z12 A14 n15 c16 z18 r (.returned (Ce [.bool (!(seq ((ix r77.2.words x1.at_).text) (⟨#[]⟩ : ByteArray)))])) wr
      rw [h]
      exact ⟨A83, n84, c85, A88, n89, c90, A79, n80, c81, rfl, hMr, h86, h91, (hLr.outR (s := Sm w.heap.size F w93 sb97) hMi (me 0 rfl) Sm.ok h82)⟩
     ·have h := Ar hp102 h
      refine Bl 65 rfl ((nei hp102)) <| Ac 23 rfl (ps 65 rfl rfl rfl) <| Ac 24 rfl (ps 65 rfl rfl rfl) <| Ac 25 rfl (ps 65 rfl rfl rfl) <| Ac 26 rfl (ps 65 rfl rfl rfl) <| Ac 27 rfl (ps 65 rfl rfl rfl) <| Ac 28 rfl (ps 65 rfl rfl rfl) <| Ac 29 rfl (ps 65 rfl rfl rfl) <| Ac 30 rfl (ps 65 rfl rfl rfl) <| Ac 31 rfl (ps 65 rfl rfl rfl) <| Aa 32 rfl (Az (b := false) rfl rfl) (gy 46 rfl rfl) rfl <| Aa 33 rfl (Az (b := false) rfl rfl) gn rfl ?_
      refine Aa 34 rfl (Af rfl) gn rfl <| Ak 35 rfl ?_
      refine Bo [.bool false] rfl Tryd.func87 rfl (.tmp rfl (.nil)) fun wr hLr => ?_
      have hMr := hLr.pkI (.c 0 rfl (.c 1 rfl (.c 2 rfl .n))) .n (by kernel_rfl) (.c 3 rfl .n)
      have hMi := hLr.selI (.c 0 rfl (.c 1 rfl (.c 2 rfl .n)))
      show H5 w F g2 Tb3 A8 n9 c10 z12 A14 n15 c16 z18 r (.returned (Ce [.bool false])) wr
      rw [h]
      exact ⟨A83, n84, c85, A88, n89, c90, A79, n80, c81, rfl, hMr, h86, h91, (hLr.outR (s := Sm w.heap.size F w93 sb97) hMi (me 0 rfl) Sm.ok h82)⟩
    ·have h := Ar hp99 h
     refine Bl 54 rfl ((decide_eq_false hp99)) <| Ac 12 rfl (ps 54 rfl rfl rfl) <| Ac 13 rfl (ps 54 rfl rfl rfl) <| Ac 14 rfl (ps 54 rfl rfl rfl) <| Ac 15 rfl (ps 54 rfl rfl rfl) <| Ac 16 rfl (ps 54 rfl rfl rfl) <| Ac 17 rfl (ps 54 rfl rfl rfl) <| Ac 18 rfl (ps 54 rfl rfl rfl) <| Ac 19 rfl (ps 54 rfl rfl rfl) <| Ac 20 rfl (ps 54 rfl rfl rfl) <| Aa 21 rfl (Az (b := false) rfl rfl) (gy 46 rfl rfl) rfl <| Aa 22 rfl (Ae rfl) (gy 46 rfl rfl) rfl ?_
     refine Ac 23 rfl (ps 65 rfl rfl rfl) <| Ac 24 rfl (ps 65 rfl rfl rfl) <| Ac 25 rfl (ps 65 rfl rfl rfl) <| Ac 26 rfl (ps 65 rfl rfl rfl) <| Ac 27 rfl (ps 65 rfl rfl rfl) <| Ac 28 rfl (ps 65 rfl rfl rfl) <| Ac 29 rfl (ps 65 rfl rfl rfl) <| Ac 30 rfl (ps 65 rfl rfl rfl) <| Ac 31 rfl (ps 65 rfl rfl rfl) <| Aa 32 rfl (Az (b := false) rfl rfl) (gy 46 rfl rfl) rfl <| Aa 33 rfl (Az (b := false) rfl rfl) gn rfl <| Aa 34 rfl (Af rfl) gn rfl ?_
     refine Ak 35 rfl ?_
     refine Bo [.bool false] rfl Tryd.func87 rfl (.tmp rfl (.nil)) fun wr hLr => ?_
     have hMr := hLr.pkI (.c 0 rfl (.c 1 rfl (.c 2 rfl .n))) .n (by kernel_rfl) (.c 3 rfl .n)
     have hMi := hLr.selI (.c 0 rfl (.c 1 rfl (.c 2 rfl .n)))
     show H5 w F g2 Tb3 A8 n9 c10 z12 A14 n15 c16 z18 r (.returned (Ce [.bool false])) wr
     rw [h]
     exact ⟨A83, n84, c85, A88, n89, c90, A79, n80, c81, rfl, hMr, h86, h91, (hLr.outR (s := Sm w.heap.size F w93 sb97) hMi (me 0 rfl) Sm.ok h82)⟩
 refine Ad rfl rfl <| Aa 0 rfl (Ae rfl) gn rfl <| Aa 1 rfl (Ae rfl) gn rfl <| Aa 2 rfl (Bc rfl) gn rfl <| Aa 3 rfl (Aw Gq rfl) gn rfl <| Aa 4 rfl (Ap 0 Ld rfl rfl rfl) gn rfl <| Aa 5 rfl (Dy Y1 rfl h7.hq) gn rfl <| Aa 6 rfl (Bh rfl rfl rfl) gn rfl <| Aa 7 rfl (Ae rfl) gn rfl ?_
 by_cases hp104 : x1.at_ < (x1.words.length : Int)
 ·have h := Aq hp104 h
  refine Bl 15 rfl ((decide_eq_true hp104)) <| Aa 8 rfl (Ae rfl) (gy 15 rfl rfl) rfl <| Aa 9 rfl (Bc rfl) (gy 15 rfl rfl) rfl <| Aa 10 rfl (Aw Gq rfl) (gy 15 rfl rfl) rfl <| Aa 11 rfl (Ap 0 Ld rfl rfl rfl) (gy 15 rfl rfl) rfl <| Aa 12 rfl (Ae rfl) (gy 15 rfl rfl) rfl ?_
  obtain ⟨hb105, h⟩ := h
  have hr106 := Rw.readF (s := Sm w.heap.size F w [[g2], (Value.slice A8 n9 c10).ownBlock.toList, (Value.slice A14 n15 c16).ownBlock.toList]) (hl := Ef) (h1 := Ee) h7 hb105
  refine Aa 13 rfl (Gm (s := Sm w.heap.size F w [[g2], (Value.slice A8 n9 c10).ownBlock.toList, (Value.slice A14 n15 c16).ownBlock.toList]) Pj rfl rfl h7 hb105) (gy 15 rfl rfl) rfl <| Aa 14 rfl (Oi Uh rfl) (gy 15 rfl rfl) rfl <| Aa 15 rfl (L8 (kk := (x1.at_ : Int).toNat * 4) (j := 0) (Sm w.heap.size F w [[g2], (Value.slice A8 n9 c10).ownBlock.toList, (Value.slice A14 n15 c16).ownBlock.toList]) Xak rfl hr106 rfl (me 0 rfl)) (gy 15 rfl rfl) rfl <| Aa 16 rfl (Bh rfl rfl rfl) (gy 15 rfl rfl) rfl <| Aa 17 rfl (Az (b := true) rfl rfl) gn rfl <| Aa 18 rfl (Ae rfl) gn rfl ?_
  by_cases hp107 : (ix x1.words x1.at_).kind = 1
  ·have h := Aq hp107 h
   refine Bl 26 rfl ((eqi hp107)) <| Aa 19 rfl (Ae rfl) (gy 26 rfl rfl) rfl <| Aa 20 rfl (Bc rfl) (gy 26 rfl rfl) rfl <| Aa 21 rfl (Aw Gq rfl) (gy 26 rfl rfl) rfl <| Aa 22 rfl (Ap 0 Ld rfl rfl rfl) (gy 26 rfl rfl) rfl <| Aa 23 rfl (Ae rfl) (gy 26 rfl rfl) rfl ?_
   have hr108 := Rw.readF (s := Sm w.heap.size F w [[g2], (Value.slice A8 n9 c10).ownBlock.toList, (Value.slice A14 n15 c16).ownBlock.toList]) (hl := Ef) (h1 := Ee) h7 hb105
   refine Aa 24 rfl (Gm (s := Sm w.heap.size F w [[g2], (Value.slice A8 n9 c10).ownBlock.toList, (Value.slice A14 n15 c16).ownBlock.toList]) Pj rfl rfl h7 hb105) (gy 26 rfl rfl) rfl <| Aa 25 rfl (Oi J8 rfl) (gy 26 rfl rfl) rfl <| Aa 26 rfl (L8 (kk := (x1.at_ : Int).toNat * 4) (j := 1) (Sm w.heap.size F w [[g2], (Value.slice A8 n9 c10).ownBlock.toList, (Value.slice A14 n15 c16).ownBlock.toList]) H9 rfl hr108 rfl (me 0 rfl)) (gy 26 rfl rfl) rfl <| Aa 27 rfl (Ru rfl rfl) (gy 26 rfl rfl) rfl <| Aa 28 rfl (Az (b := true) rfl rfl) gn rfl <| Aa 29 rfl (Ae rfl) gn rfl ?_
   by_cases hp109 : (ix x1.words x1.at_).text = (⟨#[95]⟩ : ByteArray)
   ·have h := Aq hp109 h
    refine Bl 37 rfl ((nf (Q4 hp109))) <| Ac 30 rfl (ps 37 rfl rfl rfl) <| Ac 31 rfl (ps 37 rfl rfl rfl) <| Ac 32 rfl (ps 37 rfl rfl rfl) <| Ac 33 rfl (ps 37 rfl rfl rfl) <| Aa 34 rfl (Az (b := false) rfl rfl) gn rfl <| Ak 35 rfl <| Ba 0 rfl <| Ba 2 rfl <| Ba 2 rfl ?_
    exact D7 [0, 0, 1] (j1 false x1.words x1.at_ x1.end_ x1.q.nodes x1.q.conds x1.code x1.place h A4 n5 c6 w [[g2], (Value.slice A8 n9 c10).ownBlock.toList, (Value.slice A14 n15 c16).ownBlock.toList] h7 A8 n9 c10 h11 A14 n15 c16 h17) ⟨rfl, rfl, rfl, trivial⟩ (.cons_cons _ (.cons_cons _ (.cons_cons _ (.slnil)))) rfl
   ·have h := Ar hp109 h
    refine Bl 37 rfl ((nt (Qd hp109))) <| Aa 30 rfl (Ae rfl) (gy 37 rfl rfl) rfl <| Aa 31 rfl (Ae rfl) (gy 37 rfl rfl) rfl <| Aa 32 rfl (Bh rfl rfl rfl) (gy 37 rfl rfl) rfl ?_
    obtain ⟨r113, hv114, h⟩ := h
    refine Cj 33 rfl (D6 [.pointer (some ⟨g2, 0, none⟩), .int .i64 (w64 (x1.at_ + 1)), .int .i64 5, .string (⟨#[58]⟩ : ByteArray)] rfl Tryd.func91 rfl rfl rfl fun w110 hL111 => ?_) (gy 37 rfl rfl)
    have hp112 := pmI hL111 (.c 0 rfl (.c 1 rfl (.c 2 rfl .n))) .n (by kernel_rfl)
    refine Calls.mono (G7 w110 (Fl ([Sm w.heap.size F w [[g2], (Value.slice A8 n9 c10).ownBlock.toList, (Value.slice A14 n15 c16).ownBlock.toList]] : List C9)) x1 (w64 (x1.at_ + 1)) 5 (⟨#[58]⟩ : ByteArray) g2 Tb3 A4 n5 c6 z12 A8 n9 c10 z18 A14 n15 c16 (Rw.mono h7 (hL111.toFl (me 0 rfl) (me 0 rfl))) (Nat.le_trans hz13 hL111.env.size) h11 (Nat.le_trans hz19 hL111.env.size) h17 (hL111.hFl hp112 (Bg [0] rfl)) (hL111.into hp112 _) r113 hv114) ?_
    rintro _ w129 ⟨A119, n120, c121, A124, n125, c126, A115, n116, c117, rfl, hM130, h122, h127, h118⟩
    obtain ⟨sb133, hL131, hv132⟩ := hL111.callB (Sl := ([Sm w.heap.size F w [[g2], (Value.slice A8 n9 c10).ownBlock.toList, (Value.slice A14 n15 c16).ownBlock.toList]] : List C9)) hp112 hM130 F (Bg [0] rfl) ⟨Sm.ok, trivial⟩
    have h118 : At Cc (Sm w.heap.size F w129 sb133) A115 n116 c117 r113.2.words := Rw.mono h118 hv132
    refine ⟨_, _, _, rfl, hL131, ?_⟩
    refine Aa 34 rfl (Az (b := true) rfl rfl) gn rfl <| Ak 35 rfl <| Ba 0 rfl <| Ba 2 rfl <| Ba 2 rfl ?_
    exact D7 [0, 1, 2] (j1 r113.1 r113.2.words r113.2.at_ r113.2.end_ r113.2.q.nodes r113.2.q.conds r113.2.code r113.2.place h A115 n116 c117 w129 sb133 h118 A119 n120 c121 h122 A124 n125 c126 h127) ⟨rfl, rfl, rfl, trivial⟩ (.cons_cons _ (.cons_cons _ (.cons_cons _ (.slnil)))) rfl
  ·have h := Ar hp107 h
   refine Bl 26 rfl ((nei hp107)) <| Ac 19 rfl (ps 26 rfl rfl rfl) <| Ac 20 rfl (ps 26 rfl rfl rfl) <| Ac 21 rfl (ps 26 rfl rfl rfl) <| Ac 22 rfl (ps 26 rfl rfl rfl) <| Ac 23 rfl (ps 26 rfl rfl rfl) <| Ac 24 rfl (ps 26 rfl rfl rfl) <| Ac 25 rfl (ps 26 rfl rfl rfl) <| Ac 26 rfl (ps 26 rfl rfl rfl) <| Ac 27 rfl (ps 26 rfl rfl rfl) <| Aa 28 rfl (Az (b := false) rfl rfl) gn rfl <| Aa 29 rfl (Ae rfl) gn rfl ?_
   refine Ac 30 rfl (ps 37 rfl rfl rfl) <| Ac 31 rfl (ps 37 rfl rfl rfl) <| Ac 32 rfl (ps 37 rfl rfl rfl) <| Ac 33 rfl (ps 37 rfl rfl rfl) <| Aa 34 rfl (Az (b := false) rfl rfl) gn rfl <| Ak 35 rfl <| Ba 0 rfl <| Ba 2 rfl <| Ba 2 rfl ?_
   exact D7 [0, 0, 1] (j1 false x1.words x1.at_ x1.end_ x1.q.nodes x1.q.conds x1.code x1.place h A4 n5 c6 w [[g2], (Value.slice A8 n9 c10).ownBlock.toList, (Value.slice A14 n15 c16).ownBlock.toList] h7 A8 n9 c10 h11 A14 n15 c16 h17) ⟨rfl, rfl, rfl, trivial⟩ (.cons_cons _ (.cons_cons _ (.cons_cons _ (.slnil)))) rfl
 ·have h := Ar hp104 h
  refine Bl 15 rfl ((decide_eq_false hp104)) <| Ac 8 rfl (ps 15 rfl rfl rfl) <| Ac 9 rfl (ps 15 rfl rfl rfl) <| Ac 10 rfl (ps 15 rfl rfl rfl) <| Ac 11 rfl (ps 15 rfl rfl rfl) <| Ac 12 rfl (ps 15 rfl rfl rfl) <| Ac 13 rfl (ps 15 rfl rfl rfl) <| Ac 14 rfl (ps 15 rfl rfl rfl) <| Ac 15 rfl (ps 15 rfl rfl rfl) <| Ac 16 rfl (ps 15 rfl rfl rfl) <| Aa 17 rfl (Az (b := false) rfl rfl) gn rfl <| Aa 18 rfl (Ae rfl) gn rfl ?_
  refine Ac 19 rfl (ps 26 rfl rfl rfl) <| Ac 20 rfl (ps 26 rfl rfl rfl) <| Ac 21 rfl (ps 26 rfl rfl rfl) <| Ac 22 rfl (ps 26 rfl rfl rfl) <| Ac 23 rfl (ps 26 rfl rfl rfl) <| Ac 24 rfl (ps 26 rfl rfl rfl) <| Ac 25 rfl (ps 26 rfl rfl rfl) <| Ac 26 rfl (ps 26 rfl rfl rfl) <| Ac 27 rfl (ps 26 rfl rfl rfl) <| Aa 28 rfl (Az (b := false) rfl rfl) gn rfl <| Aa 29 rfl (Ae rfl) gn rfl <| Ac 30 rfl (ps 37 rfl rfl rfl) ?_
  refine Ac 31 rfl (ps 37 rfl rfl rfl) <| Ac 32 rfl (ps 37 rfl rfl rfl) <| Ac 33 rfl (ps 37 rfl rfl rfl) <| Aa 34 rfl (Az (b := false) rfl rfl) gn rfl <| Ak 35 rfl <| Ba 0 rfl <| Ba 2 rfl <| Ba 2 rfl ?_
  exact D7 [0, 0, 1] (j1 false x1.words x1.at_ x1.end_ x1.q.nodes x1.q.conds x1.code x1.place h A4 n5 c6 w [[g2], (Value.slice A8 n9 c10).ownBlock.toList, (Value.slice A14 n15 c16).ownBlock.toList] h7 A8 n9 c10 h11 A14 n15 c16 h17) ⟨rfl, rfl, rfl, trivial⟩ (.cons_cons _ (.cons_cons _ (.cons_cons _ (.slnil)))) rfl
abbrev L9 (w : World) (F : Nat → Prop) (g2 : Nat) (Tb3 : Nat) (A8 : Option Addr) (n9 : Nat) (c10 : Nat) (z12 : Nat) (A14 : Option Addr) (n15 : Nat) (c16 : Nat) (z18 : Nat) (r : Ah) : Ending → World → Prop := fun e w' => ∃ A1 : Option Addr, ∃ n1 : Nat, ∃ c1 : Nat, ∃ A2 : Option Addr, ∃ n2 : Nat, ∃ c2 : Nat, ∃ A0 : Option Addr, ∃ n0 : Nat, ∃ c0 : Nat, e = .returned (.tuple #[]) ∧ B.Loc w w' [.box g2 Tb3 [.slice A0 n0 c0, .int .i64 r.at_, .int .i64 r.end_, .slice A1 n1 c1, .slice A2 n2 c2, .int .i64 r.code, .int .i64 r.place], .own (.slice A1 n1 c1) 45 5 n1 (r.q.nodes.flatMap Am), .own (.slice A2 n2 c2) 47 4 n2 (r.q.conds.flatMap Bf)] [St w [[g2], (Value.slice A8 n9 c10).ownBlock.toList, (Value.slice A14 n15 c16).ownBlock.toList]] ∧ Ow z12 A1 n1 c1 r.q.nodes ∧ Ow z18 A2 n2 c2 r.q.conds ∧ Rw Cc w' (Nw w w' F [.box g2 Tb3 [.slice A0 n0 c0, .int .i64 r.at_, .int .i64 r.end_, .slice A1 n1 c1, .slice A2 n2 c2, .int .i64 r.code, .int .i64 r.place], .own (.slice A1 n1 c1) 45 5 n1 (r.q.nodes.flatMap Am), .own (.slice A2 n2 c2) 47 4 n2 (r.q.conds.flatMap Bf)]) A0 n0 c0 r.words
noncomputable abbrev Xb8 (w : World) (F : Nat → Prop) (g2 : Nat) (Tb3 : Nat) (A8 : Option Addr) (n9 : Nat) (c10 : Nat) (z12 : Nat) (A14 : Option Addr) (n15 : Nat) (c16 : Nat) (z18 : Nat) (r : Ah) : Cx := ⟨Tryd.prog, 88, Tryd.f88, 40, L9 w F g2 Tb3 A8 n9 c10 z12 A14 n15 c16 z18 r, w⟩
theorem Fe (w : World) (F : Nat → Prop) (x1 : Ah) (x20 : Int) (x21 : Int) (g2 : Nat) (Tb3 : Nat) (A4 : Option Addr) (n5 : Nat) (c6 : Nat) (z12 : Nat) (A8 : Option Addr) (n9 : Nat) (c10 : Nat) (z18 : Nat) (A14 : Option Addr) (n15 : Nat) (c16 : Nat) (h7 : Rw Cc w F A4 n5 c6 x1.words) (hz13 : z12 ≤ w.heap.size) (h11 : Ow z12 A8 n9 c10 x1.q.nodes) (hz19 : z18 ≤ w.heap.size) (h17 : Ow z18 A14 n15 c16 x1.q.conds) (hF : ∀ b, F b → b < w.heap.size ∧ ∀ o ∈ ([[g2], (Value.slice A8 n9 c10).ownBlock.toList, (Value.slice A14 n15 c16).ownBlock.toList] : List (List Nat)), b ∉ o) (hL0 : B.Loc w w [.box g2 Tb3 [.slice A4 n5 c6, .int .i64 x1.at_, .int .i64 x1.end_, .slice A8 n9 c10, .slice A14 n15 c16, .int .i64 x1.code, .int .i64 x1.place], .own (.slice A8 n9 c10) 45 5 n9 (x1.q.nodes.flatMap Am), .own (.slice A14 n15 c16) 47 4 n15 (x1.q.conds.flatMap Bf)] [Sm w.heap.size F w [[g2], (Value.slice A8 n9 c10).ownBlock.toList, (Value.slice A14 n15 c16).ownBlock.toList], St w [[g2], (Value.slice A8 n9 c10).ownBlock.toList, (Value.slice A14 n15 c16).ownBlock.toList]]) (r : Ah) (h : Dn x1 x20 x21 r) : Calls Tryd.prog 88 #[.pointer (some ⟨g2, 0, none⟩), .int .i64 x20, .int .i64 x21] w (L9 w F g2 Tb3 A8 n9 c10 z12 A14 n15 c16 z18 r) := by
 unfold Dn at h
 have h7 := Rw.into (bs := [[g2], (Value.slice A8 n9 c10).ownBlock.toList, (Value.slice A14 n15 c16).ownBlock.toList]) hF h7
 refine Cb (vs := [.pointer (some ⟨g2, 0, none⟩), .int .i64 x20, .int .i64 x21]) 40 Tryd.func88 rfl Tryd.ntmps88 rfl hL0 ?_
 show G (Xb8 w F g2 Tb3 A8 n9 c10 z12 A14 n15 c16 z18 r) _ _ _ _
 refine Ai rfl <| Ai rfl <| Ad rfl rfl <| Aa 0 rfl (Ae rfl) gn rfl <| Aa 1 rfl (Bc rfl) gn rfl <| Aa 2 rfl (Aw Pq rfl) gn rfl <| Aa 3 rfl (Ap 0 Xo rfl rfl rfl) gn rfl <| Aa 4 rfl (Bh rfl rfl rfl) gn rfl <| Ak 5 rfl ?_
 by_cases hp22 : x1.code = 0
 ·have h := Aq hp22 h
  refine Bj rfl _ rfl ((Xaf hp22)) <| Cf rfl <| Ai rfl <| Ad rfl rfl <| Aa 0 rfl (Ae rfl) gn rfl <| Aa 1 rfl (Ae rfl) gn rfl <| Aa 2 rfl (Ae rfl) gn rfl <| Aa 3 rfl (Ae rfl) gn rfl <| Aa 4 rfl (Bc rfl) gn rfl <| Aa 5 rfl (Aw fo_90_2 rfl) gn rfl <| Aa 6 rfl (Ap 0 Ho rfl rfl rfl) gn rfl <| Aa 7 rfl (Bc rfl) gn rfl ?_
  refine Aa 8 rfl (Aw Pq rfl) gn rfl ?_
  refine Cj 9 rfl (Fg (vs := [.int .i64 x20]) (cs' := [.slice A4 n5 c6, .int .i64 x1.at_, .int .i64 x1.end_, .slice A8 n9 c10, .slice A14 n15 c16, .int .i64 x20, .int .i64 x1.place]) (M' := [.box g2 Tb3 [.slice A4 n5 c6, .int .i64 x1.at_, .int .i64 x1.end_, .slice A8 n9 c10, .slice A14 n15 c16, .int .i64 x20, .int .i64 x1.place], .own (.slice A8 n9 c10) 45 5 n9 (x1.q.nodes.flatMap Am), .own (.slice A14 n15 c16) 47 4 n15 (x1.q.conds.flatMap Bf)]) 0 sz_40 rfl rfl rfl rfl rfl rfl rfl rfl rfl ?_) gn
  refine Aa 10 rfl (Bc rfl) gn rfl <| Aa 11 rfl (Aw Xic rfl) gn rfl ?_
  refine Cj 12 rfl (Fg (vs := [.int .i64 x1.end_]) (cs' := [.slice A4 n5 c6, .int .i64 x1.at_, .int .i64 x1.end_, .slice A8 n9 c10, .slice A14 n15 c16, .int .i64 x20, .int .i64 x1.end_]) (M' := [.box g2 Tb3 [.slice A4 n5 c6, .int .i64 x1.at_, .int .i64 x1.end_, .slice A8 n9 c10, .slice A14 n15 c16, .int .i64 x20, .int .i64 x1.end_], .own (.slice A8 n9 c10) 45 5 n9 (x1.q.nodes.flatMap Am), .own (.slice A14 n15 c16) 47 4 n15 (x1.q.conds.flatMap Bf)]) 0 Xbb rfl rfl rfl rfl rfl rfl rfl rfl rfl ?_) gn
  refine Ak 13 rfl <| Ai rfl <| Ad rfl rfl <| Aa 0 rfl (Ae rfl) gn rfl <| Aa 1 rfl (Ae rfl) gn rfl <| Aa 2 rfl (Bc rfl) gn rfl <| Aa 3 rfl (Aw Gq rfl) gn rfl <| Aa 4 rfl (Ap 0 Ld rfl rfl rfl) gn rfl <| Aa 5 rfl (Dy Y1 rfl h7.hq) gn rfl <| Aa 6 rfl (Bh rfl rfl rfl) gn rfl <| Ak 7 rfl ?_
  by_cases hp23 : x21 < (x1.words.length : Int)
  ·have h := Aq hp23 h
   refine Bz rfl _ rfl ((decide_eq_true hp23)) <| Ad rfl rfl <| Aa 0 rfl (Ae rfl) gn rfl <| Aa 1 rfl (Ae rfl) gn rfl <| Aa 2 rfl (Bc rfl) gn rfl <| Aa 3 rfl (Aw Gq rfl) gn rfl <| Aa 4 rfl (Ap 0 Ld rfl rfl rfl) gn rfl <| Aa 5 rfl (Ae rfl) gn rfl ?_
   obtain ⟨hb24, h⟩ := h
   have hr25 := Rw.readF (s := Sm w.heap.size F w [[g2], (Value.slice A8 n9 c10).ownBlock.toList, (Value.slice A14 n15 c16).ownBlock.toList]) (hl := Ef) (h1 := Ee) h7 hb24
   refine Aa 6 rfl (Gm (s := Sm w.heap.size F w [[g2], (Value.slice A8 n9 c10).ownBlock.toList, (Value.slice A14 n15 c16).ownBlock.toList]) Pj rfl rfl h7 hb24) gn rfl <| Aa 7 rfl (Oi fo_84_3 rfl) gn rfl <| Aa 8 rfl (L8 (kk := (x21 : Int).toNat * 4) (j := 3) (Sm w.heap.size F w [[g2], (Value.slice A8 n9 c10).ownBlock.toList, (Value.slice A14 n15 c16).ownBlock.toList]) Ho rfl hr25 rfl (me 0 rfl)) gn rfl <| Aa 9 rfl (Bc rfl) gn rfl <| Aa 10 rfl (Aw Xic rfl) gn rfl ?_
   refine Cj 11 rfl (Fg (vs := [.int .i64 ((ix x1.words x21).at_)]) (cs' := [.slice A4 n5 c6, .int .i64 x1.at_, .int .i64 x1.end_, .slice A8 n9 c10, .slice A14 n15 c16, .int .i64 x20, .int .i64 ((ix x1.words x21).at_)]) (M' := [.box g2 Tb3 [.slice A4 n5 c6, .int .i64 x1.at_, .int .i64 x1.end_, .slice A8 n9 c10, .slice A14 n15 c16, .int .i64 x20, .int .i64 ((ix x1.words x21).at_)], .own (.slice A8 n9 c10) 45 5 n9 (x1.q.nodes.flatMap Am), .own (.slice A14 n15 c16) 47 4 n15 (x1.q.conds.flatMap Bf)]) 0 Xbb rfl rfl rfl rfl rfl rfl rfl rfl rfl ?_) gn
   refine Ak 12 rfl ?_
   refine Vu [] Tryd.func88 rfl (.nil) fun wr hLr => ?_
   have hMr := hLr.pkI (.c 0 rfl (.c 1 rfl (.c 2 rfl .n))) .n (by kernel_rfl) (.c 1 rfl .n)
   have hMi := hLr.selI (.c 0 rfl (.c 1 rfl (.c 2 rfl .n)))
   show L9 w F g2 Tb3 A8 n9 c10 z12 A14 n15 c16 z18 r (.returned (Ce [])) wr
   rw [h]
   exact ⟨A8, n9, c10, A14, n15, c16, A4, n5, c6, rfl, hMr, h11, h17, (hLr.outR (s := Sm w.heap.size F w [[g2], (Value.slice A8 n9 c10).ownBlock.toList, (Value.slice A14 n15 c16).ownBlock.toList]) hMi (me 0 rfl) Sm.ok h7)⟩
  ·have h := Ar hp23 h
   refine Bj rfl _ rfl ((decide_eq_false hp23)) <| Cf rfl ?_
   refine Vu [] Tryd.func88 rfl (.nil) fun wr hLr => ?_
   have hMr := hLr.pkI (.c 0 rfl (.c 1 rfl (.c 2 rfl .n))) .n (by kernel_rfl) (.c 1 rfl .n)
   have hMi := hLr.selI (.c 0 rfl (.c 1 rfl (.c 2 rfl .n)))
   show L9 w F g2 Tb3 A8 n9 c10 z12 A14 n15 c16 z18 r (.returned (Ce [])) wr
   rw [h]
   exact ⟨A8, n9, c10, A14, n15, c16, A4, n5, c6, rfl, hMr, h11, h17, (hLr.outR (s := Sm w.heap.size F w [[g2], (Value.slice A8 n9 c10).ownBlock.toList, (Value.slice A14 n15 c16).ownBlock.toList]) hMi (me 0 rfl) Sm.ok h7)⟩
 ·have h := Ar hp22 h
  refine Bz rfl _ rfl ((Zz hp22)) ?_
  refine Bo [] rfl Tryd.func88 rfl (.nil) fun wr hLr => ?_
  have hMr := hLr.pkI (.c 0 rfl (.c 1 rfl (.c 2 rfl .n))) .n (by kernel_rfl) (.c 1 rfl .n)
  have hMi := hLr.selI (.c 0 rfl (.c 1 rfl (.c 2 rfl .n)))
  show L9 w F g2 Tb3 A8 n9 c10 z12 A14 n15 c16 z18 r (.returned (Ce [])) wr
  rw [h]
  exact ⟨A8, n9, c10, A14, n15, c16, A4, n5, c6, rfl, hMr, h11, h17, (hLr.outR (s := Sm w.heap.size F w [[g2], (Value.slice A8 n9 c10).ownBlock.toList, (Value.slice A14 n15 c16).ownBlock.toList]) hMi (me 0 rfl) Sm.ok h7)⟩
noncomputable abbrev q89c4 := Code.snd (Code.snd (Dp Tryd.f89))
noncomputable abbrev q89c5 := Code.fst (Code.fst (Code.snd (Dp Tryd.f89)))
noncomputable abbrev q89c6 := Code.snd (Code.fst (Code.snd (Dp Tryd.f89)))
noncomputable abbrev q89c15 := Code.fst (Code.snd q89c4)
abbrev Ot (w : World) (F : Nat → Prop) (g2 : Nat) (Tb3 : Nat) (A8 : Option Addr) (n9 : Nat) (c10 : Nat) (z12 : Nat) (A14 : Option Addr) (n15 : Nat) (c16 : Nat) (z18 : Nat) (r : ByteArray × Ah) : Ending → World → Prop := fun e w' => ∃ A1 : Option Addr, ∃ n1 : Nat, ∃ c1 : Nat, ∃ A2 : Option Addr, ∃ n2 : Nat, ∃ c2 : Nat, ∃ A0 : Option Addr, ∃ n0 : Nat, ∃ c0 : Nat, e = .returned (.string r.1) ∧ B.Loc w w' [.box g2 Tb3 [.slice A0 n0 c0, .int .i64 r.2.at_, .int .i64 r.2.end_, .slice A1 n1 c1, .slice A2 n2 c2, .int .i64 r.2.code, .int .i64 r.2.place], .own (.slice A1 n1 c1) 45 5 n1 (r.2.q.nodes.flatMap Am), .own (.slice A2 n2 c2) 47 4 n2 (r.2.q.conds.flatMap Bf)] [St w [[g2], (Value.slice A8 n9 c10).ownBlock.toList, (Value.slice A14 n15 c16).ownBlock.toList]] ∧ Ow z12 A1 n1 c1 r.2.q.nodes ∧ Ow z18 A2 n2 c2 r.2.q.conds ∧ Rw Cc w' (Nw w w' F [.box g2 Tb3 [.slice A0 n0 c0, .int .i64 r.2.at_, .int .i64 r.2.end_, .slice A1 n1 c1, .slice A2 n2 c2, .int .i64 r.2.code, .int .i64 r.2.place], .own (.slice A1 n1 c1) 45 5 n1 (r.2.q.nodes.flatMap Am), .own (.slice A2 n2 c2) 47 4 n2 (r.2.q.conds.flatMap Bf)]) A0 n0 c0 r.2.words
noncomputable abbrev Vx (w : World) (F : Nat → Prop) (g2 : Nat) (Tb3 : Nat) (A8 : Option Addr) (n9 : Nat) (c10 : Nat) (z12 : Nat) (A14 : Option Addr) (n15 : Nat) (c16 : Nat) (z18 : Nat) (r : ByteArray × Ah) : Cx := ⟨Tryd.prog, 89, Tryd.f89, 66, Ot w F g2 Tb3 A8 n9 c10 z12 A14 n15 c16 z18 r, w⟩
theorem Kq (w : World) (F : Nat → Prop) (x1 : Ah) (g2 : Nat) (Tb3 : Nat) (A4 : Option Addr) (n5 : Nat) (c6 : Nat) (z12 : Nat) (A8 : Option Addr) (n9 : Nat) (c10 : Nat) (z18 : Nat) (A14 : Option Addr) (n15 : Nat) (c16 : Nat) (h7 : Rw Cc w F A4 n5 c6 x1.words) (hz13 : z12 ≤ w.heap.size) (h11 : Ow z12 A8 n9 c10 x1.q.nodes) (hz19 : z18 ≤ w.heap.size) (h17 : Ow z18 A14 n15 c16 x1.q.conds) (hF : ∀ b, F b → b < w.heap.size ∧ ∀ o ∈ ([[g2], (Value.slice A8 n9 c10).ownBlock.toList, (Value.slice A14 n15 c16).ownBlock.toList] : List (List Nat)), b ∉ o) (hL0 : B.Loc w w [.box g2 Tb3 [.slice A4 n5 c6, .int .i64 x1.at_, .int .i64 x1.end_, .slice A8 n9 c10, .slice A14 n15 c16, .int .i64 x1.code, .int .i64 x1.place], .own (.slice A8 n9 c10) 45 5 n9 (x1.q.nodes.flatMap Am), .own (.slice A14 n15 c16) 47 4 n15 (x1.q.conds.flatMap Bf)] [Sm w.heap.size F w [[g2], (Value.slice A8 n9 c10).ownBlock.toList, (Value.slice A14 n15 c16).ownBlock.toList], St w [[g2], (Value.slice A8 n9 c10).ownBlock.toList, (Value.slice A14 n15 c16).ownBlock.toList]]) (r : ByteArray × Ah) (h : Eg x1 r) : Calls Tryd.prog 89 #[.pointer (some ⟨g2, 0, none⟩)] w (Ot w F g2 Tb3 A8 n9 c10 z12 A14 n15 c16 z18 r) := by
 unfold Eg at h
 have h7 := Rw.into (bs := [[g2], (Value.slice A8 n9 c10).ownBlock.toList, (Value.slice A14 n15 c16).ownBlock.toList]) hF h7
 refine Cb (vs := [.pointer (some ⟨g2, 0, none⟩)]) 66 Tryd.func89 rfl Tryd.ntmps89 rfl hL0 ?_
 show G (Vx w F g2 Tb3 A8 n9 c10 z12 A14 n15 c16 z18 r) _ _ _ _
 refine Ai rfl <| Ad rfl rfl <| Aa 0 rfl (Af rfl) gn rfl <| Ak 1 rfl <| Ai rfl <| Ai rfl ?_
 have j1 : ∀ (x32 : Bool) (h : E8 x1 x32 r) , G (Vx w F g2 Tb3 A8 n9 c10 z12 A14 n15 c16 z18 r) [.code q89c6, .code q89c4] [(0, .pointer (some ⟨g2, 0, none⟩)), (40, .bool x32)] [.box g2 Tb3 [.slice A4 n5 c6, .int .i64 x1.at_, .int .i64 x1.end_, .slice A8 n9 c10, .slice A14 n15 c16, .int .i64 x1.code, .int .i64 x1.place], .own (.slice A8 n9 c10) 45 5 n9 (x1.q.nodes.flatMap Am), .own (.slice A14 n15 c16) 47 4 n15 (x1.q.conds.flatMap Bf)] [Sm w.heap.size F w [[g2], (Value.slice A8 n9 c10).ownBlock.toList, (Value.slice A14 n15 c16).ownBlock.toList], St w [[g2], (Value.slice A8 n9 c10).ownBlock.toList, (Value.slice A14 n15 c16).ownBlock.toList]] := by
  intro x32 h
  unfold E8 at h
  by_cases hp33 : x32 = true
  ·have h := Aq hp33 h
   refine Bz rfl _ rfl (hp33) <| Ai rfl <| Ad rfl rfl <| Aa 0 rfl (Ae rfl) gn rfl <| Aa 1 rfl (Ae rfl) gn rfl <| Aa 2 rfl (Bc rfl) gn rfl <| Aa 3 rfl (Aw Ec rfl) gn rfl <| Aa 4 rfl (Ap 0 Ho rfl rfl rfl) gn rfl ?_
   obtain ⟨r37, hv38, h⟩ := h
   refine Cj 5 rfl (D6 [.pointer (some ⟨g2, 0, none⟩), .int .i64 200, .int .i64 x1.at_] rfl Tryd.func88 rfl rfl rfl fun w34 hL35 => ?_) gn
   have hp36 := pmI hL35 (.c 0 rfl (.c 1 rfl (.c 2 rfl .n))) .n (by kernel_rfl)
   refine Calls.mono (Fe w34 (Fl ([Sm w.heap.size F w [[g2], (Value.slice A8 n9 c10).ownBlock.toList, (Value.slice A14 n15 c16).ownBlock.toList]] : List C9)) x1 200 x1.at_ g2 Tb3 A4 n5 c6 z12 A8 n9 c10 z18 A14 n15 c16 (Rw.mono h7 (hL35.toFl (me 0 rfl) (me 0 rfl))) (Nat.le_trans hz13 hL35.env.size) h11 (Nat.le_trans hz19 hL35.env.size) h17 (hL35.hFl hp36 (Bg [0] rfl)) (hL35.into hp36 _) r37 hv38) ?_
   rintro _ w53 ⟨A43, n44, c45, A48, n49, c50, A39, n40, c41, rfl, hM54, h46, h51, h42⟩
   obtain ⟨sb57, hL55, hv56⟩ := hL35.callB (Sl := ([Sm w.heap.size F w [[g2], (Value.slice A8 n9 c10).ownBlock.toList, (Value.slice A14 n15 c16).ownBlock.toList]] : List C9)) hp36 hM54 F (Bg [0] rfl) ⟨Sm.ok, trivial⟩
   have h42 : At Cc (Sm w.heap.size F w53 sb57) A39 n40 c41 r37.words := Rw.mono h42 hv56
   refine ⟨_, _, _, rfl, hL55, ?_⟩
   refine Ak 6 rfl <| Ai rfl <| Ad rfl rfl <| Aa 0 rfl (Af rfl) gn rfl <| Ak 1 rfl ?_
   refine Bo [.string (⟨#[]⟩ : ByteArray)] rfl Tryd.func89 rfl (.tmp rfl (.nil)) fun wr hLr => ?_
   have hMr := hLr.pkI (.c 0 rfl (.c 1 rfl (.c 2 rfl .n))) .n (by kernel_rfl) (.c 2 rfl .n)
   have hMi := hLr.selI (.c 0 rfl (.c 1 rfl (.c 2 rfl .n)))
   show Ot w F g2 Tb3 A8 n9 c10 z12 A14 n15 c16 z18 r (.returned (Ce [.string (⟨#[]⟩ : ByteArray)])) wr
   rw [h]
   exact ⟨A43, n44, c45, A48, n49, c50, A39, n40, c41, rfl, hMr, h46, h51, (hLr.outR (s := Sm w.heap.size F w53 sb57) hMi (me 0 rfl) Sm.ok h42)⟩
  ·have h := Ar hp33 h
   refine Bj rfl _ rfl ((bf hp33)) <| Cf rfl <| Ai rfl <| Ad rfl rfl <| Aa 0 rfl (Ae rfl) gn rfl <| Aa 1 rfl (Bc rfl) gn rfl <| Aa 2 rfl (Aw Ec rfl) gn rfl <| Aa 3 rfl (Ap 0 Ho rfl rfl rfl) gn rfl <| Aa 4 rfl (Bh rfl rfl rfl) gn rfl <| Aa 5 rfl (Bc rfl) gn rfl <| Aa 6 rfl (Aw Ec rfl) gn rfl ?_
   refine Cj 7 rfl (Fg (vs := [.int .i64 (w64 (x1.at_ + 1))]) (cs' := [.slice A4 n5 c6, .int .i64 (w64 (x1.at_ + 1)), .int .i64 x1.end_, .slice A8 n9 c10, .slice A14 n15 c16, .int .i64 x1.code, .int .i64 x1.place]) (M' := [.box g2 Tb3 [.slice A4 n5 c6, .int .i64 (w64 (x1.at_ + 1)), .int .i64 x1.end_, .slice A8 n9 c10, .slice A14 n15 c16, .int .i64 x1.code, .int .i64 x1.place], .own (.slice A8 n9 c10) 45 5 n9 (x1.q.nodes.flatMap Am), .own (.slice A14 n15 c16) 47 4 n15 (x1.q.conds.flatMap Bf)]) 0 Xbb rfl rfl rfl rfl rfl rfl rfl rfl rfl ?_) gn
   refine Ak 8 rfl <| Ai rfl ?_
   obtain ⟨hb58, h⟩ := h
   have hns : Region.noSelect (Code.ops q89c15) = true := by kernel_rfl
   refine G5 [] 13 rfl rfl mix rfl (.c 0 rfl (.c 1 rfl .n)) <| wfv 0 rfl (Ae rfl) gn hns rfl <| wfv 1 rfl (Bc rfl) gn hns rfl <| wfv 2 rfl (Aw Gq rfl) gn hns rfl <| wfv 3 rfl (Ap 0 Ld rfl rfl rfl) gn hns rfl <| wfv 4 rfl (Ae rfl) gn hns rfl <| wfv 5 rfl (Bc rfl) gn hns rfl <| wfv 6 rfl (Aw Ec rfl) gn hns rfl <| wfv 7 rfl (Ap 0 Ho rfl rfl rfl) gn hns rfl <| wfv 8 rfl (Bh rfl rfl rfl) gn hns rfl ?_
   have hr61 := Rw.readF (s := Sm w.heap.size F w [[g2], (Value.slice A8 n9 c10).ownBlock.toList, (Value.slice A14 n15 c16).ownBlock.toList]) (hl := Ef) (h1 := Ee) h7 hb58
   refine wfv 9 rfl (Gm (s := Sm w.heap.size F w [[g2], (Value.slice A8 n9 c10).ownBlock.toList, (Value.slice A14 n15 c16).ownBlock.toList]) Pj rfl rfl h7 hb58) gn hns rfl <| wfv 10 rfl (Oi J8 rfl) gn hns rfl <| wfv 11 rfl (L8 (kk := (w64 ((w64 (x1.at_ + 1)) - 1) : Int).toNat * 4) (j := 1) (Sm w.heap.size F w [[g2], (Value.slice A8 n9 c10).ownBlock.toList, (Value.slice A14 n15 c16).ownBlock.toList]) H9 rfl hr61 rfl (me 0 rfl)) gn hns rfl <| wfv 12 rfl (Af rfl) gn hns rfl <| Dw (by kernel_rfl) ?_
   refine Bo [.string ((ix x1.words (w64 ((w64 (x1.at_ + 1)) - 1))).text)] rfl Tryd.func89 rfl (.tmp rfl (.nil)) fun wr hLr => ?_
   have hMr := hLr.pkI (.c 0 rfl (.c 1 rfl (.c 2 rfl .n))) .n (by kernel_rfl) (.c 1 rfl .n)
   have hMi := hLr.selI (.c 0 rfl (.c 1 rfl (.c 2 rfl .n)))
   show Ot w F g2 Tb3 A8 n9 c10 z12 A14 n15 c16 z18 r (.returned (Ce [.string ((ix x1.words (w64 ((w64 (x1.at_ + 1)) - 1))).text)])) wr
   rw [h]
   exact ⟨A8, n9, c10, A14, n15, c16, A4, n5, c6, rfl, hMr, h11, h17, (hLr.outR (s := Sm w.heap.size F w [[g2], (Value.slice A8 n9 c10).ownBlock.toList, (Value.slice A14 n15 c16).ownBlock.toList]) hMi (me 0 rfl) Sm.ok h7)⟩
 by_cases hp62 : x1.at_ = (x1.words.length : Int)
 ·have h := Aq hp62 h
  have hns : Region.noSelect (Code.ops q89c5) = true := by kernel_rfl
  refine G5 [] 38 rfl rfl mix rfl (.c 0 rfl (.c 1 rfl .n)) <| wfv 0 rfl (Ae rfl) gn hns rfl <| wfv 1 rfl (Bc rfl) gn hns rfl <| wfv 2 rfl (Aw Ec rfl) gn hns rfl <| wfv 3 rfl (Ap 0 Ho rfl rfl rfl) gn hns rfl <| wfv 4 rfl (Ae rfl) gn hns rfl <| wfv 5 rfl (Bc rfl) gn hns rfl <| wfv 6 rfl (Aw Gq rfl) gn hns rfl <| wfv 7 rfl (Ap 0 Ld rfl rfl rfl) gn hns rfl <| wfv 8 rfl (Dy Y1 rfl h7.hq) gn hns rfl <| wfv 9 rfl (Bh rfl rfl rfl) gn hns rfl <| wfv 10 rfl (Ae rfl) gn hns rfl ?_
  refine Jh 13 rfl ((eqi hp62)) <| wfp 11 rfl (ps 13 rfl rfl rfl) hns rfl <| wfp 12 rfl (ps 13 rfl rfl rfl) hns rfl <| wfp 13 rfl (ps 13 rfl rfl rfl) hns rfl <| wfp 14 rfl (ps 13 rfl rfl rfl) hns rfl <| wfp 15 rfl (ps 13 rfl rfl rfl) hns rfl <| wfp 16 rfl (ps 13 rfl rfl rfl) hns rfl <| wfp 17 rfl (ps 13 rfl rfl rfl) hns rfl <| wfp 18 rfl (ps 13 rfl rfl rfl) hns rfl <| wfp 19 rfl (ps 13 rfl rfl rfl) hns rfl <| wfp 20 rfl (ps 13 rfl rfl rfl) hns rfl <| wfp 21 rfl (ps 13 rfl rfl rfl) hns rfl ?_
  refine wfp 22 rfl (ps 13 rfl rfl rfl) hns rfl <| wfv 23 rfl (Az (b := true) rfl rfl) gn hns rfl <| wfv 24 rfl (Ae rfl) gn hns rfl <| wfp 25 rfl (ps 27 rfl rfl rfl) hns rfl <| wfp 26 rfl (ps 27 rfl rfl rfl) hns rfl <| wfp 27 rfl (ps 27 rfl rfl rfl) hns rfl <| wfp 28 rfl (ps 27 rfl rfl rfl) hns rfl <| wfp 29 rfl (ps 27 rfl rfl rfl) hns rfl <| wfp 30 rfl (ps 27 rfl rfl rfl) hns rfl <| wfp 31 rfl (ps 27 rfl rfl rfl) hns rfl <| wfp 32 rfl (ps 27 rfl rfl rfl) hns rfl <| wfp 33 rfl (ps 27 rfl rfl rfl) hns rfl ?_
  refine wfp 34 rfl (ps 27 rfl rfl rfl) hns rfl <| wfp 35 rfl (ps 27 rfl rfl rfl) hns rfl <| wfp 36 rfl (ps 27 rfl rfl rfl) hns rfl <| wfv 37 rfl (Az (b := true) rfl rfl) gn hns rfl <| Dw (by kernel_rfl) ?_
  exact D7 [0, 1] (j1 true h) ⟨rfl, rfl, trivial⟩ (.cons_cons _ (.cons_cons _ (.cons_cons _ (.slnil)))) rfl
 ·have h := Ar hp62 h
  obtain ⟨hb63, h⟩ := h
  by_cases hp65 : (ix x1.words x1.at_).kind = 1
  ·have h := Aq hp65 h
   have hns : Region.noSelect (Code.ops q89c5) = true := by kernel_rfl
   refine G5 [] 38 rfl rfl mix rfl (.c 0 rfl (.c 1 rfl .n)) <| wfv 0 rfl (Ae rfl) gn hns rfl <| wfv 1 rfl (Bc rfl) gn hns rfl <| wfv 2 rfl (Aw Ec rfl) gn hns rfl <| wfv 3 rfl (Ap 0 Ho rfl rfl rfl) gn hns rfl <| wfv 4 rfl (Ae rfl) gn hns rfl <| wfv 5 rfl (Bc rfl) gn hns rfl <| wfv 6 rfl (Aw Gq rfl) gn hns rfl <| wfv 7 rfl (Ap 0 Ld rfl rfl rfl) gn hns rfl <| wfv 8 rfl (Dy Y1 rfl h7.hq) gn hns rfl <| wfv 9 rfl (Bh rfl rfl rfl) gn hns rfl <| wfv 10 rfl (Ae rfl) gn hns rfl ?_
   refine Jh 13 rfl ((nei hp62)) <| wfv 11 rfl (Ae rfl) (gy 13 rfl rfl) hns rfl <| wfv 12 rfl (Bc rfl) (gy 13 rfl rfl) hns rfl <| wfv 13 rfl (Aw Gq rfl) (gy 13 rfl rfl) hns rfl <| wfv 14 rfl (Ap 0 Ld rfl rfl rfl) (gy 13 rfl rfl) hns rfl <| wfv 15 rfl (Ae rfl) (gy 13 rfl rfl) hns rfl <| wfv 16 rfl (Bc rfl) (gy 13 rfl rfl) hns rfl <| wfv 17 rfl (Aw Ec rfl) (gy 13 rfl rfl) hns rfl <| wfv 18 rfl (Ap 0 Ho rfl rfl rfl) (gy 13 rfl rfl) hns rfl ?_
   have hr69 := Rw.readF (s := Sm w.heap.size F w [[g2], (Value.slice A8 n9 c10).ownBlock.toList, (Value.slice A14 n15 c16).ownBlock.toList]) (hl := Ef) (h1 := Ee) h7 hb63
   refine wfv 19 rfl (Gm (s := Sm w.heap.size F w [[g2], (Value.slice A8 n9 c10).ownBlock.toList, (Value.slice A14 n15 c16).ownBlock.toList]) Pj rfl rfl h7 hb63) (gy 13 rfl rfl) hns rfl <| wfv 20 rfl (Oi Uh rfl) (gy 13 rfl rfl) hns rfl <| wfv 21 rfl (L8 (kk := (x1.at_ : Int).toNat * 4) (j := 0) (Sm w.heap.size F w [[g2], (Value.slice A8 n9 c10).ownBlock.toList, (Value.slice A14 n15 c16).ownBlock.toList]) Xak rfl hr69 rfl (me 0 rfl)) (gy 13 rfl rfl) hns rfl <| wfv 22 rfl (Bh rfl rfl rfl) (gy 13 rfl rfl) hns rfl <| wfv 23 rfl (Az (b := false) rfl rfl) gn hns rfl <| wfv 24 rfl (Ae rfl) gn hns rfl <| Jh 27 rfl ((Xaf hp65)) <| wfv 25 rfl (Ae rfl) (gy 27 rfl rfl) hns rfl <| wfv 26 rfl (Bc rfl) (gy 27 rfl rfl) hns rfl <| wfv 27 rfl (Aw Gq rfl) (gy 27 rfl rfl) hns rfl <| wfv 28 rfl (Ap 0 Ld rfl rfl rfl) (gy 27 rfl rfl) hns rfl <| wfv 29 rfl (Ae rfl) (gy 27 rfl rfl) hns rfl ?_
   refine wfv 30 rfl (Bc rfl) (gy 27 rfl rfl) hns rfl <| wfv 31 rfl (Aw Ec rfl) (gy 27 rfl rfl) hns rfl <| wfv 32 rfl (Ap 0 Ho rfl rfl rfl) (gy 27 rfl rfl) hns rfl ?_
   have hr70 := Rw.readF (s := Sm w.heap.size F w [[g2], (Value.slice A8 n9 c10).ownBlock.toList, (Value.slice A14 n15 c16).ownBlock.toList]) (hl := Ef) (h1 := Ee) h7 hb63
   refine wfv 33 rfl (Gm (s := Sm w.heap.size F w [[g2], (Value.slice A8 n9 c10).ownBlock.toList, (Value.slice A14 n15 c16).ownBlock.toList]) Pj rfl rfl h7 hb63) (gy 27 rfl rfl) hns rfl <| wfv 34 rfl (Oi J8 rfl) (gy 27 rfl rfl) hns rfl <| wfv 35 rfl (L8 (kk := (x1.at_ : Int).toNat * 4) (j := 1) (Sm w.heap.size F w [[g2], (Value.slice A8 n9 c10).ownBlock.toList, (Value.slice A14 n15 c16).ownBlock.toList]) H9 rfl hr70 rfl (me 0 rfl)) (gy 27 rfl rfl) hns rfl <| wfv 36 rfl (Y2 rfl rfl) (gy 27 rfl rfl) hns rfl <| wfv 37 rfl (Az (b := false) rfl rfl) gn hns rfl <| Dw (by kernel_rfl) ?_
   exact D7 [0, 1] (j1 (seq ((ix x1.words x1.at_).text) (⟨#[95]⟩ : ByteArray)) h) ⟨rfl, rfl, trivial⟩ (.cons_cons _ (.cons_cons _ (.cons_cons _ (.slnil)))) rfl
  ·have h := Ar hp65 h
   have hns : Region.noSelect (Code.ops q89c5) = true := by kernel_rfl
   refine G5 [] 38 rfl rfl mix rfl (.c 0 rfl (.c 1 rfl .n)) <| wfv 0 rfl (Ae rfl) gn hns rfl <| wfv 1 rfl (Bc rfl) gn hns rfl <| wfv 2 rfl (Aw Ec rfl) gn hns rfl <| wfv 3 rfl (Ap 0 Ho rfl rfl rfl) gn hns rfl <| wfv 4 rfl (Ae rfl) gn hns rfl <| wfv 5 rfl (Bc rfl) gn hns rfl <| wfv 6 rfl (Aw Gq rfl) gn hns rfl <| wfv 7 rfl (Ap 0 Ld rfl rfl rfl) gn hns rfl <| wfv 8 rfl (Dy Y1 rfl h7.hq) gn hns rfl <| wfv 9 rfl (Bh rfl rfl rfl) gn hns rfl <| wfv 10 rfl (Ae rfl) gn hns rfl ?_
   refine Jh 13 rfl ((nei hp62)) <| wfv 11 rfl (Ae rfl) (gy 13 rfl rfl) hns rfl <| wfv 12 rfl (Bc rfl) (gy 13 rfl rfl) hns rfl <| wfv 13 rfl (Aw Gq rfl) (gy 13 rfl rfl) hns rfl <| wfv 14 rfl (Ap 0 Ld rfl rfl rfl) (gy 13 rfl rfl) hns rfl <| wfv 15 rfl (Ae rfl) (gy 13 rfl rfl) hns rfl <| wfv 16 rfl (Bc rfl) (gy 13 rfl rfl) hns rfl <| wfv 17 rfl (Aw Ec rfl) (gy 13 rfl rfl) hns rfl <| wfv 18 rfl (Ap 0 Ho rfl rfl rfl) (gy 13 rfl rfl) hns rfl ?_
   have hr72 := Rw.readF (s := Sm w.heap.size F w [[g2], (Value.slice A8 n9 c10).ownBlock.toList, (Value.slice A14 n15 c16).ownBlock.toList]) (hl := Ef) (h1 := Ee) h7 hb63
   refine wfv 19 rfl (Gm (s := Sm w.heap.size F w [[g2], (Value.slice A8 n9 c10).ownBlock.toList, (Value.slice A14 n15 c16).ownBlock.toList]) Pj rfl rfl h7 hb63) (gy 13 rfl rfl) hns rfl <| wfv 20 rfl (Oi Uh rfl) (gy 13 rfl rfl) hns rfl <| wfv 21 rfl (L8 (kk := (x1.at_ : Int).toNat * 4) (j := 0) (Sm w.heap.size F w [[g2], (Value.slice A8 n9 c10).ownBlock.toList, (Value.slice A14 n15 c16).ownBlock.toList]) Xak rfl hr72 rfl (me 0 rfl)) (gy 13 rfl rfl) hns rfl <| wfv 22 rfl (Bh rfl rfl rfl) (gy 13 rfl rfl) hns rfl <| wfv 23 rfl (Az (b := false) rfl rfl) gn hns rfl <| wfv 24 rfl (Ae rfl) gn hns rfl <| Jh 27 rfl ((Zz hp65)) <| wfp 25 rfl (ps 27 rfl rfl rfl) hns rfl <| wfp 26 rfl (ps 27 rfl rfl rfl) hns rfl <| wfp 27 rfl (ps 27 rfl rfl rfl) hns rfl <| wfp 28 rfl (ps 27 rfl rfl rfl) hns rfl <| wfp 29 rfl (ps 27 rfl rfl rfl) hns rfl ?_
   refine wfp 30 rfl (ps 27 rfl rfl rfl) hns rfl <| wfp 31 rfl (ps 27 rfl rfl rfl) hns rfl <| wfp 32 rfl (ps 27 rfl rfl rfl) hns rfl <| wfp 33 rfl (ps 27 rfl rfl rfl) hns rfl <| wfp 34 rfl (ps 27 rfl rfl rfl) hns rfl <| wfp 35 rfl (ps 27 rfl rfl rfl) hns rfl <| wfp 36 rfl (ps 27 rfl rfl rfl) hns rfl <| wfv 37 rfl (Az (b := true) rfl rfl) gn hns rfl <| Dw (by kernel_rfl) ?_
   exact D7 [0, 1] (j1 true h) ⟨rfl, rfl, trivial⟩ (.cons_cons _ (.cons_cons _ (.cons_cons _ (.slnil)))) rfl
abbrev Ou (w : World) (F : Nat → Prop) (g2 : Nat) (Tb3 : Nat) (A8 : Option Addr) (n9 : Nat) (c10 : Nat) (z12 : Nat) (A14 : Option Addr) (n15 : Nat) (c16 : Nat) (z18 : Nat) (r : Ah) : Ending → World → Prop := fun e w' => ∃ A1 : Option Addr, ∃ n1 : Nat, ∃ c1 : Nat, ∃ A2 : Option Addr, ∃ n2 : Nat, ∃ c2 : Nat, ∃ A0 : Option Addr, ∃ n0 : Nat, ∃ c0 : Nat, e = .returned (.tuple #[]) ∧ B.Loc w w' [.box g2 Tb3 [.slice A0 n0 c0, .int .i64 r.at_, .int .i64 r.end_, .slice A1 n1 c1, .slice A2 n2 c2, .int .i64 r.code, .int .i64 r.place], .own (.slice A1 n1 c1) 45 5 n1 (r.q.nodes.flatMap Am), .own (.slice A2 n2 c2) 47 4 n2 (r.q.conds.flatMap Bf)] [St w [[g2], (Value.slice A8 n9 c10).ownBlock.toList, (Value.slice A14 n15 c16).ownBlock.toList]] ∧ Ow z12 A1 n1 c1 r.q.nodes ∧ Ow z18 A2 n2 c2 r.q.conds ∧ Rw Cc w' (Nw w w' F [.box g2 Tb3 [.slice A0 n0 c0, .int .i64 r.at_, .int .i64 r.end_, .slice A1 n1 c1, .slice A2 n2 c2, .int .i64 r.code, .int .i64 r.place], .own (.slice A1 n1 c1) 45 5 n1 (r.q.nodes.flatMap Am), .own (.slice A2 n2 c2) 47 4 n2 (r.q.conds.flatMap Bf)]) A0 n0 c0 r.words
noncomputable abbrev Xbe (w : World) (F : Nat → Prop) (g2 : Nat) (Tb3 : Nat) (A8 : Option Addr) (n9 : Nat) (c10 : Nat) (z12 : Nat) (A14 : Option Addr) (n15 : Nat) (c16 : Nat) (z18 : Nat) (r : Ah) : Cx := ⟨Tryd.prog, 90, Tryd.f90, 25, Ou w F g2 Tb3 A8 n9 c10 z12 A14 n15 c16 z18 r, w⟩
theorem He (w : World) (F : Nat → Prop) (x1 : Ah) (x20 : ByteArray) (g2 : Nat) (Tb3 : Nat) (A4 : Option Addr) (n5 : Nat) (c6 : Nat) (z12 : Nat) (A8 : Option Addr) (n9 : Nat) (c10 : Nat) (z18 : Nat) (A14 : Option Addr) (n15 : Nat) (c16 : Nat) (h7 : Rw Cc w F A4 n5 c6 x1.words) (hz13 : z12 ≤ w.heap.size) (h11 : Ow z12 A8 n9 c10 x1.q.nodes) (hz19 : z18 ≤ w.heap.size) (h17 : Ow z18 A14 n15 c16 x1.q.conds) (hF : ∀ b, F b → b < w.heap.size ∧ ∀ o ∈ ([[g2], (Value.slice A8 n9 c10).ownBlock.toList, (Value.slice A14 n15 c16).ownBlock.toList] : List (List Nat)), b ∉ o) (hL0 : B.Loc w w [.box g2 Tb3 [.slice A4 n5 c6, .int .i64 x1.at_, .int .i64 x1.end_, .slice A8 n9 c10, .slice A14 n15 c16, .int .i64 x1.code, .int .i64 x1.place], .own (.slice A8 n9 c10) 45 5 n9 (x1.q.nodes.flatMap Am), .own (.slice A14 n15 c16) 47 4 n15 (x1.q.conds.flatMap Bf)] [Sm w.heap.size F w [[g2], (Value.slice A8 n9 c10).ownBlock.toList, (Value.slice A14 n15 c16).ownBlock.toList], St w [[g2], (Value.slice A8 n9 c10).ownBlock.toList, (Value.slice A14 n15 c16).ownBlock.toList]]) (r : Ah) (h : Dz x1 x20 r) : Calls Tryd.prog 90 #[.pointer (some ⟨g2, 0, none⟩), .string x20] w (Ou w F g2 Tb3 A8 n9 c10 z12 A14 n15 c16 z18 r) := by
 unfold Dz at h
 have h7 := Rw.into (bs := [[g2], (Value.slice A8 n9 c10).ownBlock.toList, (Value.slice A14 n15 c16).ownBlock.toList]) hF h7
 refine Cb (vs := [.pointer (some ⟨g2, 0, none⟩), .string x20]) 25 Tryd.func90 rfl Tryd.ntmps90 rfl hL0 ?_
 show G (Xbe w F g2 Tb3 A8 n9 c10 z12 A14 n15 c16 z18 r) _ _ _ _
 refine Ai rfl <| Ai rfl <| Ad rfl rfl <| Aa 0 rfl (Ae rfl) gn rfl <| Aa 1 rfl (Ae rfl) gn rfl <| Aa 2 rfl (Bc rfl) gn rfl <| Aa 3 rfl (Aw Ec rfl) gn rfl <| Aa 4 rfl (Ap 0 Ho rfl rfl rfl) gn rfl <| Aa 5 rfl (Ae rfl) gn rfl ?_
 obtain ⟨r24, hv25, h⟩ := h
 refine Cj 6 rfl (D6 [.pointer (some ⟨g2, 0, none⟩), .int .i64 x1.at_, .int .i64 5, .string x20] rfl Tryd.func91 rfl rfl rfl fun w21 hL22 => ?_) gn
 have hp23 := pmI hL22 (.c 0 rfl (.c 1 rfl (.c 2 rfl .n))) .n (by kernel_rfl)
 refine Calls.mono (G7 w21 (Fl ([Sm w.heap.size F w [[g2], (Value.slice A8 n9 c10).ownBlock.toList, (Value.slice A14 n15 c16).ownBlock.toList]] : List C9)) x1 x1.at_ 5 x20 g2 Tb3 A4 n5 c6 z12 A8 n9 c10 z18 A14 n15 c16 (Rw.mono h7 (hL22.toFl (me 0 rfl) (me 0 rfl))) (Nat.le_trans hz13 hL22.env.size) h11 (Nat.le_trans hz19 hL22.env.size) h17 (hL22.hFl hp23 (Bg [0] rfl)) (hL22.into hp23 _) r24 hv25) ?_
 rintro _ w40 ⟨A30, n31, c32, A35, n36, c37, A26, n27, c28, rfl, hM41, h33, h38, h29⟩
 obtain ⟨sb44, hL42, hv43⟩ := hL22.callB (Sl := ([Sm w.heap.size F w [[g2], (Value.slice A8 n9 c10).ownBlock.toList, (Value.slice A14 n15 c16).ownBlock.toList]] : List C9)) hp23 hM41 F (Bg [0] rfl) ⟨Sm.ok, trivial⟩
 have h29 : At Cc (Sm w.heap.size F w40 sb44) A26 n27 c28 r24.2.words := Rw.mono h29 hv43
 refine ⟨_, _, _, rfl, hL42, ?_⟩
 refine Aa 7 rfl (Qg rfl) gn rfl <| Ak 8 rfl ?_
 by_cases hp45 : r24.1 = true
 ·have h := Aq hp45 h
  refine Bj rfl _ rfl ((nf hp45)) <| Cf rfl <| Ad rfl rfl <| Aa 0 rfl (Ae rfl) gn rfl <| Aa 1 rfl (Bc rfl) gn rfl <| Aa 2 rfl (Aw Ec rfl) gn rfl <| Aa 3 rfl (Ap 0 Ho rfl rfl rfl) gn rfl <| Aa 4 rfl (Bh rfl rfl rfl) gn rfl <| Aa 5 rfl (Bc rfl) gn rfl <| Aa 6 rfl (Aw Ec rfl) gn rfl ?_
  refine Cj 7 rfl (Fg (vs := [.int .i64 (w64 (r24.2.at_ + 1))]) (cs' := [.slice A26 n27 c28, .int .i64 (w64 (r24.2.at_ + 1)), .int .i64 r24.2.end_, .slice A30 n31 c32, .slice A35 n36 c37, .int .i64 r24.2.code, .int .i64 r24.2.place]) (M' := [.box g2 Tb3 [.slice A26 n27 c28, .int .i64 (w64 (r24.2.at_ + 1)), .int .i64 r24.2.end_, .slice A30 n31 c32, .slice A35 n36 c37, .int .i64 r24.2.code, .int .i64 r24.2.place], .own (.slice A30 n31 c32) 45 5 n31 (r24.2.q.nodes.flatMap Am), .own (.slice A35 n36 c37) 47 4 n36 (r24.2.q.conds.flatMap Bf)]) 0 Xbb rfl rfl rfl rfl rfl rfl rfl rfl rfl ?_) gn
  refine Ak 8 rfl ?_
  refine Vu [] Tryd.func90 rfl (.nil) fun wr hLr => ?_
  have hMr := hLr.pkI (.c 0 rfl (.c 1 rfl (.c 2 rfl .n))) .n (by kernel_rfl) (.c 2 rfl .n)
  have hMi := hLr.selI (.c 0 rfl (.c 1 rfl (.c 2 rfl .n)))
  show Ou w F g2 Tb3 A8 n9 c10 z12 A14 n15 c16 z18 r (.returned (Ce [])) wr
  rw [h]
  exact ⟨A30, n31, c32, A35, n36, c37, A26, n27, c28, rfl, hMr, h33, h38, (hLr.outR (s := Sm w.heap.size F w40 sb44) hMi (me 0 rfl) Sm.ok h29)⟩
 ·have h := Ar hp45 h
  refine Bz rfl _ rfl ((nt (bf hp45))) <| Ai rfl <| Ad rfl rfl <| Aa 0 rfl (Ae rfl) gn rfl <| Aa 1 rfl (Ae rfl) gn rfl <| Aa 2 rfl (Bc rfl) gn rfl <| Aa 3 rfl (Aw Ec rfl) gn rfl <| Aa 4 rfl (Ap 0 Ho rfl rfl rfl) gn rfl ?_
  obtain ⟨r49, hv50, h⟩ := h
  refine Cj 5 rfl (D6 [.pointer (some ⟨g2, 0, none⟩), .int .i64 200, .int .i64 r24.2.at_] rfl Tryd.func88 rfl rfl rfl fun w46 hL47 => ?_) gn
  have hp48 := pmI hL47 (.c 0 rfl (.c 1 rfl (.c 2 rfl .n))) .n (by kernel_rfl)
  refine Calls.mono (Fe w46 (Fl ([Sm w.heap.size F w40 sb44] : List C9)) r24.2 200 r24.2.at_ g2 Tb3 A26 n27 c28 z12 A30 n31 c32 z18 A35 n36 c37 (Rw.mono h29 (hL47.toFl (me 0 rfl) (me 0 rfl))) (Nat.le_trans hz13 hL47.env.size) h33 (Nat.le_trans hz19 hL47.env.size) h38 (hL47.hFl hp48 (Bg [0] rfl)) (hL47.into hp48 _) r49 hv50) ?_
  rintro _ w65 ⟨A55, n56, c57, A60, n61, c62, A51, n52, c53, rfl, hM66, h58, h63, h54⟩
  obtain ⟨sb69, hL67, hv68⟩ := hL47.callB (Sl := ([Sm w.heap.size F w40 sb44] : List C9)) hp48 hM66 F (Bg [0] rfl) ⟨Sm.ok, trivial⟩
  have h54 : At Cc (Sm w.heap.size F w65 sb69) A51 n52 c53 r49.words := Rw.mono h54 hv68
  refine ⟨_, _, _, rfl, hL67, ?_⟩
  refine Ak 6 rfl ?_
  refine Bo [] rfl Tryd.func90 rfl (.nil) fun wr hLr => ?_
  have hMr := hLr.pkI (.c 0 rfl (.c 1 rfl (.c 2 rfl .n))) .n (by kernel_rfl) (.c 3 rfl .n)
  have hMi := hLr.selI (.c 0 rfl (.c 1 rfl (.c 2 rfl .n)))
  show Ou w F g2 Tb3 A8 n9 c10 z12 A14 n15 c16 z18 r (.returned (Ce [])) wr
  rw [h]
  exact ⟨A55, n56, c57, A60, n61, c62, A51, n52, c53, rfl, hMr, h58, h63, (hLr.outR (s := Sm w.heap.size F w65 sb69) hMi (me 0 rfl) Sm.ok h54)⟩
end Go.Proofs.YtjookebbmfiidaaDoor.K
