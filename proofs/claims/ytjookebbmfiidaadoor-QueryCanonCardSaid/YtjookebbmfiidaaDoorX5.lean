/- Queries: the concrete calls that the laws begin with. No condition. -/
import Derived.Test.YtjookebbmfiidaaDoorX2
import Derived.Test.YtjookebbmfiidaaDoorSC
import Derived.Test.YtjookebbmfiidaaDoorS6
set_option linter.unusedVariables false
namespace Go.Proofs.YtjookebbmfiidaaDoor.L
open Go.Proofs.YtjookebbmfiidaaDoor.B Go.Proofs.YtjookebbmfiidaaDoor.R
abbrev sqB : ByteArray := ⟨#[40, 115, 32, 40, 97, 41, 32, 64, 120, 41, 32, 119, 104, 101, 110, 32, 64, 120, 32, 61, 32, 34, 121, 34]⟩
def sqW : List Aj := [⟨5, ⟨#[40]⟩, 0, 0⟩, ⟨1, ⟨#[115]⟩, 0, 1⟩, ⟨5, ⟨#[40]⟩, 0, 3⟩, ⟨1, ⟨#[97]⟩, 0, 4⟩, ⟨5, ⟨#[41]⟩, 0, 5⟩, ⟨5, ⟨#[64]⟩, 0, 7⟩, ⟨1, ⟨#[120]⟩, 0, 8⟩, ⟨5, ⟨#[41]⟩, 0, 9⟩, ⟨1, ⟨#[119, 104, 101, 110]⟩, 0, 11⟩, ⟨5, ⟨#[64]⟩, 0, 16⟩, ⟨1, ⟨#[120]⟩, 0, 17⟩, ⟨5, ⟨#[61]⟩, 0, 19⟩, ⟨2, ⟨#[121]⟩, 0, 21⟩]
theorem sq_cut : cutF (Dh sqB) 0 = (sqW, 0, 0) := by
 rw [show Dh sqB = [40, 115, 32, 40, 97, 41, 32, 64, 120, 41, 32, 119, 104, 101, 110, 32, 64, 120, 32, 61, 32, 34, 121, 34] by decide]
 have f1 : cutF [34, 121, 34] 21 = ([⟨2, ⟨#[121]⟩, 0, 21⟩], 0, 0) := Tm (kd := 2) (t := [121]) (n := 0) (k := 3) (by
   show (match quF [121, 34] with
    | .inl (t, k) => Item.word 2 t 0 (k + 1)
    | .inr none => .err 82 0
    | .inr (some d) => .err 82 (d + 1)) = _
   rw [quF_o (by decide) (by decide) (by decide), Xeq]
   rfl) (Vf _)
 have f2 : cutF [32, 34, 121, 34] 20 = ([⟨2, ⟨#[121]⟩, 0, 21⟩], 0, 0) := Xbt (k := 1) (by rfl) f1
 have f3 : cutF [61, 32, 34, 121, 34] 19 = ([⟨5, ⟨#[61]⟩, 0, 19⟩, ⟨2, ⟨#[121]⟩, 0, 21⟩], 0, 0) := Tm (kd := 5) (t := [61]) (n := 0) (k := 1) (by rfl) f2
 have f4 : cutF [32, 61, 32, 34, 121, 34] 18 = ([⟨5, ⟨#[61]⟩, 0, 19⟩, ⟨2, ⟨#[121]⟩, 0, 21⟩], 0, 0) := Xbt (k := 1) (by rfl) f3
 have f5 : cutF [120, 32, 61, 32, 34, 121, 34] 17 = ([⟨1, ⟨#[120]⟩, 0, 17⟩, ⟨5, ⟨#[61]⟩, 0, 19⟩, ⟨2, ⟨#[121]⟩, 0, 21⟩], 0, 0) := Tm (kd := 1) (t := [120]) (n := 0) (k := 1) (by rfl) f4
 have f6 : cutF [64, 120, 32, 61, 32, 34, 121, 34] 16 = ([⟨5, ⟨#[64]⟩, 0, 16⟩, ⟨1, ⟨#[120]⟩, 0, 17⟩, ⟨5, ⟨#[61]⟩, 0, 19⟩, ⟨2, ⟨#[121]⟩, 0, 21⟩], 0, 0) := Tm (kd := 5) (t := [64]) (n := 0) (k := 1) (by rfl) f5
 have f7 : cutF [32, 64, 120, 32, 61, 32, 34, 121, 34] 15 = ([⟨5, ⟨#[64]⟩, 0, 16⟩, ⟨1, ⟨#[120]⟩, 0, 17⟩, ⟨5, ⟨#[61]⟩, 0, 19⟩, ⟨2, ⟨#[121]⟩, 0, 21⟩], 0, 0) := Xbt (k := 1) (by rfl) f6
 have f8 : cutF [119, 104, 101, 110, 32, 64, 120, 32, 61, 32, 34, 121, 34] 11 = ([⟨1, ⟨#[119, 104, 101, 110]⟩, 0, 11⟩, ⟨5, ⟨#[64]⟩, 0, 16⟩, ⟨1, ⟨#[120]⟩, 0, 17⟩, ⟨5, ⟨#[61]⟩, 0, 19⟩, ⟨2, ⟨#[121]⟩, 0, 21⟩], 0, 0) := Tm (kd := 1) (t := [119, 104, 101, 110]) (n := 0) (k := 4) (by rfl) f7
 have f9 : cutF [32, 119, 104, 101, 110, 32, 64, 120, 32, 61, 32, 34, 121, 34] 10 = ([⟨1, ⟨#[119, 104, 101, 110]⟩, 0, 11⟩, ⟨5, ⟨#[64]⟩, 0, 16⟩, ⟨1, ⟨#[120]⟩, 0, 17⟩, ⟨5, ⟨#[61]⟩, 0, 19⟩, ⟨2, ⟨#[121]⟩, 0, 21⟩], 0, 0) := Xbt (k := 1) (by rfl) f8
 have f10 : cutF [41, 32, 119, 104, 101, 110, 32, 64, 120, 32, 61, 32, 34, 121, 34] 9 = ([⟨5, ⟨#[41]⟩, 0, 9⟩, ⟨1, ⟨#[119, 104, 101, 110]⟩, 0, 11⟩, ⟨5, ⟨#[64]⟩, 0, 16⟩, ⟨1, ⟨#[120]⟩, 0, 17⟩, ⟨5, ⟨#[61]⟩, 0, 19⟩, ⟨2, ⟨#[121]⟩, 0, 21⟩], 0, 0) := Tm (kd := 5) (t := [41]) (n := 0) (k := 1) (by rfl) f9
 have f11 : cutF [120, 41, 32, 119, 104, 101, 110, 32, 64, 120, 32, 61, 32, 34, 121, 34] 8 = ([⟨1, ⟨#[120]⟩, 0, 8⟩, ⟨5, ⟨#[41]⟩, 0, 9⟩, ⟨1, ⟨#[119, 104, 101, 110]⟩, 0, 11⟩, ⟨5, ⟨#[64]⟩, 0, 16⟩, ⟨1, ⟨#[120]⟩, 0, 17⟩, ⟨5, ⟨#[61]⟩, 0, 19⟩, ⟨2, ⟨#[121]⟩, 0, 21⟩], 0, 0) := Tm (kd := 1) (t := [120]) (n := 0) (k := 1) (by rfl) f10
 have f12 : cutF [64, 120, 41, 32, 119, 104, 101, 110, 32, 64, 120, 32, 61, 32, 34, 121, 34] 7 = ([⟨5, ⟨#[64]⟩, 0, 7⟩, ⟨1, ⟨#[120]⟩, 0, 8⟩, ⟨5, ⟨#[41]⟩, 0, 9⟩, ⟨1, ⟨#[119, 104, 101, 110]⟩, 0, 11⟩, ⟨5, ⟨#[64]⟩, 0, 16⟩, ⟨1, ⟨#[120]⟩, 0, 17⟩, ⟨5, ⟨#[61]⟩, 0, 19⟩, ⟨2, ⟨#[121]⟩, 0, 21⟩], 0, 0) := Tm (kd := 5) (t := [64]) (n := 0) (k := 1) (by rfl) f11
 have f13 : cutF [32, 64, 120, 41, 32, 119, 104, 101, 110, 32, 64, 120, 32, 61, 32, 34, 121, 34] 6 = ([⟨5, ⟨#[64]⟩, 0, 7⟩, ⟨1, ⟨#[120]⟩, 0, 8⟩, ⟨5, ⟨#[41]⟩, 0, 9⟩, ⟨1, ⟨#[119, 104, 101, 110]⟩, 0, 11⟩, ⟨5, ⟨#[64]⟩, 0, 16⟩, ⟨1, ⟨#[120]⟩, 0, 17⟩, ⟨5, ⟨#[61]⟩, 0, 19⟩, ⟨2, ⟨#[121]⟩, 0, 21⟩], 0, 0) := Xbt (k := 1) (by rfl) f12
 have f14 : cutF [41, 32, 64, 120, 41, 32, 119, 104, 101, 110, 32, 64, 120, 32, 61, 32, 34, 121, 34] 5 = ([⟨5, ⟨#[41]⟩, 0, 5⟩, ⟨5, ⟨#[64]⟩, 0, 7⟩, ⟨1, ⟨#[120]⟩, 0, 8⟩, ⟨5, ⟨#[41]⟩, 0, 9⟩, ⟨1, ⟨#[119, 104, 101, 110]⟩, 0, 11⟩, ⟨5, ⟨#[64]⟩, 0, 16⟩, ⟨1, ⟨#[120]⟩, 0, 17⟩, ⟨5, ⟨#[61]⟩, 0, 19⟩, ⟨2, ⟨#[121]⟩, 0, 21⟩], 0, 0) := Tm (kd := 5) (t := [41]) (n := 0) (k := 1) (by rfl) f13
 have f15 : cutF [97, 41, 32, 64, 120, 41, 32, 119, 104, 101, 110, 32, 64, 120, 32, 61, 32, 34, 121, 34] 4 = ([⟨1, ⟨#[97]⟩, 0, 4⟩, ⟨5, ⟨#[41]⟩, 0, 5⟩, ⟨5, ⟨#[64]⟩, 0, 7⟩, ⟨1, ⟨#[120]⟩, 0, 8⟩, ⟨5, ⟨#[41]⟩, 0, 9⟩, ⟨1, ⟨#[119, 104, 101, 110]⟩, 0, 11⟩, ⟨5, ⟨#[64]⟩, 0, 16⟩, ⟨1, ⟨#[120]⟩, 0, 17⟩, ⟨5, ⟨#[61]⟩, 0, 19⟩, ⟨2, ⟨#[121]⟩, 0, 21⟩], 0, 0) := Tm (kd := 1) (t := [97]) (n := 0) (k := 1) (by rfl) f14
 have f16 : cutF [40, 97, 41, 32, 64, 120, 41, 32, 119, 104, 101, 110, 32, 64, 120, 32, 61, 32, 34, 121, 34] 3 = ([⟨5, ⟨#[40]⟩, 0, 3⟩, ⟨1, ⟨#[97]⟩, 0, 4⟩, ⟨5, ⟨#[41]⟩, 0, 5⟩, ⟨5, ⟨#[64]⟩, 0, 7⟩, ⟨1, ⟨#[120]⟩, 0, 8⟩, ⟨5, ⟨#[41]⟩, 0, 9⟩, ⟨1, ⟨#[119, 104, 101, 110]⟩, 0, 11⟩, ⟨5, ⟨#[64]⟩, 0, 16⟩, ⟨1, ⟨#[120]⟩, 0, 17⟩, ⟨5, ⟨#[61]⟩, 0, 19⟩, ⟨2, ⟨#[121]⟩, 0, 21⟩], 0, 0) := Tm (kd := 5) (t := [40]) (n := 0) (k := 1) (by rfl) f15
 have f17 : cutF [32, 40, 97, 41, 32, 64, 120, 41, 32, 119, 104, 101, 110, 32, 64, 120, 32, 61, 32, 34, 121, 34] 2 = ([⟨5, ⟨#[40]⟩, 0, 3⟩, ⟨1, ⟨#[97]⟩, 0, 4⟩, ⟨5, ⟨#[41]⟩, 0, 5⟩, ⟨5, ⟨#[64]⟩, 0, 7⟩, ⟨1, ⟨#[120]⟩, 0, 8⟩, ⟨5, ⟨#[41]⟩, 0, 9⟩, ⟨1, ⟨#[119, 104, 101, 110]⟩, 0, 11⟩, ⟨5, ⟨#[64]⟩, 0, 16⟩, ⟨1, ⟨#[120]⟩, 0, 17⟩, ⟨5, ⟨#[61]⟩, 0, 19⟩, ⟨2, ⟨#[121]⟩, 0, 21⟩], 0, 0) := Xbt (k := 1) (by rfl) f16
 have f18 : cutF [115, 32, 40, 97, 41, 32, 64, 120, 41, 32, 119, 104, 101, 110, 32, 64, 120, 32, 61, 32, 34, 121, 34] 1 = ([⟨1, ⟨#[115]⟩, 0, 1⟩, ⟨5, ⟨#[40]⟩, 0, 3⟩, ⟨1, ⟨#[97]⟩, 0, 4⟩, ⟨5, ⟨#[41]⟩, 0, 5⟩, ⟨5, ⟨#[64]⟩, 0, 7⟩, ⟨1, ⟨#[120]⟩, 0, 8⟩, ⟨5, ⟨#[41]⟩, 0, 9⟩, ⟨1, ⟨#[119, 104, 101, 110]⟩, 0, 11⟩, ⟨5, ⟨#[64]⟩, 0, 16⟩, ⟨1, ⟨#[120]⟩, 0, 17⟩, ⟨5, ⟨#[61]⟩, 0, 19⟩, ⟨2, ⟨#[121]⟩, 0, 21⟩], 0, 0) := Tm (kd := 1) (t := [115]) (n := 0) (k := 1) (by rfl) f17
 have f19 : cutF [40, 115, 32, 40, 97, 41, 32, 64, 120, 41, 32, 119, 104, 101, 110, 32, 64, 120, 32, 61, 32, 34, 121, 34] 0 = ([⟨5, ⟨#[40]⟩, 0, 0⟩, ⟨1, ⟨#[115]⟩, 0, 1⟩, ⟨5, ⟨#[40]⟩, 0, 3⟩, ⟨1, ⟨#[97]⟩, 0, 4⟩, ⟨5, ⟨#[41]⟩, 0, 5⟩, ⟨5, ⟨#[64]⟩, 0, 7⟩, ⟨1, ⟨#[120]⟩, 0, 8⟩, ⟨5, ⟨#[41]⟩, 0, 9⟩, ⟨1, ⟨#[119, 104, 101, 110]⟩, 0, 11⟩, ⟨5, ⟨#[64]⟩, 0, 16⟩, ⟨1, ⟨#[120]⟩, 0, 17⟩, ⟨5, ⟨#[61]⟩, 0, 19⟩, ⟨2, ⟨#[121]⟩, 0, 21⟩], 0, 0) := Tm (kd := 5) (t := [40]) (n := 0) (k := 1) (by rfl) f18
 exact f19
abbrev sqX : Ag := ⟨⟨#[115]⟩, false, noB, noB, 1⟩
abbrev sqK : PF := .cons ⟨⟨#[97]⟩, false, noB, ⟨#[120]⟩, 0⟩ .nil .nil
abbrev sqC : List Bi := [⟨false, ⟨#[120]⟩, noB, ⟨#[121]⟩⟩]
theorem sq_toks : Zw sqW = Nb sqX sqK sqC := by decide +kernel
theorem Xav : Rf nmQ sqX sqK sqC := by
 refine ⟨⟨rfl, ⟨rfl, trivial, trivial⟩, trivial⟩, by decide +kernel, by decide +kernel, by decide, by decide, fun c hc => ?_⟩
 rw [List.mem_singleton.1 hc]
 exact ⟨Ze.1 (by decide +kernel), .inl rfl⟩
theorem sq_sz : SzQ ⟨sqX :: Bq sqK, sqC⟩ := by
 refine ⟨fun x hx => ?_, fun c hc => ?_⟩
 ·rcases List.mem_cons.1 hx with rfl | hx
  ·exact ⟨by decide, by decide, by decide⟩
  ·rw [List.mem_singleton.1 hx]
   exact ⟨by decide, by decide, by decide⟩
 ·rw [List.mem_singleton.1 hc]
  exact ⟨by decide, by decide, by decide⟩
theorem sq_parse : Jc sqB (⟨sqX :: Bq sqK, sqC⟩, 0, 0) := by
 have h := Xkb (s := sqB) (by decide)
 rw [sq_cut] at h
 have hp := Xd2 h (show sqW.length ≤ 2 ^ 40 by decide)
 unfold Xe2 at hp
 rw [if_pos rfl] at hp
 dsimp only at hp
 rw [sq_toks, Xg6 Xkh Xav] at hp
 exact hp
theorem sq_text : Xfp sqX sqK sqC = ⟨#[40, 32, 115, 32, 40, 32, 97, 32, 41, 32, 64, 32, 120, 32, 41, 32, 119, 104, 101, 110, 32, 64, 32, 120, 32, 61, 32, 34, 121, 34]⟩ := by decide +kernel
abbrev sqT : List Bd := [(⟨(⟨#[115]⟩ : ByteArray), true, (⟨#[]⟩ : ByteArray), 0, 2, 2, -1⟩ : Bd), (⟨(⟨#[97]⟩ : ByteArray), true, (⟨#[]⟩ : ByteArray), 0, 1, 0, 0⟩ : Bd), (⟨(⟨#[97]⟩ : ByteArray), true, (⟨#[]⟩ : ByteArray), 1, 2, 0, 1⟩ : Bd)]
theorem sq_all1 : allF sqX sqK sqC sqT ⟨#[121, 122]⟩ = [⟨[0, 1]⟩] := by decide +kernel
theorem sq_all2 : allF sqX sqK sqC sqT ⟨#[122, 121]⟩ = [] := by decide +kernel
theorem Xig {a : List Int} (h : a.length ≤ 2 ^ 60) : Jj a a true := by
 unfold Jj
 rw [if_pos rfl]
 refine Bv.cnt a.length (fun i hi => ?_) ?_
 ·unfold Gw
  rw [if_pos (by omega)]
  refine ⟨⟨by omega, by omega⟩, ⟨by omega, by omega⟩, ?_⟩
  rw [if_pos rfl, Dx (by omega)]
 ·unfold Gw
  rw [if_neg (Int.lt_irrefl _)]
theorem qstarted : Oh true := by
 refine ⟨_, sq_parse, ?_⟩
 dsimp only
 rw [if_pos rfl, if_pos rfl, if_pos (by decide)]
 unfold Gg
 have hw : Wf sqT := fun n hn => by
  rcases List.mem_cons.1 hn with rfl | hn
  ·exact ⟨by decide, by decide⟩
  rcases List.mem_cons.1 hn with rfl | hn
  ·exact ⟨by decide, by decide⟩
  ·rw [List.mem_singleton.1 hn]
   exact ⟨by decide, by decide⟩
 have hr : 0 ≤ numF sqT := by decide +kernel
 have a1 := Xle Xav sq_sz.w (t := sqT) (by decide) hw hr ⟨#[121, 122]⟩
 have a2 := Xle Xav sq_sz.w (t := sqT) (by decide) hw hr ⟨#[122, 121]⟩
 rw [sq_all1] at a1
 rw [sq_all2] at a2
 rw [if_neg (by decide)]
 refine ⟨_, a1, _, a2, _, Zh Xav sq_sz, ?_⟩
 rw [if_pos (by decide)]
 refine ⟨⟨by decide, by decide⟩, true, Xig (a := [0, 1]) (by decide), ?_⟩
 rw [if_pos rfl, if_pos (by decide), if_pos rfl, sq_text, Q4 rfl]
end Go.Proofs.YtjookebbmfiidaaDoor.L
set_option linter.unusedVariables false
namespace Go.Proofs.YtjookebbmfiidaaDoor.L
open Go.Proofs.YtjookebbmfiidaaDoor.B Go.Proofs.YtjookebbmfiidaaDoor.R
theorem qsame {q : Au} (h1 : q.nodes.length ≤ 2 ^ 40) (h2 : q.conds.length ≤ 2 ^ 40) : Ip q q true := by
 unfold Ip
 rw [if_pos rfl]
 unfold Jy
 rw [if_neg (by simp)]
 refine Bv.to (fun i => 0 ≤ i ∧ i ≤ (q.nodes.length : Int)) (fun i => ((q.nodes.length : Int) - i).toNat) (fun i hi => ?_) ⟨by omega, by omega⟩
 unfold Js
 by_cases hc : i < (q.nodes.length : Int)
 ·right
  refine ⟨i + 1, ?_, ⟨by omega, by omega⟩, by omega⟩
  rw [if_pos hc]
  refine ⟨⟨hi.1, hc⟩, ⟨hi.1, hc⟩, ?_⟩
  rw [if_pos rfl, Dx (by omega)]
 ·left
  rw [if_neg hc]
  refine Bv.to (fun i => 0 ≤ i ∧ i ≤ (q.conds.length : Int)) (fun i => ((q.conds.length : Int) - i).toNat) (fun i hi => ?_) ⟨by omega, by omega⟩
  unfold Jz
  by_cases hc : i < (q.conds.length : Int)
  ·right
   refine ⟨i + 1, ?_, ⟨by omega, by omega⟩, by omega⟩
   rw [if_pos hc]
   refine ⟨⟨hi.1, hc⟩, ⟨hi.1, hc⟩, ?_⟩
   rw [if_pos rfl, Dx (by omega)]
  ·left
   rw [if_neg hc]
end Go.Proofs.YtjookebbmfiidaaDoor.L
set_option linter.unusedVariables false
namespace Go.Proofs.YtjookebbmfiidaaDoor.L
open Go.Proofs.YtjookebbmfiidaaDoor.B Go.Proofs.YtjookebbmfiidaaDoor.R
def GoodT (t : Tk) : Prop := Jg (mkW t) = true ∧ t.1 ≠ 4
theorem Xd0 {s : ByteArray} (h : nmQ s = true) : GoodT (1, s) := by
 unfold nmQ at h
 rw [Bool.and_eq_true] at h
 exact ⟨h.2, show (1 : Int) ≠ 4 by decide⟩
theorem Xae : ∀ (g : PF), Oz nmQ g = true → ∀ t ∈ Dv g, GoodT t
 | .nil, _, t, ht => by cases ht
 | .cons x k s, hg, t, ht => by
  obtain ⟨g1, g2, g3, g4, g5, g6⟩ := Qm hg
  have hk := Xae k g5
  have hs := Xae s g6
  simp only [Dv, List.mem_append] at ht
  rcases ht with ht | ht | ht | ht
  ·unfold Vg at ht
   split at ht
   ·cases ht
   ·rename_i hf
    rcases List.mem_cons.1 ht with rfl | ht
    ·exact Xd0 (g3.resolve_left hf)
    ·rw [List.mem_singleton.1 ht]; exact ⟨by decide +kernel, by decide⟩
  ·split at ht
   ·rw [List.mem_singleton.1 ht]; exact ⟨rfl, by show (2 : Int) ≠ 4; decide⟩
   ·rename_i hl
    rcases List.mem_cons.1 ht with rfl | ht
    ·exact ⟨by decide +kernel, by decide⟩
    rcases List.mem_cons.1 ht with rfl | ht
    ·unfold N7
     by_cases hn : x.name = noB
     ·rw [if_pos hn]; exact ⟨by decide +kernel, by decide⟩
     ·rw [if_neg hn]; exact Xd0 ((g2 (by simpa using hl)).resolve_left hn)
    rcases List.mem_append.1 ht with ht | ht
    ·exact hk t ht
    ·rw [List.mem_singleton.1 ht]; exact ⟨by decide +kernel, by decide⟩
  ·unfold P9 at ht
   split at ht
   ·cases ht
   ·rename_i hf
    rcases List.mem_cons.1 ht with rfl | ht
    ·exact ⟨by decide +kernel, by decide⟩
    ·rw [List.mem_singleton.1 ht]; exact Xd0 (g4.resolve_left hf)
  ·exact hs t ht
theorem Xjd {x : Ag} {k : PF} {l : List Bi} (h : Rf nmQ x k l) : ∀ t ∈ Nb x k l, GoodT t := fun t ht => by
 obtain ⟨h1, h2, h3, h4, h5, h6⟩ := h
 have hcap : ∀ y ∈ Ik (.cons x k .nil) [], nmQ y = true := Xcf _ [] h2 (fun y hy => by cases hy)
 unfold Nb at ht
 rcases List.mem_append.1 ht with ht | ht
 ·exact Xae _ h2 t ht
 ·obtain ⟨c, hc, ht⟩ := List.mem_flatMap.1 ht
  obtain ⟨c1, c2⟩ := h6 c hc
  unfold Gj at ht
  rcases List.mem_cons.1 ht with rfl | ht
  ·by_cases hn : c.not = true
   ·rw [if_pos hn]; exact ⟨by decide +kernel, by decide⟩
   ·rw [if_neg hn]; exact ⟨by decide +kernel, by decide⟩
  rcases List.mem_cons.1 ht with rfl | ht
  ·exact ⟨by decide +kernel, by decide⟩
  rcases List.mem_cons.1 ht with rfl | ht
  ·exact Xd0 (hcap _ c1)
  rcases List.mem_cons.1 ht with rfl | ht
  ·exact ⟨by decide +kernel, by decide⟩
  split at ht
  ·rw [List.mem_singleton.1 ht]; exact ⟨rfl, by show (2 : Int) ≠ 4; decide⟩
  ·rename_i hb
   rcases List.mem_cons.1 ht with rfl | ht
   ·exact ⟨by decide +kernel, by decide⟩
   ·rw [List.mem_singleton.1 ht]; exact Xd0 (hcap _ (c2.resolve_left hb).1)
theorem Xe6 : ∀ (l : List Tk) (pos : Nat), (∀ t ∈ l, t.1 ≠ 4) → Zw (placed (l.map mkW) pos) = l
 | [], pos, _ => rfl
 | t :: l, pos, h => by
  have h1 := h t (List.mem_cons_self ..)
  have ih := fun p => Xe6 l p (fun u hu => h u (List.mem_cons_of_mem _ hu))
  have ht : txF (mkW t) = Dh t.2 := by unfold txF mkW; rw [if_neg h1]
  show Zw (_ :: placed _ _) = _
  unfold Zw at ih ⊢
  rw [List.map_cons, ih]
  show ((mkW t).kind, Jw (txF (mkW t))) :: l = t :: l
  rw [ht, Xe4]
  rfl
theorem Xjs {x : Ag} {k : PF} {l : List Bi} (h : Rf nmQ x k l) (hz : (Xfp x k l).size ≤ 16384) : Jc (Xfp x k l) (⟨x :: Bq k, l⟩, 0, 0) := by
 have hg := Xjd h
 have hall : ((Nb x k l).map mkW).all Jg = true := by
  rw [List.all_eq_true]
  intro w hw
  obtain ⟨t, ht, rfl⟩ := List.mem_map.1 hw
  exact (hg t ht).1
 have hb : Dh (Xfp x k l) = jn ((((Nb x k l).map mkW).map Ll).map Dh) := by
  unfold Xfp joinF
  rw [if_pos hall, Xaz]
 have hc := Xkb hz
 rw [hb, Xgw _ 0 (fun w hw => List.all_eq_true.1 hall w hw)] at hc
 have hp := Xd2 hc (by
  show (placed ((Nb x k l).map mkW) 0).length ≤ 2 ^ 40
  rw [Xfb, List.length_map]
  have := Xgb (x := x) h.len.1 h.len.2
  omega)
 unfold Xe2 at hp
 rw [if_pos rfl] at hp
 dsimp only at hp
 rw [Xe6 _ 0 (fun t ht => (hg t ht).2), Xg6 Xkh h] at hp
 exact hp
theorem Xg1 {s : ByteArray} (h : s.size > 16384) : Jc s (⟨[], []⟩, 80, 16384) := by
 have hp := Xd2 (cut_long h) (by decide)
 unfold Xe2 at hp
 rw [if_neg (by decide)] at hp
 exact hp
end Go.Proofs.YtjookebbmfiidaaDoor.L
set_option linter.unusedVariables false
namespace Go.Proofs.YtjookebbmfiidaaDoor.L
open Go.Proofs.YtjookebbmfiidaaDoor.B Go.Proofs.YtjookebbmfiidaaDoor.R
theorem SzT.le {n : Nat} (hn : n ≤ 1048576) {t : Tk} (h : t.2.size ≤ n) : SzT t := Nat.le_trans h hn
theorem Xao : ∀ (g : PF), Oz nmQ g = true → (∀ t ∈ Dv g, SzT t) → ∀ x ∈ Bq g, SzN x
  | .nil, _, _, x, hx => by cases hx
  | .cons y k s, hg, h, x, hx => by
    obtain ⟨g1, g2, g3, g4, g5, g6⟩ := Qm hg
    have h0 : noB.size ≤ 1048576 := by decide
    simp only [Dv, List.mem_append] at h
    simp only [Bq, List.mem_cons, List.mem_append] at hx
    rcases hx with rfl | hx | hx
    · refine ⟨?_, ?_, ?_⟩
      · by_cases hl : x.lit = true
        · exact h (2, x.name) (.inr (.inl (by rw [if_pos hl]; exact List.mem_singleton.2 rfl)))
        · by_cases hn : x.name = noB
          · rw [hn]; exact h0
          · have := h (N7 x) (.inr (.inl (by rw [if_neg hl]; exact List.mem_cons_of_mem _ (List.mem_cons_self ..))))
            unfold N7 SzT at this
            dsimp only at this
            rwa [if_neg hn] at this
      · by_cases hf : x.field = noB
        · rw [hf]; exact h0
        · exact h (1, x.field) (.inl (by unfold Vg; rw [if_neg hf]; exact List.mem_cons_self ..))
      · by_cases hf : x.capture = noB
        · rw [hf]; exact h0
        · exact h (1, x.capture) (.inr (.inr (.inl (by unfold P9; rw [if_neg hf]; exact List.mem_cons_of_mem _ (List.mem_cons_self ..)))))
    · by_cases hl : y.lit = true
      · rw [(g1 hl).2] at hx
        cases hx
      · exact Xao k g5 (fun t ht => h t (.inr (.inl (by rw [if_neg hl]; exact List.mem_cons_of_mem _ (List.mem_cons_of_mem _ (List.mem_append_left _ ht)))))) x hx
    · exact Xao s g6 (fun t ht => h t (.inr (.inr (.inr ht)))) x hx
theorem Xiv {c : Bi} {caps : List ByteArray} (hg : Xcu caps c) (h : ∀ t ∈ Gj c, SzT t) : c.a.size ≤ 1048576 ∧ c.b.size ≤ 1048576 ∧ c.text.size ≤ 1048576 := by
  have h0 : noB.size ≤ 1048576 := by decide
  unfold Gj at h
  refine ⟨h (1, c.a) (by simp), ?_, ?_⟩
  · by_cases g : c.b = noB
    · rw [g]; exact h0
    · exact h (1, c.b) (by rw [if_neg g]; simp)
  · by_cases g : c.b = noB
    · exact h (2, c.text) (by rw [if_pos g]; simp)
    · rw [(hg.2.resolve_left g).2]; exact h0
theorem Xih {x : Ag} {k : PF} {l : List Bi} (hs : Rf nmQ x k l) (h : ∀ t ∈ Nb x k l, SzT t) : SzQ ⟨x :: Bq k, l⟩ := by
  obtain ⟨h1, h2, h3, h4, h5, h6⟩ := hs
  unfold Nb at h
  refine ⟨fun y hy => ?_, fun c hc => ?_⟩
  · exact Xao (.cons x k .nil) h2 (fun t ht => h t (List.mem_append_left _ ht)) y (by simpa [Bq] using hy)
  · exact Xiv (h6 c hc) (fun t ht => h t (List.mem_append_right _ (List.mem_flatMap.2 ⟨c, hc, ht⟩)))
theorem Xll {s : ByteArray} (hs : s.size ≤ 16384) : Yq nmQ (Zw (cutF (Dh s) 0).1) ∧ ∀ t ∈ Zw (cutF (Dh s) 0).1, SzT t := by
  have hc := Xke _ (b := Dh s) (pos := 0) rfl (Xf2 s)
  rw [Gf] at hc
  refine ⟨fun t ht h1 h2 => ?_, fun t ht => ?_⟩
  · obtain ⟨w, hw, rfl⟩ := List.mem_map.1 ht
    have hk : w.kind = 1 := h1
    have hsd := (hc w hw).1.1
    unfold Jg at hsd
    rw [if_pos hk] at hsd
    unfold nmQ
    rw [decide_eq_false h2]
    show Jg ⟨1, w.text, 0, 0⟩ = true
    unfold Jg
    rw [if_pos rfl]
    exact hsd
  · obtain ⟨w, hw, rfl⟩ := List.mem_map.1 ht
    have := (hc w hw).2.1
    show w.text.size ≤ _
    omega
theorem Xma (s : ByteArray) : Kw s true := by
  refine ⟨true, qstarted, ?_⟩
  rw [if_pos rfl]
  have bad : ∀ (e p : Int), e ≠ 0 → 0 ≤ p → p ≤ (s.size : Int) → Jc s (⟨[], []⟩, e, p) → ∃ r14 : Au × Int × Int, (Jc s r14) ∧
  if r14.2.1 = 0 then
   ∃ r35 : ByteArray × Int, (U0 r14.1 r35) ∧
   ∃ r43 : Au × Int × Int, (Jc r35.1 r43) ∧
   if r35.2 = 0 then
    ∃ r96 : Bool, (Lm r14.1 r96) ∧
    En r35 r43 r14 (!r96) true
   else
    En r35 r43 r14 true true
  else
   if (r14.1.nodes.length : Int) = 0 then
    if (r14.1.conds.length : Int) = 0 then
     if r14.2.2 ≥ 0 then
      Du (decide (r14.2.2 ≤ (s.size : Int))) true
     else
      Du false true
    else
     Du false true
   else
    Du false true := fun e p h1 h2 h3 hp => by
    refine ⟨_, hp, (if_neg h1).mpr ((if_pos rfl).mpr ((if_pos rfl).mpr ((if_pos h2).mpr ?_)))⟩
    exact (decide_eq_true h3).symm
  by_cases hl : s.size > 16384
  · exact bad 80 16384 (by decide) (by decide) (by omega) (Xg1 hl)
  · have hc := Xkb (s := s) (by omega)
    have hsz := Xlk _ (b := Dh s) (pos := 0) rfl
    have hat := cutF_at _ (b := Dh s) (pos := 0) rfl
    rw [Gf] at hsz hat
    obtain ⟨hs1, hs2⟩ := Xll (s := s) (by omega)
    have hp := Xd2 hc (by omega)
    unfold Xe2 at hp
    by_cases c1 : (cutF (Dh s) 0).2.1 = 0
    · rw [if_pos c1] at hp
      cases e : Z4 (Zw (cutF (Dh s) 0).1) with
      | no ee q =>
        rw [e] at hp
        dsimp only at hp
        have hb : 0 ≤ plW (cutF (Dh s) 0).1 (s.size : Int) q ∧ plW (cutF (Dh s) 0).1 (s.size : Int) q ≤ (s.size : Int) := by
          unfold plW
          by_cases g : psn (cutF (Dh s) 0).1 q < (cutF (Dh s) 0).1.length
          · rw [if_pos g]
            have := hsz.2 _ (Xdq g)
            omega
          · rw [if_neg g]
            omega
        exact bad _ _ (Xly e).ne hb.1 hb.2 hp
      | ok p q =>
        obtain ⟨x, k, l⟩ := p
        obtain ⟨q1, q2, q3⟩ := Xk1 Xkh hs1 e
        rw [e] at hp
        dsimp only at hp
        rw [q2] at hs2
        have hz := Xih q3 hs2
        obtain ⟨l1, l2⟩ := q3.len
        have hsh : Lm ⟨x :: Bq k, l⟩ true := by rw [← Xbx q3]; exact Xbo hz.w
        have hsame : Ip ⟨x :: Bq k, l⟩ ⟨x :: Bq k, l⟩ true := qsame (by show (x :: Bq k).length ≤ _; rw [List.length_cons]; omega) (by show l.length ≤ _; omega)
        refine ⟨_, hp, ?_⟩
        dsimp only
        rw [if_pos rfl]
        by_cases g : (Xfp x k l).size > 16384
        · refine ⟨_, Zh q3 hz, _, Xg1 g, ?_⟩
          rw [if_pos rfl]
          refine ⟨true, hsh, ?_⟩
          unfold En
          dsimp only
          rw [if_neg (by simp), if_pos (by omega), if_pos rfl]
        · refine ⟨_, Zh q3 hz, _, Xjs q3 (by omega), ?_⟩
          rw [if_pos rfl]
          refine ⟨true, hsh, ?_⟩
          unfold En
          dsimp only
          rw [if_neg (by simp), if_neg (by omega), if_pos rfl]
          exact ⟨true, hsame, rfl⟩
    · rw [if_neg c1] at hp
      exact bad _ _ c1 (by omega) (by omega) hp
end Go.Proofs.YtjookebbmfiidaaDoor.L
