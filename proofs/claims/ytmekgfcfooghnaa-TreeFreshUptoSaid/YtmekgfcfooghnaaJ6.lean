/- The concrete calls that the laws of chapter 15 begin with; the law TreeFinds. Conditions: sizes. -/
import Derived.Test.YtmekgfcfooghnaaJ5
set_option linter.unusedVariables false
namespace Go.Proofs.Ytmekgfcfooghnaa.L
open Go.Proofs.Ytmekgfcfooghnaa.B Go.Proofs.Ytmekgfcfooghnaa.R
def nsz (n:Xm4):Nat:=n.name.size + n.field.size + 1
def tsz (t:List Xm4):Nat:=(t.map nsz).sum
theorem Yhy {n:Xm4}:(Xza n).length + (hdL n).length≤4 * nsz n:=by
 have h:=qL_len n.name
 unfold Xza hdL nsz
 split <;> split <;> simp [Xr8] <;> omega
theorem txG_len {t:List Xm4}:∀ (f a:Nat) {S:List (Tre × Nat)} {m:Nat},At t a S→m≤S.length→t.length - a < f→(txG t f a (en a (S.take m))).length≤8 * tsz ((t.take (en a (S.take m))).drop a):=by
 intro f
 induction f with
 | zero=>intro a S m _ _ h; omega
 | succ f ih =>
  intro a S m h hm hf
  have hse:=Xxe h hm
  by_cases hlt:a < en a (S.take m)
  ·obtain ⟨x,e,r,ts,m',rfl,rfl,g1,g2,g3,g4,g5,g6,g7,g8,g9,g10,g11,g12,g13⟩:=seg_hd h hm hlt
   have h1:=ih (a + 1) (S:=ts++r) (m:=ts.length) g8 (by simp) (by omega)
   have h2:=ih e (S:=r) (m:=m') g6 g1 (by omega)
   have hs2:=Xxe g6 g1
   have hs3:=Xxe g8 (m:=ts.length) (by simp)
   rw [g9] at h1 hs3
   rw [g7] at h2 hs2
   have hp:=Yhy (n:=ix t (a:Int))
   have hn1:1≤nsz (ix t (a:Int)):=by unfold nsz; omega
   rw [txG,if_pos hlt,g5]
   generalize en a (((x,e) :: r).take (m' + 1))=E at *
   have hsum:tsz ((t.take E).drop a)=nsz (ix t (a:Int)) + tsz ((t.take e).drop (a + 1)) + tsz ((t.take E).drop e):=by
    have e1:(t.take E).drop a=ix t (a:Int) :: ((t.take e).drop (a + 1)++(t.take E).drop e):=by
     have h0:a < (t.take E).length:=by rw [List.length_take]; omega
     rw [List.drop_eq_getElem_cons h0,List.getElem_take,Xnu g2]
     congr 1
     have u1:(t.take E).drop (a + 1)=(((t.take E).drop (a + 1)).take (e - (a + 1)))++(((t.take E).drop (a + 1)).drop (e - (a + 1))):=(List.take_append_drop _ _).symm
     rw [u1]
     congr 1
     ·rw [List.take_drop,show a + 1 + (e - (a + 1))=e by omega,List.take_take,Nat.min_eq_left (by omega)]
     ·rw [List.drop_drop]; congr 1; omega
    rw [e1]
    unfold tsz
    simp only [List.map_cons,List.map_append,List.sum_cons,List.sum_append]
    omega
   rw [hsum]
   have hsp:(spL a).length≤1:=by unfold spL; split <;> simp
   simp only [List.length_append]
   split
   ·simp only [List.length_append,List.length_singleton]; omega
   ·omega
  ·unfold txG
   rw [if_neg hlt]
   exact Nat.zero_le _
theorem le_sum:∀ {l:List Nat} {x:Nat},x ∈ l→x≤l.sum
 | a :: l,x,h=>by
  rw [List.sum_cons]
  rcases List.mem_cons.1 h with rfl | h
  ·omega
  ·have:=le_sum h; omega
theorem nsz_le {t:List Xm4} {i:Nat} (h:i < t.length):nsz (ix t (i:Int))≤tsz t:=by
 rw [Xnu h]
 unfold tsz
 have:nsz t[i] ∈ t.map nsz:=List.mem_map.2 ⟨_,List.getElem_mem h,rfl⟩
 exact le_sum this
theorem len_tsz (t:List Xm4):t.length≤tsz t:=by
 unfold tsz
 induction t with
 | nil=>exact Nat.le_refl _
 | cons n t ih =>
  rw [List.length_cons,List.map_cons,List.sum_cons]
  have:1≤nsz n:=by unfold nsz; omega
  omega
theorem txOk {t:List Xm4} (h:tsz t≤2 ^ 40):(sf t 0).isSome=true→TxOk t:=fun hs=>by
 obtain ⟨S,hS⟩:=Option.isSome_iff_exists.1 hs
 have hA:At t 0 S:=⟨Nat.zero_le _,hS⟩
 have hl:=len_tsz t
 refine ⟨fun i hi=>?_,?_⟩
 ·have:=nsz_le hi
  unfold nsz at this
  omega
 ·have := txG_len (t.length + 1) 0 (m := S.length) hA (Nat.le_refl _) (by omega)
  rw [List.take_length,hA.ens,List.take_length,List.drop_zero] at this
  omega
end Go.Proofs.Ytmekgfcfooghnaa.L
