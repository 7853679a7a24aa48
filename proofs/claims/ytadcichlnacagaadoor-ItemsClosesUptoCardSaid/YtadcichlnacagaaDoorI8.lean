/- Numbers taken bit by bit; the lists that both tell of a set of places. No condition but the size. -/
import Derived.Test.YtadcichlnacagaaDoorI7
import Derived.Laws.Bits128
set_option linter.unusedVariables false
namespace Go.Proofs.YtadcichlnacagaaDoor.L
open Go.Proofs.YtadcichlnacagaaDoor.B Go.Proofs.YtadcichlnacagaaDoor.R
abbrev ND (x y:Int):Int:=bits .and .u64 x y
theorem nd_eq {x y:Int} (hx:U x) (hy:U y):ND x y=((x.toNat &&& y.toNat:Nat):Int):=u64_and x y hx.1 hx.2 hy.1 hy.2
theorem nd_U {x y:Int} (hx:U x) (hy:U y):U (ND x y):=by
 rw [nd_eq hx hy]
 have h1:x.toNat < 2 ^ 64:=by have:=hx.1; have:=hx.2; omega
 have:=Nat.and_le_left (n:=x.toNat) (m:=y.toNat)
 exact ⟨by omega,by omega⟩
theorem Zpw {x y:Int} (hx:U x) (hy:U y) (t:Nat):has (ND x y) t=(has x t && has y t):=by
 rw [nd_eq hx hy]; simp [has,Nat.testBit_and]
theorem low_bit {x:Int} (hx:U x) (h0:x≠0):∃ t k:Nat,t < 64∧x.toNat=2 ^ (t + 1) * k + 2 ^ t:=by
 have hp:0 < x.toNat:=by have:=hx.1; omega
 have hlt:x.toNat < 2 ^ 64:=by have:=hx.1; have:=hx.2; omega
 have key:∀ n:Nat,∀ y:Nat,0 < y→y < 2 ^ n→∃ t k:Nat,t < n∧y=2 ^ (t + 1) * k + 2 ^ t:=by
  intro n
  induction n with
  | zero=>intro y h1 h2; omega
  | succ n ih =>
   intro y h1 h2
   rcases Nat.mod_two_eq_zero_or_one y with e | e
   ·obtain ⟨t, k, h3, h4⟩ := ih (y / 2) (by omega) (by rw [Nat.pow_succ] at h2; omega)
    refine ⟨t + 1,k,by omega,?_⟩
    have:y=2 * (y / 2):=by omega
    rw [this,h4,Nat.pow_succ 2 (t + 1),Nat.pow_succ 2 t,Nat.mul_add]
    congr 1
    ·rw [Nat.mul_comm (2 ^ t * 2) 2,Nat.mul_assoc 2]
    ·rw [Nat.mul_comm]
   ·exact ⟨0,y / 2,by omega,by omega⟩
 exact key 64 _ hp hlt
theorem Zlt {t k b j:Nat} (hb:b < 2 ^ (t + 1)):(2 ^ (t + 1) * k + b).testBit j=if j < t + 1 then b.testBit j else k.testBit (j - (t + 1)):=Nat.testBit_two_pow_mul_add k hb j
theorem Zri {t:Nat} (j:Nat):(2 ^ t - 1).testBit j=decide (j < t):=Nat.testBit_two_pow_sub_one t j
theorem dec_has {x:Int} (hx:U x) {t k:Nat} (ht:t < 64) (he:x.toNat=2 ^ (t + 1) * k + 2 ^ t) (j:Nat):has (ND x (IntKind.u64.wrap (x - 1))) j=(has x j && decide (j≠t)):=by
 have hpos:0 < 2 ^ t:=Nat.pow_pos (by omega)
 have hw:IntKind.u64.wrap (x - 1)=x - 1:=Zre ⟨by have:=hx.1; omega,by have:=hx.2; omega⟩
 have hU:U (x - 1):=⟨by have:=hx.1; omega,by have:=hx.2; omega⟩
 rw [hw,Zpw hx hU]
 have e2:(x - 1).toNat=2 ^ (t + 1) * k + (2 ^ t - 1):=by omega
 have p2:2 ^ t < 2 ^ (t + 1):=Nat.pow_lt_pow_right (by omega) (by omega)
 unfold has
 rw [he,e2,Zlt p2,Zlt (by omega),Zri,Nat.testBit_two_pow]
 by_cases h1:j < t + 1
 ·rw [if_pos h1,if_pos h1]
  by_cases h2:t=j
  ·simp [h2]
  ·simp [h2]
 ·rw [if_neg h1,if_neg h1]
  simp
  omega
theorem neg_has {x:Int} (hx:U x) {t k:Nat} (ht:t < 64) (he:x.toNat=2 ^ (t + 1) * k + 2 ^ t):ND x (IntKind.u64.wrap (0 - x))=((2 ^ t:Nat):Int):=by
 have hpos:0 < 2 ^ t:=Nat.pow_pos (by omega)
 have p2:2 ^ t < 2 ^ (t + 1):=Nat.pow_lt_pow_right (by omega) (by omega)
 have hx0:=hx.1
 have hx1:=hx.2
 have hw:IntKind.u64.wrap (0 - x)=18446744073709551616 - x:=by rw [IntKind.wrap_u64]; omega
 have hU:U (18446744073709551616 - x):=⟨by omega,by omega⟩
 rw [hw]
 refine Zh2 (nd_U hx hU) (U.one ht) fun j=>?_
 rw [Zpw hx hU,Zi3]
 have hk:k < 2 ^ (63 - t):=by
  have h1:2 ^ (t + 1) * k < 2 ^ 64:=by omega
  have h2:(2:Nat) ^ 64=2 ^ (t + 1) * 2 ^ (63 - t):=by rw [← Nat.pow_add]; congr 1; omega
  rw [h2] at h1
  exact Nat.lt_of_mul_lt_mul_left h1
 have e2:(18446744073709551616 - x).toNat=2 ^ (t + 1) * (2 ^ (63 - t) - (k + 1)) + 2 ^ t:=by
  have h2:(2:Nat) ^ 64=2 ^ (t + 1) * 2 ^ (63 - t):=by rw [← Nat.pow_add]; congr 1; omega
  have h3:2 ^ (t + 1) * (2 ^ (63 - t) - (k + 1))=2 ^ (t + 1) * 2 ^ (63 - t) - 2 ^ (t + 1) * (k + 1):=Nat.mul_sub ..
  have h4:2 ^ (t + 1) * (k + 1)≤2 ^ (t + 1) * 2 ^ (63 - t):=Nat.mul_le_mul_left _ hk
  have h5:2 ^ (t + 1) * (k + 1)=2 ^ (t + 1) * k + 2 ^ (t + 1):=by rw [Nat.mul_add,Nat.mul_one]
  have h6:2 ^ (t + 1)=2 ^ t + 2 ^ t:=by rw [Nat.pow_succ]; omega
  have h7:(18446744073709551616 - x).toNat=2 ^ 64 - x.toNat:=by omega
  rw [h7,h3,← h2,he]
  omega
 unfold has
 rw [he,e2,Zlt p2,Zlt p2,Nat.testBit_two_pow]
 by_cases h1:j < t + 1
 ·rw [if_pos h1,if_pos h1,Bool.and_self]
 ·rw [if_neg h1,if_neg h1]
  have:=Nat.testBit_two_pow_sub_succ hk (j - (t + 1))
  rw [this,decide_eq_false (by omega:¬ t=j)]
  cases k.testBit (j - (t + 1)) <;> simp
theorem tz_tab:∀ t:Fin 64,(0≤Yvd .u64 (IntKind.u64.wrap (((2 ^ t.val:Nat):Int) * 285870213051353865)) 58∧Yvd .u64 (IntKind.u64.wrap (((2 ^ t.val:Nat):Int) * 285870213051353865)) 58 < 64)∧ix Zmo (Yvd .u64 (IntKind.u64.wrap (((2 ^ t.val:Nat):Int) * 285870213051353865)) 58)=(t.val:Int):=by decide +kernel
theorem tz_ok {x:Int} (hx:U x) (h0:x≠0) {t k:Nat} (ht:t < 64) (he:x.toNat=2 ^ (t + 1) * k + 2 ^ t):Yy1 x (t:Int):=by
 unfold Yy1
 obtain ⟨h1,h2⟩:=tz_tab ⟨t,ht⟩
 have hn:bits .and .u64 x (IntKind.u64.wrap (0 - x))=((2 ^ t:Nat):Int):=neg_has hx ht he
 rw [if_neg h0,hn]
 refine ⟨h1,?_⟩
 rw [h2,Yyq (by show _≤((t:Nat):Int)∧((t:Nat):Int)≤_; omega)]
theorem ones_ok (x:Int):∃ r,Yzy x r∧0≤r∧r≤127:=by
 unfold Yzy
 refine ⟨_,rfl,?_,?_⟩ <;> rw [i64_and127] <;> omega
def Zd0 (T:Nat) (x:Int):List Nat:=(List.range T).filter fun t=>has x t
theorem Zis (T:Nat):Zd0 T 0=[]:=by
 unfold Zd0
 rw [List.filter_eq_nil_iff]
 intro t _
 rw [Zaj]; simp
theorem Zs5 {p:Nat→Bool} {n t:Nat} (ht:t < n) (hp:p t=true) (hn:∀ j,j < t→p j=false):(List.range n).filter p=t :: (List.range n).filter (fun j=>p j && decide (j≠t)):=by
 obtain ⟨k,rfl⟩:∃ k,n=t + (1 + k):=⟨n - t - 1,by omega⟩
 have e:List.range (t + (1 + k))=List.range t++t :: List.range' (t + 1) k:=by
  rw [List.range_eq_range',List.range_eq_range',← List.range'_append_1,Nat.add_comm 1 k,List.range'_succ]
  simp
 rw [e,List.filter_append,List.filter_append,List.filter_cons_of_pos hp,List.filter_cons_of_neg (by simp)]
 have h1:(List.range t).filter p=[]:=by
  rw [List.filter_eq_nil_iff]
  intro j hj
  rw [hn j (List.mem_range.1 hj)]; simp
 have h2:(List.range t).filter (fun j=>p j && decide (j≠t))=[]:=by
  rw [List.filter_eq_nil_iff]
  intro j hj
  rw [hn j (List.mem_range.1 hj)]; simp
 rw [h1,h2,List.nil_append,List.nil_append]
 congr 1
 refine List.filter_congr fun j hj=>?_
 have:=List.mem_range'.1 hj
 obtain ⟨i,_,rfl⟩:=this
 have:decide (t + 1 + 1 * i≠t)=true:=by rw [decide_eq_true_eq]; omega
 rw [this,Bool.and_true]
theorem Zrg {x:Int} (hx:U x) (h0:x≠0):∃ t:Nat,t < 64∧Yy1 x (t:Int)∧Zd0 64 x=t :: Zd0 64 (ND x (IntKind.u64.wrap (x - 1)))∧U (ND x (IntKind.u64.wrap (x - 1))):=by
 obtain ⟨t,k,ht,he⟩:=low_bit hx h0
 have hw:IntKind.u64.wrap (x - 1)=x - 1:=Zre ⟨by have:=hx.1; omega,by have:=hx.2; omega⟩
 have hU:U (x - 1):=⟨by have:=hx.1; omega,by have:=hx.2; omega⟩
 have p2:2 ^ t < 2 ^ (t + 1):=Nat.pow_lt_pow_right (by omega) (by omega)
 refine ⟨t,ht,tz_ok hx h0 ht he,?_,by rw [hw]; exact nd_U hx hU⟩
 unfold Zd0
 rw [Zs5 ht]
 ·congr 1
  refine List.filter_congr fun j _=>?_
  rw [dec_has hx ht he]
 ·unfold has
  rw [he,Zlt p2,if_pos (by omega),Nat.testBit_two_pow]; simp
 ·intro j hj
  unfold has
  rw [he,Zlt p2,if_pos (by omega),Nat.testBit_two_pow,decide_eq_false (by omega)]
theorem Zic (T:Nat) (x:Int):(Zd0 T x).length≤T:=by
 have:=List.length_filter_le (fun t=>has x t) (List.range T)
 rwa [List.length_range] at this
theorem bitsOf_T {T:Nat} (hT:T≤64) {x:Int} (h:∀ t,has x t=true→t < T):Zd0 64 x=Zd0 T x:=by
 unfold Zd0
 obtain ⟨k,hk⟩:∃ k,64=T + k:=⟨64 - T,by omega⟩
 have:List.range (T + k)=List.range T++List.range' T k:=by
  rw [List.range_eq_range',List.range_eq_range',← List.range'_append_1]
  simp
 rw [hk,this,List.filter_append]
 have h2:(List.range' T k).filter (fun t=>has x t)=[]:=by
  rw [List.filter_eq_nil_iff]
  intro j hj
  obtain ⟨i,_,rfl⟩:=List.mem_range'.1 hj
  intro hc
  have:=h _ hc
  omega
 rw [h2,List.append_nil]
end Go.Proofs.YtadcichlnacagaaDoor.L
