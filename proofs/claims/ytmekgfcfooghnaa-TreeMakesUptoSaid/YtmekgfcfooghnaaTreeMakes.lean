/- The plain side of TreeMakes. Its condition: what is handed in is of at most 1048576 bytes in all. -/
import Derived.Test.YtmekgfcfooghnaaJ19
import Derived.Test.YtmekgfcfooghnaaT
namespace Go.Proofs.Ytmekgfcfooghnaa.treeMakes
open Go.Proofs.Ytmekgfcfooghnaa.B Go.Proofs.Ytmekgfcfooghnaa.K Go.Proofs.Ytmekgfcfooghnaa.R Go.Proofs.Ytmekgfcfooghnaa.L
theorem wf64 {n:Int} (h:(Lit.int .i64 n).wf=true):-9223372036854775808≤n∧n≤9223372036854775807:=by
  have a1:IntKind.i64.min = -9223372036854775808:=rfl
  have a2:IntKind.i64.max=9223372036854775807:=rfl
  simp only [Lit.wf,Bool.and_eq_true,decide_eq_true_eq] at h
  rwa [a1,a2] at h
theorem lgOk {x:Xml} (h:Xyc x):LgOk x:=by
  have hr:reachBytes=140737488351232:=rfl
  obtain ⟨_,_,⟨t1,s1,p1,p2⟩,_⟩:=h
  have t2:x.gram.terms.length * 24≤reachBytes:=t1.1
  have s2:x.gram.syms.length * 24≤reachBytes:=s1.1
  have p3:x.gram.prods.length * 32≤reachBytes:=p1
  refine ⟨by omega,by omega,by omega,fun p hp=>?_⟩
  obtain ⟨_,r1,r2⟩:=p2 p hp
  have r3:p.rhs.length * 40≤reachBytes:=r1
  exact ⟨by omega,fun r hr=>(wf64 (r2 r hr).1).2⟩
theorem len_sum {α:Type} (f:α→Nat) (c:Nat) (h:∀ x,c≤f x):∀ l:List α,l.length * c≤Xo8 f l
  | []=>by simp
  | x :: l=>by
    have:=len_sum f c h l
    have h1:=h x
    have e:Xo8 f (x :: l)=f x + Xo8 f l:=rfl
    rw [List.length_cons,Nat.add_mul,e]
    omega
theorem mem_sum {α:Type} (f:α→Nat):∀ {l:List α} {x:α},x ∈ l→f x≤Xo8 f l
  | y :: l,x,h=>by
    have e:Xo8 f (y :: l)=f y + Xo8 f l:=rfl
    rw [e]
    rcases List.mem_cons.1 h with rfl | h
    · omega
    · have:=mem_sum f h
      omega
theorem law (x1 : Xml) (x2 x3 x4 x5 x6 x7 : Int) (x8 : List (List Xm4)) (x9 : List Int) (h1 : Xyc x1) (_ : (Lit.int .i64 x2).wf = true) (_ : (Lit.int .i64 x3).wf = true) (_ : (Lit.int .i64 x4).wf = true) (_ : (Lit.int .i64 x5).wf = true) (_ : (Lit.int .i64 x6).wf = true) (_ : (Lit.int .i64 x7).wf = true) (h4 : x8.length * 24 ≤ reachBytes ∧ ∀ xs ∈ x8, xs.length * 72 ≤ reachBytes ∧ ∀ x ∈ xs, Xwq x) (_ : x9.length * 8 ≤ reachBytes ∧ ∀ x ∈ x9, (Lit.int .i64 x).wf = true)
    (hsum:Xvg x1 + 1 + 1 + 1 + 1 + 1 + 1 + (Xo8 (fun xs:List Xm4=>Xo8 Xpc xs + 1) x8 + 1) + (Xo8 (fun _:Int=>1) x9 + 1)≤1048576):Xqj x1 x2 x3 x4 x5 x6 x7 x8 x9 true:=by
  have e1:=len_sum (fun xs:List Xm4=>Xo8 Xpc xs + 1) 1 (fun xs=>by omega) x8
  have e2:=len_sum (fun _:Int=>1) 1 (fun _=>Nat.le_refl _) x9
  refine makesLaw (lgOk h1) x2 x3 x4 x5 x6 x7 ⟨by omega,fun k hk=>⟨fun n hn=>?_,?_⟩,by omega⟩ (fun k hk m hm=>?_)
  · obtain ⟨_,_,_,_,_,q,_⟩:=(h4.2 k hk).2 n hn
    exact wf64 q
  · have e3 := mem_sum (fun xs : List Xm4 => Xo8 Xpc xs + 1) hk
    have e4:=len_sum Xpc 8 (fun n=>by
      have e:Xpc n=(n.name.size + 1) + 1 + (n.field.size + 1) + 1 + 1 + 1 + 1 + 1:=rfl
      omega) k
    omega
  · have e3 := mem_sum (fun xs : List Xm4 => Xo8 Xpc xs + 1) hk
    have e4:=mem_sum Xpc hm
    have e:Xpc m=(m.name.size + 1) + 1 + (m.field.size + 1) + 1 + 1 + 1 + 1 + 1:=rfl
    omega
end Go.Proofs.Ytmekgfcfooghnaa.treeMakes
