/- What a reading of the arguments tells, type by type, printed by my own tool. No condition. -/
import Derived.Test.YtjookebbmfiidaaDoorT0
import Derived.Test.YtjookebbmfiidaaDoorK0
set_option linter.unusedVariables false
set_option maxRecDepth 100000
namespace Go.Proofs.YtjookebbmfiidaaDoor.K
open Go.Proofs.YtjookebbmfiidaaDoor.B Go.Proofs.YtjookebbmfiidaaDoor.R Go.RowKit
theorem op_9:Iz Tryd.prog 9 kStr (fun s:ByteArray=>s.size≤reachBytes) (fun s:ByteArray=>s.size + 1):=Iz.str (by kernel_rfl)
theorem op_4:Iz Tryd.prog 4 kBool (fun _:Bool=>True) (fun _:Bool=>1):=Iz.bool (by kernel_rfl)
theorem op_3:Iz Tryd.prog 3 (Gs .i64) (fun n:Int=>(Lit.int .i64 n).wf=true) (fun _:Int=>1):=Iz.int (by kernel_rfl)
def Js (x:Aj):Nat:=(x.name.size + 1) + 1 + (x.field.size + 1) + (x.capture.size + 1) + 1 + 1
def Zn (x:Aj):Prop:=(fun s:ByteArray=>s.size≤reachBytes) x.name∧(fun _:Bool=>True) x.lit∧(fun s:ByteArray=>s.size≤reachBytes) x.field∧(fun s:ByteArray=>s.size≤reachBytes) x.capture∧(fun n:Int=>(Lit.int .i64 n).wf=true) x.kids
theorem op_45:Iz Tryd.prog 45 Cb Zn Js:=by
 refine Iz.struct (fs:=stF Tryd.prog 45) (fl:=[fdA Tryd.prog 45 0,fdA Tryd.prog 45 1,fdA Tryd.prog 45 2,fdA Tryd.prog 45 3,fdA Tryd.prog 45 4]) (by kernel_rfl) (by kernel_rfl) (by kernel_rfl) (fun m=>(Jv.cons (f:=fdA Tryd.prog 45 0) (ft:=9) (by kernel_rfl) (by kernel_rfl) (by kernel_rfl) (op_9 m) (Jv.cons (f:=fdA Tryd.prog 45 1) (ft:=4) (by kernel_rfl) (by kernel_rfl) (by kernel_rfl) (op_4 m) (Jv.cons (f:=fdA Tryd.prog 45 2) (ft:=9) (by kernel_rfl) (by kernel_rfl) (by kernel_rfl) (op_9 m) (Jv.cons (f:=fdA Tryd.prog 45 3) (ft:=9) (by kernel_rfl) (by kernel_rfl) (by kernel_rfl) (op_9 m) (Jv.cons (f:=fdA Tryd.prog 45 4) (ft:=3) (by kernel_rfl) (by kernel_rfl) (by kernel_rfl) (op_3 m) Jv.nil)))))) ?_
 intro w cs n hl hr
 obtain ⟨y0,h0,q0,n0,m0,rfl,z0,hr⟩:=hr
 have e0:=h0
 obtain ⟨r0,rfl,d0⟩:=tkN e0 rfl
 rw [d0] at hr
 replace hl:=rz hl
 obtain ⟨y1,h1,q1,n1,m1,rfl,z1,hr⟩:=hr
 have e1:=h1
 obtain ⟨r1,rfl,d1⟩:=tkN e1 rfl
 rw [d1] at hr
 replace hl:=rz hl
 obtain ⟨y2,h2,q2,n2,m2,rfl,z2,hr⟩:=hr
 have e2:=h2
 obtain ⟨r2,rfl,d2⟩:=tkN e2 rfl
 rw [d2] at hr
 replace hl:=rz hl
 obtain ⟨y3,h3,q3,n3,m3,rfl,z3,hr⟩:=hr
 have e3:=h3
 obtain ⟨r3,rfl,d3⟩:=tkN e3 rfl
 rw [d3] at hr
 replace hl:=rz hl
 obtain ⟨y4,h4,q4,n4,m4,rfl,z4,hr⟩:=hr
 have e4:=h4
 obtain ⟨r4,rfl,d4⟩:=tkN e4 rfl
 replace hl:=rz hl
 obtain rfl:=List.eq_nil_of_length_eq_zero hl
 exact ⟨⟨y0,y1,y2,y3,y4⟩,rfl,⟨q0,q1,q2,q3,q4⟩,by show (y0.size + 1) + 1 + (y2.size + 1) + (y3.size + 1) + 1 + 1≤_; omega⟩
theorem op_22:Iz Tryd.prog 22 (Kd.slice Cb) (fun xs:List Aj=>xs.length * 64≤reachBytes∧∀ x ∈ xs,Zn x) (fun xs:List Aj=>Yt Js xs + 1):=Iz.slice (e:=45) (by kernel_rfl) (by kernel_rfl) (by kernel_rfl) (by decide) op_45
def Qb (x:D8):Nat:=1 + (x.a.size + 1) + (x.b.size + 1) + (x.text.size + 1) + 1
def Xd1 (x:D8):Prop:=(fun _:Bool=>True) x.not∧(fun s:ByteArray=>s.size≤reachBytes) x.a∧(fun s:ByteArray=>s.size≤reachBytes) x.b∧(fun s:ByteArray=>s.size≤reachBytes) x.text
theorem op_47:Iz Tryd.prog 47 Dq Xd1 Qb:=by
 refine Iz.struct (fs:=stF Tryd.prog 47) (fl:=[fdA Tryd.prog 47 0,fdA Tryd.prog 47 1,fdA Tryd.prog 47 2,fdA Tryd.prog 47 3]) (by kernel_rfl) (by kernel_rfl) (by kernel_rfl) (fun m=>(Jv.cons (f:=fdA Tryd.prog 47 0) (ft:=4) (by kernel_rfl) (by kernel_rfl) (by kernel_rfl) (op_4 m) (Jv.cons (f:=fdA Tryd.prog 47 1) (ft:=9) (by kernel_rfl) (by kernel_rfl) (by kernel_rfl) (op_9 m) (Jv.cons (f:=fdA Tryd.prog 47 2) (ft:=9) (by kernel_rfl) (by kernel_rfl) (by kernel_rfl) (op_9 m) (Jv.cons (f:=fdA Tryd.prog 47 3) (ft:=9) (by kernel_rfl) (by kernel_rfl) (by kernel_rfl) (op_9 m) Jv.nil))))) ?_
 intro w cs n hl hr
 obtain ⟨y0,h0,q0,n0,m0,rfl,z0,hr⟩:=hr
 have e0:=h0
 obtain ⟨r0,rfl,d0⟩:=tkN e0 rfl
 rw [d0] at hr
 replace hl:=rz hl
 obtain ⟨y1,h1,q1,n1,m1,rfl,z1,hr⟩:=hr
 have e1:=h1
 obtain ⟨r1,rfl,d1⟩:=tkN e1 rfl
 rw [d1] at hr
 replace hl:=rz hl
 obtain ⟨y2,h2,q2,n2,m2,rfl,z2,hr⟩:=hr
 have e2:=h2
 obtain ⟨r2,rfl,d2⟩:=tkN e2 rfl
 rw [d2] at hr
 replace hl:=rz hl
 obtain ⟨y3,h3,q3,n3,m3,rfl,z3,hr⟩:=hr
 have e3:=h3
 obtain ⟨r3,rfl,d3⟩:=tkN e3 rfl
 replace hl:=rz hl
 obtain rfl:=List.eq_nil_of_length_eq_zero hl
 exact ⟨⟨y0,y1,y2,y3⟩,rfl,⟨q0,q1,q2,q3⟩,by show 1 + (y1.size + 1) + (y2.size + 1) + (y3.size + 1) + 1≤_; omega⟩
theorem op_23:Iz Tryd.prog 23 (Kd.slice Dq) (fun xs:List D8=>xs.length * 56≤reachBytes∧∀ x ∈ xs,Xd1 x) (fun xs:List D8=>Yt Qb xs + 1):=Iz.slice (e:=47) (by kernel_rfl) (by kernel_rfl) (by kernel_rfl) (by decide) op_47
def Ws (x:Aq):Nat:=(Yt Js x.nodes + 1) + (Yt Qb x.conds + 1) + 1
def Xf8 (x:Aq):Prop:=(fun xs:List Aj=>xs.length * 64≤reachBytes∧∀ x ∈ xs,Zn x) x.nodes∧(fun xs:List D8=>xs.length * 56≤reachBytes∧∀ x ∈ xs,Xd1 x) x.conds
theorem op_25:Iz Tryd.prog 25 Xji Xf8 Ws:=by
 refine Iz.struct (fs:=stF Tryd.prog 25) (fl:=[fdA Tryd.prog 25 0,fdA Tryd.prog 25 1]) (by kernel_rfl) (by kernel_rfl) (by kernel_rfl) (fun m=>(Jv.cons (f:=fdA Tryd.prog 25 0) (ft:=22) (by kernel_rfl) (by kernel_rfl) (by kernel_rfl) (op_22 m) (Jv.cons (f:=fdA Tryd.prog 25 1) (ft:=23) (by kernel_rfl) (by kernel_rfl) (by kernel_rfl) (op_23 m) Jv.nil))) ?_
 intro w cs n hl hr
 obtain ⟨y0,h0,q0,n0,m0,rfl,z0,hr⟩:=hr
 obtain ⟨_,_,_,e0,k0_0⟩:=h0
 obtain ⟨r0,rfl,d0⟩:=tkN e0 rfl
 rw [d0] at hr
 replace hl:=rz hl
 obtain ⟨y1,h1,q1,n1,m1,rfl,z1,hr⟩:=hr
 obtain ⟨_,_,_,e1,k1_0⟩:=h1
 obtain ⟨r1,rfl,d1⟩:=tkN e1 rfl
 replace hl:=rz hl
 obtain rfl:=List.eq_nil_of_length_eq_zero hl
 exact ⟨⟨y0,y1⟩,⟨_,_,_,_,_,_,rfl,k0_0,k1_0⟩,⟨q0,q1⟩,by show (Yt Js y0 + 1) + (Yt Qb y1 + 1) + 1≤_; omega⟩
def Uj (x:Ai):Nat:=(x.name.size + 1) + 1 + (x.field.size + 1) + 1 + 1 + 1 + 1 + 1
def Xcr (x:Ai):Prop:=(fun s:ByteArray=>s.size≤reachBytes) x.name∧(fun _:Bool=>True) x.named∧(fun s:ByteArray=>s.size≤reachBytes) x.field∧(fun n:Int=>(Lit.int .i64 n).wf=true) x.from_∧(fun n:Int=>(Lit.int .i64 n).wf=true) x.to∧(fun n:Int=>(Lit.int .i64 n).wf=true) x.kids∧(fun n:Int=>(Lit.int .i64 n).wf=true) x.leaf
theorem op_56:Iz Tryd.prog 56 D9 Xcr Uj:=by
 refine Iz.struct (fs:=stF Tryd.prog 56) (fl:=[fdA Tryd.prog 56 0,fdA Tryd.prog 56 1,fdA Tryd.prog 56 2,fdA Tryd.prog 56 3,fdA Tryd.prog 56 4,fdA Tryd.prog 56 5,fdA Tryd.prog 56 6]) (by kernel_rfl) (by kernel_rfl) (by kernel_rfl) (fun m=>(Jv.cons (f:=fdA Tryd.prog 56 0) (ft:=9) (by kernel_rfl) (by kernel_rfl) (by kernel_rfl) (op_9 m) (Jv.cons (f:=fdA Tryd.prog 56 1) (ft:=4) (by kernel_rfl) (by kernel_rfl) (by kernel_rfl) (op_4 m) (Jv.cons (f:=fdA Tryd.prog 56 2) (ft:=9) (by kernel_rfl) (by kernel_rfl) (by kernel_rfl) (op_9 m) (Jv.cons (f:=fdA Tryd.prog 56 3) (ft:=3) (by kernel_rfl) (by kernel_rfl) (by kernel_rfl) (op_3 m) (Jv.cons (f:=fdA Tryd.prog 56 4) (ft:=3) (by kernel_rfl) (by kernel_rfl) (by kernel_rfl) (op_3 m) (Jv.cons (f:=fdA Tryd.prog 56 5) (ft:=3) (by kernel_rfl) (by kernel_rfl) (by kernel_rfl) (op_3 m) (Jv.cons (f:=fdA Tryd.prog 56 6) (ft:=3) (by kernel_rfl) (by kernel_rfl) (by kernel_rfl) (op_3 m) Jv.nil)))))))) ?_
 intro w cs n hl hr
 obtain ⟨y0,h0,q0,n0,m0,rfl,z0,hr⟩:=hr
 have e0:=h0
 obtain ⟨r0,rfl,d0⟩:=tkN e0 rfl
 rw [d0] at hr
 replace hl:=rz hl
 obtain ⟨y1,h1,q1,n1,m1,rfl,z1,hr⟩:=hr
 have e1:=h1
 obtain ⟨r1,rfl,d1⟩:=tkN e1 rfl
 rw [d1] at hr
 replace hl:=rz hl
 obtain ⟨y2,h2,q2,n2,m2,rfl,z2,hr⟩:=hr
 have e2:=h2
 obtain ⟨r2,rfl,d2⟩:=tkN e2 rfl
 rw [d2] at hr
 replace hl:=rz hl
 obtain ⟨y3,h3,q3,n3,m3,rfl,z3,hr⟩:=hr
 have e3:=h3
 obtain ⟨r3,rfl,d3⟩:=tkN e3 rfl
 rw [d3] at hr
 replace hl:=rz hl
 obtain ⟨y4,h4,q4,n4,m4,rfl,z4,hr⟩:=hr
 have e4:=h4
 obtain ⟨r4,rfl,d4⟩:=tkN e4 rfl
 rw [d4] at hr
 replace hl:=rz hl
 obtain ⟨y5,h5,q5,n5,m5,rfl,z5,hr⟩:=hr
 have e5:=h5
 obtain ⟨r5,rfl,d5⟩:=tkN e5 rfl
 rw [d5] at hr
 replace hl:=rz hl
 obtain ⟨y6,h6,q6,n6,m6,rfl,z6,hr⟩:=hr
 have e6:=h6
 obtain ⟨r6,rfl,d6⟩:=tkN e6 rfl
 replace hl:=rz hl
 obtain rfl:=List.eq_nil_of_length_eq_zero hl
 exact ⟨⟨y0,y1,y2,y3,y4,y5,y6⟩,rfl,⟨q0,q1,q2,q3,q4,q5,q6⟩,by show (y0.size + 1) + 1 + (y2.size + 1) + 1 + 1 + 1 + 1 + 1≤_; omega⟩
theorem op_26:Iz Tryd.prog 26 (Kd.slice D9) (fun xs:List Ai=>xs.length * 72≤reachBytes∧∀ x ∈ xs,Xcr x) (fun xs:List Ai=>Yt Uj xs + 1):=Iz.slice (e:=56) (by kernel_rfl) (by kernel_rfl) (by kernel_rfl) (by decide) op_56
end Go.Proofs.YtjookebbmfiidaaDoor.K
