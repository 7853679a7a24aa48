/- What a reading of the arguments tells, type by type, printed by my own tool. No condition. -/
import Derived.Test.YtelafghkjlpojaaT0
import Derived.Test.YtelafghkjlpojaaK0
set_option linter.unusedVariables false
set_option maxRecDepth 100000
namespace Go.Proofs.Ytelafghkjlpojaa.K
open Go.Proofs.Ytelafghkjlpojaa.B Go.Proofs.Ytelafghkjlpojaa.R Go.RowKit
theorem op_9:Yhn Try.prog 9 kStr (fun s:ByteArray=>s.size≤reachBytes) (fun s:ByteArray=>s.size + 1):=Yhn.str (by kernel_rfl)
theorem op_4:Yhn Try.prog 4 Yod (fun _:Bool=>True) (fun _:Bool=>1):=Yhn.bool (by kernel_rfl)
def Ylu (x:Ygc):Nat:=(x.name.size + 1) + 1 + 1
def Yn4 (x:Ygc):Prop:=(fun s:ByteArray=>s.size≤reachBytes) x.name∧(fun _:Bool=>True) x.lit
theorem op_58:Yhn Try.prog 58 Ygi Yn4 Ylu:=by
 refine Yhn.struct (fs:=stF Try.prog 58) (fl:=[fdA Try.prog 58 0,fdA Try.prog 58 1]) (by kernel_rfl) (by kernel_rfl) (by kernel_rfl) (fun m=>(Yjs.cons (f:=fdA Try.prog 58 0) (ft:=9) (by kernel_rfl) (by kernel_rfl) (by kernel_rfl) (op_9 m) (Yjs.cons (f:=fdA Try.prog 58 1) (ft:=4) (by kernel_rfl) (by kernel_rfl) (by kernel_rfl) (op_4 m) Yjs.nil))) ?_
 intro w cs n hl hr
 obtain ⟨y0,h0,q0,n0,m0,rfl,z0,hr⟩:=hr
 have e0:=h0
 obtain ⟨r0,rfl,d0⟩:=tkN e0 rfl
 rw [d0] at hr
 replace hl:=rz hl
 obtain ⟨y1,h1,q1,n1,m1,rfl,z1,hr⟩:=hr
 have e1:=h1
 obtain ⟨r1,rfl,d1⟩:=tkN e1 rfl
 replace hl:=rz hl
 obtain rfl:=List.eq_nil_of_length_eq_zero hl
 exact ⟨⟨y0,y1⟩,rfl,⟨q0,q1⟩,by show (y0.size + 1) + 1 + 1≤_; omega⟩
theorem op_22:Yhn Try.prog 22 (Kd.slice Ygi) (fun xs:List Ygc=>xs.length * 24≤reachBytes∧∀ x ∈ xs,Yn4 x) (fun xs:List Ygc=>Ynq Ylu xs + 1):=Yhn.slice (e:=58) (by kernel_rfl) (by kernel_rfl) (by kernel_rfl) (by decide) op_58
theorem op_59:Yhn Try.prog 59 (kInt .i64) (fun n:Int=>(Lit.int .i64 n).wf=true) (fun _:Int=>1):=Yhn.int (by kernel_rfl)
def Ynl (x:Ygq):Nat:=(x.name.size + 1) + 1 + 1
def Yp7 (x:Ygq):Prop:=(fun s:ByteArray=>s.size≤reachBytes) x.name∧(fun n:Int=>(Lit.int .i64 n).wf=true) x.kind
theorem op_61:Yhn Try.prog 61 Yh1 Yp7 Ynl:=by
 refine Yhn.struct (fs:=stF Try.prog 61) (fl:=[fdA Try.prog 61 0,fdA Try.prog 61 1]) (by kernel_rfl) (by kernel_rfl) (by kernel_rfl) (fun m=>(Yjs.cons (f:=fdA Try.prog 61 0) (ft:=9) (by kernel_rfl) (by kernel_rfl) (by kernel_rfl) (op_9 m) (Yjs.cons (f:=fdA Try.prog 61 1) (ft:=59) (by kernel_rfl) (by kernel_rfl) (by kernel_rfl) (op_59 m) Yjs.nil))) ?_
 intro w cs n hl hr
 obtain ⟨y0,h0,q0,n0,m0,rfl,z0,hr⟩:=hr
 have e0:=h0
 obtain ⟨r0,rfl,d0⟩:=tkN e0 rfl
 rw [d0] at hr
 replace hl:=rz hl
 obtain ⟨y1,h1,q1,n1,m1,rfl,z1,hr⟩:=hr
 have e1:=h1
 obtain ⟨r1,rfl,d1⟩:=tkN e1 rfl
 replace hl:=rz hl
 obtain rfl:=List.eq_nil_of_length_eq_zero hl
 exact ⟨⟨y0,y1⟩,rfl,⟨q0,q1⟩,by show (y0.size + 1) + 1 + 1≤_; omega⟩
theorem op_23:Yhn Try.prog 23 (Kd.slice Yh1) (fun xs:List Ygq=>xs.length * 24≤reachBytes∧∀ x ∈ xs,Yp7 x) (fun xs:List Ygq=>Ynq Ynl xs + 1):=Yhn.slice (e:=61) (by kernel_rfl) (by kernel_rfl) (by kernel_rfl) (by decide) op_61
theorem op_3:Yhn Try.prog 3 (kInt .i64) (fun n:Int=>(Lit.int .i64 n).wf=true) (fun _:Int=>1):=Yhn.int (by kernel_rfl)
def Ynn (x:Yg6):Nat:=1 + (x.field.size + 1) + (x.as.size + 1) + 1
def Yoa (x:Yg6):Prop:=(fun n:Int=>(Lit.int .i64 n).wf=true) x.sym∧(fun s:ByteArray=>s.size≤reachBytes) x.field∧(fun s:ByteArray=>s.size≤reachBytes) x.as
theorem op_36:Yhn Try.prog 36 Yh0 Yoa Ynn:=by
 refine Yhn.struct (fs:=stF Try.prog 36) (fl:=[fdA Try.prog 36 0,fdA Try.prog 36 1,fdA Try.prog 36 2]) (by kernel_rfl) (by kernel_rfl) (by kernel_rfl) (fun m=>(Yjs.cons (f:=fdA Try.prog 36 0) (ft:=3) (by kernel_rfl) (by kernel_rfl) (by kernel_rfl) (op_3 m) (Yjs.cons (f:=fdA Try.prog 36 1) (ft:=9) (by kernel_rfl) (by kernel_rfl) (by kernel_rfl) (op_9 m) (Yjs.cons (f:=fdA Try.prog 36 2) (ft:=9) (by kernel_rfl) (by kernel_rfl) (by kernel_rfl) (op_9 m) Yjs.nil)))) ?_
 intro w cs n hl hr
 obtain ⟨y0,h0,q0,n0,m0,rfl,z0,hr⟩:=hr
 have e0:=h0
 obtain ⟨r0,rfl,d0⟩:=tkN e0 rfl
 rw [d0] at hr
 replace hl:=rz hl
 obtain ⟨y1,h1,q1,n1,m1,rfl,z1,hr⟩:=hr
 have e1:=h1
 obtain ⟨r1,rfl,d1⟩:=tkN e1 rfl
 rw [d1] at hr
 replace hl:=rz hl
 obtain ⟨y2,h2,q2,n2,m2,rfl,z2,hr⟩:=hr
 have e2:=h2
 obtain ⟨r2,rfl,d2⟩:=tkN e2 rfl
 replace hl:=rz hl
 obtain rfl:=List.eq_nil_of_length_eq_zero hl
 exact ⟨⟨y0,y1,y2⟩,rfl,⟨q0,q1,q2⟩,by show 1 + (y1.size + 1) + (y2.size + 1) + 1≤_; omega⟩
theorem op_27:Yhn Try.prog 27 (Kd.slice Yh0) (fun xs:List Yg6=>xs.length * 40≤reachBytes∧∀ x ∈ xs,Yoa x) (fun xs:List Yg6=>Ynq Ynn xs + 1):=Yhn.slice (e:=36) (by kernel_rfl) (by kernel_rfl) (by kernel_rfl) (by decide) op_36
def Ymy (x:Yg8):Nat:=1 + (Ynq Ynn x.rhs + 1) + 1
def Yoe (x:Yg8):Prop:=(fun n:Int=>(Lit.int .i64 n).wf=true) x.lhs∧(fun xs:List Yg6=>xs.length * 40≤reachBytes∧∀ x ∈ xs,Yoa x) x.rhs
theorem op_38:Yhn Try.prog 38 Ygs Yoe Ymy:=by
 refine Yhn.struct (fs:=stF Try.prog 38) (fl:=[fdA Try.prog 38 0,fdA Try.prog 38 1]) (by kernel_rfl) (by kernel_rfl) (by kernel_rfl) (fun m=>(Yjs.cons (f:=fdA Try.prog 38 0) (ft:=3) (by kernel_rfl) (by kernel_rfl) (by kernel_rfl) (op_3 m) (Yjs.cons (f:=fdA Try.prog 38 1) (ft:=27) (by kernel_rfl) (by kernel_rfl) (by kernel_rfl) (op_27 m) Yjs.nil))) ?_
 intro w cs n hl hr
 obtain ⟨y0,h0,q0,n0,m0,rfl,z0,hr⟩:=hr
 have e0:=h0
 obtain ⟨r0,rfl,d0⟩:=tkN e0 rfl
 rw [d0] at hr
 replace hl:=rz hl
 obtain ⟨y1,h1,q1,n1,m1,rfl,z1,hr⟩:=hr
 obtain ⟨_,_,_,e1,k1_0⟩:=h1
 obtain ⟨r1,rfl,d1⟩:=tkN e1 rfl
 replace hl:=rz hl
 obtain rfl:=List.eq_nil_of_length_eq_zero hl
 exact ⟨⟨y0,y1⟩,⟨_,_,_,rfl,k1_0⟩,⟨q0,q1⟩,by show 1 + (Ynq Ynn y1 + 1) + 1≤_; omega⟩
theorem op_24:Yhn Try.prog 24 (Kd.slice Ygs) (fun xs:List Yg8=>xs.length * 32≤reachBytes∧∀ x ∈ xs,Yoe x) (fun xs:List Yg8=>Ynq Ymy xs + 1):=Yhn.slice (e:=38) (by kernel_rfl) (by kernel_rfl) (by kernel_rfl) (by decide) op_38
def Yst (x:Yfz):Nat:=(Ynq Ylu x.terms + 1) + (Ynq Ynl x.syms + 1) + (Ynq Ymy x.prods + 1) + 1
def Yoj (x:Yfz):Prop:=(fun xs:List Ygc=>xs.length * 24≤reachBytes∧∀ x ∈ xs,Yn4 x) x.terms∧(fun xs:List Ygq=>xs.length * 24≤reachBytes∧∀ x ∈ xs,Yp7 x) x.syms∧(fun xs:List Yg8=>xs.length * 32≤reachBytes∧∀ x ∈ xs,Yoe x) x.prods
theorem op_26:Yhn Try.prog 26 Yt4 Yoj Yst:=by
 refine Yhn.struct (fs:=stF Try.prog 26) (fl:=[fdA Try.prog 26 0,fdA Try.prog 26 1,fdA Try.prog 26 2]) (by kernel_rfl) (by kernel_rfl) (by kernel_rfl) (fun m=>(Yjs.cons (f:=fdA Try.prog 26 0) (ft:=22) (by kernel_rfl) (by kernel_rfl) (by kernel_rfl) (op_22 m) (Yjs.cons (f:=fdA Try.prog 26 1) (ft:=23) (by kernel_rfl) (by kernel_rfl) (by kernel_rfl) (op_23 m) (Yjs.cons (f:=fdA Try.prog 26 2) (ft:=24) (by kernel_rfl) (by kernel_rfl) (by kernel_rfl) (op_24 m) Yjs.nil)))) ?_
 intro w cs n hl hr
 obtain ⟨y0,h0,q0,n0,m0,rfl,z0,hr⟩:=hr
 obtain ⟨_,_,_,e0,k0_0⟩:=h0
 obtain ⟨r0,rfl,d0⟩:=tkN e0 rfl
 rw [d0] at hr
 replace hl:=rz hl
 obtain ⟨y1,h1,q1,n1,m1,rfl,z1,hr⟩:=hr
 obtain ⟨_,_,_,e1,k1_0⟩:=h1
 obtain ⟨r1,rfl,d1⟩:=tkN e1 rfl
 rw [d1] at hr
 replace hl:=rz hl
 obtain ⟨y2,h2,q2,n2,m2,rfl,z2,hr⟩:=hr
 obtain ⟨_,_,_,e2,k2_0⟩:=h2
 obtain ⟨r2,rfl,d2⟩:=tkN e2 rfl
 replace hl:=rz hl
 obtain rfl:=List.eq_nil_of_length_eq_zero hl
 exact ⟨⟨y0,y1,y2⟩,⟨_,_,_,_,_,_,_,_,_,rfl,k0_0,k1_0,k2_0⟩,⟨q0,q1,q2⟩,by show (Ynq Ylu y0 + 1) + (Ynq Ynl y1 + 1) + (Ynq Ymy y2 + 1) + 1≤_; omega⟩
theorem op_29:Yhn Try.prog 29 (kInt .u64) (fun n:Int=>(Lit.int .u64 n).wf=true) (fun _:Int=>1):=Yhn.int (by kernel_rfl)
end Go.Proofs.Ytelafghkjlpojaa.K
