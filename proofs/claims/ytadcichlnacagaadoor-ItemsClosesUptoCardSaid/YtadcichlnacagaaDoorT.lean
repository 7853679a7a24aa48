/- What a reading of the arguments tells, type by type, printed by my own tool. No condition. -/
import Derived.Test.YtadcichlnacagaaDoorT0
import Derived.Test.YtadcichlnacagaaDoorK0
set_option linter.unusedVariables false
set_option maxRecDepth 100000
namespace Go.Proofs.YtadcichlnacagaaDoor.K
open Go.Proofs.YtadcichlnacagaaDoor.B Go.Proofs.YtadcichlnacagaaDoor.R Go.RowKit
theorem op_9:Yx5 Tryd.prog 9 kStr (fun s:ByteArray=>s.size≤reachBytes) (fun s:ByteArray=>s.size + 1):=Yx5.str (by kernel_rfl)
theorem op_4:Yx5 Tryd.prog 4 Yzi (fun _:Bool=>True) (fun _:Bool=>1):=Yx5.bool (by kernel_rfl)
def Zb4 (x:Yup):Nat:=(x.name.size + 1) + 1 + 1
def Zh8 (x:Yup):Prop:=(fun s:ByteArray=>s.size≤reachBytes) x.name∧(fun _:Bool=>True) x.lit
theorem op_57:Yx5 Tryd.prog 57 Yuj Zh8 Zb4:=by
 refine Yx5.struct (fs:=stF Tryd.prog 57) (fl:=[fdA Tryd.prog 57 0,fdA Tryd.prog 57 1]) (by kernel_rfl) (by kernel_rfl) (by kernel_rfl) (fun m=>(Yzl.cons (f:=fdA Tryd.prog 57 0) (ft:=9) (by kernel_rfl) (by kernel_rfl) (by kernel_rfl) (op_9 m) (Yzl.cons (f:=fdA Tryd.prog 57 1) (ft:=4) (by kernel_rfl) (by kernel_rfl) (by kernel_rfl) (op_4 m) Yzl.nil))) ?_
 intro w cs n hl hr
 obtain ⟨y0,h0,q0,n0,m0,rfl,z0,hr⟩:=hr
 have e0:=h0
 obtain ⟨r0,rfl,d0⟩:=tkN e0 rfl
 rw [d0] at hr
 replace hl:=rz hl
 obtain ⟨y1,h1,q1,n1,m1,rfl,z1,hr⟩:=hr
 have e1:=h1
 obtain ⟨r1,rfl,d1⟩:=tkN e1 rfl
 replace hl:=rz hl
 obtain rfl:=List.eq_nil_of_length_eq_zero hl
 exact ⟨⟨y0,y1⟩,rfl,⟨q0,q1⟩,by show (y0.size + 1) + 1 + 1≤_; omega⟩
theorem op_22:Yx5 Tryd.prog 22 (Kd.slice Yuj) (fun xs:List Yup=>xs.length * 24≤reachBytes∧∀ x ∈ xs,Zh8 x) (fun xs:List Yup=>Zcg Zb4 xs + 1):=Yx5.slice (e:=57) (by kernel_rfl) (by kernel_rfl) (by kernel_rfl) (by decide) op_57
theorem op_58:Yx5 Tryd.prog 58 (Yw6 .i64) (fun n:Int=>(Lit.int .i64 n).wf=true) (fun _:Int=>1):=Yx5.int (by kernel_rfl)
def Zej (x:Yvn):Nat:=(x.name.size + 1) + 1 + 1
def Zm4 (x:Yvn):Prop:=(fun s:ByteArray=>s.size≤reachBytes) x.name∧(fun n:Int=>(Lit.int .i64 n).wf=true) x.kind
theorem op_60:Yx5 Tryd.prog 60 Yuq Zm4 Zej:=by
 refine Yx5.struct (fs:=stF Tryd.prog 60) (fl:=[fdA Tryd.prog 60 0,fdA Tryd.prog 60 1]) (by kernel_rfl) (by kernel_rfl) (by kernel_rfl) (fun m=>(Yzl.cons (f:=fdA Tryd.prog 60 0) (ft:=9) (by kernel_rfl) (by kernel_rfl) (by kernel_rfl) (op_9 m) (Yzl.cons (f:=fdA Tryd.prog 60 1) (ft:=58) (by kernel_rfl) (by kernel_rfl) (by kernel_rfl) (op_58 m) Yzl.nil))) ?_
 intro w cs n hl hr
 obtain ⟨y0,h0,q0,n0,m0,rfl,z0,hr⟩:=hr
 have e0:=h0
 obtain ⟨r0,rfl,d0⟩:=tkN e0 rfl
 rw [d0] at hr
 replace hl:=rz hl
 obtain ⟨y1,h1,q1,n1,m1,rfl,z1,hr⟩:=hr
 have e1:=h1
 obtain ⟨r1,rfl,d1⟩:=tkN e1 rfl
 replace hl:=rz hl
 obtain rfl:=List.eq_nil_of_length_eq_zero hl
 exact ⟨⟨y0,y1⟩,rfl,⟨q0,q1⟩,by show (y0.size + 1) + 1 + 1≤_; omega⟩
theorem op_23:Yx5 Tryd.prog 23 (Kd.slice Yuq) (fun xs:List Yvn=>xs.length * 24≤reachBytes∧∀ x ∈ xs,Zm4 x) (fun xs:List Yvn=>Zcg Zej xs + 1):=Yx5.slice (e:=60) (by kernel_rfl) (by kernel_rfl) (by kernel_rfl) (by decide) op_60
theorem op_3:Yx5 Tryd.prog 3 (Yw6 .i64) (fun n:Int=>(Lit.int .i64 n).wf=true) (fun _:Int=>1):=Yx5.int (by kernel_rfl)
def Zbr (x:Yut):Nat:=1 + (x.field.size + 1) + (x.as.size + 1) + 1
def Zlz (x:Yut):Prop:=(fun n:Int=>(Lit.int .i64 n).wf=true) x.sym∧(fun s:ByteArray=>s.size≤reachBytes) x.field∧(fun s:ByteArray=>s.size≤reachBytes) x.as
theorem op_65:Yx5 Tryd.prog 65 Zav Zlz Zbr:=by
 refine Yx5.struct (fs:=stF Tryd.prog 65) (fl:=[fdA Tryd.prog 65 0,fdA Tryd.prog 65 1,fdA Tryd.prog 65 2]) (by kernel_rfl) (by kernel_rfl) (by kernel_rfl) (fun m=>(Yzl.cons (f:=fdA Tryd.prog 65 0) (ft:=3) (by kernel_rfl) (by kernel_rfl) (by kernel_rfl) (op_3 m) (Yzl.cons (f:=fdA Tryd.prog 65 1) (ft:=9) (by kernel_rfl) (by kernel_rfl) (by kernel_rfl) (op_9 m) (Yzl.cons (f:=fdA Tryd.prog 65 2) (ft:=9) (by kernel_rfl) (by kernel_rfl) (by kernel_rfl) (op_9 m) Yzl.nil)))) ?_
 intro w cs n hl hr
 obtain ⟨y0,h0,q0,n0,m0,rfl,z0,hr⟩:=hr
 have e0:=h0
 obtain ⟨r0,rfl,d0⟩:=tkN e0 rfl
 rw [d0] at hr
 replace hl:=rz hl
 obtain ⟨y1,h1,q1,n1,m1,rfl,z1,hr⟩:=hr
 have e1:=h1
 obtain ⟨r1,rfl,d1⟩:=tkN e1 rfl
 rw [d1] at hr
 replace hl:=rz hl
 obtain ⟨y2,h2,q2,n2,m2,rfl,z2,hr⟩:=hr
 have e2:=h2
 obtain ⟨r2,rfl,d2⟩:=tkN e2 rfl
 replace hl:=rz hl
 obtain rfl:=List.eq_nil_of_length_eq_zero hl
 exact ⟨⟨y0,y1,y2⟩,rfl,⟨q0,q1,q2⟩,by show 1 + (y1.size + 1) + (y2.size + 1) + 1≤_; omega⟩
theorem op_61:Yx5 Tryd.prog 61 (Kd.slice Zav) (fun xs:List Yut=>xs.length * 40≤reachBytes∧∀ x ∈ xs,Zlz x) (fun xs:List Yut=>Zcg Zbr xs + 1):=Yx5.slice (e:=65) (by kernel_rfl) (by kernel_rfl) (by kernel_rfl) (by decide) op_65
def Yz9 (x:Yuf):Nat:=1 + (Zcg Zbr x.rhs + 1) + 1
def Zke (x:Yuf):Prop:=(fun n:Int=>(Lit.int .i64 n).wf=true) x.lhs∧(fun xs:List Yut=>xs.length * 40≤reachBytes∧∀ x ∈ xs,Zlz x) x.rhs
theorem op_63:Yx5 Tryd.prog 63 Yun Zke Yz9:=by
 refine Yx5.struct (fs:=stF Tryd.prog 63) (fl:=[fdA Tryd.prog 63 0,fdA Tryd.prog 63 1]) (by kernel_rfl) (by kernel_rfl) (by kernel_rfl) (fun m=>(Yzl.cons (f:=fdA Tryd.prog 63 0) (ft:=3) (by kernel_rfl) (by kernel_rfl) (by kernel_rfl) (op_3 m) (Yzl.cons (f:=fdA Tryd.prog 63 1) (ft:=61) (by kernel_rfl) (by kernel_rfl) (by kernel_rfl) (op_61 m) Yzl.nil))) ?_
 intro w cs n hl hr
 obtain ⟨y0,h0,q0,n0,m0,rfl,z0,hr⟩:=hr
 have e0:=h0
 obtain ⟨r0,rfl,d0⟩:=tkN e0 rfl
 rw [d0] at hr
 replace hl:=rz hl
 obtain ⟨y1,h1,q1,n1,m1,rfl,z1,hr⟩:=hr
 obtain ⟨_,_,_,e1,k1_0⟩:=h1
 obtain ⟨r1,rfl,d1⟩:=tkN e1 rfl
 replace hl:=rz hl
 obtain rfl:=List.eq_nil_of_length_eq_zero hl
 exact ⟨⟨y0,y1⟩,⟨_,_,_,rfl,k1_0⟩,⟨q0,q1⟩,by show 1 + (Zcg Zbr y1 + 1) + 1≤_; omega⟩
theorem op_24:Yx5 Tryd.prog 24 (Kd.slice Yun) (fun xs:List Yuf=>xs.length * 32≤reachBytes∧∀ x ∈ xs,Zke x) (fun xs:List Yuf=>Zcg Yz9 xs + 1):=Yx5.slice (e:=63) (by kernel_rfl) (by kernel_rfl) (by kernel_rfl) (by decide) op_63
def Zda (x:Yu5):Nat:=(Zcg Zb4 x.terms + 1) + (Zcg Zej x.syms + 1) + (Zcg Yz9 x.prods + 1) + 1
def Zo4 (x:Yu5):Prop:=(fun xs:List Yup=>xs.length * 24≤reachBytes∧∀ x ∈ xs,Zh8 x) x.terms∧(fun xs:List Yvn=>xs.length * 24≤reachBytes∧∀ x ∈ xs,Zm4 x) x.syms∧(fun xs:List Yuf=>xs.length * 32≤reachBytes∧∀ x ∈ xs,Zke x) x.prods
theorem op_26:Yx5 Tryd.prog 26 Zrt Zo4 Zda:=by
 refine Yx5.struct (fs:=stF Tryd.prog 26) (fl:=[fdA Tryd.prog 26 0,fdA Tryd.prog 26 1,fdA Tryd.prog 26 2]) (by kernel_rfl) (by kernel_rfl) (by kernel_rfl) (fun m=>(Yzl.cons (f:=fdA Tryd.prog 26 0) (ft:=22) (by kernel_rfl) (by kernel_rfl) (by kernel_rfl) (op_22 m) (Yzl.cons (f:=fdA Tryd.prog 26 1) (ft:=23) (by kernel_rfl) (by kernel_rfl) (by kernel_rfl) (op_23 m) (Yzl.cons (f:=fdA Tryd.prog 26 2) (ft:=24) (by kernel_rfl) (by kernel_rfl) (by kernel_rfl) (op_24 m) Yzl.nil)))) ?_
 intro w cs n hl hr
 obtain ⟨y0,h0,q0,n0,m0,rfl,z0,hr⟩:=hr
 obtain ⟨_,_,_,e0,k0_0⟩:=h0
 obtain ⟨r0,rfl,d0⟩:=tkN e0 rfl
 rw [d0] at hr
 replace hl:=rz hl
 obtain ⟨y1,h1,q1,n1,m1,rfl,z1,hr⟩:=hr
 obtain ⟨_,_,_,e1,k1_0⟩:=h1
 obtain ⟨r1,rfl,d1⟩:=tkN e1 rfl
 rw [d1] at hr
 replace hl:=rz hl
 obtain ⟨y2,h2,q2,n2,m2,rfl,z2,hr⟩:=hr
 obtain ⟨_,_,_,e2,k2_0⟩:=h2
 obtain ⟨r2,rfl,d2⟩:=tkN e2 rfl
 replace hl:=rz hl
 obtain rfl:=List.eq_nil_of_length_eq_zero hl
 exact ⟨⟨y0,y1,y2⟩,⟨_,_,_,_,_,_,_,_,_,rfl,k0_0,k1_0,k2_0⟩,⟨q0,q1,q2⟩,by show (Zcg Zb4 y0 + 1) + (Zcg Zej y1 + 1) + (Zcg Yz9 y2 + 1) + 1≤_; omega⟩
def Zdh (x:Yud):Nat:=1 + 1 + 1 + 1
def Zk6 (x:Yud):Prop:=(fun n:Int=>(Lit.int .i64 n).wf=true) x.prod∧(fun n:Int=>(Lit.int .i64 n).wf=true) x.dot∧(fun n:Int=>(Lit.int .i64 n).wf=true) x.look
theorem op_31:Yx5 Tryd.prog 31 Yxu Zk6 Zdh:=by
 refine Yx5.struct (fs:=stF Tryd.prog 31) (fl:=[fdA Tryd.prog 31 0,fdA Tryd.prog 31 1,fdA Tryd.prog 31 2]) (by kernel_rfl) (by kernel_rfl) (by kernel_rfl) (fun m=>(Yzl.cons (f:=fdA Tryd.prog 31 0) (ft:=3) (by kernel_rfl) (by kernel_rfl) (by kernel_rfl) (op_3 m) (Yzl.cons (f:=fdA Tryd.prog 31 1) (ft:=3) (by kernel_rfl) (by kernel_rfl) (by kernel_rfl) (op_3 m) (Yzl.cons (f:=fdA Tryd.prog 31 2) (ft:=3) (by kernel_rfl) (by kernel_rfl) (by kernel_rfl) (op_3 m) Yzl.nil)))) ?_
 intro w cs n hl hr
 obtain ⟨y0,h0,q0,n0,m0,rfl,z0,hr⟩:=hr
 have e0:=h0
 obtain ⟨r0,rfl,d0⟩:=tkN e0 rfl
 rw [d0] at hr
 replace hl:=rz hl
 obtain ⟨y1,h1,q1,n1,m1,rfl,z1,hr⟩:=hr
 have e1:=h1
 obtain ⟨r1,rfl,d1⟩:=tkN e1 rfl
 rw [d1] at hr
 replace hl:=rz hl
 obtain ⟨y2,h2,q2,n2,m2,rfl,z2,hr⟩:=hr
 have e2:=h2
 obtain ⟨r2,rfl,d2⟩:=tkN e2 rfl
 replace hl:=rz hl
 obtain rfl:=List.eq_nil_of_length_eq_zero hl
 exact ⟨⟨y0,y1,y2⟩,rfl,⟨q0,q1,q2⟩,by show 1 + 1 + 1 + 1≤_; omega⟩
theorem op_27:Yx5 Tryd.prog 27 (Kd.slice Yxu) (fun xs:List Yud=>xs.length * 24≤reachBytes∧∀ x ∈ xs,Zk6 x) (fun xs:List Yud=>Zcg Zdh xs + 1):=Yx5.slice (e:=31) (by kernel_rfl) (by kernel_rfl) (by kernel_rfl) (by decide) op_31
end Go.Proofs.YtadcichlnacagaaDoor.K
