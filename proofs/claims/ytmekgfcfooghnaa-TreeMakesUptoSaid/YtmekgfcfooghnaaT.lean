/- What a reading of the arguments tells, type by type, printed by my own tool. No condition. -/
import Derived.Test.YtmekgfcfooghnaaT0
import Derived.Test.YtmekgfcfooghnaaK0
set_option linter.unusedVariables false
set_option maxRecDepth 100000
namespace Go.Proofs.Ytmekgfcfooghnaa.K
open Go.Proofs.Ytmekgfcfooghnaa.B Go.Proofs.Ytmekgfcfooghnaa.R Go.RowKit
theorem Xxx:Xmi Try.prog 9 Xz4 (fun s:ByteArray=>s.size≤reachBytes) (fun s:ByteArray=>s.size + 1):=Xmi.str (by kernel_rfl)
theorem op_4:Xmi Try.prog 4 kBool (fun _:Bool=>True) (fun _:Bool=>1):=Xmi.bool (by kernel_rfl)
def Xtc (x:Xrt):Nat:=(x.name.size + 1) + 1 + 1
def Xvv (x:Xrt):Prop:=(fun s:ByteArray=>s.size≤reachBytes) x.name∧(fun _:Bool=>True) x.open_
theorem op_152:Xmi Try.prog 152 Xoq Xvv Xtc:=by
 refine Xmi.struct (fs:=stF Try.prog 152) (fl:=[fdA Try.prog 152 0,fdA Try.prog 152 1]) (by kernel_rfl) (by kernel_rfl) (by kernel_rfl) (fun m=>(Xmu.cons (f:=fdA Try.prog 152 0) (ft:=9) (by kernel_rfl) (by kernel_rfl) (by kernel_rfl) (Xxx m) (Xmu.cons (f:=fdA Try.prog 152 1) (ft:=4) (by kernel_rfl) (by kernel_rfl) (by kernel_rfl) (op_4 m) Xmu.nil))) ?_
 intro w cs n hl hr
 obtain ⟨y0,h0,q0,n0,m0,rfl,z0,hr⟩:=hr
 have e0:=h0
 obtain ⟨r0,rfl,d0⟩:=tkN e0 rfl
 rw [d0] at hr
 replace hl:=rz hl
 obtain ⟨y1,h1,q1,n1,m1,rfl,z1,hr⟩:=hr
 have e1:=h1
 obtain ⟨r1,rfl,d1⟩:=tkN e1 rfl
 replace hl:=rz hl
 obtain rfl:=List.eq_nil_of_length_eq_zero hl
 exact ⟨⟨y0,y1⟩,rfl,⟨q0,q1⟩,by show (y0.size + 1) + 1 + 1≤_; omega⟩
theorem op_42:Xmi Try.prog 42 (Kd.slice Xoq) (fun xs:List Xrt=>xs.length * 24≤reachBytes∧∀ x ∈ xs,Xvv x) (fun xs:List Xrt=>Xo8 Xtc xs + 1):=Xmi.slice (e:=152) (by kernel_rfl) (by kernel_rfl) (by kernel_rfl) (by decide) op_152
def Xtg (x:Xrr):Nat:=(x.name.size + 1) + 1 + 1
def Xvp (x:Xrr):Prop:=(fun s:ByteArray=>s.size≤reachBytes) x.name∧(fun _:Bool=>True) x.lit
theorem op_100:Xmi Try.prog 100 Xng Xvp Xtg:=by
 refine Xmi.struct (fs:=stF Try.prog 100) (fl:=[fdA Try.prog 100 0,fdA Try.prog 100 1]) (by kernel_rfl) (by kernel_rfl) (by kernel_rfl) (fun m=>(Xmu.cons (f:=fdA Try.prog 100 0) (ft:=9) (by kernel_rfl) (by kernel_rfl) (by kernel_rfl) (Xxx m) (Xmu.cons (f:=fdA Try.prog 100 1) (ft:=4) (by kernel_rfl) (by kernel_rfl) (by kernel_rfl) (op_4 m) Xmu.nil))) ?_
 intro w cs n hl hr
 obtain ⟨y0,h0,q0,n0,m0,rfl,z0,hr⟩:=hr
 have e0:=h0
 obtain ⟨r0,rfl,d0⟩:=tkN e0 rfl
 rw [d0] at hr
 replace hl:=rz hl
 obtain ⟨y1,h1,q1,n1,m1,rfl,z1,hr⟩:=hr
 have e1:=h1
 obtain ⟨r1,rfl,d1⟩:=tkN e1 rfl
 replace hl:=rz hl
 obtain rfl:=List.eq_nil_of_length_eq_zero hl
 exact ⟨⟨y0,y1⟩,rfl,⟨q0,q1⟩,by show (y0.size + 1) + 1 + 1≤_; omega⟩
theorem op_43:Xmi Try.prog 43 (Kd.slice Xng) (fun xs:List Xrr=>xs.length * 24≤reachBytes∧∀ x ∈ xs,Xvp x) (fun xs:List Xrr=>Xo8 Xtg xs + 1):=Xmi.slice (e:=100) (by kernel_rfl) (by kernel_rfl) (by kernel_rfl) (by decide) op_100
theorem op_72:Xmi Try.prog 72 (Xs2 .i64) (fun n:Int=>(Lit.int .i64 n).wf=true) (fun _:Int=>1):=Xmi.int (by kernel_rfl)
def Xwv (x:Xv5):Nat:=(x.name.size + 1) + 1 + 1
def Xz9 (x:Xv5):Prop:=(fun s:ByteArray=>s.size≤reachBytes) x.name∧(fun n:Int=>(Lit.int .i64 n).wf=true) x.kind
theorem op_74:Xmi Try.prog 74 Xor Xz9 Xwv:=by
 refine Xmi.struct (fs:=stF Try.prog 74) (fl:=[fdA Try.prog 74 0,fdA Try.prog 74 1]) (by kernel_rfl) (by kernel_rfl) (by kernel_rfl) (fun m=>(Xmu.cons (f:=fdA Try.prog 74 0) (ft:=9) (by kernel_rfl) (by kernel_rfl) (by kernel_rfl) (Xxx m) (Xmu.cons (f:=fdA Try.prog 74 1) (ft:=72) (by kernel_rfl) (by kernel_rfl) (by kernel_rfl) (op_72 m) Xmu.nil))) ?_
 intro w cs n hl hr
 obtain ⟨y0,h0,q0,n0,m0,rfl,z0,hr⟩:=hr
 have e0:=h0
 obtain ⟨r0,rfl,d0⟩:=tkN e0 rfl
 rw [d0] at hr
 replace hl:=rz hl
 obtain ⟨y1,h1,q1,n1,m1,rfl,z1,hr⟩:=hr
 have e1:=h1
 obtain ⟨r1,rfl,d1⟩:=tkN e1 rfl
 replace hl:=rz hl
 obtain rfl:=List.eq_nil_of_length_eq_zero hl
 exact ⟨⟨y0,y1⟩,rfl,⟨q0,q1⟩,by show (y0.size + 1) + 1 + 1≤_; omega⟩
theorem op_44:Xmi Try.prog 44 (Kd.slice Xor) (fun xs:List Xv5=>xs.length * 24≤reachBytes∧∀ x ∈ xs,Xz9 x) (fun xs:List Xv5=>Xo8 Xwv xs + 1):=Xmi.slice (e:=74) (by kernel_rfl) (by kernel_rfl) (by kernel_rfl) (by decide) op_74
theorem Xw5:Xmi Try.prog 3 (Xs2 .i64) (fun n:Int=>(Lit.int .i64 n).wf=true) (fun _:Int=>1):=Xmi.int (by kernel_rfl)
def Xwr (x:Xo0):Nat:=1 + (x.field.size + 1) + (x.as.size + 1) + 1
def Xzl (x:Xo0):Prop:=(fun n:Int=>(Lit.int .i64 n).wf=true) x.sym∧(fun s:ByteArray=>s.size≤reachBytes) x.field∧(fun s:ByteArray=>s.size≤reachBytes) x.as
theorem op_104:Xmi Try.prog 104 Xzj Xzl Xwr:=by
 refine Xmi.struct (fs:=stF Try.prog 104) (fl:=[fdA Try.prog 104 0,fdA Try.prog 104 1,fdA Try.prog 104 2]) (by kernel_rfl) (by kernel_rfl) (by kernel_rfl) (fun m=>(Xmu.cons (f:=fdA Try.prog 104 0) (ft:=3) (by kernel_rfl) (by kernel_rfl) (by kernel_rfl) (Xw5 m) (Xmu.cons (f:=fdA Try.prog 104 1) (ft:=9) (by kernel_rfl) (by kernel_rfl) (by kernel_rfl) (Xxx m) (Xmu.cons (f:=fdA Try.prog 104 2) (ft:=9) (by kernel_rfl) (by kernel_rfl) (by kernel_rfl) (Xxx m) Xmu.nil)))) ?_
 intro w cs n hl hr
 obtain ⟨y0,h0,q0,n0,m0,rfl,z0,hr⟩:=hr
 have e0:=h0
 obtain ⟨r0,rfl,d0⟩:=tkN e0 rfl
 rw [d0] at hr
 replace hl:=rz hl
 obtain ⟨y1,h1,q1,n1,m1,rfl,z1,hr⟩:=hr
 have e1:=h1
 obtain ⟨r1,rfl,d1⟩:=tkN e1 rfl
 rw [d1] at hr
 replace hl:=rz hl
 obtain ⟨y2,h2,q2,n2,m2,rfl,z2,hr⟩:=hr
 have e2:=h2
 obtain ⟨r2,rfl,d2⟩:=tkN e2 rfl
 replace hl:=rz hl
 obtain rfl:=List.eq_nil_of_length_eq_zero hl
 exact ⟨⟨y0,y1,y2⟩,rfl,⟨q0,q1,q2⟩,by show 1 + (y1.size + 1) + (y2.size + 1) + 1≤_; omega⟩
theorem op_105:Xmi Try.prog 105 (Kd.slice Xzj) (fun xs:List Xo0=>xs.length * 40≤reachBytes∧∀ x ∈ xs,Xzl x) (fun xs:List Xo0=>Xo8 Xwr xs + 1):=Xmi.slice (e:=104) (by kernel_rfl) (by kernel_rfl) (by kernel_rfl) (by decide) op_104
def Xvc (x:Xs0):Nat:=1 + (Xo8 Xwr x.rhs + 1) + 1
def Xy9 (x:Xs0):Prop:=(fun n:Int=>(Lit.int .i64 n).wf=true) x.lhs∧(fun xs:List Xo0=>xs.length * 40≤reachBytes∧∀ x ∈ xs,Xzl x) x.rhs
theorem op_107:Xmi Try.prog 107 Xo9 Xy9 Xvc:=by
 refine Xmi.struct (fs:=stF Try.prog 107) (fl:=[fdA Try.prog 107 0,fdA Try.prog 107 1]) (by kernel_rfl) (by kernel_rfl) (by kernel_rfl) (fun m=>(Xmu.cons (f:=fdA Try.prog 107 0) (ft:=3) (by kernel_rfl) (by kernel_rfl) (by kernel_rfl) (Xw5 m) (Xmu.cons (f:=fdA Try.prog 107 1) (ft:=105) (by kernel_rfl) (by kernel_rfl) (by kernel_rfl) (op_105 m) Xmu.nil))) ?_
 intro w cs n hl hr
 obtain ⟨y0,h0,q0,n0,m0,rfl,z0,hr⟩:=hr
 have e0:=h0
 obtain ⟨r0,rfl,d0⟩:=tkN e0 rfl
 rw [d0] at hr
 replace hl:=rz hl
 obtain ⟨y1,h1,q1,n1,m1,rfl,z1,hr⟩:=hr
 obtain ⟨_,_,_,e1,k1_0⟩:=h1
 obtain ⟨r1,rfl,d1⟩:=tkN e1 rfl
 replace hl:=rz hl
 obtain rfl:=List.eq_nil_of_length_eq_zero hl
 exact ⟨⟨y0,y1⟩,⟨_,_,_,rfl,k1_0⟩,⟨q0,q1⟩,by show 1 + (Xo8 Xwr y1 + 1) + 1≤_; omega⟩
theorem op_45:Xmi Try.prog 45 (Kd.slice Xo9) (fun xs:List Xs0=>xs.length * 32≤reachBytes∧∀ x ∈ xs,Xy9 x) (fun xs:List Xs0=>Xo8 Xvc xs + 1):=Xmi.slice (e:=107) (by kernel_rfl) (by kernel_rfl) (by kernel_rfl) (by decide) op_107
def Xx7 (x:Xno):Nat:=(Xo8 Xtg x.terms + 1) + (Xo8 Xwv x.syms + 1) + (Xo8 Xvc x.prods + 1) + 1
def Ybf (x:Xno):Prop:=(fun xs:List Xrr=>xs.length * 24≤reachBytes∧∀ x ∈ xs,Xvp x) x.terms∧(fun xs:List Xv5=>xs.length * 24≤reachBytes∧∀ x ∈ xs,Xz9 x) x.syms∧(fun xs:List Xs0=>xs.length * 32≤reachBytes∧∀ x ∈ xs,Xy9 x) x.prods
theorem op_47:Xmi Try.prog 47 Yei Ybf Xx7:=by
 refine Xmi.struct (fs:=stF Try.prog 47) (fl:=[fdA Try.prog 47 0,fdA Try.prog 47 1,fdA Try.prog 47 2]) (by kernel_rfl) (by kernel_rfl) (by kernel_rfl) (fun m=>(Xmu.cons (f:=fdA Try.prog 47 0) (ft:=43) (by kernel_rfl) (by kernel_rfl) (by kernel_rfl) (op_43 m) (Xmu.cons (f:=fdA Try.prog 47 1) (ft:=44) (by kernel_rfl) (by kernel_rfl) (by kernel_rfl) (op_44 m) (Xmu.cons (f:=fdA Try.prog 47 2) (ft:=45) (by kernel_rfl) (by kernel_rfl) (by kernel_rfl) (op_45 m) Xmu.nil)))) ?_
 intro w cs n hl hr
 obtain ⟨y0,h0,q0,n0,m0,rfl,z0,hr⟩:=hr
 obtain ⟨_,_,_,e0,k0_0⟩:=h0
 obtain ⟨r0,rfl,d0⟩:=tkN e0 rfl
 rw [d0] at hr
 replace hl:=rz hl
 obtain ⟨y1,h1,q1,n1,m1,rfl,z1,hr⟩:=hr
 obtain ⟨_,_,_,e1,k1_0⟩:=h1
 obtain ⟨r1,rfl,d1⟩:=tkN e1 rfl
 rw [d1] at hr
 replace hl:=rz hl
 obtain ⟨y2,h2,q2,n2,m2,rfl,z2,hr⟩:=hr
 obtain ⟨_,_,_,e2,k2_0⟩:=h2
 obtain ⟨r2,rfl,d2⟩:=tkN e2 rfl
 replace hl:=rz hl
 obtain rfl:=List.eq_nil_of_length_eq_zero hl
 exact ⟨⟨y0,y1,y2⟩,⟨_,_,_,_,_,_,_,_,_,rfl,k0_0,k1_0,k2_0⟩,⟨q0,q1,q2⟩,by show (Xo8 Xtg y0 + 1) + (Xo8 Xwv y1 + 1) + (Xo8 Xvc y2 + 1) + 1≤_; omega⟩
theorem op_153:Xmi Try.prog 153 (Xs2 .i64) (fun n:Int=>(Lit.int .i64 n).wf=true) (fun _:Int=>1):=Xmi.int (by kernel_rfl)
theorem op_166:Xmi Try.prog 166 (Xs2 .i64) (fun n:Int=>(Lit.int .i64 n).wf=true) (fun _:Int=>1):=Xmi.int (by kernel_rfl)
theorem op_167:Xmi Try.prog 167 (Xs2 .u64) (fun n:Int=>(Lit.int .u64 n).wf=true) (fun _:Int=>1):=Xmi.int (by kernel_rfl)
theorem op_169:Xmi Try.prog 169 (Kd.flat 4 (fun f:Int→Int=>(Xvt 4 fun j=>[.int .u64 (f j)])) (fun f=>(Xyr (sz:=1) (f:=fun j=>[.int .u64 (f j)]) (fun j=>rfl) 4)) (fun f u hu=>List.all_eq_true.1 ((Ydh (f:=fun j=>[.int .u64 (f j)]) (fun j=>rfl) 4):List.all (Xvt 4 fun j=>[.int .u64 (f j)]) Value.oneCell'=true) u hu)) (fun f:Int→Int=>∀ j:Nat,j < 4→(fun n:Int=>(Lit.int .u64 n).wf=true) (f j)) (fun _:(Int→Int)=>1):=Xmi.arr (e:=167) (n:=4) (sz:=1) (enc:=fun y=>[.int .u64 y]) (by kernel_rfl) (by kernel_rfl) rfl (by kernel_rfl) (fun _ _ _ _ h=>h) op_167
def Xtx (x:Xrd):Nat:=1 + 1 + 1 + 1 + 1
def Xwl (x:Xrd):Prop:=(fun n:Int=>(Lit.int .i64 n).wf=true) x.op∧(fun f:Int→Int=>∀ j:Nat,j < 4→(fun n:Int=>(Lit.int .u64 n).wf=true) (f j)) x.set_∧(fun n:Int=>(Lit.int .i64 n).wf=true) x.a∧(fun n:Int=>(Lit.int .i64 n).wf=true) x.b
theorem op_171:Xmi Try.prog 171 Xws Xwl Xtx:=by
 refine Xmi.struct (fs:=stF Try.prog 171) (fl:=[fdA Try.prog 171 0,fdA Try.prog 171 1,fdA Try.prog 171 2,fdA Try.prog 171 3]) (by kernel_rfl) (by kernel_rfl) (by kernel_rfl) (fun m=>(Xmu.cons (f:=fdA Try.prog 171 0) (ft:=166) (by kernel_rfl) (by kernel_rfl) (by kernel_rfl) (op_166 m) (Xmu.cons (f:=fdA Try.prog 171 1) (ft:=169) (by kernel_rfl) (by kernel_rfl) (by kernel_rfl) (op_169 m) (Xmu.cons (f:=fdA Try.prog 171 2) (ft:=3) (by kernel_rfl) (by kernel_rfl) (by kernel_rfl) (Xw5 m) (Xmu.cons (f:=fdA Try.prog 171 3) (ft:=3) (by kernel_rfl) (by kernel_rfl) (by kernel_rfl) (Xw5 m) Xmu.nil))))) ?_
 intro w cs n hl hr
 obtain ⟨y0,h0,q0,n0,m0,rfl,z0,hr⟩:=hr
 have e0:=h0
 obtain ⟨r0,rfl,d0⟩:=tkN e0 rfl
 rw [d0] at hr
 replace hl:=rz hl
 obtain ⟨y1,h1,q1,n1,m1,rfl,z1,hr⟩:=hr
 have e1:=h1
 obtain ⟨r1,rfl,d1⟩:=tkN e1 (Xyr (sz:=1) (fun _=>rfl) 4)
 rw [d1] at hr
 replace hl:=rz hl
 obtain ⟨y2,h2,q2,n2,m2,rfl,z2,hr⟩:=hr
 have e2:=h2
 obtain ⟨r2,rfl,d2⟩:=tkN e2 rfl
 rw [d2] at hr
 replace hl:=rz hl
 obtain ⟨y3,h3,q3,n3,m3,rfl,z3,hr⟩:=hr
 have e3:=h3
 obtain ⟨r3,rfl,d3⟩:=tkN e3 rfl
 replace hl:=rz hl
 obtain rfl:=List.eq_nil_of_length_eq_zero hl
 exact ⟨⟨y0,y1,y2,y3⟩,rfl,⟨q0,q1,q2,q3⟩,by show 1 + 1 + 1 + 1 + 1≤_; omega⟩
theorem op_154:Xmi Try.prog 154 (Kd.slice Xws) (fun xs:List Xrd=>xs.length * 56≤reachBytes∧∀ x ∈ xs,Xwl x) (fun xs:List Xrd=>Xo8 Xtx xs + 1):=Xmi.slice (e:=171) (by kernel_rfl) (by kernel_rfl) (by kernel_rfl) (by decide) op_171
theorem op_23:Xmi Try.prog 23 (Kd.slice (Xs2 .i64)) (fun xs:List Int=>xs.length * 8≤reachBytes∧∀ x ∈ xs,(fun n:Int=>(Lit.int .i64 n).wf=true) x) (fun xs:List Int=>Xo8 (fun _:Int=>1) xs + 1):=Xmi.slice (e:=3) (by kernel_rfl) (by kernel_rfl) (by kernel_rfl) (by decide) Xw5
theorem op_172:Xmi Try.prog 172 (Xs2 .i64) (fun n:Int=>(Lit.int .i64 n).wf=true) (fun _:Int=>1):=Xmi.int (by kernel_rfl)
def Xvi (x:Xu6):Nat:=1 + 1 + 1
def Xyh (x:Xu6):Prop:=(fun n:Int=>(Lit.int .i64 n).wf=true) x.kind∧(fun n:Int=>(Lit.int .i64 n).wf=true) x.n
theorem op_174:Xmi Try.prog 174 Xy6 Xyh Xvi:=by
 refine Xmi.struct (fs:=stF Try.prog 174) (fl:=[fdA Try.prog 174 0,fdA Try.prog 174 1]) (by kernel_rfl) (by kernel_rfl) (by kernel_rfl) (fun m=>(Xmu.cons (f:=fdA Try.prog 174 0) (ft:=172) (by kernel_rfl) (by kernel_rfl) (by kernel_rfl) (op_172 m) (Xmu.cons (f:=fdA Try.prog 174 1) (ft:=3) (by kernel_rfl) (by kernel_rfl) (by kernel_rfl) (Xw5 m) Xmu.nil))) ?_
 intro w cs n hl hr
 obtain ⟨y0,h0,q0,n0,m0,rfl,z0,hr⟩:=hr
 have e0:=h0
 obtain ⟨r0,rfl,d0⟩:=tkN e0 rfl
 rw [d0] at hr
 replace hl:=rz hl
 obtain ⟨y1,h1,q1,n1,m1,rfl,z1,hr⟩:=hr
 have e1:=h1
 obtain ⟨r1,rfl,d1⟩:=tkN e1 rfl
 replace hl:=rz hl
 obtain rfl:=List.eq_nil_of_length_eq_zero hl
 exact ⟨⟨y0,y1⟩,rfl,⟨q0,q1⟩,by show 1 + 1 + 1≤_; omega⟩
theorem op_155:Xmi Try.prog 155 (Kd.slice Xy6) (fun xs:List Xu6=>xs.length * 16≤reachBytes∧∀ x ∈ xs,Xyh x) (fun xs:List Xu6=>Xo8 Xvi xs + 1):=Xmi.slice (e:=174) (by kernel_rfl) (by kernel_rfl) (by kernel_rfl) (by decide) op_174
theorem op_175:Xmi Try.prog 175 (Xs2 .i64) (fun n:Int=>(Lit.int .i64 n).wf=true) (fun _:Int=>1):=Xmi.int (by kernel_rfl)
def Xwn (x:Xvj):Nat:=1 + 1 + 1 + 1
def Xzr (x:Xvj):Prop:=(fun n:Int=>(Lit.int .i64 n).wf=true) x.kind∧(fun n:Int=>(Lit.int .i64 n).wf=true) x.n∧(fun n:Int=>(Lit.int .i64 n).wf=true) x.m
theorem op_177:Xmi Try.prog 177 Xzv Xzr Xwn:=by
 refine Xmi.struct (fs:=stF Try.prog 177) (fl:=[fdA Try.prog 177 0,fdA Try.prog 177 1,fdA Try.prog 177 2]) (by kernel_rfl) (by kernel_rfl) (by kernel_rfl) (fun m=>(Xmu.cons (f:=fdA Try.prog 177 0) (ft:=175) (by kernel_rfl) (by kernel_rfl) (by kernel_rfl) (op_175 m) (Xmu.cons (f:=fdA Try.prog 177 1) (ft:=3) (by kernel_rfl) (by kernel_rfl) (by kernel_rfl) (Xw5 m) (Xmu.cons (f:=fdA Try.prog 177 2) (ft:=3) (by kernel_rfl) (by kernel_rfl) (by kernel_rfl) (Xw5 m) Xmu.nil)))) ?_
 intro w cs n hl hr
 obtain ⟨y0,h0,q0,n0,m0,rfl,z0,hr⟩:=hr
 have e0:=h0
 obtain ⟨r0,rfl,d0⟩:=tkN e0 rfl
 rw [d0] at hr
 replace hl:=rz hl
 obtain ⟨y1,h1,q1,n1,m1,rfl,z1,hr⟩:=hr
 have e1:=h1
 obtain ⟨r1,rfl,d1⟩:=tkN e1 rfl
 rw [d1] at hr
 replace hl:=rz hl
 obtain ⟨y2,h2,q2,n2,m2,rfl,z2,hr⟩:=hr
 have e2:=h2
 obtain ⟨r2,rfl,d2⟩:=tkN e2 rfl
 replace hl:=rz hl
 obtain rfl:=List.eq_nil_of_length_eq_zero hl
 exact ⟨⟨y0,y1,y2⟩,rfl,⟨q0,q1,q2⟩,by show 1 + 1 + 1 + 1≤_; omega⟩
theorem op_156:Xmi Try.prog 156 (Kd.slice Xzv) (fun xs:List Xvj=>xs.length * 24≤reachBytes∧∀ x ∈ xs,Xzr x) (fun xs:List Xvj=>Xo8 Xwn xs + 1):=Xmi.slice (e:=177) (by kernel_rfl) (by kernel_rfl) (by kernel_rfl) (by decide) op_177
def Xv9 (x:Xux):Nat:=1 + 1 + (Xo8 Xtx x.re + 1) + (x.lit.size + 1) + (Xo8 (fun _:Int=>1) x.in_ + 1) + (Xo8 Xvi x.tests + 1) + (Xo8 Xwn x.acts + 1) + 1
def Xyf (x:Xux):Prop:=(fun n:Int=>(Lit.int .i64 n).wf=true) x.term∧(fun n:Int=>(Lit.int .i64 n).wf=true) x.pat∧(fun xs:List Xrd=>xs.length * 56≤reachBytes∧∀ x ∈ xs,Xwl x) x.re∧(fun s:ByteArray=>s.size≤reachBytes) x.lit∧(fun xs:List Int=>xs.length * 8≤reachBytes∧∀ x ∈ xs,(fun n:Int=>(Lit.int .i64 n).wf=true) x) x.in_∧(fun xs:List Xu6=>xs.length * 16≤reachBytes∧∀ x ∈ xs,Xyh x) x.tests∧(fun xs:List Xvj=>xs.length * 24≤reachBytes∧∀ x ∈ xs,Xzr x) x.acts
theorem op_158:Xmi Try.prog 158 Xqc Xyf Xv9:=by
 refine Xmi.struct (fs:=stF Try.prog 158) (fl:=[fdA Try.prog 158 0,fdA Try.prog 158 1,fdA Try.prog 158 2,fdA Try.prog 158 3,fdA Try.prog 158 4,fdA Try.prog 158 5,fdA Try.prog 158 6]) (by kernel_rfl) (by kernel_rfl) (by kernel_rfl) (fun m=>(Xmu.cons (f:=fdA Try.prog 158 0) (ft:=3) (by kernel_rfl) (by kernel_rfl) (by kernel_rfl) (Xw5 m) (Xmu.cons (f:=fdA Try.prog 158 1) (ft:=153) (by kernel_rfl) (by kernel_rfl) (by kernel_rfl) (op_153 m) (Xmu.cons (f:=fdA Try.prog 158 2) (ft:=154) (by kernel_rfl) (by kernel_rfl) (by kernel_rfl) (op_154 m) (Xmu.cons (f:=fdA Try.prog 158 3) (ft:=9) (by kernel_rfl) (by kernel_rfl) (by kernel_rfl) (Xxx m) (Xmu.cons (f:=fdA Try.prog 158 4) (ft:=23) (by kernel_rfl) (by kernel_rfl) (by kernel_rfl) (op_23 m) (Xmu.cons (f:=fdA Try.prog 158 5) (ft:=155) (by kernel_rfl) (by kernel_rfl) (by kernel_rfl) (op_155 m) (Xmu.cons (f:=fdA Try.prog 158 6) (ft:=156) (by kernel_rfl) (by kernel_rfl) (by kernel_rfl) (op_156 m) Xmu.nil)))))))) ?_
 intro w cs n hl hr
 obtain ⟨y0,h0,q0,n0,m0,rfl,z0,hr⟩:=hr
 have e0:=h0
 obtain ⟨r0,rfl,d0⟩:=tkN e0 rfl
 rw [d0] at hr
 replace hl:=rz hl
 obtain ⟨y1,h1,q1,n1,m1,rfl,z1,hr⟩:=hr
 have e1:=h1
 obtain ⟨r1,rfl,d1⟩:=tkN e1 rfl
 rw [d1] at hr
 replace hl:=rz hl
 obtain ⟨y2,h2,q2,n2,m2,rfl,z2,hr⟩:=hr
 obtain ⟨_,_,_,e2,k2_0⟩:=h2
 obtain ⟨r2,rfl,d2⟩:=tkN e2 rfl
 rw [d2] at hr
 replace hl:=rz hl
 obtain ⟨y3,h3,q3,n3,m3,rfl,z3,hr⟩:=hr
 have e3:=h3
 obtain ⟨r3,rfl,d3⟩:=tkN e3 rfl
 rw [d3] at hr
 replace hl:=rz hl
 obtain ⟨y4,h4,q4,n4,m4,rfl,z4,hr⟩:=hr
 obtain ⟨_,_,_,e4,k4_0⟩:=h4
 obtain ⟨r4,rfl,d4⟩:=tkN e4 rfl
 rw [d4] at hr
 replace hl:=rz hl
 obtain ⟨y5,h5,q5,n5,m5,rfl,z5,hr⟩:=hr
 obtain ⟨_,_,_,e5,k5_0⟩:=h5
 obtain ⟨r5,rfl,d5⟩:=tkN e5 rfl
 rw [d5] at hr
 replace hl:=rz hl
 obtain ⟨y6,h6,q6,n6,m6,rfl,z6,hr⟩:=hr
 obtain ⟨_,_,_,e6,k6_0⟩:=h6
 obtain ⟨r6,rfl,d6⟩:=tkN e6 rfl
 replace hl:=rz hl
 obtain rfl:=List.eq_nil_of_length_eq_zero hl
 exact ⟨⟨y0,y1,y2,y3,y4,y5,y6⟩,⟨_,_,_,_,_,_,_,_,_,_,_,_,rfl,k2_0,k4_0,k5_0,k6_0⟩,⟨q0,q1,q2,q3,q4,q5,q6⟩,by show 1 + 1 + (Xo8 Xtx y2 + 1) + (y3.size + 1) + (Xo8 (fun _:Int=>1) y4 + 1) + (Xo8 Xvi y5 + 1) + (Xo8 Xwn y6 + 1) + 1≤_; omega⟩
theorem op_48:Xmi Try.prog 48 (Kd.slice Xqc) (fun xs:List Xux=>xs.length * 128≤reachBytes∧∀ x ∈ xs,Xyf x) (fun xs:List Xux=>Xo8 Xv9 xs + 1):=Xmi.slice (e:=158) (by kernel_rfl) (by kernel_rfl) (by kernel_rfl) (by decide) op_158
theorem op_178:Xmi Try.prog 178 (Xs2 .i64) (fun n:Int=>(Lit.int .i64 n).wf=true) (fun _:Int=>1):=Xmi.int (by kernel_rfl)
def Xso (x:Xp7):Nat:=1 + 1 + 1
def Xud (x:Xp7):Prop:=(fun n:Int=>(Lit.int .i64 n).wf=true) x.kind∧(fun n:Int=>(Lit.int .i64 n).wf=true) x.n
theorem op_180:Xmi Try.prog 180 Xol Xud Xso:=by
 refine Xmi.struct (fs:=stF Try.prog 180) (fl:=[fdA Try.prog 180 0,fdA Try.prog 180 1]) (by kernel_rfl) (by kernel_rfl) (by kernel_rfl) (fun m=>(Xmu.cons (f:=fdA Try.prog 180 0) (ft:=178) (by kernel_rfl) (by kernel_rfl) (by kernel_rfl) (op_178 m) (Xmu.cons (f:=fdA Try.prog 180 1) (ft:=3) (by kernel_rfl) (by kernel_rfl) (by kernel_rfl) (Xw5 m) Xmu.nil))) ?_
 intro w cs n hl hr
 obtain ⟨y0,h0,q0,n0,m0,rfl,z0,hr⟩:=hr
 have e0:=h0
 obtain ⟨r0,rfl,d0⟩:=tkN e0 rfl
 rw [d0] at hr
 replace hl:=rz hl
 obtain ⟨y1,h1,q1,n1,m1,rfl,z1,hr⟩:=hr
 have e1:=h1
 obtain ⟨r1,rfl,d1⟩:=tkN e1 rfl
 replace hl:=rz hl
 obtain rfl:=List.eq_nil_of_length_eq_zero hl
 exact ⟨⟨y0,y1⟩,rfl,⟨q0,q1⟩,by show 1 + 1 + 1≤_; omega⟩
theorem op_159:Xmi Try.prog 159 (Kd.slice Xol) (fun xs:List Xp7=>xs.length * 16≤reachBytes∧∀ x ∈ xs,Xud x) (fun xs:List Xp7=>Xo8 Xso xs + 1):=Xmi.slice (e:=180) (by kernel_rfl) (by kernel_rfl) (by kernel_rfl) (by decide) op_180
theorem op_49:Xmi Try.prog 49 (Kd.slice (Kd.slice Xol)) (fun xs:List (List Xp7)=>xs.length * 24≤reachBytes∧∀ x ∈ xs,(fun xs:List Xp7=>xs.length * 16≤reachBytes∧∀ x ∈ xs,Xud x) x) (fun xs:List (List Xp7)=>Xo8 (fun xs:List Xp7=>Xo8 Xso xs + 1) xs + 1):=Xmi.slice (e:=159) (by kernel_rfl) (by kernel_rfl) (by kernel_rfl) (by decide) op_159
theorem op_50:Xmi Try.prog 50 (Kd.slice (Kd.slice (Xs2 .i64))) (fun xs:List (List Int)=>xs.length * 24≤reachBytes∧∀ x ∈ xs,(fun xs:List Int=>xs.length * 8≤reachBytes∧∀ x ∈ xs,(fun n:Int=>(Lit.int .i64 n).wf=true) x) x) (fun xs:List (List Int)=>Xo8 (fun xs:List Int=>Xo8 (fun _:Int=>1) xs + 1) xs + 1):=Xmi.slice (e:=23) (by kernel_rfl) (by kernel_rfl) (by kernel_rfl) (by decide) op_23
def Xwi (x:Xxq):Nat:=(Xo8 (fun xs:List Xp7=>Xo8 Xso xs + 1) x.actions + 1) + (Xo8 (fun xs:List Int=>Xo8 (fun _:Int=>1) xs + 1) x.gotos + 1) + 1
def Ya6 (x:Xxq):Prop:=(fun xs:List (List Xp7)=>xs.length * 24≤reachBytes∧∀ x ∈ xs,(fun xs:List Xp7=>xs.length * 16≤reachBytes∧∀ x ∈ xs,Xud x) x) x.actions∧(fun xs:List (List Int)=>xs.length * 24≤reachBytes∧∀ x ∈ xs,(fun xs:List Int=>xs.length * 8≤reachBytes∧∀ x ∈ xs,(fun n:Int=>(Lit.int .i64 n).wf=true) x) x) x.gotos
theorem op_52:Xmi Try.prog 52 Yds Ya6 Xwi:=by
 refine Xmi.struct (fs:=stF Try.prog 52) (fl:=[fdA Try.prog 52 0,fdA Try.prog 52 1]) (by kernel_rfl) (by kernel_rfl) (by kernel_rfl) (fun m=>(Xmu.cons (f:=fdA Try.prog 52 0) (ft:=49) (by kernel_rfl) (by kernel_rfl) (by kernel_rfl) (op_49 m) (Xmu.cons (f:=fdA Try.prog 52 1) (ft:=50) (by kernel_rfl) (by kernel_rfl) (by kernel_rfl) (op_50 m) Xmu.nil))) ?_
 intro w cs n hl hr
 obtain ⟨y0,h0,q0,n0,m0,rfl,z0,hr⟩:=hr
 obtain ⟨_,_,_,e0,k0_0⟩:=h0
 obtain ⟨r0,rfl,d0⟩:=tkN e0 rfl
 rw [d0] at hr
 replace hl:=rz hl
 obtain ⟨y1,h1,q1,n1,m1,rfl,z1,hr⟩:=hr
 obtain ⟨_,_,_,e1,k1_0⟩:=h1
 obtain ⟨r1,rfl,d1⟩:=tkN e1 rfl
 replace hl:=rz hl
 obtain rfl:=List.eq_nil_of_length_eq_zero hl
 exact ⟨⟨y0,y1⟩,⟨_,_,_,_,_,_,rfl,k0_0,k1_0⟩,⟨q0,q1⟩,by show (Xo8 (fun xs:List Xp7=>Xo8 Xso xs + 1) y0 + 1) + (Xo8 (fun xs:List Int=>Xo8 (fun _:Int=>1) xs + 1) y1 + 1) + 1≤_; omega⟩
def Xss (x:Xr8):Nat:=(x.name.size + 1) + (x.class_.size + 1) + 1
def Xv0 (x:Xr8):Prop:=(fun s:ByteArray=>s.size≤reachBytes) x.name∧(fun s:ByteArray=>s.size≤reachBytes) x.class_
theorem op_161:Xmi Try.prog 161 Xoc Xv0 Xss:=by
 refine Xmi.struct (fs:=stF Try.prog 161) (fl:=[fdA Try.prog 161 0,fdA Try.prog 161 1]) (by kernel_rfl) (by kernel_rfl) (by kernel_rfl) (fun m=>(Xmu.cons (f:=fdA Try.prog 161 0) (ft:=9) (by kernel_rfl) (by kernel_rfl) (by kernel_rfl) (Xxx m) (Xmu.cons (f:=fdA Try.prog 161 1) (ft:=9) (by kernel_rfl) (by kernel_rfl) (by kernel_rfl) (Xxx m) Xmu.nil))) ?_
 intro w cs n hl hr
 obtain ⟨y0,h0,q0,n0,m0,rfl,z0,hr⟩:=hr
 have e0:=h0
 obtain ⟨r0,rfl,d0⟩:=tkN e0 rfl
 rw [d0] at hr
 replace hl:=rz hl
 obtain ⟨y1,h1,q1,n1,m1,rfl,z1,hr⟩:=hr
 have e1:=h1
 obtain ⟨r1,rfl,d1⟩:=tkN e1 rfl
 replace hl:=rz hl
 obtain rfl:=List.eq_nil_of_length_eq_zero hl
 exact ⟨⟨y0,y1⟩,rfl,⟨q0,q1⟩,by show (y0.size + 1) + (y1.size + 1) + 1≤_; omega⟩
theorem op_53:Xmi Try.prog 53 (Kd.slice Xoc) (fun xs:List Xr8=>xs.length * 32≤reachBytes∧∀ x ∈ xs,Xv0 x) (fun xs:List Xr8=>Xo8 Xss xs + 1):=Xmi.slice (e:=161) (by kernel_rfl) (by kernel_rfl) (by kernel_rfl) (by decide) op_161
theorem op_54:Xmi Try.prog 54 (Kd.slice Xz4) (fun xs:List ByteArray=>xs.length * 16≤reachBytes∧∀ x ∈ xs,(fun s:ByteArray=>s.size≤reachBytes) x) (fun xs:List ByteArray=>Xo8 (fun s:ByteArray=>s.size + 1) xs + 1):=Xmi.slice (e:=9) (by kernel_rfl) (by kernel_rfl) (by kernel_rfl) (by decide) Xxx
def Xt6 (x:Xru):Nat:=(x.name.size + 1) + (x.field.size + 1) + 1
def Xvq (x:Xru):Prop:=(fun s:ByteArray=>s.size≤reachBytes) x.name∧(fun s:ByteArray=>s.size≤reachBytes) x.field
theorem op_163:Xmi Try.prog 163 Xop Xvq Xt6:=by
 refine Xmi.struct (fs:=stF Try.prog 163) (fl:=[fdA Try.prog 163 0,fdA Try.prog 163 1]) (by kernel_rfl) (by kernel_rfl) (by kernel_rfl) (fun m=>(Xmu.cons (f:=fdA Try.prog 163 0) (ft:=9) (by kernel_rfl) (by kernel_rfl) (by kernel_rfl) (Xxx m) (Xmu.cons (f:=fdA Try.prog 163 1) (ft:=9) (by kernel_rfl) (by kernel_rfl) (by kernel_rfl) (Xxx m) Xmu.nil))) ?_
 intro w cs n hl hr
 obtain ⟨y0,h0,q0,n0,m0,rfl,z0,hr⟩:=hr
 have e0:=h0
 obtain ⟨r0,rfl,d0⟩:=tkN e0 rfl
 rw [d0] at hr
 replace hl:=rz hl
 obtain ⟨y1,h1,q1,n1,m1,rfl,z1,hr⟩:=hr
 have e1:=h1
 obtain ⟨r1,rfl,d1⟩:=tkN e1 rfl
 replace hl:=rz hl
 obtain rfl:=List.eq_nil_of_length_eq_zero hl
 exact ⟨⟨y0,y1⟩,rfl,⟨q0,q1⟩,by show (y0.size + 1) + (y1.size + 1) + 1≤_; omega⟩
theorem op_55:Xmi Try.prog 55 (Kd.slice Xop) (fun xs:List Xru=>xs.length * 32≤reachBytes∧∀ x ∈ xs,Xvq x) (fun xs:List Xru=>Xo8 Xt6 xs + 1):=Xmi.slice (e:=163) (by kernel_rfl) (by kernel_rfl) (by kernel_rfl) (by decide) op_163
def Xsh (x:Xqo):Nat:=(x.name.size + 1) + (x.lang.size + 1) + 1
def Xu7 (x:Xqo):Prop:=(fun s:ByteArray=>s.size≤reachBytes) x.name∧(fun s:ByteArray=>s.size≤reachBytes) x.lang
theorem op_165:Xmi Try.prog 165 Xo4 Xu7 Xsh:=by
 refine Xmi.struct (fs:=stF Try.prog 165) (fl:=[fdA Try.prog 165 0,fdA Try.prog 165 1]) (by kernel_rfl) (by kernel_rfl) (by kernel_rfl) (fun m=>(Xmu.cons (f:=fdA Try.prog 165 0) (ft:=9) (by kernel_rfl) (by kernel_rfl) (by kernel_rfl) (Xxx m) (Xmu.cons (f:=fdA Try.prog 165 1) (ft:=9) (by kernel_rfl) (by kernel_rfl) (by kernel_rfl) (Xxx m) Xmu.nil))) ?_
 intro w cs n hl hr
 obtain ⟨y0,h0,q0,n0,m0,rfl,z0,hr⟩:=hr
 have e0:=h0
 obtain ⟨r0,rfl,d0⟩:=tkN e0 rfl
 rw [d0] at hr
 replace hl:=rz hl
 obtain ⟨y1,h1,q1,n1,m1,rfl,z1,hr⟩:=hr
 have e1:=h1
 obtain ⟨r1,rfl,d1⟩:=tkN e1 rfl
 replace hl:=rz hl
 obtain rfl:=List.eq_nil_of_length_eq_zero hl
 exact ⟨⟨y0,y1⟩,rfl,⟨q0,q1⟩,by show (y0.size + 1) + (y1.size + 1) + 1≤_; omega⟩
theorem op_56:Xmi Try.prog 56 (Kd.slice Xo4) (fun xs:List Xqo=>xs.length * 32≤reachBytes∧∀ x ∈ xs,Xu7 x) (fun xs:List Xqo=>Xo8 Xsh xs + 1):=Xmi.slice (e:=165) (by kernel_rfl) (by kernel_rfl) (by kernel_rfl) (by decide) op_165
def Xvg (x:Xml):Nat:=(x.name.size + 1) + (Xo8 Xtc x.modes + 1) + (Xx7 x.gram) + (Xo8 Xv9 x.rules + 1) + (Xwi x.table) + (Xo8 Xss x.paints + 1) + (Xo8 (fun s:ByteArray=>s.size + 1) x.folds + 1) + (Xo8 Xt6 x.marks + 1) + (Xo8 Xsh x.injects + 1) + 1
def Xyc (x:Xml):Prop:=(fun s:ByteArray=>s.size≤reachBytes) x.name∧(fun xs:List Xrt=>xs.length * 24≤reachBytes∧∀ x ∈ xs,Xvv x) x.modes∧Ybf x.gram∧(fun xs:List Xux=>xs.length * 128≤reachBytes∧∀ x ∈ xs,Xyf x) x.rules∧Ya6 x.table∧(fun xs:List Xr8=>xs.length * 32≤reachBytes∧∀ x ∈ xs,Xv0 x) x.paints∧(fun xs:List ByteArray=>xs.length * 16≤reachBytes∧∀ x ∈ xs,(fun s:ByteArray=>s.size≤reachBytes) x) x.folds∧(fun xs:List Xru=>xs.length * 32≤reachBytes∧∀ x ∈ xs,Xvq x) x.marks∧(fun xs:List Xqo=>xs.length * 32≤reachBytes∧∀ x ∈ xs,Xu7 x) x.injects
theorem op_58:Xmi Try.prog 58 Yem Xyc Xvg:=by
 refine Xmi.struct (fs:=stF Try.prog 58) (fl:=[fdA Try.prog 58 0,fdA Try.prog 58 1,fdA Try.prog 58 2,fdA Try.prog 58 3,fdA Try.prog 58 4,fdA Try.prog 58 5,fdA Try.prog 58 6,fdA Try.prog 58 7,fdA Try.prog 58 8]) (by kernel_rfl) (by kernel_rfl) (by kernel_rfl) (fun m=>(Xmu.cons (f:=fdA Try.prog 58 0) (ft:=9) (by kernel_rfl) (by kernel_rfl) (by kernel_rfl) (Xxx m) (Xmu.cons (f:=fdA Try.prog 58 1) (ft:=42) (by kernel_rfl) (by kernel_rfl) (by kernel_rfl) (op_42 m) (Xmu.cons (f:=fdA Try.prog 58 2) (ft:=47) (by kernel_rfl) (by kernel_rfl) (by kernel_rfl) (op_47 m) (Xmu.cons (f:=fdA Try.prog 58 3) (ft:=48) (by kernel_rfl) (by kernel_rfl) (by kernel_rfl) (op_48 m) (Xmu.cons (f:=fdA Try.prog 58 4) (ft:=52) (by kernel_rfl) (by kernel_rfl) (by kernel_rfl) (op_52 m) (Xmu.cons (f:=fdA Try.prog 58 5) (ft:=53) (by kernel_rfl) (by kernel_rfl) (by kernel_rfl) (op_53 m) (Xmu.cons (f:=fdA Try.prog 58 6) (ft:=54) (by kernel_rfl) (by kernel_rfl) (by kernel_rfl) (op_54 m) (Xmu.cons (f:=fdA Try.prog 58 7) (ft:=55) (by kernel_rfl) (by kernel_rfl) (by kernel_rfl) (op_55 m) (Xmu.cons (f:=fdA Try.prog 58 8) (ft:=56) (by kernel_rfl) (by kernel_rfl) (by kernel_rfl) (op_56 m) Xmu.nil)))))))))) ?_
 intro w cs n hl hr
 obtain ⟨y0,h0,q0,n0,m0,rfl,z0,hr⟩:=hr
 have e0:=h0
 obtain ⟨r0,rfl,d0⟩:=tkN e0 rfl
 rw [d0] at hr
 replace hl:=rz hl
 obtain ⟨y1,h1,q1,n1,m1,rfl,z1,hr⟩:=hr
 obtain ⟨_,_,_,e1,k1_0⟩:=h1
 obtain ⟨r1,rfl,d1⟩:=tkN e1 rfl
 rw [d1] at hr
 replace hl:=rz hl
 obtain ⟨y2,h2,q2,n2,m2,rfl,z2,hr⟩:=hr
 obtain ⟨_,_,_,_,_,_,_,_,_,e2,k2_0,k2_1,k2_2⟩:=h2
 obtain ⟨r2,rfl,d2⟩:=tkN e2 rfl
 rw [d2] at hr
 replace hl:=rz hl
 obtain ⟨y3,h3,q3,n3,m3,rfl,z3,hr⟩:=hr
 obtain ⟨_,_,_,e3,k3_0⟩:=h3
 obtain ⟨r3,rfl,d3⟩:=tkN e3 rfl
 rw [d3] at hr
 replace hl:=rz hl
 obtain ⟨y4,h4,q4,n4,m4,rfl,z4,hr⟩:=hr
 obtain ⟨_,_,_,_,_,_,e4,k4_0,k4_1⟩:=h4
 obtain ⟨r4,rfl,d4⟩:=tkN e4 rfl
 rw [d4] at hr
 replace hl:=rz hl
 obtain ⟨y5,h5,q5,n5,m5,rfl,z5,hr⟩:=hr
 obtain ⟨_,_,_,e5,k5_0⟩:=h5
 obtain ⟨r5,rfl,d5⟩:=tkN e5 rfl
 rw [d5] at hr
 replace hl:=rz hl
 obtain ⟨y6,h6,q6,n6,m6,rfl,z6,hr⟩:=hr
 obtain ⟨_,_,_,e6,k6_0⟩:=h6
 obtain ⟨r6,rfl,d6⟩:=tkN e6 rfl
 rw [d6] at hr
 replace hl:=rz hl
 obtain ⟨y7,h7,q7,n7,m7,rfl,z7,hr⟩:=hr
 obtain ⟨_,_,_,e7,k7_0⟩:=h7
 obtain ⟨r7,rfl,d7⟩:=tkN e7 rfl
 rw [d7] at hr
 replace hl:=rz hl
 obtain ⟨y8,h8,q8,n8,m8,rfl,z8,hr⟩:=hr
 obtain ⟨_,_,_,e8,k8_0⟩:=h8
 obtain ⟨r8,rfl,d8⟩:=tkN e8 rfl
 replace hl:=rz hl
 obtain rfl:=List.eq_nil_of_length_eq_zero hl
 exact ⟨⟨y0,y1,y2,y3,y4,y5,y6,y7,y8⟩,⟨_,_,_,_,_,_,_,_,_,_,_,_,_,_,_,_,_,_,_,_,_,_,_,_,_,_,_,_,_,_,_,_,_,rfl,k1_0,k2_0,k2_1,k2_2,k3_0,k4_0,k4_1,k5_0,k6_0,k7_0,k8_0⟩,⟨q0,q1,q2,q3,q4,q5,q6,q7,q8⟩,by show (y0.size + 1) + (Xo8 Xtc y1 + 1) + (Xx7 y2) + (Xo8 Xv9 y3 + 1) + (Xwi y4) + (Xo8 Xss y5 + 1) + (Xo8 (fun s:ByteArray=>s.size + 1) y6 + 1) + (Xo8 Xt6 y7 + 1) + (Xo8 Xsh y8 + 1) + 1≤_; omega⟩
def Xpc (x:Xm4):Nat:=(x.name.size + 1) + 1 + (x.field.size + 1) + 1 + 1 + 1 + 1 + 1
def Xwq (x:Xm4):Prop:=(fun s:ByteArray=>s.size≤reachBytes) x.name∧(fun _:Bool=>True) x.named∧(fun s:ByteArray=>s.size≤reachBytes) x.field∧(fun n:Int=>(Lit.int .i64 n).wf=true) x.from_∧(fun n:Int=>(Lit.int .i64 n).wf=true) x.to∧(fun n:Int=>(Lit.int .i64 n).wf=true) x.kids∧(fun n:Int=>(Lit.int .i64 n).wf=true) x.leaf
theorem op_39:Xmi Try.prog 39 Xmo Xwq Xpc:=by
 refine Xmi.struct (fs:=stF Try.prog 39) (fl:=[fdA Try.prog 39 0,fdA Try.prog 39 1,fdA Try.prog 39 2,fdA Try.prog 39 3,fdA Try.prog 39 4,fdA Try.prog 39 5,fdA Try.prog 39 6]) (by kernel_rfl) (by kernel_rfl) (by kernel_rfl) (fun m=>(Xmu.cons (f:=fdA Try.prog 39 0) (ft:=9) (by kernel_rfl) (by kernel_rfl) (by kernel_rfl) (Xxx m) (Xmu.cons (f:=fdA Try.prog 39 1) (ft:=4) (by kernel_rfl) (by kernel_rfl) (by kernel_rfl) (op_4 m) (Xmu.cons (f:=fdA Try.prog 39 2) (ft:=9) (by kernel_rfl) (by kernel_rfl) (by kernel_rfl) (Xxx m) (Xmu.cons (f:=fdA Try.prog 39 3) (ft:=3) (by kernel_rfl) (by kernel_rfl) (by kernel_rfl) (Xw5 m) (Xmu.cons (f:=fdA Try.prog 39 4) (ft:=3) (by kernel_rfl) (by kernel_rfl) (by kernel_rfl) (Xw5 m) (Xmu.cons (f:=fdA Try.prog 39 5) (ft:=3) (by kernel_rfl) (by kernel_rfl) (by kernel_rfl) (Xw5 m) (Xmu.cons (f:=fdA Try.prog 39 6) (ft:=3) (by kernel_rfl) (by kernel_rfl) (by kernel_rfl) (Xw5 m) Xmu.nil)))))))) ?_
 intro w cs n hl hr
 obtain ⟨y0,h0,q0,n0,m0,rfl,z0,hr⟩:=hr
 have e0:=h0
 obtain ⟨r0,rfl,d0⟩:=tkN e0 rfl
 rw [d0] at hr
 replace hl:=rz hl
 obtain ⟨y1,h1,q1,n1,m1,rfl,z1,hr⟩:=hr
 have e1:=h1
 obtain ⟨r1,rfl,d1⟩:=tkN e1 rfl
 rw [d1] at hr
 replace hl:=rz hl
 obtain ⟨y2,h2,q2,n2,m2,rfl,z2,hr⟩:=hr
 have e2:=h2
 obtain ⟨r2,rfl,d2⟩:=tkN e2 rfl
 rw [d2] at hr
 replace hl:=rz hl
 obtain ⟨y3,h3,q3,n3,m3,rfl,z3,hr⟩:=hr
 have e3:=h3
 obtain ⟨r3,rfl,d3⟩:=tkN e3 rfl
 rw [d3] at hr
 replace hl:=rz hl
 obtain ⟨y4,h4,q4,n4,m4,rfl,z4,hr⟩:=hr
 have e4:=h4
 obtain ⟨r4,rfl,d4⟩:=tkN e4 rfl
 rw [d4] at hr
 replace hl:=rz hl
 obtain ⟨y5,h5,q5,n5,m5,rfl,z5,hr⟩:=hr
 have e5:=h5
 obtain ⟨r5,rfl,d5⟩:=tkN e5 rfl
 rw [d5] at hr
 replace hl:=rz hl
 obtain ⟨y6,h6,q6,n6,m6,rfl,z6,hr⟩:=hr
 have e6:=h6
 obtain ⟨r6,rfl,d6⟩:=tkN e6 rfl
 replace hl:=rz hl
 obtain rfl:=List.eq_nil_of_length_eq_zero hl
 exact ⟨⟨y0,y1,y2,y3,y4,y5,y6⟩,rfl,⟨q0,q1,q2,q3,q4,q5,q6⟩,by show (y0.size + 1) + 1 + (y2.size + 1) + 1 + 1 + 1 + 1 + 1≤_; omega⟩
theorem op_22:Xmi Try.prog 22 (Kd.slice Xmo) (fun xs:List Xm4=>xs.length * 72≤reachBytes∧∀ x ∈ xs,Xwq x) (fun xs:List Xm4=>Xo8 Xpc xs + 1):=Xmi.slice (e:=39) (by kernel_rfl) (by kernel_rfl) (by kernel_rfl) (by decide) op_39
theorem op_59:Xmi Try.prog 59 (Kd.slice (Kd.slice Xmo)) (fun xs:List (List Xm4)=>xs.length * 24≤reachBytes∧∀ x ∈ xs,(fun xs:List Xm4=>xs.length * 72≤reachBytes∧∀ x ∈ xs,Xwq x) x) (fun xs:List (List Xm4)=>Xo8 (fun xs:List Xm4=>Xo8 Xpc xs + 1) xs + 1):=Xmi.slice (e:=22) (by kernel_rfl) (by kernel_rfl) (by kernel_rfl) (by decide) op_22
end Go.Proofs.Ytmekgfcfooghnaa.K
