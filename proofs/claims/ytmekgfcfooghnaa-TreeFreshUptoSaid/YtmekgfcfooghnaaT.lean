/- What a reading of the arguments tells, type by type, printed by my own tool. No condition. -/
import Derived.Test.YtmekgfcfooghnaaT0
import Derived.Test.YtmekgfcfooghnaaK0
set_option linter.unusedVariables false
set_option maxRecDepth 100000
namespace Go.Proofs.Ytmekgfcfooghnaa.K
open Go.Proofs.Ytmekgfcfooghnaa.B Go.Proofs.Ytmekgfcfooghnaa.R Go.RowKit
theorem Xyt:Xmo Try.prog 9 Ybz (fun s:ByteArray=>s.size≤reachBytes) (fun s:ByteArray=>s.size + 1):=Xmo.str (by kernel_rfl)
theorem op_4:Xmo Try.prog 4 kBool (fun _:Bool=>True) (fun _:Bool=>1):=Xmo.bool (by kernel_rfl)
def Xu8 (x:Xps):Nat:=(x.name.size + 1) + 1 + 1
def Xwn (x:Xps):Prop:=(fun s:ByteArray=>s.size≤reachBytes) x.name∧(fun _:Bool=>True) x.open_
theorem op_152:Xmo Try.prog 152 Xqh Xwn Xu8:=by
 refine Xmo.struct (fs:=stF Try.prog 152) (fl:=[fdA Try.prog 152 0,fdA Try.prog 152 1]) (by kernel_rfl) (by kernel_rfl) (by kernel_rfl) (fun m=>(Xn2.cons (f:=fdA Try.prog 152 0) (ft:=9) (by kernel_rfl) (by kernel_rfl) (by kernel_rfl) (Xyt m) (Xn2.cons (f:=fdA Try.prog 152 1) (ft:=4) (by kernel_rfl) (by kernel_rfl) (by kernel_rfl) (op_4 m) Xn2.nil))) ?_
 intro w cs n hl hr
 obtain ⟨y0,h0,q0,n0,m0,rfl,z0,hr⟩:=hr
 have e0:=h0
 obtain ⟨r0,rfl,d0⟩:=tkN e0 rfl
 rw [d0] at hr
 replace hl:=rz hl
 obtain ⟨y1,h1,q1,n1,m1,rfl,z1,hr⟩:=hr
 have e1:=h1
 obtain ⟨r1,rfl,d1⟩:=tkN e1 rfl
 replace hl:=rz hl
 obtain rfl:=List.eq_nil_of_length_eq_zero hl
 exact ⟨⟨y0,y1⟩,rfl,⟨q0,q1⟩,by show (y0.size + 1) + 1 + 1≤_; omega⟩
theorem op_42:Xmo Try.prog 42 (Kd.slice Xqh) (fun xs:List Xps=>xs.length * 24≤reachBytes∧∀ x ∈ xs,Xwn x) (fun xs:List Xps=>Xom Xu8 xs + 1):=Xmo.slice (e:=152) (by kernel_rfl) (by kernel_rfl) (by kernel_rfl) (by decide) op_152
def Xu2 (x:Xna):Nat:=(x.name.size + 1) + 1 + 1
def Xwh (x:Xna):Prop:=(fun s:ByteArray=>s.size≤reachBytes) x.name∧(fun _:Bool=>True) x.lit
theorem op_100:Xmo Try.prog 100 Xnt Xwh Xu2:=by
 refine Xmo.struct (fs:=stF Try.prog 100) (fl:=[fdA Try.prog 100 0,fdA Try.prog 100 1]) (by kernel_rfl) (by kernel_rfl) (by kernel_rfl) (fun m=>(Xn2.cons (f:=fdA Try.prog 100 0) (ft:=9) (by kernel_rfl) (by kernel_rfl) (by kernel_rfl) (Xyt m) (Xn2.cons (f:=fdA Try.prog 100 1) (ft:=4) (by kernel_rfl) (by kernel_rfl) (by kernel_rfl) (op_4 m) Xn2.nil))) ?_
 intro w cs n hl hr
 obtain ⟨y0,h0,q0,n0,m0,rfl,z0,hr⟩:=hr
 have e0:=h0
 obtain ⟨r0,rfl,d0⟩:=tkN e0 rfl
 rw [d0] at hr
 replace hl:=rz hl
 obtain ⟨y1,h1,q1,n1,m1,rfl,z1,hr⟩:=hr
 have e1:=h1
 obtain ⟨r1,rfl,d1⟩:=tkN e1 rfl
 replace hl:=rz hl
 obtain rfl:=List.eq_nil_of_length_eq_zero hl
 exact ⟨⟨y0,y1⟩,rfl,⟨q0,q1⟩,by show (y0.size + 1) + 1 + 1≤_; omega⟩
theorem op_43:Xmo Try.prog 43 (Kd.slice Xnt) (fun xs:List Xna=>xs.length * 24≤reachBytes∧∀ x ∈ xs,Xwh x) (fun xs:List Xna=>Xom Xu2 xs + 1):=Xmo.slice (e:=100) (by kernel_rfl) (by kernel_rfl) (by kernel_rfl) (by decide) op_100
theorem op_72:Xmo Try.prog 72 (Xsu .i64) (fun n:Int=>(Lit.int .i64 n).wf=true) (fun _:Int=>1):=Xmo.int (by kernel_rfl)
def Xx8 (x:Xq9):Nat:=(x.name.size + 1) + 1 + 1
def Yax (x:Xq9):Prop:=(fun s:ByteArray=>s.size≤reachBytes) x.name∧(fun n:Int=>(Lit.int .i64 n).wf=true) x.kind
theorem op_74:Xmo Try.prog 74 Xpk Yax Xx8:=by
 refine Xmo.struct (fs:=stF Try.prog 74) (fl:=[fdA Try.prog 74 0,fdA Try.prog 74 1]) (by kernel_rfl) (by kernel_rfl) (by kernel_rfl) (fun m=>(Xn2.cons (f:=fdA Try.prog 74 0) (ft:=9) (by kernel_rfl) (by kernel_rfl) (by kernel_rfl) (Xyt m) (Xn2.cons (f:=fdA Try.prog 74 1) (ft:=72) (by kernel_rfl) (by kernel_rfl) (by kernel_rfl) (op_72 m) Xn2.nil))) ?_
 intro w cs n hl hr
 obtain ⟨y0,h0,q0,n0,m0,rfl,z0,hr⟩:=hr
 have e0:=h0
 obtain ⟨r0,rfl,d0⟩:=tkN e0 rfl
 rw [d0] at hr
 replace hl:=rz hl
 obtain ⟨y1,h1,q1,n1,m1,rfl,z1,hr⟩:=hr
 have e1:=h1
 obtain ⟨r1,rfl,d1⟩:=tkN e1 rfl
 replace hl:=rz hl
 obtain rfl:=List.eq_nil_of_length_eq_zero hl
 exact ⟨⟨y0,y1⟩,rfl,⟨q0,q1⟩,by show (y0.size + 1) + 1 + 1≤_; omega⟩
theorem op_44:Xmo Try.prog 44 (Kd.slice Xpk) (fun xs:List Xq9=>xs.length * 24≤reachBytes∧∀ x ∈ xs,Yax x) (fun xs:List Xq9=>Xom Xx8 xs + 1):=Xmo.slice (e:=74) (by kernel_rfl) (by kernel_rfl) (by kernel_rfl) (by decide) op_74
theorem Xys:Xmo Try.prog 3 (Xsu .i64) (fun n:Int=>(Lit.int .i64 n).wf=true) (fun _:Int=>1):=Xmo.int (by kernel_rfl)
def Xxm (x:Xn1):Nat:=1 + (x.field.size + 1) + (x.as.size + 1) + 1
def Yas (x:Xn1):Prop:=(fun n:Int=>(Lit.int .i64 n).wf=true) x.sym∧(fun s:ByteArray=>s.size≤reachBytes) x.field∧(fun s:ByteArray=>s.size≤reachBytes) x.as
theorem op_104:Xmo Try.prog 104 Xx6 Yas Xxm:=by
 refine Xmo.struct (fs:=stF Try.prog 104) (fl:=[fdA Try.prog 104 0,fdA Try.prog 104 1,fdA Try.prog 104 2]) (by kernel_rfl) (by kernel_rfl) (by kernel_rfl) (fun m=>(Xn2.cons (f:=fdA Try.prog 104 0) (ft:=3) (by kernel_rfl) (by kernel_rfl) (by kernel_rfl) (Xys m) (Xn2.cons (f:=fdA Try.prog 104 1) (ft:=9) (by kernel_rfl) (by kernel_rfl) (by kernel_rfl) (Xyt m) (Xn2.cons (f:=fdA Try.prog 104 2) (ft:=9) (by kernel_rfl) (by kernel_rfl) (by kernel_rfl) (Xyt m) Xn2.nil)))) ?_
 intro w cs n hl hr
 obtain ⟨y0,h0,q0,n0,m0,rfl,z0,hr⟩:=hr
 have e0:=h0
 obtain ⟨r0,rfl,d0⟩:=tkN e0 rfl
 rw [d0] at hr
 replace hl:=rz hl
 obtain ⟨y1,h1,q1,n1,m1,rfl,z1,hr⟩:=hr
 have e1:=h1
 obtain ⟨r1,rfl,d1⟩:=tkN e1 rfl
 rw [d1] at hr
 replace hl:=rz hl
 obtain ⟨y2,h2,q2,n2,m2,rfl,z2,hr⟩:=hr
 have e2:=h2
 obtain ⟨r2,rfl,d2⟩:=tkN e2 rfl
 replace hl:=rz hl
 obtain rfl:=List.eq_nil_of_length_eq_zero hl
 exact ⟨⟨y0,y1,y2⟩,rfl,⟨q0,q1,q2⟩,by show 1 + (y1.size + 1) + (y2.size + 1) + 1≤_; omega⟩
theorem op_105:Xmo Try.prog 105 (Kd.slice Xx6) (fun xs:List Xn1=>xs.length * 40≤reachBytes∧∀ x ∈ xs,Yas x) (fun xs:List Xn1=>Xom Xxm xs + 1):=Xmo.slice (e:=104) (by kernel_rfl) (by kernel_rfl) (by kernel_rfl) (by decide) op_104
def Xw8 (x:Xnz):Nat:=1 + (Xom Xxm x.rhs + 1) + 1
def Xz4 (x:Xnz):Prop:=(fun n:Int=>(Lit.int .i64 n).wf=true) x.lhs∧(fun xs:List Xn1=>xs.length * 40≤reachBytes∧∀ x ∈ xs,Yas x) x.rhs
theorem op_107:Xmo Try.prog 107 Xos Xz4 Xw8:=by
 refine Xmo.struct (fs:=stF Try.prog 107) (fl:=[fdA Try.prog 107 0,fdA Try.prog 107 1]) (by kernel_rfl) (by kernel_rfl) (by kernel_rfl) (fun m=>(Xn2.cons (f:=fdA Try.prog 107 0) (ft:=3) (by kernel_rfl) (by kernel_rfl) (by kernel_rfl) (Xys m) (Xn2.cons (f:=fdA Try.prog 107 1) (ft:=105) (by kernel_rfl) (by kernel_rfl) (by kernel_rfl) (op_105 m) Xn2.nil))) ?_
 intro w cs n hl hr
 obtain ⟨y0,h0,q0,n0,m0,rfl,z0,hr⟩:=hr
 have e0:=h0
 obtain ⟨r0,rfl,d0⟩:=tkN e0 rfl
 rw [d0] at hr
 replace hl:=rz hl
 obtain ⟨y1,h1,q1,n1,m1,rfl,z1,hr⟩:=hr
 obtain ⟨_,_,_,e1,k1_0⟩:=h1
 obtain ⟨r1,rfl,d1⟩:=tkN e1 rfl
 replace hl:=rz hl
 obtain rfl:=List.eq_nil_of_length_eq_zero hl
 exact ⟨⟨y0,y1⟩,⟨_,_,_,rfl,k1_0⟩,⟨q0,q1⟩,by show 1 + (Xom Xxm y1 + 1) + 1≤_; omega⟩
theorem op_45:Xmo Try.prog 45 (Kd.slice Xos) (fun xs:List Xnz=>xs.length * 32≤reachBytes∧∀ x ∈ xs,Xz4 x) (fun xs:List Xnz=>Xom Xw8 xs + 1):=Xmo.slice (e:=107) (by kernel_rfl) (by kernel_rfl) (by kernel_rfl) (by decide) op_107
def Xy4 (x:Xnn):Nat:=(Xom Xu2 x.terms + 1) + (Xom Xx8 x.syms + 1) + (Xom Xw8 x.prods + 1) + 1
def Yc6 (x:Xnn):Prop:=(fun xs:List Xna=>xs.length * 24≤reachBytes∧∀ x ∈ xs,Xwh x) x.terms∧(fun xs:List Xq9=>xs.length * 24≤reachBytes∧∀ x ∈ xs,Yax x) x.syms∧(fun xs:List Xnz=>xs.length * 32≤reachBytes∧∀ x ∈ xs,Xz4 x) x.prods
theorem op_47:Xmo Try.prog 47 Yg5 Yc6 Xy4:=by
 refine Xmo.struct (fs:=stF Try.prog 47) (fl:=[fdA Try.prog 47 0,fdA Try.prog 47 1,fdA Try.prog 47 2]) (by kernel_rfl) (by kernel_rfl) (by kernel_rfl) (fun m=>(Xn2.cons (f:=fdA Try.prog 47 0) (ft:=43) (by kernel_rfl) (by kernel_rfl) (by kernel_rfl) (op_43 m) (Xn2.cons (f:=fdA Try.prog 47 1) (ft:=44) (by kernel_rfl) (by kernel_rfl) (by kernel_rfl) (op_44 m) (Xn2.cons (f:=fdA Try.prog 47 2) (ft:=45) (by kernel_rfl) (by kernel_rfl) (by kernel_rfl) (op_45 m) Xn2.nil)))) ?_
 intro w cs n hl hr
 obtain ⟨y0,h0,q0,n0,m0,rfl,z0,hr⟩:=hr
 obtain ⟨_,_,_,e0,k0_0⟩:=h0
 obtain ⟨r0,rfl,d0⟩:=tkN e0 rfl
 rw [d0] at hr
 replace hl:=rz hl
 obtain ⟨y1,h1,q1,n1,m1,rfl,z1,hr⟩:=hr
 obtain ⟨_,_,_,e1,k1_0⟩:=h1
 obtain ⟨r1,rfl,d1⟩:=tkN e1 rfl
 rw [d1] at hr
 replace hl:=rz hl
 obtain ⟨y2,h2,q2,n2,m2,rfl,z2,hr⟩:=hr
 obtain ⟨_,_,_,e2,k2_0⟩:=h2
 obtain ⟨r2,rfl,d2⟩:=tkN e2 rfl
 replace hl:=rz hl
 obtain rfl:=List.eq_nil_of_length_eq_zero hl
 exact ⟨⟨y0,y1,y2⟩,⟨_,_,_,_,_,_,_,_,_,rfl,k0_0,k1_0,k2_0⟩,⟨q0,q1,q2⟩,by show (Xom Xu2 y0 + 1) + (Xom Xx8 y1 + 1) + (Xom Xw8 y2 + 1) + 1≤_; omega⟩
theorem op_153:Xmo Try.prog 153 (Xsu .i64) (fun n:Int=>(Lit.int .i64 n).wf=true) (fun _:Int=>1):=Xmo.int (by kernel_rfl)
theorem op_166:Xmo Try.prog 166 (Xsu .i64) (fun n:Int=>(Lit.int .i64 n).wf=true) (fun _:Int=>1):=Xmo.int (by kernel_rfl)
theorem op_167:Xmo Try.prog 167 (Xsu .u64) (fun n:Int=>(Lit.int .u64 n).wf=true) (fun _:Int=>1):=Xmo.int (by kernel_rfl)
theorem op_169:Xmo Try.prog 169 (Kd.flat 4 (fun f:Int→Int=>(Xwo 4 fun j=>[.int .u64 (f j)])) (fun f=>(Xzt (sz:=1) (f:=fun j=>[.int .u64 (f j)]) (fun j=>rfl) 4)) (fun f u hu=>List.all_eq_true.1 ((Yf7 (f:=fun j=>[.int .u64 (f j)]) (fun j=>rfl) 4):List.all (Xwo 4 fun j=>[.int .u64 (f j)]) Value.oneCell'=true) u hu)) (fun f:Int→Int=>∀ j:Nat,j < 4→(fun n:Int=>(Lit.int .u64 n).wf=true) (f j)) (fun _:(Int→Int)=>1):=Xmo.arr (e:=167) (n:=4) (sz:=1) (enc:=fun y=>[.int .u64 y]) (by kernel_rfl) (by kernel_rfl) rfl (by kernel_rfl) (fun _ _ _ _ h=>h) op_167
def Xuk (x:Xrq):Nat:=1 + 1 + 1 + 1 + 1
def Xxf (x:Xrq):Prop:=(fun n:Int=>(Lit.int .i64 n).wf=true) x.op∧(fun f:Int→Int=>∀ j:Nat,j < 4→(fun n:Int=>(Lit.int .u64 n).wf=true) (f j)) x.set_∧(fun n:Int=>(Lit.int .i64 n).wf=true) x.a∧(fun n:Int=>(Lit.int .i64 n).wf=true) x.b
theorem op_171:Xmo Try.prog 171 Xx9 Xxf Xuk:=by
 refine Xmo.struct (fs:=stF Try.prog 171) (fl:=[fdA Try.prog 171 0,fdA Try.prog 171 1,fdA Try.prog 171 2,fdA Try.prog 171 3]) (by kernel_rfl) (by kernel_rfl) (by kernel_rfl) (fun m=>(Xn2.cons (f:=fdA Try.prog 171 0) (ft:=166) (by kernel_rfl) (by kernel_rfl) (by kernel_rfl) (op_166 m) (Xn2.cons (f:=fdA Try.prog 171 1) (ft:=169) (by kernel_rfl) (by kernel_rfl) (by kernel_rfl) (op_169 m) (Xn2.cons (f:=fdA Try.prog 171 2) (ft:=3) (by kernel_rfl) (by kernel_rfl) (by kernel_rfl) (Xys m) (Xn2.cons (f:=fdA Try.prog 171 3) (ft:=3) (by kernel_rfl) (by kernel_rfl) (by kernel_rfl) (Xys m) Xn2.nil))))) ?_
 intro w cs n hl hr
 obtain ⟨y0,h0,q0,n0,m0,rfl,z0,hr⟩:=hr
 have e0:=h0
 obtain ⟨r0,rfl,d0⟩:=tkN e0 rfl
 rw [d0] at hr
 replace hl:=rz hl
 obtain ⟨y1,h1,q1,n1,m1,rfl,z1,hr⟩:=hr
 have e1:=h1
 obtain ⟨r1,rfl,d1⟩:=tkN e1 (Xzt (sz:=1) (fun _=>rfl) 4)
 rw [d1] at hr
 replace hl:=rz hl
 obtain ⟨y2,h2,q2,n2,m2,rfl,z2,hr⟩:=hr
 have e2:=h2
 obtain ⟨r2,rfl,d2⟩:=tkN e2 rfl
 rw [d2] at hr
 replace hl:=rz hl
 obtain ⟨y3,h3,q3,n3,m3,rfl,z3,hr⟩:=hr
 have e3:=h3
 obtain ⟨r3,rfl,d3⟩:=tkN e3 rfl
 replace hl:=rz hl
 obtain rfl:=List.eq_nil_of_length_eq_zero hl
 exact ⟨⟨y0,y1,y2,y3⟩,rfl,⟨q0,q1,q2,q3⟩,by show 1 + 1 + 1 + 1 + 1≤_; omega⟩
theorem op_154:Xmo Try.prog 154 (Kd.slice Xx9) (fun xs:List Xrq=>xs.length * 56≤reachBytes∧∀ x ∈ xs,Xxf x) (fun xs:List Xrq=>Xom Xuk xs + 1):=Xmo.slice (e:=171) (by kernel_rfl) (by kernel_rfl) (by kernel_rfl) (by decide) op_171
theorem op_23:Xmo Try.prog 23 (Kd.slice (Xsu .i64)) (fun xs:List Int=>xs.length * 8≤reachBytes∧∀ x ∈ xs,(fun n:Int=>(Lit.int .i64 n).wf=true) x) (fun xs:List Int=>Xom (fun _:Int=>1) xs + 1):=Xmo.slice (e:=3) (by kernel_rfl) (by kernel_rfl) (by kernel_rfl) (by decide) Xys
theorem op_172:Xmo Try.prog 172 (Xsu .i64) (fun n:Int=>(Lit.int .i64 n).wf=true) (fun _:Int=>1):=Xmo.int (by kernel_rfl)
def Xw5 (x:Xuo):Nat:=1 + 1 + 1
def Xz1 (x:Xuo):Prop:=(fun n:Int=>(Lit.int .i64 n).wf=true) x.kind∧(fun n:Int=>(Lit.int .i64 n).wf=true) x.n
theorem op_174:Xmo Try.prog 174 Xz0 Xz1 Xw5:=by
 refine Xmo.struct (fs:=stF Try.prog 174) (fl:=[fdA Try.prog 174 0,fdA Try.prog 174 1]) (by kernel_rfl) (by kernel_rfl) (by kernel_rfl) (fun m=>(Xn2.cons (f:=fdA Try.prog 174 0) (ft:=172) (by kernel_rfl) (by kernel_rfl) (by kernel_rfl) (op_172 m) (Xn2.cons (f:=fdA Try.prog 174 1) (ft:=3) (by kernel_rfl) (by kernel_rfl) (by kernel_rfl) (Xys m) Xn2.nil))) ?_
 intro w cs n hl hr
 obtain ⟨y0,h0,q0,n0,m0,rfl,z0,hr⟩:=hr
 have e0:=h0
 obtain ⟨r0,rfl,d0⟩:=tkN e0 rfl
 rw [d0] at hr
 replace hl:=rz hl
 obtain ⟨y1,h1,q1,n1,m1,rfl,z1,hr⟩:=hr
 have e1:=h1
 obtain ⟨r1,rfl,d1⟩:=tkN e1 rfl
 replace hl:=rz hl
 obtain rfl:=List.eq_nil_of_length_eq_zero hl
 exact ⟨⟨y0,y1⟩,rfl,⟨q0,q1⟩,by show 1 + 1 + 1≤_; omega⟩
theorem op_155:Xmo Try.prog 155 (Kd.slice Xz0) (fun xs:List Xuo=>xs.length * 16≤reachBytes∧∀ x ∈ xs,Xz1 x) (fun xs:List Xuo=>Xom Xw5 xs + 1):=Xmo.slice (e:=174) (by kernel_rfl) (by kernel_rfl) (by kernel_rfl) (by decide) op_174
theorem op_175:Xmo Try.prog 175 (Xsu .i64) (fun n:Int=>(Lit.int .i64 n).wf=true) (fun _:Int=>1):=Xmo.int (by kernel_rfl)
def Xxj (x:Xwa):Nat:=1 + 1 + 1 + 1
def Yah (x:Xwa):Prop:=(fun n:Int=>(Lit.int .i64 n).wf=true) x.kind∧(fun n:Int=>(Lit.int .i64 n).wf=true) x.n∧(fun n:Int=>(Lit.int .i64 n).wf=true) x.m
theorem op_177:Xmo Try.prog 177 Yb2 Yah Xxj:=by
 refine Xmo.struct (fs:=stF Try.prog 177) (fl:=[fdA Try.prog 177 0,fdA Try.prog 177 1,fdA Try.prog 177 2]) (by kernel_rfl) (by kernel_rfl) (by kernel_rfl) (fun m=>(Xn2.cons (f:=fdA Try.prog 177 0) (ft:=175) (by kernel_rfl) (by kernel_rfl) (by kernel_rfl) (op_175 m) (Xn2.cons (f:=fdA Try.prog 177 1) (ft:=3) (by kernel_rfl) (by kernel_rfl) (by kernel_rfl) (Xys m) (Xn2.cons (f:=fdA Try.prog 177 2) (ft:=3) (by kernel_rfl) (by kernel_rfl) (by kernel_rfl) (Xys m) Xn2.nil)))) ?_
 intro w cs n hl hr
 obtain ⟨y0,h0,q0,n0,m0,rfl,z0,hr⟩:=hr
 have e0:=h0
 obtain ⟨r0,rfl,d0⟩:=tkN e0 rfl
 rw [d0] at hr
 replace hl:=rz hl
 obtain ⟨y1,h1,q1,n1,m1,rfl,z1,hr⟩:=hr
 have e1:=h1
 obtain ⟨r1,rfl,d1⟩:=tkN e1 rfl
 rw [d1] at hr
 replace hl:=rz hl
 obtain ⟨y2,h2,q2,n2,m2,rfl,z2,hr⟩:=hr
 have e2:=h2
 obtain ⟨r2,rfl,d2⟩:=tkN e2 rfl
 replace hl:=rz hl
 obtain rfl:=List.eq_nil_of_length_eq_zero hl
 exact ⟨⟨y0,y1,y2⟩,rfl,⟨q0,q1,q2⟩,by show 1 + 1 + 1 + 1≤_; omega⟩
theorem op_156:Xmo Try.prog 156 (Kd.slice Yb2) (fun xs:List Xwa=>xs.length * 24≤reachBytes∧∀ x ∈ xs,Yah x) (fun xs:List Xwa=>Xom Xxj xs + 1):=Xmo.slice (e:=177) (by kernel_rfl) (by kernel_rfl) (by kernel_rfl) (by decide) op_177
def Xw6 (x:Xsk):Nat:=1 + 1 + (Xom Xuk x.re + 1) + (x.lit.size + 1) + (Xom (fun _:Int=>1) x.in_ + 1) + (Xom Xw5 x.tests + 1) + (Xom Xxj x.acts + 1) + 1
def Xz8 (x:Xsk):Prop:=(fun n:Int=>(Lit.int .i64 n).wf=true) x.term∧(fun n:Int=>(Lit.int .i64 n).wf=true) x.pat∧(fun xs:List Xrq=>xs.length * 56≤reachBytes∧∀ x ∈ xs,Xxf x) x.re∧(fun s:ByteArray=>s.size≤reachBytes) x.lit∧(fun xs:List Int=>xs.length * 8≤reachBytes∧∀ x ∈ xs,(fun n:Int=>(Lit.int .i64 n).wf=true) x) x.in_∧(fun xs:List Xuo=>xs.length * 16≤reachBytes∧∀ x ∈ xs,Xz1 x) x.tests∧(fun xs:List Xwa=>xs.length * 24≤reachBytes∧∀ x ∈ xs,Yah x) x.acts
theorem op_158:Xmo Try.prog 158 Xsf Xz8 Xw6:=by
 refine Xmo.struct (fs:=stF Try.prog 158) (fl:=[fdA Try.prog 158 0,fdA Try.prog 158 1,fdA Try.prog 158 2,fdA Try.prog 158 3,fdA Try.prog 158 4,fdA Try.prog 158 5,fdA Try.prog 158 6]) (by kernel_rfl) (by kernel_rfl) (by kernel_rfl) (fun m=>(Xn2.cons (f:=fdA Try.prog 158 0) (ft:=3) (by kernel_rfl) (by kernel_rfl) (by kernel_rfl) (Xys m) (Xn2.cons (f:=fdA Try.prog 158 1) (ft:=153) (by kernel_rfl) (by kernel_rfl) (by kernel_rfl) (op_153 m) (Xn2.cons (f:=fdA Try.prog 158 2) (ft:=154) (by kernel_rfl) (by kernel_rfl) (by kernel_rfl) (op_154 m) (Xn2.cons (f:=fdA Try.prog 158 3) (ft:=9) (by kernel_rfl) (by kernel_rfl) (by kernel_rfl) (Xyt m) (Xn2.cons (f:=fdA Try.prog 158 4) (ft:=23) (by kernel_rfl) (by kernel_rfl) (by kernel_rfl) (op_23 m) (Xn2.cons (f:=fdA Try.prog 158 5) (ft:=155) (by kernel_rfl) (by kernel_rfl) (by kernel_rfl) (op_155 m) (Xn2.cons (f:=fdA Try.prog 158 6) (ft:=156) (by kernel_rfl) (by kernel_rfl) (by kernel_rfl) (op_156 m) Xn2.nil)))))))) ?_
 intro w cs n hl hr
 obtain ⟨y0,h0,q0,n0,m0,rfl,z0,hr⟩:=hr
 have e0:=h0
 obtain ⟨r0,rfl,d0⟩:=tkN e0 rfl
 rw [d0] at hr
 replace hl:=rz hl
 obtain ⟨y1,h1,q1,n1,m1,rfl,z1,hr⟩:=hr
 have e1:=h1
 obtain ⟨r1,rfl,d1⟩:=tkN e1 rfl
 rw [d1] at hr
 replace hl:=rz hl
 obtain ⟨y2,h2,q2,n2,m2,rfl,z2,hr⟩:=hr
 obtain ⟨_,_,_,e2,k2_0⟩:=h2
 obtain ⟨r2,rfl,d2⟩:=tkN e2 rfl
 rw [d2] at hr
 replace hl:=rz hl
 obtain ⟨y3,h3,q3,n3,m3,rfl,z3,hr⟩:=hr
 have e3:=h3
 obtain ⟨r3,rfl,d3⟩:=tkN e3 rfl
 rw [d3] at hr
 replace hl:=rz hl
 obtain ⟨y4,h4,q4,n4,m4,rfl,z4,hr⟩:=hr
 obtain ⟨_,_,_,e4,k4_0⟩:=h4
 obtain ⟨r4,rfl,d4⟩:=tkN e4 rfl
 rw [d4] at hr
 replace hl:=rz hl
 obtain ⟨y5,h5,q5,n5,m5,rfl,z5,hr⟩:=hr
 obtain ⟨_,_,_,e5,k5_0⟩:=h5
 obtain ⟨r5,rfl,d5⟩:=tkN e5 rfl
 rw [d5] at hr
 replace hl:=rz hl
 obtain ⟨y6,h6,q6,n6,m6,rfl,z6,hr⟩:=hr
 obtain ⟨_,_,_,e6,k6_0⟩:=h6
 obtain ⟨r6,rfl,d6⟩:=tkN e6 rfl
 replace hl:=rz hl
 obtain rfl:=List.eq_nil_of_length_eq_zero hl
 exact ⟨⟨y0,y1,y2,y3,y4,y5,y6⟩,⟨_,_,_,_,_,_,_,_,_,_,_,_,rfl,k2_0,k4_0,k5_0,k6_0⟩,⟨q0,q1,q2,q3,q4,q5,q6⟩,by show 1 + 1 + (Xom Xuk y2 + 1) + (y3.size + 1) + (Xom (fun _:Int=>1) y4 + 1) + (Xom Xw5 y5 + 1) + (Xom Xxj y6 + 1) + 1≤_; omega⟩
theorem op_48:Xmo Try.prog 48 (Kd.slice Xsf) (fun xs:List Xsk=>xs.length * 128≤reachBytes∧∀ x ∈ xs,Xz8 x) (fun xs:List Xsk=>Xom Xw6 xs + 1):=Xmo.slice (e:=158) (by kernel_rfl) (by kernel_rfl) (by kernel_rfl) (by decide) op_158
theorem op_178:Xmo Try.prog 178 (Xsu .i64) (fun n:Int=>(Lit.int .i64 n).wf=true) (fun _:Int=>1):=Xmo.int (by kernel_rfl)
def Xtm (x:Xoi):Nat:=1 + 1 + 1
def Xvi (x:Xoi):Prop:=(fun n:Int=>(Lit.int .i64 n).wf=true) x.kind∧(fun n:Int=>(Lit.int .i64 n).wf=true) x.n
theorem op_180:Xmo Try.prog 180 Xq1 Xvi Xtm:=by
 refine Xmo.struct (fs:=stF Try.prog 180) (fl:=[fdA Try.prog 180 0,fdA Try.prog 180 1]) (by kernel_rfl) (by kernel_rfl) (by kernel_rfl) (fun m=>(Xn2.cons (f:=fdA Try.prog 180 0) (ft:=178) (by kernel_rfl) (by kernel_rfl) (by kernel_rfl) (op_178 m) (Xn2.cons (f:=fdA Try.prog 180 1) (ft:=3) (by kernel_rfl) (by kernel_rfl) (by kernel_rfl) (Xys m) Xn2.nil))) ?_
 intro w cs n hl hr
 obtain ⟨y0,h0,q0,n0,m0,rfl,z0,hr⟩:=hr
 have e0:=h0
 obtain ⟨r0,rfl,d0⟩:=tkN e0 rfl
 rw [d0] at hr
 replace hl:=rz hl
 obtain ⟨y1,h1,q1,n1,m1,rfl,z1,hr⟩:=hr
 have e1:=h1
 obtain ⟨r1,rfl,d1⟩:=tkN e1 rfl
 replace hl:=rz hl
 obtain rfl:=List.eq_nil_of_length_eq_zero hl
 exact ⟨⟨y0,y1⟩,rfl,⟨q0,q1⟩,by show 1 + 1 + 1≤_; omega⟩
theorem op_159:Xmo Try.prog 159 (Kd.slice Xq1) (fun xs:List Xoi=>xs.length * 16≤reachBytes∧∀ x ∈ xs,Xvi x) (fun xs:List Xoi=>Xom Xtm xs + 1):=Xmo.slice (e:=180) (by kernel_rfl) (by kernel_rfl) (by kernel_rfl) (by decide) op_180
theorem op_49:Xmo Try.prog 49 (Kd.slice (Kd.slice Xq1)) (fun xs:List (List Xoi)=>xs.length * 24≤reachBytes∧∀ x ∈ xs,(fun xs:List Xoi=>xs.length * 16≤reachBytes∧∀ x ∈ xs,Xvi x) x) (fun xs:List (List Xoi)=>Xom (fun xs:List Xoi=>Xom Xtm xs + 1) xs + 1):=Xmo.slice (e:=159) (by kernel_rfl) (by kernel_rfl) (by kernel_rfl) (by decide) op_159
theorem op_50:Xmo Try.prog 50 (Kd.slice (Kd.slice (Xsu .i64))) (fun xs:List (List Int)=>xs.length * 24≤reachBytes∧∀ x ∈ xs,(fun xs:List Int=>xs.length * 8≤reachBytes∧∀ x ∈ xs,(fun n:Int=>(Lit.int .i64 n).wf=true) x) x) (fun xs:List (List Int)=>Xom (fun xs:List Int=>Xom (fun _:Int=>1) xs + 1) xs + 1):=Xmo.slice (e:=23) (by kernel_rfl) (by kernel_rfl) (by kernel_rfl) (by decide) op_23
def Xxn (x:Xtb):Nat:=(Xom (fun xs:List Xoi=>Xom Xtm xs + 1) x.actions + 1) + (Xom (fun xs:List Int=>Xom (fun _:Int=>1) xs + 1) x.gotos + 1) + 1
def Yb8 (x:Xtb):Prop:=(fun xs:List (List Xoi)=>xs.length * 24≤reachBytes∧∀ x ∈ xs,(fun xs:List Xoi=>xs.length * 16≤reachBytes∧∀ x ∈ xs,Xvi x) x) x.actions∧(fun xs:List (List Int)=>xs.length * 24≤reachBytes∧∀ x ∈ xs,(fun xs:List Int=>xs.length * 8≤reachBytes∧∀ x ∈ xs,(fun n:Int=>(Lit.int .i64 n).wf=true) x) x) x.gotos
theorem op_52:Xmo Try.prog 52 Yfj Yb8 Xxn:=by
 refine Xmo.struct (fs:=stF Try.prog 52) (fl:=[fdA Try.prog 52 0,fdA Try.prog 52 1]) (by kernel_rfl) (by kernel_rfl) (by kernel_rfl) (fun m=>(Xn2.cons (f:=fdA Try.prog 52 0) (ft:=49) (by kernel_rfl) (by kernel_rfl) (by kernel_rfl) (op_49 m) (Xn2.cons (f:=fdA Try.prog 52 1) (ft:=50) (by kernel_rfl) (by kernel_rfl) (by kernel_rfl) (op_50 m) Xn2.nil))) ?_
 intro w cs n hl hr
 obtain ⟨y0,h0,q0,n0,m0,rfl,z0,hr⟩:=hr
 obtain ⟨_,_,_,e0,k0_0⟩:=h0
 obtain ⟨r0,rfl,d0⟩:=tkN e0 rfl
 rw [d0] at hr
 replace hl:=rz hl
 obtain ⟨y1,h1,q1,n1,m1,rfl,z1,hr⟩:=hr
 obtain ⟨_,_,_,e1,k1_0⟩:=h1
 obtain ⟨r1,rfl,d1⟩:=tkN e1 rfl
 replace hl:=rz hl
 obtain rfl:=List.eq_nil_of_length_eq_zero hl
 exact ⟨⟨y0,y1⟩,⟨_,_,_,_,_,_,rfl,k0_0,k1_0⟩,⟨q0,q1⟩,by show (Xom (fun xs:List Xoi=>Xom Xtm xs + 1) y0 + 1) + (Xom (fun xs:List Int=>Xom (fun _:Int=>1) xs + 1) y1 + 1) + 1≤_; omega⟩
def Xtp (x:Xpe):Nat:=(x.name.size + 1) + (x.class_.size + 1) + 1
def Xvr (x:Xpe):Prop:=(fun s:ByteArray=>s.size≤reachBytes) x.name∧(fun s:ByteArray=>s.size≤reachBytes) x.class_
theorem op_161:Xmo Try.prog 161 Xq2 Xvr Xtp:=by
 refine Xmo.struct (fs:=stF Try.prog 161) (fl:=[fdA Try.prog 161 0,fdA Try.prog 161 1]) (by kernel_rfl) (by kernel_rfl) (by kernel_rfl) (fun m=>(Xn2.cons (f:=fdA Try.prog 161 0) (ft:=9) (by kernel_rfl) (by kernel_rfl) (by kernel_rfl) (Xyt m) (Xn2.cons (f:=fdA Try.prog 161 1) (ft:=9) (by kernel_rfl) (by kernel_rfl) (by kernel_rfl) (Xyt m) Xn2.nil))) ?_
 intro w cs n hl hr
 obtain ⟨y0,h0,q0,n0,m0,rfl,z0,hr⟩:=hr
 have e0:=h0
 obtain ⟨r0,rfl,d0⟩:=tkN e0 rfl
 rw [d0] at hr
 replace hl:=rz hl
 obtain ⟨y1,h1,q1,n1,m1,rfl,z1,hr⟩:=hr
 have e1:=h1
 obtain ⟨r1,rfl,d1⟩:=tkN e1 rfl
 replace hl:=rz hl
 obtain rfl:=List.eq_nil_of_length_eq_zero hl
 exact ⟨⟨y0,y1⟩,rfl,⟨q0,q1⟩,by show (y0.size + 1) + (y1.size + 1) + 1≤_; omega⟩
theorem op_53:Xmo Try.prog 53 (Kd.slice Xq2) (fun xs:List Xpe=>xs.length * 32≤reachBytes∧∀ x ∈ xs,Xvr x) (fun xs:List Xpe=>Xom Xtp xs + 1):=Xmo.slice (e:=161) (by kernel_rfl) (by kernel_rfl) (by kernel_rfl) (by decide) op_161
theorem op_54:Xmo Try.prog 54 (Kd.slice Ybz) (fun xs:List ByteArray=>xs.length * 16≤reachBytes∧∀ x ∈ xs,(fun s:ByteArray=>s.size≤reachBytes) x) (fun xs:List ByteArray=>Xom (fun s:ByteArray=>s.size + 1) xs + 1):=Xmo.slice (e:=9) (by kernel_rfl) (by kernel_rfl) (by kernel_rfl) (by decide) Xyt
def Xu6 (x:Xpu):Nat:=(x.name.size + 1) + (x.field.size + 1) + 1
def Xwm (x:Xpu):Prop:=(fun s:ByteArray=>s.size≤reachBytes) x.name∧(fun s:ByteArray=>s.size≤reachBytes) x.field
theorem op_163:Xmo Try.prog 163 Xqi Xwm Xu6:=by
 refine Xmo.struct (fs:=stF Try.prog 163) (fl:=[fdA Try.prog 163 0,fdA Try.prog 163 1]) (by kernel_rfl) (by kernel_rfl) (by kernel_rfl) (fun m=>(Xn2.cons (f:=fdA Try.prog 163 0) (ft:=9) (by kernel_rfl) (by kernel_rfl) (by kernel_rfl) (Xyt m) (Xn2.cons (f:=fdA Try.prog 163 1) (ft:=9) (by kernel_rfl) (by kernel_rfl) (by kernel_rfl) (Xyt m) Xn2.nil))) ?_
 intro w cs n hl hr
 obtain ⟨y0,h0,q0,n0,m0,rfl,z0,hr⟩:=hr
 have e0:=h0
 obtain ⟨r0,rfl,d0⟩:=tkN e0 rfl
 rw [d0] at hr
 replace hl:=rz hl
 obtain ⟨y1,h1,q1,n1,m1,rfl,z1,hr⟩:=hr
 have e1:=h1
 obtain ⟨r1,rfl,d1⟩:=tkN e1 rfl
 replace hl:=rz hl
 obtain rfl:=List.eq_nil_of_length_eq_zero hl
 exact ⟨⟨y0,y1⟩,rfl,⟨q0,q1⟩,by show (y0.size + 1) + (y1.size + 1) + 1≤_; omega⟩
theorem op_55:Xmo Try.prog 55 (Kd.slice Xqi) (fun xs:List Xpu=>xs.length * 32≤reachBytes∧∀ x ∈ xs,Xwm x) (fun xs:List Xpu=>Xom Xu6 xs + 1):=Xmo.slice (e:=163) (by kernel_rfl) (by kernel_rfl) (by kernel_rfl) (by decide) op_163
def Xt6 (x:Xow):Nat:=(x.name.size + 1) + (x.lang.size + 1) + 1
def Xuy (x:Xow):Prop:=(fun s:ByteArray=>s.size≤reachBytes) x.name∧(fun s:ByteArray=>s.size≤reachBytes) x.lang
theorem op_165:Xmo Try.prog 165 Xpp Xuy Xt6:=by
 refine Xmo.struct (fs:=stF Try.prog 165) (fl:=[fdA Try.prog 165 0,fdA Try.prog 165 1]) (by kernel_rfl) (by kernel_rfl) (by kernel_rfl) (fun m=>(Xn2.cons (f:=fdA Try.prog 165 0) (ft:=9) (by kernel_rfl) (by kernel_rfl) (by kernel_rfl) (Xyt m) (Xn2.cons (f:=fdA Try.prog 165 1) (ft:=9) (by kernel_rfl) (by kernel_rfl) (by kernel_rfl) (Xyt m) Xn2.nil))) ?_
 intro w cs n hl hr
 obtain ⟨y0,h0,q0,n0,m0,rfl,z0,hr⟩:=hr
 have e0:=h0
 obtain ⟨r0,rfl,d0⟩:=tkN e0 rfl
 rw [d0] at hr
 replace hl:=rz hl
 obtain ⟨y1,h1,q1,n1,m1,rfl,z1,hr⟩:=hr
 have e1:=h1
 obtain ⟨r1,rfl,d1⟩:=tkN e1 rfl
 replace hl:=rz hl
 obtain rfl:=List.eq_nil_of_length_eq_zero hl
 exact ⟨⟨y0,y1⟩,rfl,⟨q0,q1⟩,by show (y0.size + 1) + (y1.size + 1) + 1≤_; omega⟩
theorem op_56:Xmo Try.prog 56 (Kd.slice Xpp) (fun xs:List Xow=>xs.length * 32≤reachBytes∧∀ x ∈ xs,Xuy x) (fun xs:List Xow=>Xom Xt6 xs + 1):=Xmo.slice (e:=165) (by kernel_rfl) (by kernel_rfl) (by kernel_rfl) (by decide) op_165
def Xw7 (x:Xmw):Nat:=(x.name.size + 1) + (Xom Xu8 x.modes + 1) + (Xy4 x.gram) + (Xom Xw6 x.rules + 1) + (Xxn x.table) + (Xom Xtp x.paints + 1) + (Xom (fun s:ByteArray=>s.size + 1) x.folds + 1) + (Xom Xu6 x.marks + 1) + (Xom Xt6 x.injects + 1) + 1
def Xz9 (x:Xmw):Prop:=(fun s:ByteArray=>s.size≤reachBytes) x.name∧(fun xs:List Xps=>xs.length * 24≤reachBytes∧∀ x ∈ xs,Xwn x) x.modes∧Yc6 x.gram∧(fun xs:List Xsk=>xs.length * 128≤reachBytes∧∀ x ∈ xs,Xz8 x) x.rules∧Yb8 x.table∧(fun xs:List Xpe=>xs.length * 32≤reachBytes∧∀ x ∈ xs,Xvr x) x.paints∧(fun xs:List ByteArray=>xs.length * 16≤reachBytes∧∀ x ∈ xs,(fun s:ByteArray=>s.size≤reachBytes) x) x.folds∧(fun xs:List Xpu=>xs.length * 32≤reachBytes∧∀ x ∈ xs,Xwm x) x.marks∧(fun xs:List Xow=>xs.length * 32≤reachBytes∧∀ x ∈ xs,Xuy x) x.injects
theorem op_58:Xmo Try.prog 58 Ygc Xz9 Xw7:=by
 refine Xmo.struct (fs:=stF Try.prog 58) (fl:=[fdA Try.prog 58 0,fdA Try.prog 58 1,fdA Try.prog 58 2,fdA Try.prog 58 3,fdA Try.prog 58 4,fdA Try.prog 58 5,fdA Try.prog 58 6,fdA Try.prog 58 7,fdA Try.prog 58 8]) (by kernel_rfl) (by kernel_rfl) (by kernel_rfl) (fun m=>(Xn2.cons (f:=fdA Try.prog 58 0) (ft:=9) (by kernel_rfl) (by kernel_rfl) (by kernel_rfl) (Xyt m) (Xn2.cons (f:=fdA Try.prog 58 1) (ft:=42) (by kernel_rfl) (by kernel_rfl) (by kernel_rfl) (op_42 m) (Xn2.cons (f:=fdA Try.prog 58 2) (ft:=47) (by kernel_rfl) (by kernel_rfl) (by kernel_rfl) (op_47 m) (Xn2.cons (f:=fdA Try.prog 58 3) (ft:=48) (by kernel_rfl) (by kernel_rfl) (by kernel_rfl) (op_48 m) (Xn2.cons (f:=fdA Try.prog 58 4) (ft:=52) (by kernel_rfl) (by kernel_rfl) (by kernel_rfl) (op_52 m) (Xn2.cons (f:=fdA Try.prog 58 5) (ft:=53) (by kernel_rfl) (by kernel_rfl) (by kernel_rfl) (op_53 m) (Xn2.cons (f:=fdA Try.prog 58 6) (ft:=54) (by kernel_rfl) (by kernel_rfl) (by kernel_rfl) (op_54 m) (Xn2.cons (f:=fdA Try.prog 58 7) (ft:=55) (by kernel_rfl) (by kernel_rfl) (by kernel_rfl) (op_55 m) (Xn2.cons (f:=fdA Try.prog 58 8) (ft:=56) (by kernel_rfl) (by kernel_rfl) (by kernel_rfl) (op_56 m) Xn2.nil)))))))))) ?_
 intro w cs n hl hr
 obtain ⟨y0,h0,q0,n0,m0,rfl,z0,hr⟩:=hr
 have e0:=h0
 obtain ⟨r0,rfl,d0⟩:=tkN e0 rfl
 rw [d0] at hr
 replace hl:=rz hl
 obtain ⟨y1,h1,q1,n1,m1,rfl,z1,hr⟩:=hr
 obtain ⟨_,_,_,e1,k1_0⟩:=h1
 obtain ⟨r1,rfl,d1⟩:=tkN e1 rfl
 rw [d1] at hr
 replace hl:=rz hl
 obtain ⟨y2,h2,q2,n2,m2,rfl,z2,hr⟩:=hr
 obtain ⟨_,_,_,_,_,_,_,_,_,e2,k2_0,k2_1,k2_2⟩:=h2
 obtain ⟨r2,rfl,d2⟩:=tkN e2 rfl
 rw [d2] at hr
 replace hl:=rz hl
 obtain ⟨y3,h3,q3,n3,m3,rfl,z3,hr⟩:=hr
 obtain ⟨_,_,_,e3,k3_0⟩:=h3
 obtain ⟨r3,rfl,d3⟩:=tkN e3 rfl
 rw [d3] at hr
 replace hl:=rz hl
 obtain ⟨y4,h4,q4,n4,m4,rfl,z4,hr⟩:=hr
 obtain ⟨_,_,_,_,_,_,e4,k4_0,k4_1⟩:=h4
 obtain ⟨r4,rfl,d4⟩:=tkN e4 rfl
 rw [d4] at hr
 replace hl:=rz hl
 obtain ⟨y5,h5,q5,n5,m5,rfl,z5,hr⟩:=hr
 obtain ⟨_,_,_,e5,k5_0⟩:=h5
 obtain ⟨r5,rfl,d5⟩:=tkN e5 rfl
 rw [d5] at hr
 replace hl:=rz hl
 obtain ⟨y6,h6,q6,n6,m6,rfl,z6,hr⟩:=hr
 obtain ⟨_,_,_,e6,k6_0⟩:=h6
 obtain ⟨r6,rfl,d6⟩:=tkN e6 rfl
 rw [d6] at hr
 replace hl:=rz hl
 obtain ⟨y7,h7,q7,n7,m7,rfl,z7,hr⟩:=hr
 obtain ⟨_,_,_,e7,k7_0⟩:=h7
 obtain ⟨r7,rfl,d7⟩:=tkN e7 rfl
 rw [d7] at hr
 replace hl:=rz hl
 obtain ⟨y8,h8,q8,n8,m8,rfl,z8,hr⟩:=hr
 obtain ⟨_,_,_,e8,k8_0⟩:=h8
 obtain ⟨r8,rfl,d8⟩:=tkN e8 rfl
 replace hl:=rz hl
 obtain rfl:=List.eq_nil_of_length_eq_zero hl
 exact ⟨⟨y0,y1,y2,y3,y4,y5,y6,y7,y8⟩,⟨_,_,_,_,_,_,_,_,_,_,_,_,_,_,_,_,_,_,_,_,_,_,_,_,_,_,_,_,_,_,_,_,_,rfl,k1_0,k2_0,k2_1,k2_2,k3_0,k4_0,k4_1,k5_0,k6_0,k7_0,k8_0⟩,⟨q0,q1,q2,q3,q4,q5,q6,q7,q8⟩,by show (y0.size + 1) + (Xom Xu8 y1 + 1) + (Xy4 y2) + (Xom Xw6 y3 + 1) + (Xxn y4) + (Xom Xtp y5 + 1) + (Xom (fun s:ByteArray=>s.size + 1) y6 + 1) + (Xom Xu6 y7 + 1) + (Xom Xt6 y8 + 1) + 1≤_; omega⟩
def Xr5 (x:Xm4):Nat:=(x.name.size + 1) + 1 + (x.field.size + 1) + 1 + 1 + 1 + 1 + 1
def Xxi (x:Xm4):Prop:=(fun s:ByteArray=>s.size≤reachBytes) x.name∧(fun _:Bool=>True) x.named∧(fun s:ByteArray=>s.size≤reachBytes) x.field∧(fun n:Int=>(Lit.int .i64 n).wf=true) x.from_∧(fun n:Int=>(Lit.int .i64 n).wf=true) x.to∧(fun n:Int=>(Lit.int .i64 n).wf=true) x.kids∧(fun n:Int=>(Lit.int .i64 n).wf=true) x.leaf
theorem op_39:Xmo Try.prog 39 Xml Xxi Xr5:=by
 refine Xmo.struct (fs:=stF Try.prog 39) (fl:=[fdA Try.prog 39 0,fdA Try.prog 39 1,fdA Try.prog 39 2,fdA Try.prog 39 3,fdA Try.prog 39 4,fdA Try.prog 39 5,fdA Try.prog 39 6]) (by kernel_rfl) (by kernel_rfl) (by kernel_rfl) (fun m=>(Xn2.cons (f:=fdA Try.prog 39 0) (ft:=9) (by kernel_rfl) (by kernel_rfl) (by kernel_rfl) (Xyt m) (Xn2.cons (f:=fdA Try.prog 39 1) (ft:=4) (by kernel_rfl) (by kernel_rfl) (by kernel_rfl) (op_4 m) (Xn2.cons (f:=fdA Try.prog 39 2) (ft:=9) (by kernel_rfl) (by kernel_rfl) (by kernel_rfl) (Xyt m) (Xn2.cons (f:=fdA Try.prog 39 3) (ft:=3) (by kernel_rfl) (by kernel_rfl) (by kernel_rfl) (Xys m) (Xn2.cons (f:=fdA Try.prog 39 4) (ft:=3) (by kernel_rfl) (by kernel_rfl) (by kernel_rfl) (Xys m) (Xn2.cons (f:=fdA Try.prog 39 5) (ft:=3) (by kernel_rfl) (by kernel_rfl) (by kernel_rfl) (Xys m) (Xn2.cons (f:=fdA Try.prog 39 6) (ft:=3) (by kernel_rfl) (by kernel_rfl) (by kernel_rfl) (Xys m) Xn2.nil)))))))) ?_
 intro w cs n hl hr
 obtain ⟨y0,h0,q0,n0,m0,rfl,z0,hr⟩:=hr
 have e0:=h0
 obtain ⟨r0,rfl,d0⟩:=tkN e0 rfl
 rw [d0] at hr
 replace hl:=rz hl
 obtain ⟨y1,h1,q1,n1,m1,rfl,z1,hr⟩:=hr
 have e1:=h1
 obtain ⟨r1,rfl,d1⟩:=tkN e1 rfl
 rw [d1] at hr
 replace hl:=rz hl
 obtain ⟨y2,h2,q2,n2,m2,rfl,z2,hr⟩:=hr
 have e2:=h2
 obtain ⟨r2,rfl,d2⟩:=tkN e2 rfl
 rw [d2] at hr
 replace hl:=rz hl
 obtain ⟨y3,h3,q3,n3,m3,rfl,z3,hr⟩:=hr
 have e3:=h3
 obtain ⟨r3,rfl,d3⟩:=tkN e3 rfl
 rw [d3] at hr
 replace hl:=rz hl
 obtain ⟨y4,h4,q4,n4,m4,rfl,z4,hr⟩:=hr
 have e4:=h4
 obtain ⟨r4,rfl,d4⟩:=tkN e4 rfl
 rw [d4] at hr
 replace hl:=rz hl
 obtain ⟨y5,h5,q5,n5,m5,rfl,z5,hr⟩:=hr
 have e5:=h5
 obtain ⟨r5,rfl,d5⟩:=tkN e5 rfl
 rw [d5] at hr
 replace hl:=rz hl
 obtain ⟨y6,h6,q6,n6,m6,rfl,z6,hr⟩:=hr
 have e6:=h6
 obtain ⟨r6,rfl,d6⟩:=tkN e6 rfl
 replace hl:=rz hl
 obtain rfl:=List.eq_nil_of_length_eq_zero hl
 exact ⟨⟨y0,y1,y2,y3,y4,y5,y6⟩,rfl,⟨q0,q1,q2,q3,q4,q5,q6⟩,by show (y0.size + 1) + 1 + (y2.size + 1) + 1 + 1 + 1 + 1 + 1≤_; omega⟩
theorem op_22:Xmo Try.prog 22 (Kd.slice Xml) (fun xs:List Xm4=>xs.length * 72≤reachBytes∧∀ x ∈ xs,Xxi x) (fun xs:List Xm4=>Xom Xr5 xs + 1):=Xmo.slice (e:=39) (by kernel_rfl) (by kernel_rfl) (by kernel_rfl) (by decide) op_39
theorem op_59:Xmo Try.prog 59 (Kd.slice (Kd.slice Xml)) (fun xs:List (List Xm4)=>xs.length * 24≤reachBytes∧∀ x ∈ xs,(fun xs:List Xm4=>xs.length * 72≤reachBytes∧∀ x ∈ xs,Xxi x) x) (fun xs:List (List Xm4)=>Xom (fun xs:List Xm4=>Xom Xr5 xs + 1) xs + 1):=Xmo.slice (e:=22) (by kernel_rfl) (by kernel_rfl) (by kernel_rfl) (by decide) op_22
end Go.Proofs.Ytmekgfcfooghnaa.K
