/- The kinds of this seat's values and closed facts on its types, printed by my own tool. No condition. -/
import Derived.Test.YtadcichlnacagaaDoorBW
import Derived.Test.YtadcichlnacagaaDoorBL
import Derived.Test.YtadcichlnacagaaDoorR
import Derived.Test.YtadcichlnacagaaDoorProg
set_option linter.unusedVariables false
set_option maxRecDepth 100000
set_option maxHeartbeats 4000000
namespace Go.Proofs.YtadcichlnacagaaDoor.K
open Go.Proofs.YtadcichlnacagaaDoor.B Go.Proofs.YtadcichlnacagaaDoor.R Go.RowKit
def Yuz (x:Yup):List Value:=[.string x.name,.bool x.lit]
theorem Zaz:∀ x,(Yuz x).length=2:=fun _=>rfl
theorem Zb1:∀ x,∀ u ∈ Yuz x,u.oneCell'=true:=fun x u hu=>List.all_eq_true.1 (show (Yuz x).all Value.oneCell'=true from rfl) u hu
abbrev Yuj:Kd Yup:=Kd.flat 2 Yuz Zaz Zb1
def Yvp (x:Yvn):List Value:=[.string x.name,.int .i64 x.kind]
theorem Zeh:∀ x,(Yvp x).length=2:=fun _=>rfl
theorem Zef:∀ x,∀ u ∈ Yvp x,u.oneCell'=true:=fun x u hu=>List.all_eq_true.1 (show (Yvp x).all Value.oneCell'=true from rfl) u hu
abbrev Yuq:Kd Yvn:=Kd.flat 2 Yvp Zeh Zef
def Yy6 (x:Yut):List Value:=[.int .i64 x.sym,.string x.field,.string x.as]
theorem Yvw:∀ x,(Yy6 x).length=3:=fun _=>rfl
theorem Yvy:∀ x,∀ u ∈ Yy6 x,u.oneCell'=true:=fun x u hu=>List.all_eq_true.1 (show (Yy6 x).all Value.oneCell'=true from rfl) u hu
abbrev Zav:Kd Yut:=Kd.flat 3 Yy6 Yvw Yvy
def Yun:Kd Yuf:={ sz:=2,K:=(fun w F x cs=>∃ (A0:Option Addr),∃ (n0:Nat),∃ (c0:Nat),cs=[.int .i64 x.lhs,.slice A0 n0 c0]∧Rw Zav w F A0 n0 c0 x.rhs),len:=(by rintro w F x cs ⟨_,_,_,rfl,_⟩; rfl),one:=(by rintro w F x cs ⟨_,_,_,rfl,_⟩; exact fun u hu=>List.all_eq_true.1 rfl u hu),mono:=(by rintro w w' F F' x cs ⟨_,_,_,rfl,h0⟩ hF; exact ⟨_,_,_,rfl,h0.mono hF⟩) }
def Zrt:Kd Yu5:={ sz:=3,K:=(fun w F x cs=>∃ (A0:Option Addr),∃ (n0:Nat),∃ (c0:Nat),∃ (A1:Option Addr),∃ (n1:Nat),∃ (c1:Nat),∃ (A2:Option Addr),∃ (n2:Nat),∃ (c2:Nat),cs=[.slice A0 n0 c0,.slice A1 n1 c1,.slice A2 n2 c2]∧Rw Yuj w F A0 n0 c0 x.terms∧Rw Yuq w F A1 n1 c1 x.syms∧Rw Yun w F A2 n2 c2 x.prods),len:=(by rintro w F x cs ⟨_,_,_,_,_,_,_,_,_,rfl,_⟩; rfl),one:=(by rintro w F x cs ⟨_,_,_,_,_,_,_,_,_,rfl,_⟩; exact fun u hu=>List.all_eq_true.1 rfl u hu),mono:=(by rintro w w' F F' x cs ⟨_,_,_,_,_,_,_,_,_,rfl,h0,h1,h2⟩ hF; exact ⟨_,_,_,_,_,_,_,_,_,rfl,h0.mono hF,h1.mono hF,h2.mono hF⟩) }
def Yv0 (x:Yud):List Value:=[.int .i64 x.prod,.int .i64 x.dot,.int .i64 x.look]
theorem Yyz:∀ x,(Yv0 x).length=3:=fun _=>rfl
theorem Yyy:∀ x,∀ u ∈ Yv0 x,u.oneCell'=true:=fun x u hu=>List.all_eq_true.1 (show (Yv0 x).all Value.oneCell'=true from rfl) u hu
abbrev Yxu:Kd Yud:=Kd.flat 3 Yv0 Yyz Yyy
def Yuh (x:Yu8):List Value:=(Ze4 192 fun j=>[.int .u64 (x.first j)])++((Ze4 192 fun j=>[.bool (x.vanishes j)]))
theorem Ywq (x:Yu8):(Yuh x).length=384:=by
  unfold Yuh
  have e0:((Ze4 192 fun j=>[.int .u64 (x.first j)]):List Value).length=192:=(Zfs (sz:=1) (f:=fun j=>[.int .u64 (x.first j)]) (fun j=>rfl) 192)
  have e1:((Ze4 192 fun j=>[.bool (x.vanishes j)]):List Value).length=192:=(Zfs (sz:=1) (f:=fun j=>[.bool (x.vanishes j)]) (fun j=>rfl) 192)
  simp only [List.length_append,e0,e1]
theorem Zcv (x:Yu8):(Yuh x).all Value.oneCell'=true:=by
  unfold Yuh
  simp only [List.all_append,Bool.and_eq_true]
  exact ⟨(Zr8 (f:=fun j=>[.int .u64 (x.first j)]) (fun j=>rfl) 192),(Zr8 (f:=fun j=>[.bool (x.vanishes j)]) (fun j=>rfl) 192)⟩
theorem Yyt (x:Yu8) (y:Int→Int):Pt (Yuh x) 0 ((Ze4 192 fun j=>[.int .u64 (x.first j)])) ((Ze4 192 fun j=>[.int .u64 (y j)])) (Yuh { x with first:=y }):=⟨[],(Ze4 192 fun j=>[.bool (x.vanishes j)]),by simp [Yuh],by simp [Yuh],by
  simp only [List.length_append,List.length_nil]⟩
theorem Yy4 (x:Yu8) (y:Int→Bool):Pt (Yuh x) 192 ((Ze4 192 fun j=>[.bool (x.vanishes j)])) ((Ze4 192 fun j=>[.bool (y j)])) (Yuh { x with vanishes:=y }):=⟨(Ze4 192 fun j=>[.int .u64 (x.first j)]),[],by simp [Yuh],by simp [Yuh],by
  have e0:((Ze4 192 fun j=>[.int .u64 (x.first j)]):List Value).length=192:=(Zfs (sz:=1) (f:=fun j=>[.int .u64 (x.first j)]) (fun j=>rfl) 192)
  simp only [List.length_append,List.length_nil,e0]⟩
def Yv6 (x:Yuu):List Value:=[.int .i64 x.prod,.int .i64 x.dot,.int .i64 x.sym,.int .u64 x.rest,.bool x.open_]
theorem Yx6:∀ x,(Yv6 x).length=5:=fun _=>rfl
theorem Zct:∀ x,∀ u ∈ Yv6 x,u.oneCell'=true:=fun x u hu=>List.all_eq_true.1 (show (Yv6 x).all Value.oneCell'=true from rfl) u hu
abbrev Yx2:Kd Yuu:=Kd.flat 5 Yv6 Yx6 Zct
def Yw9 (x:Yus):List Value:=[.int .i64 x.spot,.int .u64 x.looks]
theorem Zdy:∀ x,(Yw9 x).length=2:=fun _=>rfl
theorem Ze8:∀ x,∀ u ∈ Yw9 x,u.oneCell'=true:=fun x u hu=>List.all_eq_true.1 (show (Yw9 x).all Value.oneCell'=true from rfl) u hu
abbrev Zdn:Kd Yus:=Kd.flat 2 Yw9 Zdy Ze8
abbrev Zgc:Fk Yuf:={ α:=Yut,inn:=fun x=>x.rhs,enc:=Yy6,e:=65,sz:=3,so:=2,cl:=fun x d=>[.int .i64 x.lhs,.slice d.A d.n d.c],hl:=Yvw,h1:=Yvy,hcl:=fun _ _=>rfl,ok:=fun x=>True,inj:=fun x d d' _ _ h=>by cases d; cases d'; simpa using h }
abbrev Yxk:Fk (Yuf × Nat):={ α:=Yut,inn:=fun x=>x.1.rhs,enc:=Yy6,e:=65,sz:=3,so:=2,cl:=fun x d=>[.int .i64 x.1.lhs,.slice d.A x.2 d.c],hl:=Yvw,h1:=Yvy,hcl:=fun _ _=>rfl,ok:=fun x=>x.2≤x.1.rhs.length,inj:=fun x d d' h1 h2 h=>by obtain ⟨A,n,c⟩:=d; obtain ⟨A',n',c'⟩:=d'; simp at h; obtain ⟨rfl,rfl⟩:=h; dsimp only at h1 h2; rw [h1,h2] }
def Zgr:Kd (Yuf × Nat):={ sz:=2,K:=(fun w F x cs=>∃ (A:Option Addr) (n c:Nat),cs=[.int .i64 x.1.lhs,.slice A x.2 c]∧Rw Zav w F A n c x.1.rhs∧x.2≤n),len:=(by rintro w F x cs ⟨_,_,_,rfl,_⟩; rfl),one:=(by rintro w F x cs ⟨_,_,_,rfl,_⟩; exact fun u hu=>List.all_eq_true.1 rfl u hu),mono:=(by rintro w w' F F' x cs ⟨_,_,_,rfl,h,k⟩ hF; exact ⟨_,_,_,rfl,h.mono hF,k⟩) }
abbrev Zd4:Fk (List Int):={ α:=Int,inn:=fun x=>x,enc:=(eI .i64),e:=3,sz:=1,so:=1,cl:=fun x d=>[.slice d.A d.n d.c],hl:=(hlI .i64),h1:=(Yya .i64),hcl:=fun _ _=>rfl,ok:=fun x=>True,inj:=fun x d d' _ _ h=>by cases d; cases d'; simpa using h }
abbrev Zku:Fk (List Yus):={ α:=Yus,inn:=fun x=>x,enc:=Yw9,e:=78,sz:=2,so:=1,cl:=fun x d=>[.slice d.A d.n d.c],hl:=Zdy,h1:=Ze8,hcl:=fun _ _=>rfl,ok:=fun x=>True,inj:=fun x d d' _ _ h=>by cases d; cases d'; simpa using h }
theorem Zq3 (x y:Yud):Zjt (Yv0 x).toArray (Yv0 y).toArray [(0,1),(1,1),(2,1)]=some (decide (x=y)):=by
  cases x; cases y; refine congrArg some ?_; rw [Bool.eq_iff_iff]; simp [Zmv]
theorem Zmp (x y:Yup):Zjt (Yuz x).toArray (Yuz y).toArray [(0,2),(1,0)]=some (decide (x=y)):=by
  cases x; cases y; refine congrArg some ?_; rw [Bool.eq_iff_iff]; simp [Zmv]
theorem Zr3 (x y:Yvn):Zjt (Yvp x).toArray (Yvp y).toArray [(0,2),(1,1)]=some (decide (x=y)):=by
  cases x; cases y; refine congrArg some ?_; rw [Bool.eq_iff_iff]; simp [Zmv]
theorem Zqq (x y:Yut):Zjt (Yy6 x).toArray (Yy6 y).toArray [(0,1),(1,2),(2,2)]=some (decide (x=y)):=by
  cases x; cases y; refine congrArg some ?_; rw [Bool.eq_iff_iff]; simp [Zmv]
theorem vw_63 (xs:List Yuf):(xs.map Zcx).map Zbe=xs:=by
  induction xs with
  | nil=>rfl
  | cons x xs ih =>
    rw [List.map_cons,List.map_cons,ih]
    congr 1
    simp [Zbe,Zcx]
theorem mix:Tryd.prog.follows .mixedOrders=true:=by kernel_rfl
theorem Zqk:zrK Tryd.prog 26=some [.slice none 0 0,.slice none 0 0,.slice none 0 0]:=by kernel_rfl
theorem Yw7:Zdv Tryd.prog 26 0=some 0:=by kernel_rfl
theorem Yz4:ldK Tryd.prog 22=some none:=by kernel_rfl
theorem ap_22:apK Tryd.prog 22=some (57,2,24):=by kernel_rfl
theorem sz_22:szK Tryd.prog 22=some 1:=by kernel_rfl
theorem Yxd:Zdv Tryd.prog 26 1=some 1:=by kernel_rfl
theorem Zak:ldK Tryd.prog 23=some none:=by kernel_rfl
theorem ap_23:apK Tryd.prog 23=some (60,2,24):=by kernel_rfl
theorem sz_23:szK Tryd.prog 23=some 1:=by kernel_rfl
theorem Yvf:Zdv Tryd.prog 26 2=some 2:=by kernel_rfl
theorem Ywb:ldK Tryd.prog 24=some none:=by kernel_rfl
theorem Za3:Tryd.prog.underlying 24=some (.slice 63):=by kernel_rfl
theorem Yxh:slE Tryd.prog 24=some (63,2):=by kernel_rfl
theorem Yx3:Zdv Tryd.prog 63 0=some 0:=by kernel_rfl
theorem Yvt:ldK Tryd.prog 3=some none:=by kernel_rfl
theorem bd_63:bld Tryd.prog 63=some (#[.int .i64 0,.slice none 0 0],[(0,1),(1,1)]):=by kernel_rfl
theorem Zl0:zrK Tryd.prog 63=some [.int .i64 0,.slice none 0 0]:=by kernel_rfl
theorem Zkw:szK Tryd.prog 63=some 2:=by kernel_rfl
theorem Yw1:Zdv Tryd.prog 63 1=some 1:=by kernel_rfl
theorem Yyc:ldK Tryd.prog 61=some none:=by kernel_rfl
theorem ap_61:apK Tryd.prog 61=some (65,3,40):=by kernel_rfl
theorem sz_61:szK Tryd.prog 61=some 1:=by kernel_rfl
theorem Zko:ldK Tryd.prog 63=some (some 2):=by kernel_rfl
theorem bs_24_1:Zkf Tryd.prog 24 1=some (63,2,#[.int .i64 0,.slice none 0 0]):=by kernel_rfl
theorem ap_24:apK Tryd.prog 24=some (63,2,32):=by kernel_rfl
theorem sz_24:szK Tryd.prog 24=some 1:=by kernel_rfl
theorem Yys:ldK Tryd.prog 26=some (some 3):=by kernel_rfl
theorem sz_26:szK Tryd.prog 26=some 3:=by kernel_rfl
theorem bd_57:bld Tryd.prog 57=some (#[.string (⟨#[]⟩:ByteArray),.bool false],[(0,1),(1,1)]):=by kernel_rfl
theorem bs_22_2:Zkf Tryd.prog 22 2=some (57,2,#[.string (⟨#[]⟩:ByteArray),.bool false,.string (⟨#[]⟩:ByteArray),.bool false]):=by kernel_rfl
theorem Yze:Tryd.prog.underlying 22=some (.slice 57):=by kernel_rfl
theorem Zls:slE Tryd.prog 22=some (57,2):=by kernel_rfl
theorem bd_60:bld Tryd.prog 60=some (#[.string (⟨#[]⟩:ByteArray),.int .i64 0],[(0,1),(1,1)]):=by kernel_rfl
theorem bs_23_2:Zkf Tryd.prog 23 2=some (60,2,#[.string (⟨#[]⟩:ByteArray),.int .i64 0,.string (⟨#[]⟩:ByteArray),.int .i64 0]):=by kernel_rfl
theorem Zbm:Tryd.prog.underlying 23=some (.slice 60):=by kernel_rfl
theorem Zlk:slE Tryd.prog 23=some (60,2):=by kernel_rfl
theorem bs_24_2:Zkf Tryd.prog 24 2=some (63,2,#[.int .i64 0,.slice none 0 0,.int .i64 0,.slice none 0 0]):=by kernel_rfl
theorem Za5:Tryd.prog.underlying 61=some (.slice 65):=by kernel_rfl
theorem bd_65:bld Tryd.prog 65=some (#[.int .i64 0,.string (⟨#[]⟩:ByteArray),.string (⟨#[]⟩:ByteArray)],[(0,1),(1,1),(2,1)]):=by kernel_rfl
theorem bs_61_2:Zkf Tryd.prog 61 2=some (65,3,#[.int .i64 0,.string (⟨#[]⟩:ByteArray),.string (⟨#[]⟩:ByteArray),.int .i64 0,.string (⟨#[]⟩:ByteArray),.string (⟨#[]⟩:ByteArray)]):=by kernel_rfl
theorem Yz5:slE Tryd.prog 61=some (65,3):=by kernel_rfl
theorem ap_27:apK Tryd.prog 27=some (31,3,24):=by kernel_rfl
theorem Yyd:Zdv Tryd.prog 65 0=some 0:=by kernel_rfl
theorem Zfl:slE Tryd.prog 103=some (4,1):=by kernel_rfl
theorem Zlq:ldK Tryd.prog 4=some none:=by kernel_rfl
theorem mk_103:mkK Tryd.prog 103=some (4,[.bool false],1):=by kernel_rfl
theorem sz_4:szK Tryd.prog 4=some 1:=by kernel_rfl
theorem un_3:Tryd.prog.underlying 3=some (.int .i64):=by kernel_rfl
theorem un_127:Tryd.prog.underlying 127=some (.int .u64):=by kernel_rfl
theorem bs_61_1:Zkf Tryd.prog 61 1=some (65,3,#[.int .i64 0,.string (⟨#[]⟩:ByteArray),.string (⟨#[]⟩:ByteArray)]):=by kernel_rfl
theorem bs_70_1:Zkf Tryd.prog 70 1=some (76,1,#[.int .u64 0]):=by kernel_rfl
theorem ap_70:apK Tryd.prog 70=some (76,1,8):=by kernel_rfl
theorem bd_123:bld Tryd.prog 123=some (#[.slice none 0 0,.slice none 0 0,.slice none 0 0,.slice none 0 0,.slice none 0 0,.slice none 0 0,.int .i64 0],[(0,3),(3,1),(4,1),(5,1),(6,1)]):=by kernel_rfl
theorem Zrm:Zdv Tryd.prog 123 1=some 3:=by kernel_rfl
theorem sz_103:szK Tryd.prog 103=some 1:=by kernel_rfl
theorem Zr6:Zdv Tryd.prog 123 2=some 4:=by kernel_rfl
theorem sz_70:szK Tryd.prog 70=some 1:=by kernel_rfl
theorem Zdz:Zdv Tryd.prog 123 3=some 5:=by kernel_rfl
theorem Zew:ldK Tryd.prog 47=some none:=by kernel_rfl
theorem Ziv:Zdv Tryd.prog 123 4=some 6:=by kernel_rfl
theorem Zms:Zkf Tryd.prog 47 1=some (3,1,#[.int .i64 0]):=by kernel_rfl
theorem ap_47:apK Tryd.prog 47=some (3,1,8):=by kernel_rfl
theorem Zqf:szK Tryd.prog 47=some 1:=by kernel_rfl
theorem sz_3:szK Tryd.prog 3=some 1:=by kernel_rfl
theorem Yy5:Zdv Tryd.prog 31 0=some 0:=by kernel_rfl
theorem Zb8:Zdv Tryd.prog 31 1=some 1:=by kernel_rfl
theorem Zgy:Zdv Tryd.prog 31 2=some 2:=by kernel_rfl
theorem mk_92:mkK Tryd.prog 92=some (76,[.int .u64 0],8):=by kernel_rfl
theorem Zl5:Tryd.prog.underlying 27=some (.slice 31):=by kernel_rfl
theorem Zcq:Zdv Tryd.prog 123 0=some 0:=by kernel_rfl
theorem Zgd:slE Tryd.prog 27=some (31,3):=by kernel_rfl
theorem ld_31:ldK Tryd.prog 31=some (some 3):=by kernel_rfl
theorem Zfx:slE Tryd.prog 47=some (3,1):=by kernel_rfl
theorem Zhu:slE Tryd.prog 92=some (76,1):=by kernel_rfl
theorem Zdt:ldK Tryd.prog 76=some none:=by kernel_rfl
theorem Zjs:szK Tryd.prog 76=some 1:=by kernel_rfl
theorem ld_70:ldK Tryd.prog 70=some none:=by kernel_rfl
theorem Zs0:slE Tryd.prog 70=some (76,1):=by kernel_rfl
theorem ld_103:ldK Tryd.prog 103=some none:=by kernel_rfl
theorem bd_31:bld Tryd.prog 31=some (#[.int .i64 0,.int .i64 0,.int .i64 0],[(0,1),(1,1),(2,1)]):=by kernel_rfl
theorem Zsp:Zkf Tryd.prog 27 1=some (31,3,#[.int .i64 0,.int .i64 0,.int .i64 0]):=by kernel_rfl
theorem Zot:ldK Tryd.prog 65=some (some 3):=by kernel_rfl
theorem zr_65:zrK Tryd.prog 65=some [.int .i64 0,.string (⟨#[]⟩:ByteArray),.string (⟨#[]⟩:ByteArray)]:=by kernel_rfl
theorem sz_65:szK Tryd.prog 65=some 3:=by kernel_rfl
theorem Zgq:Zdv Tryd.prog 118 0=some 0:=by kernel_rfl
theorem Zn4:arK Tryd.prog 115=some (192,1):=by kernel_rfl
theorem Zgn:Zdv Tryd.prog 118 1=some 192:=by kernel_rfl
theorem Zo0:arK Tryd.prog 116=some (192,1):=by kernel_rfl
theorem Zod:zrK Tryd.prog 118=some (Yuh (⟨(fun _=>0),(fun _=>false)⟩:Yu8)):=by kernel_rfl
theorem Zoe:ldK Tryd.prog 118=some (some 384):=by kernel_rfl
theorem Zlr:szK Tryd.prog 118=some 384:=by kernel_rfl
theorem ld_115:ldK Tryd.prog 115=some (some 192):=by kernel_rfl
theorem ae_115:aeK Tryd.prog 115=some (192,1):=by kernel_rfl
theorem ld_116:ldK Tryd.prog 116=some (some 192):=by kernel_rfl
theorem ae_116:aeK Tryd.prog 116=some (192,0):=by kernel_rfl
theorem ap_103:apK Tryd.prog 103=some (4,1,1):=by kernel_rfl
theorem mk_42:mkK Tryd.prog 42=some (47,[.slice none 0 0],24):=by kernel_rfl
theorem bd_102:bld Tryd.prog 102=some (#[.slice none 0 0,.slice none 0 0,.slice none 0 0,.slice none 0 0,.slice none 0 0,.slice none 0 0],[(0,3),(3,1),(4,1),(5,1)]):=by kernel_rfl
theorem Ze6:Zdv Tryd.prog 102 1=some 3:=by kernel_rfl
theorem Zi8:ldK Tryd.prog 100=some none:=by kernel_rfl
theorem un_100:Tryd.prog.underlying 100=some (.slice 107):=by kernel_rfl
theorem Znc:Zdv Tryd.prog 102 2=some 4:=by kernel_rfl
theorem Znm:Zdv Tryd.prog 102 3=some 5:=by kernel_rfl
theorem ld_42:ldK Tryd.prog 42=some none:=by kernel_rfl
theorem Zru:slE Tryd.prog 42=some (47,1):=by kernel_rfl
theorem bd_107:bld Tryd.prog 107=some (#[.int .i64 0,.int .i64 0,.int .i64 0,.int .u64 0,.bool false],[(0,1),(1,1),(2,1),(3,1),(4,1)]):=by kernel_rfl
theorem bs_100_1:Zkf Tryd.prog 100 1=some (107,5,#[.int .i64 0,.int .i64 0,.int .i64 0,.int .u64 0,.bool false]):=by kernel_rfl
theorem ap_100:apK Tryd.prog 100=some (107,5,40):=by kernel_rfl
theorem sz_100:szK Tryd.prog 100=some 1:=by kernel_rfl
theorem Zjm:slE Tryd.prog 100=some (107,5):=by kernel_rfl
theorem Zkn:Zdv Tryd.prog 107 2=some 2:=by kernel_rfl
theorem ld_107:ldK Tryd.prog 107=some (some 5):=by kernel_rfl
theorem zr_107:zrK Tryd.prog 107=some [.int .i64 0,.int .i64 0,.int .i64 0,.int .u64 0,.bool false]:=by kernel_rfl
theorem sz_107:szK Tryd.prog 107=some 5:=by kernel_rfl
theorem Ziq:Zdv Tryd.prog 107 4=some 4:=by kernel_rfl
theorem Zhj:Zdv Tryd.prog 107 3=some 3:=by kernel_rfl
theorem zr_31:zrK Tryd.prog 31=some [.int .i64 0,.int .i64 0,.int .i64 0]:=by kernel_rfl
theorem sz_31:szK Tryd.prog 31=some 3:=by kernel_rfl
theorem Zcc:Zdv Tryd.prog 102 0=some 0:=by kernel_rfl
theorem bd_78:bld Tryd.prog 78=some (#[.int .i64 0,.int .u64 0],[(0,1),(1,1)]):=by kernel_rfl
theorem Zsx:Zkf Tryd.prog 73 1=some (78,2,#[.int .i64 0,.int .u64 0]):=by kernel_rfl
theorem ap_73:apK Tryd.prog 73=some (78,2,16):=by kernel_rfl
theorem Zqu:ldK Tryd.prog 71=some none:=by kernel_rfl
theorem Ziy:slE Tryd.prog 71=some (76,1):=by kernel_rfl
theorem mk_71:mkK Tryd.prog 71=some (76,[.int .u64 0],8):=by kernel_rfl
theorem zr_71:zrK Tryd.prog 71=some [.slice none 0 0]:=by kernel_rfl
theorem sz_71:szK Tryd.prog 71=some 1:=by kernel_rfl
theorem zr_47:zrK Tryd.prog 47=some [.slice none 0 0]:=by kernel_rfl
theorem un_73:Tryd.prog.underlying 73=some (.slice 78):=by kernel_rfl
theorem slE_73:slE Tryd.prog 73=some (78,2):=by kernel_rfl
theorem ld_78:ldK Tryd.prog 78=some (some 2):=by kernel_rfl
theorem zr_78:zrK Tryd.prog 78=some [.int .i64 0,.int .u64 0]:=by kernel_rfl
theorem sz_78:szK Tryd.prog 78=some 2:=by kernel_rfl
theorem fo_78_0:Zdv Tryd.prog 78 0=some 0:=by kernel_rfl
theorem fo_78_1:Zdv Tryd.prog 78 1=some 1:=by kernel_rfl
theorem un_47:Tryd.prog.underlying 47=some (.slice 3):=by kernel_rfl
theorem un_75:Tryd.prog.underlying 75=some (.int .u64):=by kernel_rfl
theorem ar_128:arK Tryd.prog 128=some (64,1):=by kernel_rfl
theorem ld_5:ldK Tryd.prog 5=some none:=by kernel_rfl
theorem un_5:Tryd.prog.underlying 5=some (.int .u8):=by kernel_rfl
theorem un_71:Tryd.prog.underlying 71=some (.slice 76):=by kernel_rfl
theorem mk_27:mkK Tryd.prog 27=some (31,[.int .i64 0,.int .i64 0,.int .i64 0],24):=by kernel_rfl
theorem fo_107_0:Zdv Tryd.prog 107 0=some 0:=by kernel_rfl
theorem fo_107_1:Zdv Tryd.prog 107 1=some 1:=by kernel_rfl
theorem mk_82:mkK Tryd.prog 82=some (73,[.slice none 0 0],24):=by kernel_rfl
theorem Zsb:slE Tryd.prog 82=some (73,1):=by kernel_rfl
theorem ld_73:ldK Tryd.prog 73=some none:=by kernel_rfl
theorem sz_73:szK Tryd.prog 73=some 1:=by kernel_rfl
theorem eq_31:eqK Tryd.prog 31=some [(0,1),(1,1),(2,1)]:=by kernel_rfl
theorem ld_57:ldK Tryd.prog 57=some (some 2):=by kernel_rfl
theorem eq_57:eqK Tryd.prog 57=some [(0,2),(1,0)]:=by kernel_rfl
theorem ld_60:ldK Tryd.prog 60=some (some 2):=by kernel_rfl
theorem eq_60:eqK Tryd.prog 60=some [(0,2),(1,1)]:=by kernel_rfl
theorem eq_65:eqK Tryd.prog 65=some [(0,1),(1,2),(2,2)]:=by kernel_rfl
theorem Zsq:Zdv Tryd.prog 57 0=some 0:=by kernel_rfl
theorem ld_9:ldK Tryd.prog 9=some none:=by kernel_rfl
theorem Zsr:Zdv Tryd.prog 60 0=some 0:=by kernel_rfl
theorem bs_27_2:Zkf Tryd.prog 27 2=some (31,3,#[.int .i64 0,.int .i64 0,.int .i64 0,.int .i64 0,.int .i64 0,.int .i64 0]):=by kernel_rfl
end Go.Proofs.YtadcichlnacagaaDoor.K
