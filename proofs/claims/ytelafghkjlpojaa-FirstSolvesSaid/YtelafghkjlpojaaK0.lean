/- The kinds of this seat's values and closed facts on its types, printed by my own tool. No condition. -/
import Derived.Test.YtelafghkjlpojaaBE
import Derived.Test.YtelafghkjlpojaaBL
import Derived.Test.YtelafghkjlpojaaR
import Derived.Test.YtelafghkjlpojaaProg
set_option linter.unusedVariables false
set_option maxRecDepth 100000
set_option maxHeartbeats 4000000
namespace Go.Proofs.Ytelafghkjlpojaa.K
open Go.Proofs.Ytelafghkjlpojaa.B Go.Proofs.Ytelafghkjlpojaa.R Go.RowKit
def Yhs (x:Yg9):List Value:=[.int .i64 x.sym,.string x.field,.string x.as]
theorem Yig:∀ x,(Yhs x).length=3:=fun _=>rfl
theorem Yiv:∀ x,∀ u ∈ Yhs x,u.oneCell'=true:=fun x u hu=>List.all_eq_true.1 (show (Yhs x).all Value.oneCell'=true from rfl) u hu
abbrev Yiy:Kd Yg9:=Kd.flat 3 Yhs Yig Yiv
def Yg6 (x:Ygd):List Value:=[.string x.name,.bool x.lit]
theorem Yki:∀ x,(Yg6 x).length=2:=fun _=>rfl
theorem Ykk:∀ x,∀ u ∈ Yg6 x,u.oneCell'=true:=fun x u hu=>List.all_eq_true.1 (show (Yg6 x).all Value.oneCell'=true from rfl) u hu
abbrev Ygi:Kd Ygd:=Kd.flat 2 Yg6 Yki Ykk
def Ygb (x:Ygz):List Value:=[.string x.name,.int .i64 x.kind]
theorem Yma:∀ x,(Ygb x).length=2:=fun _=>rfl
theorem Ym9:∀ x,∀ u ∈ Ygb x,u.oneCell'=true:=fun x u hu=>List.all_eq_true.1 (show (Ygb x).all Value.oneCell'=true from rfl) u hu
abbrev Ygu:Kd Ygz:=Kd.flat 2 Ygb Yma Ym9
def Ygs:Kd Yg8:={ sz:=2,K:=(fun w F x cs=>∃ (A0:Option Addr),∃ (n0:Nat),∃ (c0:Nat),cs=[.int .i64 x.lhs,.slice A0 n0 c0]∧Rw Yiy w F A0 n0 c0 x.rhs),len:=(by rintro w F x cs ⟨_,_,_,rfl,_⟩; rfl),one:=(by rintro w F x cs ⟨_,_,_,rfl,_⟩; exact fun u hu=>List.all_eq_true.1 rfl u hu),mono:=(by rintro w w' F F' x cs ⟨_,_,_,rfl,h0⟩ hF; exact ⟨_,_,_,rfl,h0.mono hF⟩) }
def Yug:Kd Yfz:={ sz:=3,K:=(fun w F x cs=>∃ (A0:Option Addr),∃ (n0:Nat),∃ (c0:Nat),∃ (A1:Option Addr),∃ (n1:Nat),∃ (c1:Nat),∃ (A2:Option Addr),∃ (n2:Nat),∃ (c2:Nat),cs=[.slice A0 n0 c0,.slice A1 n1 c1,.slice A2 n2 c2]∧Rw Ygi w F A0 n0 c0 x.terms∧Rw Ygu w F A1 n1 c1 x.syms∧Rw Ygs w F A2 n2 c2 x.prods),len:=(by rintro w F x cs ⟨_,_,_,_,_,_,_,_,_,rfl,_⟩; rfl),one:=(by rintro w F x cs ⟨_,_,_,_,_,_,_,_,_,rfl,_⟩; exact fun u hu=>List.all_eq_true.1 rfl u hu),mono:=(by rintro w w' F F' x cs ⟨_,_,_,_,_,_,_,_,_,rfl,h0,h1,h2⟩ hF; exact ⟨_,_,_,_,_,_,_,_,_,rfl,h0.mono hF,h1.mono hF,h2.mono hF⟩) }
def Yg5 (x:Yg0):List Value:=(Ylv 192 fun j=>[.int .u64 (x.first j)])++((Ylv 192 fun j=>[.bool (x.vanishes j)]))
theorem Yhc (x:Yg0):(Yg5 x).length=384:=by
  unfold Yg5
  have e0:((Ylv 192 fun j=>[.int .u64 (x.first j)]):List Value).length=192:=(Yms (sz:=1) (f:=fun j=>[.int .u64 (x.first j)]) (fun j=>rfl) 192)
  have e1:((Ylv 192 fun j=>[.bool (x.vanishes j)]):List Value).length=192:=(Yms (sz:=1) (f:=fun j=>[.bool (x.vanishes j)]) (fun j=>rfl) 192)
  simp only [List.length_append,e0,e1]
theorem Yle (x:Yg0):(Yg5 x).all Value.oneCell'=true:=by
  unfold Yg5
  simp only [List.all_append,Bool.and_eq_true]
  exact ⟨(Yuc (f:=fun j=>[.int .u64 (x.first j)]) (fun j=>rfl) 192),(Yuc (f:=fun j=>[.bool (x.vanishes j)]) (fun j=>rfl) 192)⟩
theorem Yiu (x:Yg0) (y:Int→Int):Pt (Yg5 x) 0 ((Ylv 192 fun j=>[.int .u64 (x.first j)])) ((Ylv 192 fun j=>[.int .u64 (y j)])) (Yg5 { x with first:=y }):=⟨[],(Ylv 192 fun j=>[.bool (x.vanishes j)]),by simp [Yg5],by simp [Yg5],by
  simp only [List.length_append,List.length_nil]⟩
theorem Yi8 (x:Yg0) (y:Int→Bool):Pt (Yg5 x) 192 ((Ylv 192 fun j=>[.bool (x.vanishes j)])) ((Ylv 192 fun j=>[.bool (y j)])) (Yg5 { x with vanishes:=y }):=⟨(Ylv 192 fun j=>[.int .u64 (x.first j)]),[],by simp [Yg5],by simp [Yg5],by
  have e0:((Ylv 192 fun j=>[.int .u64 (x.first j)]):List Value).length=192:=(Yms (sz:=1) (f:=fun j=>[.int .u64 (x.first j)]) (fun j=>rfl) 192)
  simp only [List.length_append,List.length_nil,e0]⟩
abbrev Ymr:Fk Yg8:={ α:=Yg9,inn:=fun x=>x.rhs,enc:=Yhs,e:=36,sz:=3,so:=2,cl:=fun x d=>[.int .i64 x.lhs,.slice d.A d.n d.c],hl:=Yig,h1:=Yiv,hcl:=fun _ _=>rfl,ok:=fun x=>True,inj:=fun x d d' _ _ h=>by cases d; cases d'; simpa using h }
abbrev Ygo:Fk (Yg8 × Nat):={ α:=Yg9,inn:=fun x=>x.1.rhs,enc:=Yhs,e:=36,sz:=3,so:=2,cl:=fun x d=>[.int .i64 x.1.lhs,.slice d.A x.2 d.c],hl:=Yig,h1:=Yiv,hcl:=fun _ _=>rfl,ok:=fun x=>x.2≤x.1.rhs.length,inj:=fun x d d' h1 h2 h=>by obtain ⟨A,n,c⟩:=d; obtain ⟨A',n',c'⟩:=d'; simp at h; obtain ⟨rfl,rfl⟩:=h; dsimp only at h1 h2; rw [h1,h2] }
def Yip:Kd (Yg8 × Nat):={ sz:=2,K:=(fun w F x cs=>∃ (A:Option Addr) (n c:Nat),cs=[.int .i64 x.1.lhs,.slice A x.2 c]∧Rw Yiy w F A n c x.1.rhs∧x.2≤n),len:=(by rintro w F x cs ⟨_,_,_,rfl,_⟩; rfl),one:=(by rintro w F x cs ⟨_,_,_,rfl,_⟩; exact fun u hu=>List.all_eq_true.1 rfl u hu),mono:=(by rintro w w' F F' x cs ⟨_,_,_,rfl,h,k⟩ hF; exact ⟨_,_,_,rfl,h.mono hF,k⟩) }
theorem Yqu (x y:Yg9):Ypp (Yhs x).toArray (Yhs y).toArray [(0,1),(1,2),(2,2)]=some (decide (x=y)):=by
  cases x; cases y; refine congrArg some ?_; rw [Bool.eq_iff_iff]; simp [Yth]
theorem Yof (x y:Ygd):Ypp (Yg6 x).toArray (Yg6 y).toArray [(0,2),(1,0)]=some (decide (x=y)):=by
  cases x; cases y; refine congrArg some ?_; rw [Bool.eq_iff_iff]; simp [Yth]
theorem Yqi (x y:Ygz):Ypp (Ygb x).toArray (Ygb y).toArray [(0,2),(1,1)]=some (decide (x=y)):=by
  cases x; cases y; refine congrArg some ?_; rw [Bool.eq_iff_iff]; simp [Yth]
theorem Yqt (xs:List Yg8):(xs.map Yif).map Yi5=xs:=by
  induction xs with
  | nil=>rfl
  | cons x xs ih =>
    rw [List.map_cons,List.map_cons,ih]
    congr 1
    simp [Yi5,Yif]
theorem mix:Try.prog.follows .mixedOrders=true:=by kernel_rfl
theorem Ynd:Try.prog.underlying 27=some (.slice 36):=by kernel_rfl
theorem Ym8:slE Try.prog 27=some (36,3):=by kernel_rfl
theorem Yr7:ldK Try.prog 36=some (some 3):=by kernel_rfl
theorem Ytf:bldS Try.prog 27 1=some (36,3,#[.int .i64 0,.string (⟨#[]⟩:ByteArray),.string (⟨#[]⟩:ByteArray)]):=by kernel_rfl
theorem ap_27:apK Try.prog 27=some (36,3,40):=by kernel_rfl
theorem Yqs:zrK Try.prog 26=some [.slice none 0 0,.slice none 0 0,.slice none 0 0]:=by kernel_rfl
theorem Yi6:Yqy Try.prog 26 0=some 0:=by kernel_rfl
theorem Ykt:ldK Try.prog 22=some none:=by kernel_rfl
theorem Ylq:Try.prog.underlying 22=some (.slice 58):=by kernel_rfl
theorem Yqa:slE Try.prog 22=some (58,2):=by kernel_rfl
theorem ld_58:ldK Try.prog 58=some (some 2):=by kernel_rfl
theorem Yup:bldS Try.prog 22 1=some (58,2,#[.string (⟨#[]⟩:ByteArray),.bool false]):=by kernel_rfl
theorem ap_22:apK Try.prog 22=some (58,2,24):=by kernel_rfl
theorem sz_22:szK Try.prog 22=some 1:=by kernel_rfl
theorem Yih:Yqy Try.prog 26 1=some 1:=by kernel_rfl
theorem Yl8:ldK Try.prog 23=some none:=by kernel_rfl
theorem Yme:Try.prog.underlying 23=some (.slice 61):=by kernel_rfl
theorem Ypy:slE Try.prog 23=some (61,2):=by kernel_rfl
theorem ld_61:ldK Try.prog 61=some (some 2):=by kernel_rfl
theorem Yuw:bldS Try.prog 23 1=some (61,2,#[.string (⟨#[]⟩:ByteArray),.int .i64 0]):=by kernel_rfl
theorem ap_23:apK Try.prog 23=some (61,2,24):=by kernel_rfl
theorem sz_23:szK Try.prog 23=some 1:=by kernel_rfl
theorem Yh1:Yqy Try.prog 26 2=some 2:=by kernel_rfl
theorem Yj4:ldK Try.prog 24=some none:=by kernel_rfl
theorem Ymz:Try.prog.underlying 24=some (.slice 38):=by kernel_rfl
theorem Yjk:slE Try.prog 24=some (38,2):=by kernel_rfl
theorem Ykw:Yqy Try.prog 38 0=some 0:=by kernel_rfl
theorem Ymu:ldK Try.prog 3=some none:=by kernel_rfl
theorem Yko:Yqy Try.prog 38 1=some 1:=by kernel_rfl
theorem Yn0:ldK Try.prog 27=some none:=by kernel_rfl
theorem bd_38:bld Try.prog 38=some (#[.int .i64 0,.slice none 0 0],[(0,1),(1,1)]):=by kernel_rfl
theorem Yuu:bldS Try.prog 24 1=some (38,2,#[.int .i64 0,.slice none 0 0]):=by kernel_rfl
theorem ap_24:apK Try.prog 24=some (38,2,32):=by kernel_rfl
theorem sz_24:szK Try.prog 24=some 1:=by kernel_rfl
theorem Yjg:ldK Try.prog 26=some (some 3):=by kernel_rfl
theorem Yrn:szK Try.prog 26=some 3:=by kernel_rfl
theorem Yn5:Yqy Try.prog 36 0=some 0:=by kernel_rfl
theorem ld_38:ldK Try.prog 38=some (some 2):=by kernel_rfl
theorem zr_38:zrK Try.prog 38=some [.int .i64 0,.slice none 0 0]:=by kernel_rfl
theorem sz_38:szK Try.prog 38=some 2:=by kernel_rfl
theorem Ynr:slE Try.prog 40=some (4,1):=by kernel_rfl
theorem ld_4:ldK Try.prog 4=some none:=by kernel_rfl
theorem mk_40:mkK Try.prog 40=some (4,[.bool false],1):=by kernel_rfl
theorem sz_4:szK Try.prog 4=some 1:=by kernel_rfl
theorem un_3:Try.prog.underlying 3=some (.int .i64):=by kernel_rfl
theorem un_49:Try.prog.underlying 49=some (.int .u64):=by kernel_rfl
theorem bd_36:bld Try.prog 36=some (#[.int .i64 0,.string (⟨#[]⟩:ByteArray),.string (⟨#[]⟩:ByteArray)],[(0,1),(1,1),(2,1)]):=by kernel_rfl
theorem bd_58:bld Try.prog 58=some (#[.string (⟨#[]⟩:ByteArray),.bool false],[(0,1),(1,1)]):=by kernel_rfl
theorem bd_61:bld Try.prog 61=some (#[.string (⟨#[]⟩:ByteArray),.int .i64 0],[(0,1),(1,1)]):=by kernel_rfl
theorem sz_27:szK Try.prog 27=some 1:=by kernel_rfl
theorem zr_36:zrK Try.prog 36=some [.int .i64 0,.string (⟨#[]⟩:ByteArray),.string (⟨#[]⟩:ByteArray)]:=by kernel_rfl
theorem sz_36:szK Try.prog 36=some 3:=by kernel_rfl
theorem Yo7:Yqy Try.prog 67 0=some 0:=by kernel_rfl
theorem Yu3:arK Try.prog 64=some (192,1):=by kernel_rfl
theorem ld_29:ldK Try.prog 29=some none:=by kernel_rfl
theorem Yoc:Yqy Try.prog 67 1=some 192:=by kernel_rfl
theorem Ytr:arK Try.prog 65=some (192,1):=by kernel_rfl
theorem Yts:zrK Try.prog 67=some (Yg5 (⟨(fun _=>0),(fun _=>false)⟩:Yg0)):=by kernel_rfl
theorem sz_29:szK Try.prog 29=some 1:=by kernel_rfl
theorem Ytz:ldK Try.prog 67=some (some 384):=by kernel_rfl
theorem Ysr:szK Try.prog 67=some 384:=by kernel_rfl
theorem ld_64:ldK Try.prog 64=some (some 192):=by kernel_rfl
theorem ae_64:aeK Try.prog 64=some (192,1):=by kernel_rfl
theorem ld_65:ldK Try.prog 65=some (some 192):=by kernel_rfl
theorem ae_65:aeK Try.prog 65=some (192,0):=by kernel_rfl
theorem eq_36:eqK Try.prog 36=some [(0,1),(1,2),(2,2)]:=by kernel_rfl
theorem eq_58:eqK Try.prog 58=some [(0,2),(1,0)]:=by kernel_rfl
theorem eq_61:eqK Try.prog 61=some [(0,2),(1,1)]:=by kernel_rfl
theorem Yux:bldS Try.prog 42 1=some (29,1,#[.int .u64 0]):=by kernel_rfl
theorem ap_42:apK Try.prog 42=some (29,1,8):=by kernel_rfl
theorem ap_40:apK Try.prog 40=some (4,1,1):=by kernel_rfl
theorem Yu2:Try.prog.underlying 40=some (.slice 4):=by kernel_rfl
theorem un_4:Try.prog.underlying 4=some (.bool):=by kernel_rfl
theorem Ytq:Try.prog.underlying 42=some (.slice 29):=by kernel_rfl
theorem Yul:slE Try.prog 42=some (29,1):=by kernel_rfl
theorem bs_40_1:bldS Try.prog 40 1=some (4,1,#[.bool false]):=by kernel_rfl
end Go.Proofs.Ytelafghkjlpojaa.K
