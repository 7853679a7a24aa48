/- Plain words and their laws: bytes and texts. No condition. -/
import Derived.Test.YtmekgfcfooghnaaU1
set_option linter.unusedVariables false
namespace Go.Proofs.Ytmekgfcfooghnaa.B
def Bts (b:List Int):Prop:=∀ x ∈ b,0≤x∧x≤255
theorem bt_ix {s:ByteArray} {i:Nat} (h:i < s.size):bt s i=(Xnr s)[i]'(by rw [Xr8]; exact h):=by
 unfold bt Xnr
 rw [Int.toNat_natCast,getElem?_pos s i h]
 simp
 rfl
theorem Yd6 (s t:ByteArray):Xnr (s++t)=Xnr s++Xnr t:=by simp [Xnr]
theorem Yho {l:List Int} (h:Bts l):Xnr (Xz3 l)=l:=by
 unfold Xnr Xz3
 simp only [List.map_map]
 refine (List.map_congr_left fun x hx=>?_).trans (List.map_id l)
 obtain ⟨h0,h1⟩:=h x hx
 simp only [Function.comp,id_eq]
 rw [UInt8.toNat_ofNat']
 omega
theorem Ydj (s:ByteArray):Xz3 (Xnr s)=s:=by
 unfold Xnr Xz3
 rw [List.map_map]
 have:s.data.toList.map ((fun x:Int=>UInt8.ofNat x.toNat) ∘ fun b=>(b.toNat:Int))=s.data.toList:=by
  refine (List.map_congr_left fun x _=>?_).trans (List.map_id _)
  simp
 rw [this]
theorem bsOf_bts (s:ByteArray):Bts (Xnr s):=fun x hx=>by
 unfold Xnr at hx
 obtain ⟨b,_,rfl⟩:=List.mem_map.1 hx
 have:=b.toNat_lt
 omega
theorem bs_inj {s t:ByteArray} (h:Xnr s=Xnr t):s=t:=by rw [← Ydj s,h,Ydj]
theorem Bts.app {a b:List Int} (h:Bts a) (k:Bts b):Bts (a++b):=fun x hx=>by
 rcases List.mem_append.1 hx with hx | hx
 ·exact h x hx
 ·exact k x hx
theorem Bts.drop {a:List Int} (h:Bts a) (n:Nat):Bts (a.drop n):=fun x hx=>h x (List.mem_of_mem_drop hx)
theorem Bts.take {a:List Int} (h:Bts a) (n:Nat):Bts (a.take n):=fun x hx=>h x (List.mem_of_mem_take hx)
theorem Bts.of {l:List Int} (h:l.all (fun x=>decide (0≤x) && decide (x≤255))=true):Bts l:=fun x hx=>by
 have:=List.all_eq_true.1 h x hx
 simpa using this
theorem Yez (s:ByteArray) (i j:Nat):Xnr (s.extract i j)=((Xnr s).take j).drop i:=by
 unfold Xnr
 simp [ByteArray.data_extract,List.drop_take,List.map_take,List.map_drop]
theorem ix_bs {s:ByteArray} {i:Nat} (h:i < s.size):ix (Xnr s) (i:Int)=bt s (i:Int):=by
 rw [Xnu (by rw [Xr8]; exact h),bt_ix h]
theorem Ye4 {s:ByteArray} {i:Nat} (h:i < s.size):(Xnr s).take (i + 1)=(Xnr s).take i++[bt s (i:Int)]:=by
 rw [List.take_succ_eq_append_getElem (by rw [Xr8]; exact h),← bt_ix h]
end Go.Proofs.Ytmekgfcfooghnaa.B
