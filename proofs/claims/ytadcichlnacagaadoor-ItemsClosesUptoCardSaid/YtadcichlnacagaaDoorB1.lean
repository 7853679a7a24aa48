/- Lemmas of my own on the machine: frames as lists of slots, memory as a list of blocks of the call's own, and one rule for each form of code. No condition. -/
import Derived.Test.YtadcichlnacagaaDoorB0
set_option linter.unusedVariables false
set_option linter.unusedSimpArgs false
namespace Go.Proofs.YtadcichlnacagaaDoor.B
open Go.RowKit

theorem nbeq {a b:Nat} (e:¬ a=b):Nat.beq a b=false:=Bool.eq_false_iff.2 (fun h=>e (Nat.eq_of_beq_eq_true h))
abbrev Fm:=List (Nat × Value)
def look:Fm→Nat→Option Value
 | [],_=>none
 | p :: l,t=>cond (Nat.beq p.1 t) (some p.2) (look l t)
def Fr (n:Nat) (l:Fm) (a:Act):Prop :=
 a.defers=[]∧a.tmps.size=n∧∀ t v,look l t=some v→a.tmps.getD t undef=v
def evl (l:Fm):Operand→Option Value
 | .tmp t=>look l t
 | .const v=>some v
 | .global g=>some (.pointer (some ⟨g,0,none⟩))
 | .func f=>some (.func (.func f) #[] #[])
theorem Fr.ev {n:Nat} {l:Fm} {a:Act} (h:Fr n l a) {x:Operand} {v:Value} (hx:evl l x=some v):a.eval x=v:=by
 cases x with
 | tmp t=>exact h.2.2 t v hx
 | const u=>simpa [evl,Act.eval] using hx
 | global g=>simpa [evl,Act.eval] using hx
 | func f=>simpa [evl,Act.eval] using hx
theorem Fr.put {n:Nat} {l:Fm} {a:Act} (h:Fr n l a) {d:Nat} (hd:d < n) (v:Value):Fr n ((d,v) :: l) (a.put (some d) v):=by
 refine ⟨h.1,by simp [Act.put,h.2.1],fun t u ht=>?_⟩
 simp only [look] at ht
 by_cases e:d=t
 ·subst e
  simp at ht
  subst ht
  simp [Act.put,Array.getD_eq_getD_getElem?,h.2.1,hd]
 ·have:Nat.beq d t=false:=nbeq e
  rw [this] at ht
  have:=h.2.2 t u ht
  simpa [Act.put,Array.getD_eq_getD_getElem?,Array.getElem?_setIfInBounds,e] using this
def subf:Fm→Fm→Prop
 | [],_=>True
 | p :: r,l=>look l p.1=some p.2∧subf r l
theorem Zql:∀ {r l:Fm},subf r l→∀ {t v},look r t=some v→look l t=some v
 | [],_,_,_,_,h=>by cases h
 | p :: r,l,hs,t,v,h=>by
  simp only [look] at h
  by_cases e:p.1=t
  ·subst e
   simp at h
   subst h
   exact hs.1
  ·have:Nat.beq p.1 t=false:=nbeq e
   rw [this] at h
   exact Zql hs.2 h
theorem Fr.sub {n:Nat} {l r:Fm} {a:Act} (h:Fr n l a) (hs:subf r l):Fr n r a:=⟨h.1,h.2.1,fun t v ht=>h.2.2 t v (Zql hs ht)⟩

inductive Ent where
 | box (g:Nat) (T:TypeId) (cs:List Value)
 | own (v:Value) (e:TypeId) (sz n:Nat) (cells:List Value)
 | deep (v:Value) (bs:List Nat) (p:World→Prop)
def Ent.blk:Ent→List Nat
 | .box g _ _=>[g]
 | .own v _ _ _ _=>v.ownBlock.toList
 | .deep _ bs _=>bs
def Ent.ok (w:World):Ent→Prop
 | .box g T cs=>w.heap[g]? = some (.cells cs.toArray T (0,0))
 | .own v e sz n cells=>Yzb w e sz v n cells
 | .deep _ bs p=>(∀ b ∈ bs,b < w.heap.size)∧∀ w':World,w.heap.size≤w'.heap.size→(∀ b ∈ bs,w'.heap[b]? = w.heap[b]?)→p w'
theorem Ent.lt {w:World} {e:Ent} (h:e.ok w) {b:Nat} (hb:b ∈ e.blk):b < w.heap.size:=by
 have key:∀ {g:Nat} {o:Obj},w.heap[g]? = some o→g < w.heap.size:=fun h=>(Array.getElem?_eq_some_iff.1 h).1
 cases e with
 | box g T cs=>simp [Ent.blk] at hb; subst hb; exact key h
 | own v e sz n cells=>exact Yzb.lt h (by simpa [Ent.blk,Option.mem_toList] using hb)
 | deep v bs p=>exact h.1 b hb
theorem Ent.keep {w w':World} {e:Ent} (h:e.ok w) (hs:w.heap.size≤w'.heap.size) (hk:∀ b ∈ e.blk,w'.heap[b]? = w.heap[b]?):e.ok w':=by
 cases e with
 | box g T cs=>exact (hk g (by simp [Ent.blk])).trans h
 | own v e sz n cells=>exact Yzb.keep h fun b hb=>hk b (by simp [Ent.blk,hb])
 | deep v bs p=>exact ⟨fun b hb=>Nat.lt_of_lt_of_le (h.1 b hb) hs,fun w2 h2 h3=>h.2 w2 (Nat.le_trans hs h2) fun b hb=>(h3 b hb).trans (hk b hb)⟩
structure Yva where
 w:World
 bs:List (List Nat)
 F:Nat→Prop
 sh:Bool
def Yva.av (s:Yva) (b:Nat):Prop:=b < s.w.heap.size∧(∀ o ∈ s.bs,b ∉ o)∧s.F b
def far (x y:List Nat):Prop:=∀ b ∈ x,b ∉ y
structure Env (w0 w:World):Prop where
 os:w.os=w0.os
 tape:w.tape=w0.tape
 output:w.output=w0.output
 size:w0.heap.size≤w.heap.size
theorem Env.refl (w:World):Env w w:=⟨rfl,rfl,rfl,Nat.le_refl _⟩
theorem Env.trans {a b c:World} (h:Env a b) (k:Env b c):Env a c:=⟨k.os.trans h.os,k.tape.trans h.tape,k.output.trans h.output,Nat.le_trans h.size k.size⟩
structure Loc (w0 w:World) (M:List Ent) (S:List Yva):Prop where
 env:Env w0 w
 ok:∀ e ∈ M,e.ok w
 apart:M.Pairwise (fun x y=>far x.blk y.blk)
 snap:∀ s ∈ S,s.w.heap.size≤w.heap.size∧∀ b,s.av b→w.heap[b]? = s.w.heap[b]?∧∀ e ∈ M,b ∉ e.blk

structure Chg (X:List Nat) (w w':World):Prop where
 env:Env w w'
 keep:∀ b,b < w.heap.size→b ∉ X→w'.heap[b]? = w.heap[b]?
theorem Chg.refl (X:List Nat) (w:World):Chg X w w:=⟨Env.refl w,fun _ _ _=>rfl⟩
theorem Chg.of_grown {w w':World} {row:Option Nat} (h:w.grownBy w' row):Chg row.toList w w':=⟨⟨h.os,h.tape,h.output,h.size⟩,fun b hb hn=>h.block b hb (fun e=>hn (by simp [← e]))⟩
theorem Chg.alloc (w:World) (o:Obj) (X:List Nat):Chg X w (w.alloc o):=⟨⟨rfl,rfl,rfl,by simp⟩,fun b hb _=>Below.heap_alloc w o b hb⟩
theorem Chg.set (w:World) (p:Addr) (u:Value):Chg [p.block] w (w.setCell p u):=⟨⟨rfl,rfl,rfl,by simp [World.setCell]⟩,fun b _ hn=>Below.heap_setCell w p u b (fun e=>hn (by rw [e]; simp))⟩
theorem Chg.trans {X:List Nat} {a b c:World} (h:Chg X a b) (k:Chg X b c):Chg X a c :=
 ⟨h.env.trans k.env,fun i hi hn=>(k.keep i (Nat.lt_of_lt_of_le hi h.env.size) hn).trans (h.keep i hi hn)⟩
theorem Chg.below {w w':World} (h:Chg [] w w'):Below w.heap.size w w':=⟨h.env.os,h.env.tape,h.env.output,h.env.size,fun k hk=>h.keep k hk (by simp)⟩

theorem Loc.add {w0 w w':World} {M:List Ent} {S:List Yva} (h:Loc w0 w M S) (hc:Chg [] w w') (e:Ent) (he:e.ok w') (hn:∀ b ∈ e.blk,w.heap.size≤b):Loc w0 w' (e :: M) S:=by
 refine ⟨h.env.trans hc.env,fun x hx=>?_,?_,fun s hs=>?_⟩
 ·rcases List.mem_cons.1 hx with rfl | hx
  ·exact he
  ·exact Ent.keep (h.ok x hx) hc.env.size fun b hb=>hc.keep b (Ent.lt (h.ok x hx) hb) (by simp)
 ·refine List.pairwise_cons.2 ⟨fun x hx b hb h2 => ?_, h.apart⟩
  have h1:=hn b hb
  have h3:=Ent.lt (h.ok x hx) h2
  omega
 ·obtain ⟨h1,h2⟩:=h.snap s hs
  refine ⟨Nat.le_trans h1 hc.env.size,fun b hb=>?_⟩
  obtain ⟨h3,h4⟩:=h2 b hb
  have hlt:b < w.heap.size:=Nat.lt_of_lt_of_le hb.1 h1
  refine ⟨(hc.keep b hlt (by simp)).trans h3,fun x hx=>?_⟩
  rcases List.mem_cons.1 hx with rfl | hx
  ·intro e1; have:=hn b e1; omega
  ·exact h4 x hx
theorem Loc.same {w0 w w':World} {M:List Ent} {S:List Yva} (h:Loc w0 w M S) (hc:Chg [] w w'):Loc w0 w' M S:=by
 refine ⟨h.env.trans hc.env,fun x hx=>Ent.keep (h.ok x hx) hc.env.size fun b hb=>hc.keep b (Ent.lt (h.ok x hx) hb) (by simp),h.apart,fun s hs=>?_⟩
 obtain ⟨h1,h2⟩:=h.snap s hs
 exact ⟨Nat.le_trans h1 hc.env.size,fun b hb=>⟨(hc.keep b (Nat.lt_of_lt_of_le hb.1 h1) (by simp)).trans (h2 b hb).1,(h2 b hb).2⟩⟩
theorem Znr {α:Type} {l:List α} {j:Nat} {x y:α} (h:y ∈ l.set j x):y=x∨∃ i,i≠j∧l[i]? = some y:=by
 obtain ⟨i,hi⟩:=List.mem_iff_getElem?.1 h
 rw [List.getElem?_set] at hi
 by_cases e:j=i
 ·subst e
  rw [if_pos rfl] at hi
  split at hi
  ·left; injection hi with hi; exact hi.symm
  ·cases hi
 ·rw [if_neg e] at hi
  exact .inr ⟨i,Ne.symm e,hi⟩
theorem far.symm' {x y:List Nat} (h:far x y):far y x:=fun b hb hx=>h b hx hb
theorem Zc3 {M:List Ent} (h:M.Pairwise (fun x y=>far x.blk y.blk)) {i j:Nat} {x y:Ent} (hij:i≠j) (hi:M[i]? = some x) (hj:M[j]? = some y):far x.blk y.blk:=by
 obtain ⟨h1,rfl⟩:=List.getElem?_eq_some_iff.1 hi
 obtain ⟨h2,rfl⟩:=List.getElem?_eq_some_iff.1 hj
 rcases Nat.lt_or_gt_of_ne hij with h' | h'
 ·exact List.pairwise_iff_getElem.1 h i j h1 h2 h'
 ·exact far.symm' (List.pairwise_iff_getElem.1 h j i h2 h1 h')
theorem Loc.upd {w0 w w':World} {M:List Ent} {S:List Yva} {j:Nat} {e e':Ent} (h:Loc w0 w M S) (hj:M[j]? = some e) (hc:Chg e.blk w w') (he:e'.ok w')
  (hn:∀ b ∈ e'.blk,b ∈ e.blk∨w.heap.size≤b):Loc w0 w' (M.set j e') S:=by
 have hfar:∀ i y,i≠j→M[i]? = some y→far y.blk e'.blk:=by
  intro i y hij hy b hb hb'
  rcases hn b hb' with h1 | h1
  ·exact Zc3 h.apart hij hy hj b hb h1
  ·have:=Ent.lt (h.ok y (List.mem_iff_getElem?.2 ⟨i,hy⟩)) hb
   omega
 refine ⟨h.env.trans hc.env,fun x hx=>?_,?_,fun s hs=>?_⟩
 ·rcases Znr hx with rfl | ⟨i,hij,hi⟩
  ·exact he
  ·have hx':=h.ok x (List.mem_iff_getElem?.2 ⟨i,hi⟩)
   exact Ent.keep hx' hc.env.size fun b hb=>hc.keep b (Ent.lt hx' hb) (Zc3 h.apart hij hi hj b hb)
 ·refine List.pairwise_iff_getElem.2 fun i k hi hk hik => ?_
  simp only [List.length_set] at hi hk
  rw [List.getElem_set,List.getElem_set]
  by_cases e1:j=i
  ·subst e1
   rw [if_pos rfl,if_neg (by omega)]
   exact far.symm' (hfar k _ (by omega) (List.getElem?_eq_getElem hk))
  ·rw [if_neg e1]
   by_cases e2:j=k
   ·subst e2
    rw [if_pos rfl]
    exact hfar i _ (by omega) (List.getElem?_eq_getElem hi)
   ·rw [if_neg e2]
    exact List.pairwise_iff_getElem.1 h.apart i k hi hk hik
 ·obtain ⟨h1,h2⟩:=h.snap s hs
  have hmem:e ∈ M:=List.mem_iff_getElem?.2 ⟨j,hj⟩
  refine ⟨Nat.le_trans h1 hc.env.size,fun b hb=>?_⟩
  obtain ⟨h3,h4⟩:=h2 b hb
  have hlt:b < w.heap.size:=Nat.lt_of_lt_of_le hb.1 h1
  refine ⟨(hc.keep b hlt (h4 e hmem)).trans h3,fun x hx=>?_⟩
  rcases Znr hx with rfl | ⟨i,hij,hi⟩
  ·intro e1
   rcases hn b e1 with hn | hn
   ·exact h4 e hmem hn
   ·omega
  ·exact h4 x (List.mem_iff_getElem?.2 ⟨i,hi⟩)
theorem Loc.drop {w0 w:World} {M M':List Ent} {S S':List Yva} (h:Loc w0 w M S) (hM:M'.Sublist M) (hS:∀ s ∈ S',s ∈ S):Loc w0 w M' S' :=
 ⟨h.env,fun e he=>h.ok e (hM.subset he),h.apart.sublist hM,fun s hs=>⟨(h.snap s (hS s hs)).1,fun b hb=>⟨((h.snap s (hS s hs)).2 b hb).1,fun e he=>((h.snap s (hS s hs)).2 b hb).2 e (hM.subset he)⟩⟩⟩
theorem Loc.mark {w0 w:World} {M:List Ent} {S:List Yva} (h:Loc w0 w M S) (F:Nat→Prop) (sh:Bool):Loc w0 w M (⟨w,M.map Ent.blk,F,sh⟩ :: S) :=
 ⟨h.env,h.ok,h.apart,fun s hs=>by
  rcases List.mem_cons.1 hs with rfl | hs
  ·exact ⟨Nat.le_refl _,fun b hb=>⟨rfl,fun e he=>hb.2.1 e.blk (List.mem_map.2 ⟨e,he,rfl⟩)⟩⟩
  ·exact h.snap s hs⟩

structure Cx where
 P:Program
 f:FuncId
 fn:Func
 n:Nat
 R:Ending→World→Prop
 w0:World
def Cx.b (C:Cx):Frame:={ (default:Frame) with fn:=C.f,kind:=.normal }
def Done (C:Cx) (k:List Item) (a:Act) (w:World):Prop :=
 ∀ cs,∃ e w' fr,C.R e w'∧Comes C.P (lone (C.b.at a k) cs w) (lone fr cs w') e∧fr.fn=C.f∧fr.leaving C.P w' e
def G (C:Cx) (k:List Item) (l:Fm) (M:List Ent) (S:List Yva):Prop:=∀ a w,Fr C.n l a→Loc C.w0 w M S→Done C k a w
def Qk (C:Cx) (k:List Item):Exit→Act→World→Prop:=fun e a w=>e=.normal∧Done C k a w
def WL (C:Cx) (ops:Array Oper) (i:Nat) (k:List Item) (l:Fm) (M:List Ent) (S:List Yva):Prop :=
 ∀ a w,Fr C.n l a→Loc C.w0 w M S→wpList C.P ops (Qk C k) (ops.toList.drop i) a w

section rules
variable {C:Cx} {k:List Item} {l l':Fm} {M M':List Ent} {S S':List Yva}
theorem Done.step {k k':List Item} {a a':Act} {w w':World} (h:Done C k' a' w') (hs:∀ cs,Steps C.P (lone (C.b.at a k) cs w) (lone (C.b.at a' k') cs w')):Done C k a w:=fun cs=>by
 obtain ⟨e,w2,fr,h1,h2,h3⟩:=h cs
 exact ⟨e,w2,fr,h1,h2.of_steps (hs cs),h3⟩
def Code.fst:Code→Code
 | .seq x _=>x
 | .cond _ x _=>x
 | .block _ x=>x
 | .loop x=>x
 | .scope x=>x
 | c=>c
def Code.snd:Code→Code
 | .seq _ y=>y
 | .cond _ _ y=>y
 | c=>c
def Code.tag:Code→Nat
 | .skip=>0
 | .region ..=>1
 | .seq ..=>2
 | .cond ..=>3
 | .block ..=>4
 | .loop ..=>5
 | .exit ..=>6
 | .scope ..=>7
 | .label ..=>8
 | .goto ..=>9
 | .ret=>10
 | _=>11
def Code.num:Code→Nat
 | .block i _=>i
 | .exit i=>i
 | .goto i=>i
 | .region i _ _=>i
 | _=>0
def Code.opd:Code→Operand
 | .cond o _ _=>o
 | _=>.tmp 0
def Code.ops:Code→Array Oper
 | .region _ o _=>o
 | _=>#[]
def Code.draw:Code→Bool
 | .region _ _ d=>d
 | _=>false
def Yvq (f:Func):Code:=f.body.getD .skip

theorem g_sub (hf:subf l' l) (hM:M'.Sublist M) (hS:∀ s ∈ S',s ∈ S) (h:G C k l' M' S'):G C k l M S:=fun a w h1 h2=>h a w (h1.sub hf) (h2.drop hM hS)
theorem Yu9 {c:Code} (hc:Code.tag c=2) (h:G C (.code (Code.fst c) :: .code (Code.snd c) :: k) l M S):G C (.code c :: k) l M S:=by
 cases c <;> simp [Code.tag] at hc
 exact fun a w h1 h2=>(h a w h1 h2).step fun cs=>.one step_seq
theorem Yv2 {c:Code} (hc:Code.tag c=0) (h:G C k l M S):G C (.code c :: k) l M S:=by
 cases c <;> simp [Code.tag] at hc
 exact fun a w h1 h2=>(h a w h1 h2).step fun cs=>.one step_skip
theorem Yuw {c:Code} (hc:Code.tag c=4) (h:G C (.code (Code.fst c) :: .inBlock (Code.num c) :: k) l M S):G C (.code c :: k) l M S:=by
 cases c <;> simp [Code.tag] at hc
 exact fun a w h1 h2=>(h a w h1 h2).step fun cs=>.one step_block
theorem Yux {i:Nat} (h:G C k l M S):G C (.inBlock i :: k) l M S:=fun a w h1 h2=>(h a w h1 h2).step fun cs=>.one step_inBlock
theorem Ywm {c:Code} (hc:Code.tag c=5) (h:G C (.code (Code.fst c) :: .inLoop (Code.fst c) :: k) l M S):G C (.code c :: k) l M S:=by
 cases c <;> simp [Code.tag] at hc
 exact fun a w h1 h2=>(h a w h1 h2).step fun cs=>.one step_loop
theorem Yv1 {c:Code} (h:G C (.code c :: .inLoop c :: k) l M S):G C (.inLoop c :: k) l M S:=fun a w h1 h2=>(h a w h1 h2).step fun cs=>.one step_inLoop
theorem Ywa {c:Code} (k':List Item) (hc:Code.tag c=6) (hk:exitTo (Code.num c) k=some k') (h:G C k' l M S):G C (.code c :: k) l M S:=by
 cases c <;> simp [Code.tag] at hc
 exact fun a w h1 h2=>(h a w h1 h2).step fun cs=>.one (step_exit hk)
theorem g_cond {c:Code} (b:Bool) (hc:Code.tag c=3) (hb:evl l (Code.opd c)=some (.bool b)) (ht:b=true→G C (.code (Code.fst c) :: k) l M S) (hf:b=false→G C (.code (Code.snd c) :: k) l M S) :
  G C (.code c :: k) l M S:=by
 cases c <;> simp [Code.tag] at hc
 intro a w h1 h2
 cases b with
 | true=>exact (ht rfl a w h1 h2).step fun cs=>.one (step_cond (h1.ev hb))
 | false=>exact (hf rfl a w h1 h2).step fun cs=>.one (step_cond (h1.ev hb))
theorem Yv4 {c:Code} (hc:Code.tag c=3) (b:Bool) (hb:evl l (Code.opd c)=some (.bool b)) (e:b=true) (ht:G C (.code (Code.fst c) :: k) l M S):G C (.code c :: k) l M S :=
 g_cond b hc hb (fun _=>ht) (fun h=>by rw [e] at h; cases h)
theorem Yur {c:Code} (hc:Code.tag c=3) (b:Bool) (hb:evl l (Code.opd c)=some (.bool b)) (e:b=false) (hf:G C (.code (Code.snd c) :: k) l M S):G C (.code c :: k) l M S :=
 g_cond b hc hb (fun h=>by rw [e] at h; cases h) (fun _=>hf)
theorem Yu4 {c:Code} (hc:Code.tag c=1) (hd:Code.draw c=false) (h:WL C (Code.ops c) 0 k l M S):G C (.code c :: k) l M S:=by
 cases c <;> simp [Code.tag] at hc
 rename_i id ops d
 simp [Code.draw] at hd
 subst hd
 intro a w h1 h2
 have hw:(Code.region id ops false).wp C.P (Qk C k) a w:=wp_region_list (h a w h1 h2)
 intro cs
 obtain ⟨e,a',w',⟨rfl,hD⟩,harr⟩:=hw C.b k cs
 obtain ⟨e2,w2,fr,r1,r2,r3⟩:=hD cs
 exact ⟨e2,w2,fr,r1,r2.of_steps harr,r3⟩
theorem Yua {ops:Array Oper} (i:Nat) (hi:ops.size=i) (h:G C k l M S):WL C ops i k l M S:=by
 intro a w h1 h2
 have:ops.toList.drop i=[]:=by rw [List.drop_eq_nil_iff]; simp [hi]
 rw [this]
 exact wpList_nil ⟨rfl,h a w h1 h2⟩
theorem g_ret {c:Code} (hc:Code.tag c=10) (v:Value) (hf:C.P.funcs[C.f]? = some C.fn) (hr:∀ a w,Fr C.n l a→Loc C.w0 w M S→(results C.fn a.tmps).run C.P w=.ok v w) (h:∀ w,Loc C.w0 w M S→C.R (.returned v) w):G C (.code c :: k) l M S:=by
 cases c <;> simp [Code.tag] at hc
 intro a w h1 h2 cs
 exact ⟨.returned v,w,_,h w h2,.one step_ret,rfl,rfl,h1.1,rfl,C.fn,hf,hr a w h1 h2⟩
theorem g_end (v:Value) (hf:C.P.funcs[C.f]? = some C.fn) (hr:∀ a w,Fr C.n l a→Loc C.w0 w M S→(results C.fn a.tmps).run C.P w=.ok v w) (h:∀ w,Loc C.w0 w M S→C.R (.returned v) w):G C [] l M S:=by
 intro a w h1 h2 cs
 exact ⟨.returned v,w,_,h w h2,.one step_end,rfl,rfl,h1.1,rfl,C.fn,hf,hr a w h1 h2⟩
def args (n:Nat):Nat→List Value→Fm
 | _,[]=>[]
 | i,v :: r=>(i,v) :: args n (i + 1) r
theorem Yv5 {P:Program} {f:FuncId} {fn:Func} {vs:List Value} {w:World} {R:Ending→World→Prop} {M:List Ent} {S:List Yva} (n:Nat) (hf:P.funcs[f]? = some fn) (hb:fn.body.isSome=true) (hn:fn.ntmps=n) (hl:Nat.ble vs.length n=true)
  (hL:Loc w w M S) (h:G ⟨P,f,fn,n,R,w⟩ [.code (Yvq fn)] (args 0 0 vs) M S):Calls P f vs.toArray w R:=by
 intro cs
 obtain ⟨c,hc⟩:=Option.isSome_iff_exists.1 hb
 have hbody:Yvq fn=c:=by simp [Yvq,hc]
 have hF:Fr n (args 0 0 vs) { tmps:=vs.toArray++Array.replicate (fn.ntmps - vs.toArray.size) undef,defers:=[] }:=by
  have hl':=Nat.le_of_ble_eq_true hl
  refine ⟨rfl,by simp [hn]; omega,?_⟩
  have key:∀ (r:List Value) (i:Nat) t v,look (args 0 i r) t=some v→i≤t∧r[t - i]? = some v:=by
   intro r
   induction r with
   | nil=>intro i t v h; cases h
   | cons u r ih =>
    intro i t v h
    simp only [args,look] at h
    by_cases e:i=t
    ·subst e
     simp at h
     subst h
     exact ⟨Nat.le_refl _,by simp⟩
    ·have:Nat.beq i t=false:=nbeq e
     rw [this] at h
     obtain ⟨h1,h2⟩:=ih (i + 1) t v h
     refine ⟨by omega,?_⟩
     have:t - i=(t - (i + 1)) + 1:=by omega
     rw [this]
     simpa using h2
  intro t v ht
  obtain ⟨_,h2⟩:=key vs 0 t v ht
  simp only [Nat.sub_zero] at h2
  have hlt:t < vs.length:=(List.getElem?_eq_some_iff.1 h2).1
  rw [Array.getD_eq_getD_getElem?,Array.getElem?_append_left (by simpa using hlt)]
  simp [h2]
 have hd:=h _ w hF hL cs
 have henter:Frame.enter P f vs.toArray .normal=(Cx.b ⟨P,f,fn,n,R,w⟩).at { tmps:=vs.toArray++Array.replicate (fn.ntmps - vs.toArray.size) undef,defers:=[] } [.code (Yvq fn)]:=by
  simp [Frame.enter,Frame.at,hf,hc,Cx.b,hbody]
 rw [henter]
 exact hd
abbrev Sm (lo:Nat) (F:Nat→Prop) (w:World) (bs:List (List Nat)):Yva:=⟨w,bs,fun b=>lo≤b∨F b,true⟩
abbrev St (w:World) (bs:List (List Nat)):Yva:=⟨w,bs,fun _=>True,false⟩
end rules
end Go.Proofs.YtadcichlnacagaaDoor.B
