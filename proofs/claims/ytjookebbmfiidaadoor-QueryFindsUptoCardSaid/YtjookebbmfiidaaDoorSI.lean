/- Queries: which are well shaped: the document; how deep patterns are; copies. Condition: sizes. -/
import Derived.Test.YtjookebbmfiidaaDoorSF
import Derived.Test.YtjookebbmfiidaaDoorSR
set_option linter.unusedVariables false
namespace Go.Proofs.YtjookebbmfiidaaDoor.L
open Go.Proofs.YtjookebbmfiidaaDoor.B Go.Proofs.YtjookebbmfiidaaDoor.R
theorem Xl5 {q:Aq} (hz:SzQ q) (hl:q.nodes.length≤32) {i:Nat} (hi:i < q.nodes.length):Gf q (i:Int) (if Yn q.nodes i=true then .inl ((i:Int) + 1) else .inr false):=by
  obtain ⟨z1,z2,z3⟩:=hz.1 _ (Xap hi)
  have hN:∀ c,H8 q c (Qu c q.nodes):=fun c=>Xin (show q.nodes.length≤2 ^ 40 by omega) q.conds c
  have e0:∀ b,b=false→(if b=true then (.inl ((i:Int) + 1):Sum Int Bool) else .inr false)=.inr false:=fun b h=>by rw [h,if_neg (by simp)]
  have j5:∀ b,Ip q (i:Int) b (if (!b && ((decide ((ix q.nodes (i:Int)).capture=noB) || nmQ (ix q.nodes (i:Int)).capture) && (decide ((ix q.nodes (i:Int)).capture=noB) || decide (Qu (ix q.nodes (i:Int)).capture q.nodes=(i:Int)))))=true then .inl ((i:Int) + 1) else .inr false):=fun b=>by
    unfold Ip
    cases b with
    | true=>rfl
    | false =>
      rw [if_neg (by simp),Bool.not_false,Bool.true_and]
      by_cases g:(ix q.nodes (i:Int)).capture=noB
      · rw [if_pos g, decide_eq_true g, Dk (by omega)]
        rfl
      · rw [if_neg g,decide_eq_false g,Bool.false_or,Bool.false_or]
        refine ⟨_,Xe1 z3,?_⟩
        cases e:nmQ (ix q.nodes (i:Int)).capture with
        | false=>rfl
        | true =>
          rw [if_pos rfl,Bool.true_and]
          refine ⟨_,hN _,?_⟩
          by_cases g2:Qu (ix q.nodes (i:Int)).capture q.nodes=(i:Int)
          · rw [if_pos g2,decide_eq_true g2,if_pos rfl,Dk (by omega)]
          · rw [if_neg g2,decide_eq_false g2,if_neg (by simp)]
  have j4:∀ b,Ho q (i:Int) b (if (!b && ((decide ((ix q.nodes (i:Int)).field=noB) || nmQ (ix q.nodes (i:Int)).field) && ((decide ((ix q.nodes (i:Int)).capture=noB) || nmQ (ix q.nodes (i:Int)).capture) && (decide ((ix q.nodes (i:Int)).capture=noB) || decide (Qu (ix q.nodes (i:Int)).capture q.nodes=(i:Int))))))=true then .inl ((i:Int) + 1) else .inr false):=fun b=>by
    unfold Ho
    cases b with
    | true=>rfl
    | false =>
      rw [if_neg (by simp),Bool.not_false,Bool.true_and]
      by_cases g:(ix q.nodes (i:Int)).field=noB
      · rw [if_pos g,decide_eq_true g,Bool.true_or,Bool.true_and]
        exact j5 false
      · rw [if_neg g,decide_eq_false g,Bool.false_or]
        refine ⟨_,Xe1 z2,?_⟩
        have:=j5 (!nmQ (ix q.nodes (i:Int)).field)
        rw [Bool.not_not] at this
        exact this
  have j3:∀ b,Hm q (i:Int) b (if (!b && ((if (ix q.nodes (i:Int)).lit=true then true else (decide ((ix q.nodes (i:Int)).name=noB) || nmQ (ix q.nodes (i:Int)).name)) && ((decide ((ix q.nodes (i:Int)).field=noB) || nmQ (ix q.nodes (i:Int)).field) && ((decide ((ix q.nodes (i:Int)).capture=noB) || nmQ (ix q.nodes (i:Int)).capture) && (decide ((ix q.nodes (i:Int)).capture=noB) || decide (Qu (ix q.nodes (i:Int)).capture q.nodes=(i:Int)))))))=true then .inl ((i:Int) + 1) else .inr false):=fun b=>by
    unfold Hm
    cases b with
    | true=>rfl
    | false =>
      rw [if_neg (by simp),Bool.not_false,Bool.true_and]
      by_cases g:(ix q.nodes (i:Int)).lit=true
      · rw [if_pos g,if_pos g,Bool.true_and]
        exact j4 false
      · rw [if_neg g,if_neg g]
        by_cases g2:(ix q.nodes (i:Int)).name=noB
        · rw [if_pos g2,decide_eq_true g2,Bool.true_or,Bool.true_and]
          exact j4 false
        · rw [if_neg g2,decide_eq_false g2,Bool.false_or]
          refine ⟨_,Xe1 z1,?_⟩
          have:=j4 (!nmQ (ix q.nodes (i:Int)).name)
          rw [Bool.not_not] at this
          exact this
  unfold Gf Yn sndN
  rw [if_pos (by omega)]
  refine ⟨⟨by omega,by omega⟩,?_⟩
  simp only [Bool.and_assoc]
  by_cases g:(ix q.nodes (i:Int)).lit=true
  · rw [if_pos g,if_pos g]
    by_cases g2:(ix q.nodes (i:Int)).name=noB
    · rw [if_pos g2,decide_eq_true g2,Bool.not_true,Bool.false_and,Bool.false_and]
      exact j3 true
    · rw [if_neg g2,decide_eq_false g2,Bool.not_false,Bool.true_and]
      have:=j3 ((ix q.nodes (i:Int)).kids != 0)
      rw [if_pos g,Bool.true_and,show (!((ix q.nodes (i:Int)).kids != 0))=decide ((ix q.nodes (i:Int)).kids=0) by rw [bne,Bool.not_not,Bool.beq_eq_decide_eq]] at this
      exact this
  · rw [if_neg g,if_neg g]
    have:=j3 false
    rw [if_neg g,Bool.not_false,Bool.true_and] at this
    exact this
theorem Xdt {q:Aq} (hz:SzQ q):Oc q (Qh q):=by
  unfold Oc Qh
  have hj:∀ b,q.nodes.length≤32→q.conds.length≤16→Fa q b (!b && ((List.range q.nodes.length).all (Yn q.nodes) && q.conds.all (U7 q.nodes))):=fun b hn hc=>by
    unfold Fa
    cases b with
    | true =>
      rw [if_pos rfl]
      rfl
    | false =>
      rw [if_neg (by simp),Bool.not_false,Bool.true_and]
      have hcap:∀ c,H8 q c (Qu c q.nodes):=fun c=>Xin (show q.nodes.length≤2 ^ 40 by omega) q.conds c
      have hlen:(List.range q.nodes.length).length=q.nodes.length:=List.length_range
      have h3:Ar (fun (s:Int) o=>Gi q s o) 0 (if q.conds.all (U7 q.nodes)=true then (.inr true:Sum Int Bool) else .inr false):=by
        refine Ar.allThen q.conds (U7 q.nodes) (fun i hi hp=>?_) (fun i hi hp=>?_) (fun h=>?_)
        · unfold Gi
          rw [if_pos (by omega)]
          refine ⟨⟨by omega,by omega⟩,_,hcap _,?_⟩
          rw [U2 hi]
          unfold U7 at hp
          simp only [Bool.and_eq_true,Bool.or_eq_true,decide_eq_true_eq] at hp
          rw [if_neg (by omega)]
          by_cases g:q.conds[i].b=noB
          · rw [if_pos g,Dk (by omega)]
          · rw [if_neg g]
            obtain ⟨p1,p2⟩:=hp.2.resolve_left g
            refine ⟨_,hcap _,?_⟩
            rw [if_neg (by omega),if_pos p2,Dk (by omega)]
        · unfold Gi
          rw [if_pos (by omega)]
          refine ⟨⟨by omega,by omega⟩,_,hcap _,?_⟩
          rw [U2 hi]
          unfold U7 at hp
          by_cases g1:Qu q.conds[i].a q.nodes < 0
          · rw [if_pos g1]
          · rw [if_neg g1]
            rw [decide_eq_true (by omega),Bool.true_and] at hp
            by_cases g:q.conds[i].b=noB
            · rw [decide_eq_true g] at hp; cases hp
            · rw [if_neg g]
              rw [decide_eq_false g,Bool.false_or] at hp
              refine ⟨_,hcap _,?_⟩
              by_cases g2:Qu q.conds[i].b q.nodes < 0
              · rw [if_pos g2]
              · rw [if_neg g2]
                rw [decide_eq_true (by omega),Bool.true_and] at hp
                rw [if_neg (of_decide_eq_false hp)]
        · unfold Gi
          rw [if_neg (Int.lt_irrefl _)]
      have h2:Ar (fun (s:Int) o=>Gf q s o) 0 (if (List.range q.nodes.length).all (Yn q.nodes)=true then q.conds.all (U7 q.nodes) else false):=by
        refine Ar.allThen (List.range q.nodes.length) (Yn q.nodes) (fun i hi hp=>?_) (fun i hi hp=>?_) (fun h=>?_)
        · rw [hlen] at hi
          rw [List.getElem_range] at hp
          have:=Xl5 hz hn hi
          rwa [if_pos hp] at this
        · rw [hlen] at hi
          rw [List.getElem_range] at hp
          have:=Xl5 hz hn hi
          rwa [hp,if_neg (by simp)] at this
        · rw [hlen]
          unfold Gf
          rw [if_neg (Int.lt_irrefl _)]
          cases e:q.conds.all (U7 q.nodes) with
          | true=>rw [e,if_pos rfl] at h3; exact h3
          | false=>rw [e,if_neg (by simp)] at h3; exact h3
      cases e:(List.range q.nodes.length).all (Yn q.nodes) with
      | true=>rw [e,if_pos rfl] at h2; exact h2
      | false=>rw [e,if_neg (by simp)] at h2; exact h2
  have hj0:Fa q true false:=by
    unfold Fa
    rw [if_pos rfl]
  by_cases g1:q.nodes.length≤32
  · rw [decide_eq_true g1, Bool.true_and, if_neg (by omega)]
    by_cases g2:q.conds.length≤16
    · rw [decide_eq_true g2, Bool.true_and, if_neg (by omega)]
      refine ⟨_,Xh2 g1 (Nat.zero_le _),?_⟩
      have e:(Wy q.nodes 0 != (q.nodes.length:Int)) = !decide (Wy q.nodes 0=(q.nodes.length:Int)):=by
        rw [bne,Bool.beq_eq_decide_eq]
      rw [e]
      have:=hj (!decide (Wy q.nodes 0=(q.nodes.length:Int))) g1 g2
      rw [Bool.not_not] at this
      exact this
    · rw [decide_eq_false g2, Bool.false_and, if_pos (by omega)]
      exact hj0
  · rw [decide_eq_false g1, Bool.false_and, if_pos (by omega)]
    exact hj0
theorem Xkm {v:List Aj} (hv:v.length≤2 ^ 50):∃ b,O6 v b:=by
  have inner:∀ (m:Nat) (i:Nat) (op:List Int),i < v.length→op.length≤m→op.length≤65536→∃ o,Ar (fun (s:List Int) o=>Gl (i:Int) v s o) op o∧(o=.inr true∨∃ op':List Int,o=.inl (op',((i + 1:Nat):Int))∧op'.length≤65536):=by
    intro m
    induction m with
    | zero =>
      intro i op hi hm h6
      have:op=[]:=List.eq_nil_of_length_eq_zero (by omega)
      subst this
      refine ⟨.inl ([(ix v (i:Int)).kids],((i + 1:Nat):Int)),.done ?_,.inr ⟨_,rfl,by simp⟩⟩
      unfold Gl
      rw [if_neg (by simp)]
      refine ⟨⟨by omega,by omega⟩,_,rfl,by simp,?_⟩
      rw [if_neg (by simp),Dk (by omega)]
      rfl
    | succ m ih =>
      intro i op hi hm h6
      have push:∀ l:List Int,l.length≤65536→∃ o,(∃ x275:List Int,(x275=l++([(ix v (i:Int)).kids]:List Int)) ∧
   (x275.length * 8≤211106232532992) ∧
   if (x275.length:Int) > 65536 then
    (.inr o:Sum (List Int) (Sum ((List Int) × Int) Bool))=.inr (.inr (true))
   else
    (.inr o:Sum (List Int) (Sum ((List Int) × Int) Bool))=.inr (.inl (x275,w64 ((i:Int) + 1))))∧(o=.inr true∨∃ op':List Int,o=.inl (op',((i + 1:Nat):Int))∧op'.length≤65536):=fun l hl=>by
        have hll:(l++[(ix v (i:Int)).kids]).length=l.length + 1:=by simp
        by_cases g:l.length + 1 > 65536
        · exact ⟨.inr true,⟨_,rfl,by rw [hll]; omega,by rw [if_pos (by omega)]⟩,.inl rfl⟩
        · refine ⟨.inl (l ++ [(ix v (i : Int)).kids], ((i + 1 : Nat) : Int)), ⟨_, rfl, by rw [hll]; omega, ?_⟩, .inr ⟨_, rfl, by omega⟩⟩
          rw [if_neg (by omega),Dk (by omega)]
          rfl
      by_cases g0:op.length=0
      · exact ih i op hi (by omega) h6
      · have e1 : w64 ((op.length : Int) - 1) = ((op.length - 1 : Nat) : Int) := by rw [Dk (by omega)]; omega
        by_cases g:ix op ((op.length - 1:Nat):Int)≤0
        · obtain ⟨o, o1, o2⟩ := ih i (op.take (op.length - 1)) hi (by rw [List.length_take]; omega) (by rw [List.length_take]; omega)
          refine ⟨o,.next ?_ o1,o2⟩
          unfold Gl
          rw [if_pos (by omega),e1]
          refine ⟨⟨by omega,by omega⟩,?_⟩
          rw [if_pos g]
          exact ⟨⟨by omega,by omega,by omega⟩,_,rfl,by rw [Int.toNat_natCast]⟩
        · obtain ⟨o, o1, o2⟩ := push (op.set (op.length - 1) (w64 ((ix op ((op.length - 1 : Nat) : Int)) - 1))) (by rw [List.length_set]; exact h6)
          refine ⟨o,.done ?_,o2⟩
          unfold Gl
          rw [if_pos (by omega),e1]
          refine ⟨⟨by omega,by omega⟩,?_⟩
          rw [if_neg g]
          exact ⟨_,by rw [Int.toNat_natCast],⟨by omega,by omega⟩,o1⟩
  have outer:∀ (d i:Nat) (op:List Int),v.length - i=d→i≤v.length→op.length≤65536→∃ b,Ar (fun (s:(List Int) × Int) o=>Gn v s.1 s.2 o) (op,(i:Int)) b:=by
    intro d
    induction d with
    | zero =>
      intro i op hd hi h6
      refine ⟨false,.done ?_⟩
      dsimp only
      unfold Gn
      rw [if_neg (by omega)]
    | succ d ih =>
      intro i op hd hi h6
      obtain ⟨o,o1,o2⟩:=inner _ i op (by omega) (Nat.le_refl _) h6
      have hb:Gn v op (i:Int) o:=by
        unfold Gn
        rw [if_pos (by omega)]
        exact o1
      rcases o2 with rfl | ⟨op',rfl,h7⟩
      · exact ⟨true,.done hb⟩
      · obtain ⟨b, b1⟩ := ih (i + 1) op' (by omega) (by omega) h7
        exact ⟨b,.next hb b1⟩
  exact outer _ 0 [] rfl (Nat.zero_le _) (by decide)
theorem Xj1 {v:List Aj} (hv:v.length≤2 ^ 40):∃ b,O6 v b:=Xkm (by omega)
end Go.Proofs.YtjookebbmfiidaaDoor.L
set_option linter.unusedVariables false
namespace Go.Proofs.YtjookebbmfiidaaDoor.L
open Go.Proofs.YtjookebbmfiidaaDoor.B Go.Proofs.YtjookebbmfiidaaDoor.R
theorem nodes_at {q:Aq} {a b:List Aj} {x:Aj} (h:q.nodes=a++x :: b):a.length < q.nodes.length∧ix q.nodes (a.length:Int)=x:=by
 have hl:a.length < q.nodes.length:=by rw [h,List.length_append,List.length_cons]; omega
 refine ⟨hl,?_⟩
 rw [U2 hl]
 have:q.nodes[a.length]? = some x:=by rw [h,List.getElem?_append_right (Nat.le_refl _),Nat.sub_self]; rfl
 rw [List.getElem?_eq_getElem hl] at this
 exact Option.some.inj this
end Go.Proofs.YtjookebbmfiidaaDoor.L
set_option linter.unusedVariables false
namespace Go.Proofs.YtjookebbmfiidaaDoor.L
open Go.Proofs.YtjookebbmfiidaaDoor.B Go.Proofs.YtjookebbmfiidaaDoor.R
theorem Xln {v a b:List Aj} {y:Aj} {k:PF} (h:v=a++y :: (Dc k++b)) (hf:Xda (.cons y k .nil)):Wy v a.length=((a.length + 1 + (Dc k).length:Nat):Int):=by
 have h1:v.drop a.length=Dc (.cons y k .nil)++b:=by rw [h,List.drop_left]; simp [Dc]
 have h2:Vl (v.drop a.length) 1=some b:=by
  rw [h1]
  have:=Xbu (.cons y k .nil) b 0 hf
  rw [Nat.add_zero,Vq] at this
  exact this
 rw [Xby h2]
 have:=congrArg List.length h
 simp only [List.length_append,List.length_cons] at this
 congr 1
 omega
theorem ix_app {v a b:List Aj} {x:Aj} (h:v=a++x :: b):a.length < v.length∧ix v (a.length:Int)=x:=nodes_at (q:=⟨v,[]⟩) h
end Go.Proofs.YtjookebbmfiidaaDoor.L
