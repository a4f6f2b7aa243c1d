/- Part 32 of the proof. -/
import Derived.Test.YtclmbbofpaecaaaGreatDoorVm29
import Derived.Test.YtclmbbofpaecaaaGreatDoorVm30
import Derived.Test.YtclmbbofpaecaaaGreatDoorVm31
import Derived.Test.YtclmbbofpaecaaaGreatDoorVm23
import Derived.Test.YtclmbbofpaecaaaGreatDoorVm24
import Derived.Test.YtclmbbofpaecaaaGreatDoorVm22
import Derived.Test.YtclmbbofpaecaaaGreatDoorVm21
import Derived.Test.YtclmbbofpaecaaaGreatDoorVm26
import Derived.Test.YtclmbbofpaecaaaGreatDoorRows
import Derived.ProofKit
import Derived.LaidMore
import Derived.OpenShut
import Derived.Deep.Slices
import Derived.Stop.Joined
import Derived.ChangeOld
import Derived.SizedLaws
set_option linter.all false
set_option linter.unusedVariables false
set_option linter.unusedSimpArgs false
set_option linter.unusedSectionVars false
open Array renaming getElem?_eq_getElem → qB
open Bool renaming and_self → zJ, and_eq_true → zT, not_true → zY, not_false → qE
open List renaming getElem?_eq_getElem → zF, getD_eq_getElem?_getD → zG, set_cons_succ → zH, set_cons_zero → zI, all_cons → zL, all_nil → zM, getElem?_eq_none → zO, mem_cons_self → zP, getElem?_append_right → zR, length_cons → qC, getElem?_map → qD, getElem?_range → qH, getElem?_append_left → qI, length_nil → qK, flatMap_cons → yA, all_eq_true → yG, length_map → yS
open Nat renaming reduceLeDiff → zA, reduceEqDiff → zB, reduceAdd → zC, reduceBEq → zD, le_of_ble_eq_true → zE, le_refl → zN, lt_or_ge → zV
section
set_option maxRecDepth 100000
set_option maxHeartbeats 16000000
namespace Go.Av.Lx
open Go Go.Av Go.Av.Tb Go.Av.Fx Go.Proofs
open Go.Lv (Sight Survey Sw Sv SightOk Leg Tun Try Stp withS)
theorem ex_Ring:RingA surT=.tuple [stpsA [⟨0,false⟩,⟨1,false⟩,⟨2,false⟩,⟨3,true⟩],.int .i64 0]:=by
 unfold RingA
 rw [ex_ok,if_pos rfl,ex_poss,if_neg (by decide),ex_ring]
theorem ex_read:readA exB=.tuple [surA surX,.int .i64 0]:=by
 unfold readA
 rw [if_pos (by decide),ex_parsed]
 simp only [ex_xok,if_true]
theorem zEc:PC Tryz.prog 24 [] (.pure (.bool true)):=by
 refine PC.of_empty (AC.run (E_ok 223) mix Tryz.func24 m24 rfl rfl rfl (zE rfl) ?_) rfl rfl
 have oS:okL surS.sights.length:=by decide
 have oT:okL surT.sights.length:=by decide
 have oU:okL surU.sights.length:=by decide
 have q1:=Bounds_pc surS oS 0 2
 rw [ex_bounds] at q1
 have q2:=Heights_pc surS oS
 rw [ex_heights] at q2
 have q3:=Ring_pc surT oT
 rw [ex_Ring] at q3
 have q4:=Least_pc surT oT
 rw [ex_least] at q4
 have q5:=Falls_pc surS oS ⟨1,2,2⟩ 2 3
 rw [ex_falls] at q5
 have q6:=Carries_pc surS oS [⟨1,2,2⟩,⟨2,1,1⟩] (by decide) 0 3
 rw [ex_carries] at q6
 have q7:=Meets_pc surS oS ⟨3,0,5,3,1⟩
 rw [ex_meets] at q7
 have q8:=Drives_pc surS oS ⟨3,0,5,3,1⟩
 rw [ex_drives] at q8
 have q9:=Takes_pc surS oS 0 2 [⟨0,2,2⟩,⟨1,2,0⟩] (by decide)
 rw [ex_takes] at q9
 have q10:=Drops_pc surU oU
 rw [ex_drops] at q10
 have q11:=Blames_pc surU oU
 rw [ex_blames] at q11
 have q12:=Read_pc exB (by decide)
 rw [ex_read] at q12
 have q13:=rPrint_pc surX (small_plain (parsed_small ex_parsed) (by decide))
 rw [ex_text] at q13
 have b1:buildA T 61 [(0,.int .i64 1),(1,.int .i64 2),(2,.int .i64 2)]=some (.agg (legC ⟨1,2,2⟩)):=rfl
 have b2:buildA T 61 [(0,.int .i64 2),(1,.int .i64 1),(2,.int .i64 1)]=some (.agg (legC ⟨2,1,1⟩)):=rfl
 have b3:zAf T 54 2 [(0,.agg (legC ⟨1,2,2⟩)),(1,.agg (legC ⟨2,1,1⟩))]=some (.slice (legsC [⟨1,2,2⟩,⟨2,1,1⟩]) [(⟨1,2,2⟩:Leg),⟨2,1,1⟩].length .exact):=rfl
 have b4:buildA T 68 [(0,.int .i64 3),(1,.int .i64 0),(2,.int .i64 5),(3,.int .i64 3),(4,.int .i64 1)]=some (.agg (tunC ⟨3,0,5,3,1⟩)):=rfl
 have b5:buildA T 95 [(0,.int .i64 0),(1,.int .i64 2),(2,.int .i64 2)]=some (.agg (tryC ⟨0,2,2⟩)):=rfl
 have b6:buildA T 95 [(0,.int .i64 1),(1,.int .i64 2)]=some (.agg (tryC ⟨1,2,0⟩)):=rfl
 have b7:zAf T 76 2 [(0,.agg (tryC ⟨0,2,2⟩)),(1,.agg (tryC ⟨1,2,0⟩))]=some (.slice (triesC [⟨0,2,2⟩,⟨1,2,0⟩]) [(⟨0,2,2⟩:Try),⟨1,2,0⟩].length .exact):=rfl
 have b8:buildA T 28 [(0,.int .i64 5),(1,.int .i64 9)]=some (.agg [.int .i64 5,.int .i64 9]):=rfl
 have b9:buildA T 28 [(0,.int .i64 (-7)),(1,.int .i64 7)]=some (.agg [.int .i64 (-7),.int .i64 7]):=rfl
 have b10:buildA T 49 [(0,.int .i64 7),(1,.int .i64 4)]=some (.agg [.int .i64 7,.int .i64 4]):=rfl
 have b11:∀ n,buildA T 127 [(0,.int .i64 n)]=some (.agg (stpC ⟨n,false⟩)):=fun n=>rfl
 have b12:∀ n,buildA T 127 [(0,.int .i64 n),(1,.bool true)]=some (.agg (stpC ⟨n,true⟩)):=fun n=>rfl
 have b13:zAf T 117 4 [(0,.agg (stpC ⟨0,false⟩)),(1,.agg (stpC ⟨1,false⟩)),(2,.agg (stpC ⟨2,false⟩)),(3,.agg (stpC ⟨3,true⟩))]=some (.slice (stpsC [⟨0,false⟩,⟨1,false⟩,⟨2,false⟩,⟨3,true⟩]) [(⟨0,false⟩:Stp),⟨1,false⟩,⟨2,false⟩,⟨3,true⟩].length .exact):=rfl
 have b14:∀ a b c d:Int,zAf T 32 4 [(0,.int .i64 a),(1,.int .i64 b),(2,.int .i64 c),(3,.int .i64 d)]=some (.slice (ints [a,b,c,d]) [a,b,c,d].length .exact):=fun a b c d=>rfl
 have b15:zAf T 32 3 [(0,.int .i64 1),(1,.int .i64 2),(2,.int .i64 3)]=some (.slice (ints [1,2,3]) [(1:Int),2,3].length .exact):=rfl
 have b16:zAf T 32 1 [(0,.int .i64 1)]=some (.slice (ints [1]) [(1:Int)].length .exact):=rfl
 have n1:binA T .neq 28 (.agg [.int .i64 5,.int .i64 9]) (.agg [.int .i64 5,.int .i64 9])=some (.bool false):=rfl
 have n2:binA T .neq 28 (.agg [.int .i64 (-7),.int .i64 7]) (.agg [.int .i64 (-7),.int .i64 7])=some (.bool false):=rfl
 have n3:binA T .neq 49 (.agg [.int .i64 7,.int .i64 4]) (.agg [.int .i64 7,.int .i64 4])=some (.bool false):=rfl
 have z0:¬ ((0:Int)≠0):=by decide
 have z1:¬ ((1:Int)≠1):=by decide
 have z2:¬ ((2:Int)≠2):=by decide
 have z3:¬ ((3:Int)≠3):=by decide
 have z7:¬ ((7:Int)≠7):=by decide
 have y1:decide ((1:Int)=1)=true:=rfl
 have y2:decide ((2:Int)=2)=true:=rfl
 have z4:binA T .eql 9 (.str exB) (.str ⟨#[115,117,114,118,101,121,32,50,10,115,105,103,104,116,32,48,32,49,32,52,32,48,10,101,110,100,32,48,49,50,10]⟩)=some (.bool true):=(show binA T .eql 9 (.str exB) (.str exB)=some (.bool true) by rw [eqS,decide_eq_true rfl])
 simp only [go_sem,zB,zD,zC,reduceIte,reduceCtorEq,zA]
 refine cp n81 S_pc (SubL.refl _) ?_
 try simp only [go_sem,zB,zD,zC,reduceIte,reduceCtorEq,zA]
 refine cp n25 q1 (SubL.refl _) ?_
 simp only [go_sem,zAd,frA,zAc,AV.cells,AV.one,zL,zM,zJ,splice,zI,zH,and_self,qC,qK,zB,zD,zC,reduceIte,reduceCtorEq,zA]
 refine cp n81 S_pc (SubL.refl _) ?_
 try simp only [go_sem,zB,zD,zC,reduceIte,reduceCtorEq,zA]
 refine cp n26 q2 (SubL.refl _) ?_
 simp only [go_sem,zAd,frA,zAc,AV.cells,AV.one,zL,zM,zJ,splice,zI,zH,and_self,qC,qK,zB,zD,zC,reduceIte,reduceCtorEq,zA]
 refine cp n82 T_pc (SubL.refl _) ?_
 try simp only [go_sem,zB,zD,zC,reduceIte,reduceCtorEq,zA]
 refine cp n72 q3 (SubL.refl _) ?_
 simp only [go_sem,zAd,frA,zAc,AV.cells,AV.one,zL,zM,zJ,splice,zI,zH,and_self,qC,qK,zB,zD,zC,reduceIte,reduceCtorEq,zA]
 refine cp n82 T_pc (SubL.refl _) ?_
 try simp only [go_sem,zB,zD,zC,reduceIte,reduceCtorEq,zA]
 refine cp n32 q4 (SubL.refl _) ?_
 simp only [go_sem,zAd,frA,zAc,AV.cells,AV.one,zL,zM,zJ,splice,zI,zH,and_self,qC,qK,zB,zD,zC,reduceIte,reduceCtorEq,zA]
 refine cp n81 S_pc (SubL.refl _) ?_
 simp only [go_sem,b1,b2,b3,b4,b5,b6,b7,zB,zD,zC,reduceIte,reduceCtorEq,zA]
 refine cp n39 q5 (SubL.refl _) ?_
 simp only [go_sem,zAd,frA,zAc,AV.cells,AV.one,zL,zM,zJ,splice,zI,zH,and_self,qC,qK,zB,zD,zC,reduceIte,reduceCtorEq,zA]
 refine cp n81 S_pc (SubL.refl _) ?_
 simp only [go_sem,b1,b2,b3,b4,b5,b6,b7,zB,zD,zC,reduceIte,reduceCtorEq,zA]
 refine cp n35 q6 (SubL.cons (Sub.refl _) (SubL.cons (Sub.unk _ _ _) (SubL.refl _))) ?_
 simp only [go_sem,zAd,frA,zAc,AV.cells,AV.one,zL,zM,zJ,splice,zI,zH,and_self,qC,qK,zB,zD,zC,reduceIte,reduceCtorEq,zA]
 refine cp n81 S_pc (SubL.refl _) ?_
 simp only [go_sem,b1,b2,b3,b4,b5,b6,b7,zB,zD,zC,reduceIte,reduceCtorEq,zA]
 refine cp n42 q7 (SubL.refl _) ?_
 simp only [go_sem,zAd,frA,zAc,AV.cells,AV.one,zL,zM,zJ,splice,zI,zH,and_self,qC,qK,zB,zD,zC,reduceIte,reduceCtorEq,zA]
 refine cp n81 S_pc (SubL.refl _) ?_
 simp only [go_sem,b1,b2,b3,b4,b5,b6,b7,zB,zD,zC,reduceIte,reduceCtorEq,zA]
 refine cp n43 q8 (SubL.refl _) ?_
 simp only [go_sem,zAd,frA,zAc,AV.cells,AV.one,zL,zM,zJ,splice,zI,zH,and_self,qC,qK,zB,zD,zC,reduceIte,reduceCtorEq,zA]
 refine cp n81 S_pc (SubL.refl _) ?_
 simp only [go_sem,b1,b2,b3,b4,b5,b6,b7,zB,zD,zC,reduceIte,reduceCtorEq,zA]
 refine cp n47 q9 (SubL.cons (Sub.refl _) (SubL.cons (Sub.refl _) (SubL.cons (Sub.refl _) (SubL.cons (Sub.unk _ _ _) (SubL.refl _))))) ?_
 simp only [go_sem,zAd,frA,zAc,AV.cells,AV.one,zL,zM,zJ,splice,zI,zH,and_self,qC,qK,zB,zD,zC,reduceIte,reduceCtorEq,zA]
 refine cp n83 U_pc (SubL.refl _) ?_
 try simp only [go_sem,zB,zD,zC,reduceIte,reduceCtorEq,zA]
 refine cp n50 q10 (SubL.refl _) ?_
 simp only [go_sem,zAd,frA,zAc,AV.cells,AV.one,zL,zM,zJ,splice,zI,zH,and_self,qC,qK,zB,zD,zC,reduceIte,reduceCtorEq,zA]
 refine cp n83 U_pc (SubL.refl _) ?_
 try simp only [go_sem,zB,zD,zC,reduceIte,reduceCtorEq,zA]
 refine cp n51 q11 (SubL.refl _) ?_
 simp only [go_sem,zAd,zB,zD,zC,reduceIte,reduceCtorEq,zA]
 refine cp n60 q12 (SubL.refl _) ?_
 simp only [go_sem,zAd,z0,decide_false,zAc,AV.cells,AV.one,zL,zM,zJ,splice,zI,zH,and_self,qC,qK,b8,n1,b14,zB,zD,zC,reduceIte,reduceCtorEq,zA]
 refine cp n29 (Same_pc [0,9,5,13] [0,9,5,13] (by decide) (by decide)) (SubL.cons (Sub.refl _) (SubL.cons (Sub.unk _ _ _) (SubL.refl _))) ?_
 rw [decide_eq_true rfl]
 simp only [go_sem,zAh,zY,b14,zB,zD,zC,reduceIte,reduceCtorEq,zA]
 refine cp n29 (Same_pc [0,11,9,17] [0,11,9,17] (by decide) (by decide)) (SubL.cons (Sub.refl _) (SubL.cons (Sub.unk _ _ _) (SubL.refl _))) ?_
 rw [decide_eq_true rfl]
 simp only [go_sem,zAh,zY,b11,b12,b13,zB,zD,zC,reduceIte,reduceCtorEq,zA]
 refine cp n76 (SameSteps_pc [⟨0,false⟩,⟨1,false⟩,⟨2,false⟩,⟨3,true⟩] [⟨0,false⟩,⟨1,false⟩,⟨2,false⟩,⟨3,true⟩] (by decide) (by decide)) (SubL.cons (Sub.refl _) (SubL.cons (Sub.unk _ _ _) (SubL.refl _))) ?_
 rw [decide_eq_true rfl]
 simp only [go_sem,zAh,zY,b10,n3,b14,zB,zD,zC,reduceIte,reduceCtorEq,zA]
 refine cp n29 (Same_pc [0,47,38,73] [0,47,38,73] (by decide) (by decide)) (SubL.cons (Sub.refl _) (SubL.cons (Sub.unk _ _ _) (SubL.refl _))) ?_
 rw [decide_eq_true rfl]
 simp only [go_sem,zAh,zY,z1,z2,z3,z7,decide_false,decide_true,b9,n2,b16,zB,zD,zC,reduceIte,reduceCtorEq,zA]
 refine cp n29 (Same_pc [1] [1] (by decide) (by decide)) (SubL.cons (Sub.refl _) (SubL.cons (Sub.unk _ _ _) (SubL.refl _))) ?_
 rw [decide_eq_true rfl]
 simp only [go_sem,b15,zB,zD,zC,reduceIte,reduceCtorEq,zA]
 refine cp n29 (Same_pc [1,2,3] [1,2,3] (by decide) (by decide)) (SubL.cons (Sub.refl _) (SubL.cons (Sub.unk _ _ _) (SubL.refl _))) ?_
 rw [decide_eq_true rfl]
 simp only [go_sem,zB,zD,zC,reduceIte,reduceCtorEq,zA]
 refine cp n61 q13 (SubL.refl _) ?_
 simp only [go_sem,z4,Tryz.f24,zB,zD,zC,reduceIte,reduceCtorEq,zA]
end Go.Av.Lx
end
section
set_option maxHeartbeats 8000000
namespace Go.Av.Lx
open Go Go.Av Go.Av.Tb Go.Av.Fx Go.Proofs
open Go.Lv (Sight Survey Sw Sv SightOk errF)

end Go.Av.Lx
end
section
set_option maxHeartbeats 8000000
namespace Go.Av.Lx
open Go Go.Av Go.Av.Tb Go.Av.Fx Go.Proofs
open Go.Lv (Sight Survey Sw Sv SightOk possS)

end Go.Av.Lx
end
section
set_option maxHeartbeats 8000000
namespace Go.Av.Lx
open Go Go.Av Go.Av.Tb Go.Av.Fx Go.Proofs
open Go.Lv (Sight Survey Sw Sv SightOk possS)
open Go.Fw (Sq ent Bd Mat)

end Go.Av.Lx
end
section
set_option maxHeartbeats 8000000
namespace Go.Av.Lx
open Go Go.Av Go.Av.Tb Go.Av.Fx Go.Proofs
open Go.Lv (Sight Survey Sw Sv SightOk Leg LegOk RangeOk Tun TunOk Try TryOk Stp fallW meetL meetH bestAt driveF wideI)
open Go.Fw (Sq ent Bd Mat)

end Go.Av.Lx
end
section
set_option maxHeartbeats 8000000
namespace Go.Av.Lx
open Go Go.Av Go.Av.Tb Go.Av.Fx Go.Proofs
open Go.Lv (Sight Survey Sw Sv SightOk Leg LegOk RangeOk Tun TunOk Try TryOk Stp fallW carryW)
open Go.Fw (Sq ent Bd Mat)

end Go.Av.Lx
end
section
set_option maxHeartbeats 8000000
namespace Go.Av.Lx
open Go Go.Av Go.Av.Tb Go.Av.Fx Go.Proofs
open Go.Lv (Sight Survey Sw Sv SightOk bas)
open Go.Fw (Sq ent Bd Mat)
theorem baseG_least {V:Mat} {n j b:Nat} (hbn:b<n) (hb:ent V b j<far):baseG V n j≤b:=by
 unfold baseG
 cases h:(List.range n).find? fun b=>decide (ent V b j<far) with
 | none=>exact absurd (decide_eq_true hb) (List.find?_eq_none.1 h b (List.mem_range.2 hbn))
 | some d =>
  show d≤b
  refine Nat.le_of_not_lt fun hlt => ?_
  obtain ⟨_,us,vs,e,hno⟩:=List.find?_eq_some_iff_append.1 h
  have hmem:b∈List.range n:=List.mem_range.2 hbn
  rw [e] at hmem
  rcases List.mem_append.1 hmem with hm | hm
  ·have:=hno b hm
   rw [decide_eq_true hb] at this;cases this
  ·have hs:(us ++ d :: vs).Pairwise (· < ·):=by rw [← e];exact List.pairwise_lt_range
   have:=(List.pairwise_append.1 hs).2.1
   rcases List.mem_cons.1 hm with rfl | hm
   ·omega
   ·have:=(List.pairwise_cons.1 this).1 b hm;omega
theorem base_bas {V:Mat} {n j:Nat} (hj:j<n) (hd:ent V j j=0):baseG V n j=bas V j:=by
 have h1:=Lv.bas_far hd
 have h2:=Lv.bas_le V j
 have h3:=baseG_least (n:=n) (by omega) h1
 have h4:=Lv.bas_least (baseG_far hj (by rw [hd];decide))
 omega
theorem bas_bas {s:Survey} (h:Sw s) {V:Mat} (hV:Lv.knownV s=some V) {j:Nat} (hj:j<Lv.num s):bas V (bas V j)=bas V j:=by
 have hc:=Lv.known_clos h hV
 have hb:=Lv.bas_le V j
 exact hc.bas_eq (Lv.survey_both s) (by omega) hj (Lv.bas_far (hc.diag j hj))
theorem low_eq {s:Survey} (h:Sw s) {V:Mat} (hV:Lv.knownV s=some V) {j:Nat} (hj:j<Lv.num s) :
  lowAt V (Lv.num s) j = -ent V j (bas V j)∧highAt V (Lv.num s) j=ent V (bas V j) j∧(-8400≤ent V j (bas V j)∧ent V j (bas V j)≤8400)∧(-8400≤ent V (bas V j) j∧ent V (bas V j) j≤8400):=by
 have hc:=Lv.known_clos h hV
 have hd:=hc.diag j hj
 have hb:=Lv.bas_le V j
 have hf:=Lv.bas_far hd
 have hbn:bas V j<Lv.num s:=by omega
 have hf2:=Lv.known_sym h hV hbn hj hf
 have b1:=Lv.known_bd h hV hbn hj hf
 have b2:=Lv.known_bd h hV hj hbn hf2
 unfold lowAt highAt
 rw [base_bas hj hd]
 refine ⟨?_,rfl,b2,b1⟩
 rw [wrap64 (by omega)];omega
theorem lowest_law {s:Survey} (h:Sw s) {V:Mat} (hV:Lv.knownV s=some V) {j:Nat} (hj:j<Lv.num s) (hs:List Int) :
  bas V j<Lv.num s∧lowAt V (Lv.num s) (bas V j)=0∧highAt V (Lv.num s) (bas V j)=0∧lowAt V (Lv.num s) j≤highAt V (Lv.num s) j ∧
  (fitB s hs=true→lowAt V (Lv.num s) j≤hs.getD j 0 - hs.getD (bas V j) 0∧hs.getD j 0 - hs.getD (bas V j) 0≤highAt V (Lv.num s) j):=by
 have hc:=Lv.known_clos h hV
 have hd:=hc.diag j hj
 have hb:=Lv.bas_le V j
 have hf:=Lv.bas_far hd
 have hbn:bas V j<Lv.num s:=by omega
 obtain ⟨e1,e2,_,_⟩:=low_eq h hV hj
 obtain ⟨e3,e4,_,_⟩:=low_eq h hV hbn
 have hdb:=hc.diag _ hbn
 rw [e1,e2,e3,e4,bas_bas h hV hj,hdb]
 have hf2:=Lv.known_sym h hV hbn hj hf
 have hn:=hc.neg hj hbn hf2 hf
 refine ⟨hbn,by omega,rfl,by omega,fun hfit => ?_⟩
 exact Lv.fit_most h hV (fit_iff.1 hfit) hbn hj hf
theorem lists_fit {s:Survey} (h:Sw s) {V:Mat} (hV:Lv.knownV s=some V):fitB s ((List.range (Lv.num s)).map (lowAt V (Lv.num s)))=true∧fitB s ((List.range (Lv.num s)).map (highAt V (Lv.num s)))=true:=by
 have key:∀ (f g:Nat→Int),(∀ j,j<Lv.num s→f j=g j)→Lv.Fit s g→fitB s ((List.range (Lv.num s)).map f)=true:=fun f g hfg hg=>by
  rw [fit_iff]
  intro y hy
  have ho:=h.sights y hy
  have e:∀ i:Int,(0≤i∧i<s.stations)→((List.range (Lv.num s)).map f).getD i.toNat 0=g i.toNat:=fun i hi=>by
   have hlt:i.toNat<Lv.num s:=by show i.toNat<s.stations.toNat;omega
   rw [zG,qD,qH hlt]
   exact hfg _ hlt
  show y.rise - y.off≤((List.range (Lv.num s)).map f).getD y.to.toNat 0 - ((List.range (Lv.num s)).map f).getD y.frm.toNat 0∧((List.range (Lv.num s)).map f).getD y.to.toNat 0 - ((List.range (Lv.num s)).map f).getD y.frm.toNat 0≤y.rise+y.off
  rw [e _ ho.to,e _ ho.frm]
  exact hg y hy
 exact ⟨key _ _ (fun j hj=>(low_eq h hV hj).1) (Lv.fit_low h hV),key _ _ (fun j hj=>(low_eq h hV hj).2.1) (Lv.fit_high h hV)⟩
theorem plain_of {l:List Int} {n:Int} (hl:(l.length:Int)=n) (hb:∀ x∈l,-100000≤x∧x≤100000):plainB l n=true:=by
 unfold plainB
 rw [zT,yG,decide_eq_true_iff]
 exact ⟨fun x hx=>by rw [zT,decide_eq_true_iff,decide_eq_true_iff];exact hb x hx,hl⟩
theorem ints_get {l:List Int} {i:Nat} (h:i<l.length):(ints l)[i]? = some (.int .i64 (l.getD i 0)):=by
 unfold ints
 rw [qD,zG,zF h]
 rfl
theorem lowest_draw16 (s:Survey) (V:Mat) (hs L M:List Int) (is:Bool) (k b:Nat) (lk mk:Int) (hkL:k<L.length) (hkM:k<M.length) (hbL:b<L.length) (hbM:b<M.length)
  (gb:(ints L)[b]? = some (.int .i64 0)) (gb':(ints M)[b]? = some (.int .i64 0)) (gk:(ints L)[k]? = some (.int .i64 lk)) (gk':(ints M)[k]? = some (.int .i64 mk)) (hle:¬ lk > mk) (Q:AQ)
  (hQ:Q .normal [(1,sl hs),(5,sl L),(6,sl M),(8,.bool is),(10,.ref 1 0),(12,.int .i64 (k:Nat)),(13,.int .i64 (b:Nat)),(124,.bool false)] ⟨[some (.cells (surC s)),some (.cells (AV.cells (rA V)))],0,[]⟩) :
  WC (E 152) (.draw [1,5,6,8,10,12,13,124] 21 [] r15_16) Q [(1,sl hs),(5,sl L),(6,sl M),(8,.bool is),(10,.ref 1 0),(12,.int .i64 (k:Nat)),(13,.int .i64 (b:Nat))] ⟨[some (.cells (surC s)),some (.cells (AV.cells (rA V)))],0,[]⟩:=by
 have y0:¬ ((0:Int)≠0):=by decide
 have a1:0≤(k:Int)∧(k:Int)<L.length:=by omega
 have a2:0≤(k:Int)∧(k:Int)<M.length:=by omega
 have a3:0≤(b:Int)∧(b:Int)<L.length:=by omega
 have a4:0≤(b:Int)∧(b:Int)<M.length:=by omega
 simp only [go_sem,a1,a2,a3,a4,zAe,and_self,gb,gb',gk,gk',y0,hle,decide_false,zB,zD,zC,reduceIte,reduceCtorEq,zA]
 exact hQ
theorem lowest_draw18 (s:Survey) (V:Mat) (hs L M:List Int) (is:Bool) (k b:Nat) (hkL:k<hs.length) (hbL:b<hs.length) (hk:-20000≤hs.getD k 0∧hs.getD k 0≤20000) (hb:-20000≤hs.getD b 0∧hs.getD b 0≤20000) (Q:AQ)
  (hQ:Q .normal [(1,sl hs),(5,sl L),(6,sl M),(8,.bool is),(10,.ref 1 0),(12,.int .i64 (k:Nat)),(14,.int .i64 (hs.getD k 0 - hs.getD b 0))] ⟨[some (.cells (surC s)),some (.cells (AV.cells (rA V)))],0,[]⟩) :
  WC (E 152) (.draw [1,5,6,8,10,12,14] 8 [] r15_18) Q [(1,sl hs),(5,sl L),(6,sl M),(8,.bool is),(10,.ref 1 0),(12,.int .i64 (k:Nat)),(13,.int .i64 (b:Nat)),(124,.bool false)] ⟨[some (.cells (surC s)),some (.cells (AV.cells (rA V)))],0,[]⟩:=by
 have a1:0≤(k:Int)∧(k:Int)<hs.length:=by omega
 have a3:0≤(b:Int)∧(b:Int)<hs.length:=by omega
 have g1:=ints_get hkL
 have g2:=ints_get hbL
 have w:IntKind.i64.wrap (hs.getD k 0 - hs.getD b 0)=hs.getD k 0 - hs.getD b 0:=wrap64 (by omega)
 generalize hs.getD k 0=x at *
 generalize hs.getD b 0=y at *
 simp only [go_sem,a1,a3,zAe,and_self,g1,g2,w,zB,zD,zC,reduceIte,reduceCtorEq,zA]
 exact hQ
theorem lowest_loop (s:Survey) (hsw:Sw s) {V:Mat} (hV:Lv.knownV s=some V) (hs:List Int) (hh:HsOk s.stations hs) (is:Bool) (his:is=true→fitB s hs=true) (L M:List Int)
  (eL:L=(List.range (Lv.num s)).map (lowAt V (Lv.num s))) (eM:M=(List.range (Lv.num s)).map (highAt V (Lv.num s))) (Q:AQ)
  (hQ:Q .normal [(1,sl hs),(5,sl L),(6,sl M),(8,.bool is),(10,.ref 1 0),(12,.int .i64 (Lv.num s:Nat)),(96,.bool false)] ⟨[some (.cells (surC s)),some (.cells (AV.cells (rA V)))],0,[]⟩) :
  WC (E 152) (.loop l15_0) (blockQ 0 Q) [(1,sl hs),(5,sl L),(6,sl M),(8,.bool is),(10,.ref 1 0),(12,.int .i64 0)] ⟨[some (.cells (surC s)),some (.cells (AV.cells (rA V)))],0,[]⟩:=by
 have hcl:=Lv.known_clos hsw hV
 have hsq:Sq (Lv.num s) V:=zBe (ds:=[]) hV
 have hn8:=hsw.num8
 have lL:L.length=Lv.num s:=by rw [eL];simp
 have lM:M.length=Lv.num s:=by rw [eM];simp
 have hst:s.stations=(Lv.num s:Int):=by have:=hsw.st;show _=((s.stations.toNat:Nat):Int);omega
 have lH:hs.length=Lv.num s:=by have:=hh.len;omega
 have gL:∀ j,j<Lv.num s→L.getD j 0=lowAt V (Lv.num s) j:=fun j hj=>by rw [eL,zG,qD,qH hj];rfl
 have gM:∀ j,j<Lv.num s→M.getD j 0=highAt V (Lv.num s) j:=fun j hj=>by rw [eM,zG,qD,qH hj];rfl
 clear eL eM
 refine zDn (Lv.num s) (fun k=>[(1,sl hs),(5,sl L),(6,sl M),(8,.bool is),(10,.ref 1 0),(12,.int .i64 (k:Nat))]) (fun _=>⟨[some (.cells (surC s)),some (.cells (AV.cells (rA V)))],0,[]⟩) rfl rfl ?_
 intro k hk I hI
 obtain ⟨D,hD⟩:∃ D,MC.draw [1,5,6,8,10,12,13,124] 21 [] r15_16=D:=⟨_,rfl⟩
 obtain ⟨D',hD'⟩:∃ D',MC.draw [1,5,6,8,10,12,14] 8 [] r15_18=D':=⟨_,rfl⟩
 by_cases hlt:k<Lv.num s
 rotate_left
 ·have he:k=Lv.num s:=by omega
  subst he
  have k1:¬ ((Lv.num s:Int)<L.length):=by omega
  unfold l15_0
  rw [hD,hD']
  simp only [go_sem,zAa,k1,decide_false,zB,zD,zC,reduceIte,reduceCtorEq,zA]
  exact hQ
 have k1:(k:Int)<L.length:=by omega
 have k4:IntKind.i64.wrap ((k:Int)+1)=(k+1:Nat):=wrap64 (by omega)
 have hI':=hI hlt
 have hB:=rBase_pc hsq (by omega) hlt (by rw [hcl.diag k hlt];decide)
 rw [base_bas hlt (hcl.diag k hlt)] at hB
 obtain ⟨q1,q2,q3,q4,q5⟩:=lowest_law hsw hV hlt hs
 generalize bas V k=b at *
 have g1:(ints L)[b]? = some (.int .i64 0):=by rw [ints_get (by omega),gL b q1,q2]
 have g2:(ints M)[b]? = some (.int .i64 0):=by rw [ints_get (by omega),gM b q1,q3]
 have g3:(ints L)[k]? = some (.int .i64 (lowAt V (Lv.num s) k)):=by rw [ints_get (by omega),gL k hlt]
 have g4:(ints M)[k]? = some (.int .i64 (highAt V (Lv.num s) k)):=by rw [ints_get (by omega),gM k hlt]
 generalize lowAt V (Lv.num s) k=lk at *
 generalize highAt V (Lv.num s) k=mk at *
 unfold l15_0
 rw [hD,hD']
 simp only [go_sem,zAa,k1,decide_true,zB,zD,zC,reduceIte,reduceCtorEq,zA]
 refine cp n68 hB (SubL.refl _) ?_
 simp only [go_sem,zB,zD,zC,reduceIte,reduceCtorEq,zA]
 subst hD
 refine lowest_draw16 s V hs L M is k b lk mk (by omega) (by omega) (by omega) (by omega) g1 g2 g3 g4 (by omega) _ ?_
 simp only [go_sem,zB,zD,zC,reduceIte,reduceCtorEq,zA]
 subst hD'
 refine lowest_draw18 s V hs L M is k b (by omega) (by omega) (hh.at k) (hh.at b) _ ?_
 have a1:0≤(k:Int)∧(k:Int)<L.length:=by omega
 have a2:0≤(k:Int)∧(k:Int)<M.length:=by omega
 cases is
 ·simp only [go_sem,k4,zB,zD,zC,reduceIte,reduceCtorEq,zA]
  exact hI'
 ·obtain ⟨u1,u2⟩:=q5 (his rfl)
  generalize hs.getD k 0 - hs.getD b 0=r at *
  have v1:¬ r<lk:=by omega
  have v2:¬ r > mk:=by omega
  simp only [go_sem,a1,a2,zAe,and_self,g3,g4,v1,v2,decide_false,k4,zB,zD,zC,reduceIte,reduceCtorEq,zA]
  exact hI'
theorem llowest_pc (s:Survey) (hl:okL s.sights.length) (hs:List Int) (hhl:okL hs.length):PC Tryz.prog 15 [surA s,sl hs] (.pure (.bool true)):=by
 refine PC.of_empty (AC.run (E_ok _) mix Tryz.func15 m15 rfl rfl rfl (zE rfl) ?_) (by simp [bndL,AV.bnd]) rfl
 have z2:decide ((2:Int)=2)=true:=rfl
 have z7:decide ((7:Int)=7)=true:=rfl
 have z5:decide ((5:Int)=5)=true:=rfl
 have z0:decide ((0:Int)=0)=true:=rfl
 have y0:¬ ((0:Int)≠0):=by decide
 have y2:¬ ((2:Int)≠2):=by decide
 have y7:¬ ((7:Int)≠7):=by decide
 have y5:¬ ((5:Int)≠5):=by decide
 have x2:((2:Int)≠0):=by decide
 have x7:((7:Int)≠0):=by decide
 have x5:((5:Int)≠0):=by decide
 have hcZ:AV.cells zeroR=[.nilS,.nilS]:=rfl
 have o1:AV.one .nilS=true:=rfl
 have hcR:∀ V,AV.cells (rA V)=[wS (rM V),.slice ((rJ V).map bl) (rJ V).length .unk]:=fun V=>rfl
 have oR:∀ (l:List AV) (n:Nat) (u:Tail),AV.one (.slice l n u)=true:=fun _ _ _=>rfl
 simp only [go_sem,boxA,zB,zD,zC,reduceIte,reduceCtorEq,zA]
 refine cp n23 (short_pc s) (SubL.refl _) ?_
 by_cases hsh:s.sights.length≤17
 rotate_left
 ·rw [decide_eq_false hsh]
  simp only [go_sem,zAh,qE,zB,zD,zC,reduceIte,reduceCtorEq,zA]
  refine cp n24 zEc (SubL.refl _) ?_
  simp only [go_sem,Tryz.f15,zB,zD,zC,reduceIte,reduceCtorEq,zA]
 rw [decide_eq_true hsh]
 by_cases hg12:(hs.length:Int) > 12
 ·simp only [go_sem,zAh,zY,zAa,hg12,decide_true,decide_false,zB,zD,zC,reduceIte,reduceCtorEq,zA]
  refine cp n24 zEc (SubL.refl _) ?_
  simp only [go_sem,Tryz.f15,zB,zD,zC,reduceIte,reduceCtorEq,zA]
 simp only [go_sem,zAh,zY,zAa,hg12,decide_false,zB,zD,zC,reduceIte,reduceCtorEq,zA]
 refine cp n33 (rSurvey_pc s hl) (SubL.refl _) ?_
 cases hv:zAp s
 ·simp only [go_sem,zAh,qE,zB,zD,zC,reduceIte,reduceCtorEq,zA]
  refine cp n24 zEc (SubL.refl _) ?_
  simp only [go_sem,Tryz.f15,zB,zD,zC,reduceIte,reduceCtorEq,zA]
 simp only [go_sem,zAh,zY,zB,zD,zC,reduceIte,reduceCtorEq,zA]
 refine cp n56 (rList_pc s hs hhl) (SubL.refl _) ?_
 cases hh:listOk s hs
 ·simp only [go_sem,zAh,qE,zB,zD,zC,reduceIte,reduceCtorEq,zA]
  refine cp n24 zEc (SubL.refl _) ?_
  simp only [go_sem,Tryz.f15,zB,zD,zC,reduceIte,reduceCtorEq,zA]
 simp only [go_sem,zAh,zY,zB,zD,zC,reduceIte,reduceCtorEq,zA]
 have hH:=Heights_pc s hl
 have hF:=Fits_pc s hl hs hhl
 have eF:fitsA s hs=.tuple [.bool (fitB s hs),.int .i64 0]:=by unfold fitsA;rw [if_pos ⟨hv,hh⟩]
 rw [eF] at hF
 have hsv:=zDk.1 hv
 have hK:=rKnown_pc s hsv.toSw (by omega)
 have hhs:HsOk s.stations hs:=list_iff.1 hh
 cases hV:Lv.knownV s with
 | none =>
  have eH:zCg s=.tuple [.nilS,.nilS,.int .i64 7]:=by unfold zCg;rw [hv,hV];rfl
  have eK:rknownA s=.tuple [zeroR,.bool false]:=by unfold rknownA;rw [hV]
  have hnf:fitB s hs=false:=by
   cases h:fitB s hs
   ·rfl
   ·have:=(Lv.poss_fit hsv.toSw).2 ⟨_,fit_iff.1 h⟩
    unfold Lv.possS at this
    rw [hV] at this;cases this
  rw [hnf] at hF
  rw [eH] at hH
  rw [eK] at hK
  refine cp n26 hH (SubL.refl _) ?_
  simp only [go_sem,zAd,zB,zD,zC,reduceIte,reduceCtorEq,zA]
  refine cp n64 hF (SubL.refl _) ?_
  simp only [go_sem,zAd,zB,zD,zC,reduceIte,reduceCtorEq,zA]
  refine cp n65 hK (SubL.refl _) ?_
  simp only [go_sem,zAd,zAc,hcZ,hcR,o1,oR,zL,zM,zJ,splice,zI,zH,and_self,qC,qK,zAh,qE,y0,z7,decide_true,decide_false,zB,zD,zC,reduceIte,reduceCtorEq,zA]
  refine cp n24 zEc (SubL.refl _) ?_
  simp only [go_sem,Tryz.f15,zB,zD,zC,reduceIte,reduceCtorEq,zA]
 | some V =>
  have hst:s.stations=(Lv.num s:Int):=by have:=hsv.st;show _=((s.stations.toNat:Nat):Int);omega
  have hn8:Lv.num s≤8:=hsv.toSw.num8
  have eH:zCg s=.tuple [sl ((List.range (Lv.num s)).map (lowAt V (Lv.num s))),sl ((List.range (Lv.num s)).map (highAt V (Lv.num s))),.int .i64 0]:=by unfold zCg;rw [hv,hV];rfl
  have eK:rknownA s=.tuple [rA V,.bool true]:=by unfold rknownA;rw [hV]
  obtain ⟨f1,f2⟩:=lists_fit hsv.toSw hV
  rw [eH] at hH
  rw [eK] at hK
  have lL:((List.range (Lv.num s)).map (lowAt V (Lv.num s))).length=Lv.num s:=by simp
  have lM:((List.range (Lv.num s)).map (highAt V (Lv.num s))).length=Lv.num s:=by simp
  have bL:∀ x∈(List.range (Lv.num s)).map (lowAt V (Lv.num s)),-8400≤x∧x≤8400:=fun x hx=>by
   obtain ⟨j,hj,rfl⟩:=List.mem_map.1 hx
   obtain ⟨e1,_,e3,_⟩:=low_eq hsv.toSw hV (List.mem_range.1 hj)
   rw [e1];omega
  have bM:∀ x∈(List.range (Lv.num s)).map (highAt V (Lv.num s)),-8400≤x∧x≤8400:=fun x hx=>by
   obtain ⟨j,hj,rfl⟩:=List.mem_map.1 hx
   obtain ⟨_,e2,_,e4⟩:=low_eq hsv.toSw hV (List.mem_range.1 hj)
   rw [e2];omega
  have hlp:=lowest_loop s hsv.toSw hV hs hhs (fitB s hs) (fun h=>h) _ _ rfl rfl
  generalize (List.range (Lv.num s)).map (lowAt V (Lv.num s))=L at *
  generalize (List.range (Lv.num s)).map (highAt V (Lv.num s))=M at *
  have kL:okL L.length:=by unfold okL;omega
  have kM:okL M.length:=by unfold okL;omega
  have p1:=plain_pc L kL s.stations
  rw [plain_of (by omega) (fun x hx=>by have:=bL x hx;omega)] at p1
  have p2:=plain_pc M kM s.stations
  rw [plain_of (by omega) (fun x hx=>by have:=bM x hx;omega)] at p2
  have p3:=rFits_pc s hsv.toSw (by omega) L 8400 (by omega) (by omega) bL
  rw [f1] at p3
  have p4:=rFits_pc s hsv.toSw (by omega) M 8400 (by omega) (by omega) bM
  rw [f2] at p4
  refine cp n26 hH (SubL.refl _) ?_
  simp only [go_sem,zAd,zB,zD,zC,reduceIte,reduceCtorEq,zA]
  refine cp n64 hF (SubL.refl _) ?_
  simp only [go_sem,zAd,zB,zD,zC,reduceIte,reduceCtorEq,zA]
  refine cp n65 hK (SubL.refl _) ?_
  simp only [go_sem,zAd,zAc,hcZ,hcR,o1,oR,zL,zM,zJ,splice,zI,zH,and_self,qC,qK,zAh,zY,y0,decide_false,zB,zD,zC,reduceIte,reduceCtorEq,zA]
  refine cp n66 p1 (SubL.refl _) ?_
  simp only [go_sem,zAh,zY,zB,zD,zC,reduceIte,reduceCtorEq,zA]
  refine cp n66 p2 (SubL.refl _) ?_
  simp only [go_sem,zAh,zY,zB,zD,zC,reduceIte,reduceCtorEq,zA]
  refine cp n67 p3 (SubL.refl _) ?_
  simp only [go_sem,zAh,zY,zB,zD,zC,reduceIte,reduceCtorEq,zA]
  refine cp n67 p4 (SubL.refl _) ?_
  simp only [go_sem,zAh,zY,zB,zD,zC,reduceIte,reduceCtorEq,zA]
  refine hlp _ ?_
  simp only [go_sem,zB,zD,zC,reduceIte,reduceCtorEq,zA]
  refine cp n24 zEc (SubL.refl _) ?_
  simp only [go_sem,Tryz.f15,zB,zD,zC,reduceIte,reduceCtorEq,zA]
end Go.Av.Lx
end
section
set_option maxRecDepth 100000
namespace Go.Av.Lx
open Go.Lv (Sight Survey Leg Tun Try Stp)
open Go Go.Av Go.Av.Tb Go.Av.Fx Go.Proofs Go.ChangeShapes Go.WideShapes Go.RowKit
def cW (W:World):Cx:=
 {K:=fun b o=>W.cell? ⟨b,o,none⟩,μ:=fun _=>none,τ:=fun _=>none,X:=fun _ _=>none
  XO:=fun b=>match W.heap[b]? with
   | some (.cells _ _ _)=>none
   | o=>o
  sz:=W.heap.size,FZ:=⟨fun _ _=>false,W⟩ }
structure TabOk (W:World):Prop where
 tab:∀ i,i<20→W.cell? ⟨tabB,i,none⟩=some (tabV i)
 tsh:∃ t,W.shape? tabB=some (t,20)
theorem cW_st {W:World} (h:TabOk W):StRel (cW W) St.empty W where
 sz:=zN _
 tab:=h.tab
 tsh:=h.tsh
 fr:=Frm.refl W
 K:=fun _ _ _ e=>e
 X:=fun _ _ _ e=>by cases e
 XO:=fun b ob e=>by
  simp only [cW] at e
  split at e
  ·cases e
  ·rename_i hn
   exact ⟨e,fun cs t f he=>hn cs t f (by rw [e,he])⟩
 F:=fun _ _ e=>by cases e
 dom:=fun _ _ e=>by cases e
 tdom:=fun _ _ e=>by cases e
 blk:=fun i B e=>by simp [St.empty] at e
 inj:=fun i j Bi Bj n e=>by simp [St.empty] at e
 tok:=fun k hk=>by cases hk
 tinj:=fun k k' b lo hi lo' hi' hk=>by cases hk
 tblk:=fun k i b lo hi B hk=>by cases hk
 tfr:=fun k b lo hi hk=>by cases hk
structure Keep (W W':World):Prop where
 os:W'.os=W.os
 out:W'.output=W.output
 block:∀ k,k<W.heap.size→W'.heap[k]? = W.heap[k]?
theorem keep_of {W W':World} {c':Cx} {S':St} (hle:(cW W).le c') (h:StRel c' S' W'):Keep W W':=by
 have hfr:Go.Av.Frm W W':=by have:=h.fr;rw [hle.FZ] at this;exact this
 refine ⟨hfr.os,hfr.out,fun k hk => ?_⟩
 have hob:W.heap[k]? = some W.heap[k]:=qB hk
 rw [hob]
 cases ho:W.heap[k] with
 | cells cs t fr =>
  rw [ho] at hob
  obtain ⟨cs',e1,e2⟩:=hfr.blk k cs t fr hob
  rw [e1]
  congr 2
  apply Array.ext
  ·exact e2
  ·intro j h1 h2
   have hc:W.cell? ⟨k,j,none⟩=some cs[j]:=by
    unfold World.cell?
    simp [hob,h2]
   have:=h.K k j _ (hle.K k j _ hc)
   unfold World.cell? at this
   simp [e1,h1] at this
   exact this
 | _ =>
  rw [ho] at hob
  exact (h.XO k _ (by rw [hle.XO];simp only [cW,hob])).1
theorem Keep.keptBut {W W':World} (h:Keep W W') (may:MemPlace→Prop):W.keptBut W' may:=by
 refine ⟨h.os,h.out,fun i hi => ?_⟩
 rw [h.block i hi,qB hi]
 cases W.heap[i] with
 | cells c t fr=>exact ⟨rfl,rfl,rfl,fun _ _=>rfl⟩
 | map es clock=>exact .inr ⟨rfl,rfl⟩
 | _=>rfl
theorem Keep.same {W W':World} (h:Keep W W') {p:MemPlace} (hp:p.block<W.heap.size):W.sameAt W' p:=by
 cases p with
 | cell b o=>exact World.cell?_of_block (w:=W) (h.block b hp)
 | map b=>exact h.block b hp
theorem Keep.trod {H:Type} {enc:TypeId × Value→H} {P:Program} {t:TypeId} (hl:laidOutB P=true) (hr:P.readableRec t=true) (hrow:t<P.types.size) {W W':World} {v:Value} {d:DataW H} {ps:List MemPlace}
  (h:DataW.Trod enc P W 0 (fun _=>true) true t v d ps) (hb:Keep W W') (hlt:∀ x∈ps,x.block<W.heap.size) :
  DataW.Trod enc P W' 0 (fun b=>decide (b<W.heap.size)) true t v d ps:=
 WideElems.Trod_stays hl hr hrow h (fun x hx=>hb.same (hlt x hx)) (fun x hx=>by simpa using hlt x hx)
theorem law_calls {f:FuncId} {args:List AV} {W:World} {vs:List Value} (h:PC Tryz.prog f args (.pure (.bool true))) (ht:TabOk W) (hl:LRel (cW W) args vs) :
  Calls Tryz.prog f vs.toArray W fun e W'=>e=.returned (.bool true)∧Keep W W':=by
 refine (h (cW W) St.empty W vs (cW_st ht) hl).mono ?_
 rintro e W' ⟨x,rfl,c',hle,_,_,hst,hv⟩
 refine ⟨?_,keep_of hle hst⟩
 cases hv;rfl
theorem cells_of {W:World} {b off:Nat} {l:List AV} {n cap:Nat} (hc:n≤cap) (h:∀ j x,l[j]? = some x → ∃ v,W.cell? ⟨b,off+j,none⟩=some v∧VRel (cW W) x v):VRel (cW W) (.slice l n .unk) (.slice (some ⟨b,off,none⟩) n cap):=by
 have get:∀ j (hj:j<l.length),∃ v,W.cell? ⟨b,off+j,none⟩=some v∧VRel (cW W) l[j] v:=fun j hj=>h j _ (zF hj)
 refine .slice l n .unk b off cap (fun j=>(W.cell? ⟨b,off+j,none⟩).getD default) hc (fun j hj => ?_) (fun j x hx => ?_) (fun e=>by cases e) (fun k e=>by cases e)
 ·obtain ⟨v,h1,h2⟩:=get j hj
  show W.cell? _=some ((W.cell? _).getD default)
  rw [h1];rfl
 ·obtain ⟨v,h1,h2⟩:=h j x hx
  rw [h1];exact h2
theorem add_at (b off i:Nat):(⟨b,off,none⟩:Addr).add i=⟨b,off+i,none⟩:=add_plain b off i
theorem has_spot {W:World} {base:Nat} {t e:TypeId} {a:Addr} {len cap:Nat} (ht:Tryz.prog.underlying t=some (.slice e)) (h:Cell.okWide Tryz.prog W .any base t (.slice (some a) len cap)):a.spot=none:=by
 simp only [Cell.okWide,ht,Cell.ok] at h
 exact h.2.2.2.1
section
variable {H:Type} {enc:TypeId × Value→H} {W:World} {base:Nat} {fuel:Nat} {x:DataW H × List MemPlace}
theorem av_ints {v:Value} (h:DataW.trod enc Tryz.prog W 0 (fun _=>true) true fuel 32 [v]=some x) (hw:∀ n∈x.1.weights Tryz.prog 32,n≤reachBytes) (hok:Cell.okWide Tryz.prog W .any base 32 v):∃ l:List Int,VRel (cW W) (sl l) v∧okL l.length:=by
 rcases open_ints Tryz.underlying32 Tryz.underlying3 (by kernel_rfl) h with ⟨hcs,_⟩ | ⟨a,len,cap,zs,hcs,_,hl,hm,hz,hx,hcell,_⟩
 ·cases hcs
  exact ⟨[],.sliceNil .unk (fun k e=>by cases e),Nat.zero_lt_succ _⟩
 ·cases hcs
  have hsp:=has_spot Tryz.underlying32 hok
  obtain ⟨b,off,spot⟩:=a
  simp only at hsp
  subst hsp
  have hz:zs.length=cap:=by simpa using hz
  have hlen:(zs.take len).length=len:=by rw [List.length_take];omega
  have hsize:len<9223372036854775807:=by
   subst hx
   have h8:Tryz.prog.bytesOf 3=8:=by kernel_rfl
   have:=hw (((lits .i64 (zs.take len):List (DataW H)).length+(lits .i64 (zs.drop len):List (DataW H)).length) * 8) (by
    simp only [DataW.weights,Tryz.underlying32,h8]
    exact zP)
   have e1:(lits .i64 (zs.take len):List (DataW H)).length=len:=by simp [lits];omega
   rw [e1] at this
   unfold reachBytes at this
   omega
  refine ⟨zs.take len, ?_,by rw [hlen];exact hsize⟩
  show VRel (cW W) (.slice (ints (zs.take len)) (zs.take len).length .unk) _
  rw [hlen]
  refine cells_of hl fun j y hy => ?_
  rw [Go.Av.Fx.ints_get] at hy
  have hj:j<(zs.take len).length:=by
   rcases zV j (zs.take len).length with h' | h'
   ·exact h'
   ·rw [zO h'] at hy;cases hy
  rw [zF hj] at hy
  cases hy
  have hj2:j<zs.length:=by omega
  have hc:=hcell j hj2
  rw [add_at] at hc
  refine ⟨_,hc, ?_⟩
  rw [List.getElem_take,zG,zF hj2]
  exact .int _ _
theorem av_int {v:Value} (h:DataW.trod enc Tryz.prog W 0 (fun _=>true) true fuel 3 [v]=some x):∃ n:Int,v=.int .i64 n∧(Lit.int .i64 n).wf=true:=by
 obtain ⟨n,hcs,_,hw⟩:=DataW.trod_int Tryz.underlying3 h
 cases hcs
 exact ⟨n,rfl,hw⟩
theorem flat_get {α:Type} {f:α→List AV} {z:Nat} (hz:∀ a,(f a).length=z):∀ (l:List α) (j:Nat) (y:AV),(l.flatMap f)[j]? = some y → ∃ (i q:Nat) (hi:i<l.length),j=i * z+q∧q<z∧(f l[i])[q]? = some y
 | [],j,y,h=>by simp at h
 | c :: l,j,y,h=>by
  rw [yA] at h
  by_cases hj:j<z
  ·rw [qI (by rw [hz];exact hj)] at h
   exact ⟨0,j,by simp,by omega,hj,h⟩
  ·rw [zR (by rw [hz];omega),hz] at h
   obtain ⟨i,q,hi,e1,e2,e3⟩:=flat_get hz l _ y h
   refine ⟨i+1,q,by simpa using hi, ?_,e2,e3⟩
   rw [Nat.add_mul];omega
theorem av_rows {α:Type} (dflt:α) (f:α→List AV) {z by':Nat} (hz:∀ a,(f a).length=z) {t e:TypeId} (hu:Tryz.prog.underlying t=some (.slice e)) (hc:Tryz.prog.cellsOf e=z) (h8:Tryz.prog.bytesOf e=by') (hb:1≤by')
  (one:∀ {n:Nat} {y:DataW H × List MemPlace} {cs:List Value},DataW.trod enc Tryz.prog W 0 (fun _=>true) true n e cs=some y → ∃ a:α,LRel (cW W) (f a) cs)
  {v:Value} (h:DataW.trod enc Tryz.prog W 0 (fun _=>true) true fuel t [v]=some x) (hw:∀ n∈x.1.weights Tryz.prog t,n≤reachBytes) (hok:Cell.okWide Tryz.prog W .any base t v):∃ l:List α,VRel (cW W) (.slice (l.flatMap f) l.length .unk) v∧okL l.length:=by
 rcases Go.Deep.open_slice hu h with ⟨hcs,_⟩ | ⟨a,len,cap,m,n,D,Pl,hcs,_,hl,hm,hmm,hxx,hx⟩
 ·cases hcs
  exact ⟨[],.sliceNil .unk (fun k e=>by cases e),Nat.zero_lt_succ _⟩
 ·cases hcs
  have hsp:=has_spot hu hok
  obtain ⟨b,off,spot⟩:=a
  simp only at hsp
  subst hsp
  have hmc:m=cap:=by simpa using hmm
  rw [hc] at hx
  have each:∀ i,i<len → ∃ c:α,∀ (q:Nat) (y:AV),(f c)[q]? = some y → ∃ u,W.cell? ⟨b,off+(i * z+q),none⟩=some u∧VRel (cW W) y u:=by
   intro i hi
   obtain ⟨cs',h1,h2⟩:=hx i (by omega)
   obtain ⟨c,hr⟩:=one h2
   obtain ⟨_,hcl,hcell⟩:=World.cells?_some h1
   refine ⟨c,fun q y hy => ?_⟩
   obtain ⟨u,hu',hru⟩:=hr.get hy
   have hq:q<cs'.length:=by
    rcases zV q cs'.length with h' | h'
    ·exact h'
    ·rw [zO h'] at hu';cases hu'
   have hcq:=hcell q (by omega)
   rw [add_at,add_at,Nat.add_assoc] at hcq
   refine ⟨u, ?_,hru⟩
   rw [hcq]
   exact hu'
  obtain ⟨F,hF⟩:∃ F:Nat→α,∀ i,i<len → ∀ (q:Nat) (y:AV),(f (F i))[q]? = some y → ∃ u,W.cell? ⟨b,off+(i * z+q),none⟩=some u∧VRel (cW W) y u:=
   ⟨fun i=>if hi:i<len then (each i hi).choose else dflt,fun i hi=>by
    show ∀ (q:Nat) (y:AV),(f (if hi:i<len then (each i hi).choose else dflt))[q]? = some y→_
    rw [dif_pos hi];exact (each i hi).choose_spec⟩
  have hlen:((List.range len).map F).length=len:=by simp
  have hsize:len<9223372036854775807:=by
   subst hxx
   have:=hw ((((List.range len).map D).length+((List.range (m - len)).map fun j=>D (len+j)).length) * by') (by
    simp only [DataW.weights,hu,h8]
    exact zP)
   rw [yS,List.length_range] at this
   have h3:len * 1≤(len+((List.range (m - len)).map fun j=>D (len+j)).length) * by':=Nat.mul_le_mul (by omega) hb
   unfold reachBytes at this
   omega
  refine ⟨(List.range len).map F, ?_,by rw [hlen];exact hsize⟩
  rw [hlen]
  refine cells_of hl fun j y hy => ?_
  obtain ⟨i,q,hi,rfl,_,e3⟩:=flat_get hz _ j y hy
  rw [hlen] at hi
  have e4:((List.range len).map F)[i]=F i:=by simp
  rw [e4] at e3
  exact hF i hi q y e3
theorem av_sight {n:Nat} {y:DataW H × List MemPlace} {cs:List Value} (h:DataW.trod enc Tryz.prog W 0 (fun _=>true) true n 85 cs=some y):∃ a:Sight,LRel (cW W) (sgtC a) cs:=by
 obtain ⟨xs,n,_,_,hl,hlen,hf⟩:=DataW.trod_struct Tryz.underlying85 h
 have hc:Tryz.prog.cellsOf 85=4:=by kernel_rfl
 have hc3:Tryz.prog.cellsOf 3=1:=by kernel_rfl
 have hc4:Tryz.prog.cellsOf 4=1:=by kernel_rfl
 rw [hc] at hl
 match cs,hl with
 | [a0,a1,a2,a3],_ =>
  match xs,hlen with
  | [y0,y1,y2,y3],_ =>
   have h0:DataW.trod enc Tryz.prog W 0 (fun _=>true) true n 3 (([a0,a1,a2,a3].drop 0).take (Tryz.prog.cellsOf 3))=some y0:=hf 0 _ rfl
   rw [hc3] at h0
   have h1:DataW.trod enc Tryz.prog W 0 (fun _=>true) true n 3 (([a0,a1,a2,a3].drop 1).take (Tryz.prog.cellsOf 3))=some y1:=hf 1 _ rfl
   rw [hc3] at h1
   have h2:DataW.trod enc Tryz.prog W 0 (fun _=>true) true n 3 (([a0,a1,a2,a3].drop 2).take (Tryz.prog.cellsOf 3))=some y2:=hf 2 _ rfl
   rw [hc3] at h2
   have h3:DataW.trod enc Tryz.prog W 0 (fun _=>true) true n 3 (([a0,a1,a2,a3].drop 3).take (Tryz.prog.cellsOf 3))=some y3:=hf 3 _ rfl
   rw [hc3] at h3
   obtain ⟨p0,rfl,_⟩:=av_int h0
   obtain ⟨p1,rfl,_⟩:=av_int h1
   obtain ⟨p2,rfl,_⟩:=av_int h2
   obtain ⟨p3,rfl,_⟩:=av_int h3
   exact ⟨⟨p0,p1,p2,p3⟩,(LRel.cons (.int _ _) (LRel.cons (.int _ _) (LRel.cons (.int _ _) (LRel.cons (.int _ _) (LRel.nil _)))))⟩
end
theorem cells_lone {v:Value} (h:∀ cs,v ≠ .agg cs):v.cells.toList=[v]:=by
 cases v <;> first | rfl | exact absurd rfl (h _)
section
variable {H:Type} {enc:TypeId × Value→H} {W:World} {base:Nat}
theorem av_intsA {v:Value} {d:DataW H} {ps:List MemPlace} (h:DataW.Trod enc Tryz.prog W 0 (fun _=>true) true 32 v d ps) (hw:∀ n∈d.weights Tryz.prog 32,n≤reachBytes) (hok:Value.okWide Tryz.prog W .any base 32 v) :
  ∃ l:List Int,VRel (cW W) (sl l) v∧okL l.length:=by
 obtain ⟨fuel,h⟩:=h
 simp only [Value.okWide,Tryz.underlying32] at hok
 rw [cells_lone (fun cs e=>by subst e;simp [Tryz.underlying32,Cell.okWide,Cell.ok] at hok)] at h
 exact av_ints h hw hok
theorem av_survey {v:Value} {d:DataW H} {ps:List MemPlace} (h:DataW.Trod enc Tryz.prog W 0 (fun _=>true) true 24 v d ps) (hw:∀ n∈d.weights Tryz.prog 24,n≤reachBytes) (hok:Value.okWide Tryz.prog W .any base 24 v) :
  ∃ s:Survey,VRel (cW W) (surA s) v∧okL s.sights.length:=by
 obtain ⟨fuel,h⟩:=h
 simp only [Value.okWide,Tryz.underlying24] at hok
 obtain ⟨cs,rfl,hsz,ts,hts,_,hrow⟩:=hok
 have hc:Tryz.prog.cellsOf 24=2:=by kernel_rfl
 rw [hc] at hsz
 obtain ⟨c0,c1,rfl⟩:∃ c0 c1,cs=#[c0,c1]:=by
  obtain ⟨l⟩:=cs
  match l,hsz with
  | [c0,c1],_=>exact ⟨c0,c1,rfl⟩
 have hts':Go.Program.cellTypes Tryz.prog Tryz.prog.depth 24=some [3,22]:=by kernel_rfl
 rw [hts'] at hts
 cases hts
 have k1:Cell.okWide Tryz.prog W .any base 22 c1:=by
  obtain ⟨u,e,hu⟩:=hrow 1 c1 rfl
  cases e;exact hu
 obtain ⟨xs,n,_,hd,hl,hlen,hf⟩:=DataW.trod_struct Tryz.underlying24 h
 have hc3:Tryz.prog.cellsOf 3=1:=by kernel_rfl
 have hc22:Tryz.prog.cellsOf 22=1:=by kernel_rfl
 match xs,hlen with
 | [y0,y1],_ =>
  have h0:DataW.trod enc Tryz.prog W 0 (fun _=>true) true n 3 (([c0,c1].drop 0).take (Tryz.prog.cellsOf 3))=some y0:=hf 0 _ rfl
  have h1:DataW.trod enc Tryz.prog W 0 (fun _=>true) true n 22 (([c0,c1].drop 1).take (Tryz.prog.cellsOf 22))=some y1:=hf 1 _ rfl
  rw [hc3] at h0
  rw [hc22] at h1
  cases hd
  have hw':∀ (j:Nat) (t:TypeId) (d:DataW H),[3,22][j]? = some t→[y0.1,y1.1][j]? = some d → ∀ n∈d.weights Tryz.prog t,n≤reachBytes:=fun j t d ht hd n hn=>by
   refine hw n ?_
   simp only [DataW.weights,Tryz.underlying24]
   exact DataW.weights_mem_each (ts:=[3,22]) ht hd n hn
  obtain ⟨p,rfl,_⟩:=av_int h0
  obtain ⟨g,hg,og⟩:=av_rows (z:=4) (by':=32) (⟨0,0,0,0⟩:Sight) sgtC (fun _=>rfl) Tryz.underlying22 (by kernel_rfl) (by kernel_rfl) (by decide) (fun h=>av_sight h) h1 (hw' 1 _ _ rfl rfl) k1
  refine ⟨⟨p,g⟩,VRel.mk_agg ?_,og⟩
  exact LRel.cons (.int _ _) (LRel.cons hg (LRel.nil _))
end
end Go.Av.Lx
end
