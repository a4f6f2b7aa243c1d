/- Part 30 of the proof. -/
import Derived.Test.YtclmbbofpaecaaaGreatDoorVs27
import Derived.Test.YtclmbbofpaecaaaGreatDoorVs28
import Derived.Test.YtclmbbofpaecaaaGreatDoorVs29
import Derived.Test.YtclmbbofpaecaaaGreatDoorVs21
import Derived.Test.YtclmbbofpaecaaaGreatDoorVs22
import Derived.Test.YtclmbbofpaecaaaGreatDoorVs19
import Derived.Test.YtclmbbofpaecaaaGreatDoorVs20
import Derived.Test.YtclmbbofpaecaaaGreatDoorVs24
set_option linter.all false
set_option linter.unusedVariables false
set_option linter.unusedSimpArgs false
set_option linter.unusedSectionVars false
open Bool renaming and_self → zK, not_true → qB, not_false → qF
open Int renaming mul_le_mul_of_nonneg_right → qE, toNat_natCast → qO, tdiv_eq_ediv_of_nonneg → qX
open List renaming getElem?_eq_getElem → zF, getD_eq_getElem?_getD → zG, set_cons_succ → zH, set_cons_zero → zI, all_cons → zL, getElem?_eq_none → zM, all_nil → zO, getElem_mem → zW, length_cons → zX, length_append → qC, length_nil → qG, getElem?_map → qI, take_succ_eq_append_getElem → qJ, getElem?_range → qP, map_append → qS, take_length → yG, map_cons → yO, mem_singleton → yP
open Nat renaming reduceLeDiff → zA, reduceEqDiff → zB, reduceAdd → zC, reduceBEq → zD, le_of_ble_eq_true → zE, zero_le → qH
section
set_option maxRecDepth 100000
set_option maxHeartbeats 16000000
namespace Go.Av.Lx
open Go Go.Av Go.Av.Tb Go.Av.Fx Go.Proofs
open Go.Lv (Sight Survey Sw Sv SightOk Leg Tun Try Stp withS)
theorem ex_Ring:RingA surT=.tuple [stpsA [⟨0,false⟩,⟨1,false⟩,⟨2,false⟩,⟨3,true⟩],.int .i64 0]:=by
 unfold RingA
 rw [ex_ok,if_pos rfl,ex_poss,if_neg (by decide),ex_ring]
theorem ex_read:readA exB=.tuple [surA surX,.int .i64 0]:=by
 unfold readA
 rw [if_pos (by decide),ex_parsed]
 simp only [ex_xok,if_true]
theorem zCp:PC Tryz.prog 24 [] (.pure (.bool true)):=by
 refine PC.of_empty (AC.run (E_ok 223) mix Tryz.func24 m24 rfl rfl rfl (zE rfl) ?_) rfl rfl
 have oS:okL surS.sights.length:=by decide
 have oT:okL surT.sights.length:=by decide
 have oU:okL surU.sights.length:=by decide
 have q1:=Bounds_pc surS oS 0 2
 rw [ex_bounds] at q1
 have q2:=Heights_pc surS oS
 rw [ex_heights] at q2
 have q3:=Ring_pc surT oT
 rw [ex_Ring] at q3
 have q4:=Least_pc surT oT
 rw [ex_least] at q4
 have q5:=Falls_pc surS oS ⟨1,2,2⟩ 2 3
 rw [ex_falls] at q5
 have q6:=Carries_pc surS oS [⟨1,2,2⟩,⟨2,1,1⟩] (by decide) 0 3
 rw [ex_carries] at q6
 have q7:=Meets_pc surS oS ⟨3,0,5,3,1⟩
 rw [ex_meets] at q7
 have q8:=Drives_pc surS oS ⟨3,0,5,3,1⟩
 rw [ex_drives] at q8
 have q9:=Takes_pc surS oS 0 2 [⟨0,2,2⟩,⟨1,2,0⟩] (by decide)
 rw [ex_takes] at q9
 have q10:=Drops_pc surU oU
 rw [ex_drops] at q10
 have q11:=Blames_pc surU oU
 rw [ex_blames] at q11
 have q12:=Read_pc exB (by decide)
 rw [ex_read] at q12
 have q13:=rPrint_pc surX (small_plain (parsed_small ex_parsed) (by decide))
 rw [ex_text] at q13
 have b1:buildA T 61 [(0,.int .i64 1),(1,.int .i64 2),(2,.int .i64 2)]=some (.agg (legC ⟨1,2,2⟩)):=rfl
 have b2:buildA T 61 [(0,.int .i64 2),(1,.int .i64 1),(2,.int .i64 1)]=some (.agg (legC ⟨2,1,1⟩)):=rfl
 have b3:zAe T 54 2 [(0,.agg (legC ⟨1,2,2⟩)),(1,.agg (legC ⟨2,1,1⟩))]=some (.slice (legsC [⟨1,2,2⟩,⟨2,1,1⟩]) [(⟨1,2,2⟩:Leg),⟨2,1,1⟩].length .exact):=rfl
 have b4:buildA T 68 [(0,.int .i64 3),(1,.int .i64 0),(2,.int .i64 5),(3,.int .i64 3),(4,.int .i64 1)]=some (.agg (tunC ⟨3,0,5,3,1⟩)):=rfl
 have b5:buildA T 95 [(0,.int .i64 0),(1,.int .i64 2),(2,.int .i64 2)]=some (.agg (tryC ⟨0,2,2⟩)):=rfl
 have b6:buildA T 95 [(0,.int .i64 1),(1,.int .i64 2)]=some (.agg (tryC ⟨1,2,0⟩)):=rfl
 have b7:zAe T 76 2 [(0,.agg (tryC ⟨0,2,2⟩)),(1,.agg (tryC ⟨1,2,0⟩))]=some (.slice (triesC [⟨0,2,2⟩,⟨1,2,0⟩]) [(⟨0,2,2⟩:Try),⟨1,2,0⟩].length .exact):=rfl
 have b8:buildA T 28 [(0,.int .i64 5),(1,.int .i64 9)]=some (.agg [.int .i64 5,.int .i64 9]):=rfl
 have b9:buildA T 28 [(0,.int .i64 (-7)),(1,.int .i64 7)]=some (.agg [.int .i64 (-7),.int .i64 7]):=rfl
 have b10:buildA T 49 [(0,.int .i64 7),(1,.int .i64 4)]=some (.agg [.int .i64 7,.int .i64 4]):=rfl
 have b11:∀ n,buildA T 127 [(0,.int .i64 n)]=some (.agg (stpC ⟨n,false⟩)):=fun n=>rfl
 have b12:∀ n,buildA T 127 [(0,.int .i64 n),(1,.bool true)]=some (.agg (stpC ⟨n,true⟩)):=fun n=>rfl
 have b13:zAe T 117 4 [(0,.agg (stpC ⟨0,false⟩)),(1,.agg (stpC ⟨1,false⟩)),(2,.agg (stpC ⟨2,false⟩)),(3,.agg (stpC ⟨3,true⟩))]=some (.slice (stpsC [⟨0,false⟩,⟨1,false⟩,⟨2,false⟩,⟨3,true⟩]) [(⟨0,false⟩:Stp),⟨1,false⟩,⟨2,false⟩,⟨3,true⟩].length .exact):=rfl
 have b14:∀ a b c d:Int,zAe T 32 4 [(0,.int .i64 a),(1,.int .i64 b),(2,.int .i64 c),(3,.int .i64 d)]=some (.slice (ints [a,b,c,d]) [a,b,c,d].length .exact):=fun a b c d=>rfl
 have b15:zAe T 32 3 [(0,.int .i64 1),(1,.int .i64 2),(2,.int .i64 3)]=some (.slice (ints [1,2,3]) [(1:Int),2,3].length .exact):=rfl
 have b16:zAe T 32 1 [(0,.int .i64 1)]=some (.slice (ints [1]) [(1:Int)].length .exact):=rfl
 have n1:binA T .neq 28 (.agg [.int .i64 5,.int .i64 9]) (.agg [.int .i64 5,.int .i64 9])=some (.bool false):=rfl
 have n2:binA T .neq 28 (.agg [.int .i64 (-7),.int .i64 7]) (.agg [.int .i64 (-7),.int .i64 7])=some (.bool false):=rfl
 have n3:binA T .neq 49 (.agg [.int .i64 7,.int .i64 4]) (.agg [.int .i64 7,.int .i64 4])=some (.bool false):=rfl
 have z0:¬ ((0:Int)≠0):=by decide
 have z1:¬ ((1:Int)≠1):=by decide
 have z2:¬ ((2:Int)≠2):=by decide
 have z3:¬ ((3:Int)≠3):=by decide
 have z7:¬ ((7:Int)≠7):=by decide
 have y1:decide ((1:Int)=1)=true:=rfl
 have y2:decide ((2:Int)=2)=true:=rfl
 have z4:binA T .eql 9 (.str exB) (.str ⟨#[115,117,114,118,101,121,32,50,10,115,105,103,104,116,32,48,32,49,32,52,32,48,10,101,110,100,32,48,49,50,10]⟩)=some (.bool true):=(show binA T .eql 9 (.str exB) (.str exB)=some (.bool true) by rw [eqS,decide_eq_true rfl])
 simp only [go_sem,zB,zD,zC,reduceIte,reduceCtorEq,zA]
 refine cp n81 S_pc (SubL.refl _) ?_
 try simp only [go_sem,zB,zD,zC,reduceIte,reduceCtorEq,zA]
 refine cp n25 q1 (SubL.refl _) ?_
 simp only [go_sem,zAd,frA,zAc,AV.cells,AV.one,zL,zO,zK,splice,zI,zH,and_self,zX,qG,zB,zD,zC,reduceIte,reduceCtorEq,zA]
 refine cp n81 S_pc (SubL.refl _) ?_
 try simp only [go_sem,zB,zD,zC,reduceIte,reduceCtorEq,zA]
 refine cp n26 q2 (SubL.refl _) ?_
 simp only [go_sem,zAd,frA,zAc,AV.cells,AV.one,zL,zO,zK,splice,zI,zH,and_self,zX,qG,zB,zD,zC,reduceIte,reduceCtorEq,zA]
 refine cp n82 T_pc (SubL.refl _) ?_
 try simp only [go_sem,zB,zD,zC,reduceIte,reduceCtorEq,zA]
 refine cp n72 q3 (SubL.refl _) ?_
 simp only [go_sem,zAd,frA,zAc,AV.cells,AV.one,zL,zO,zK,splice,zI,zH,and_self,zX,qG,zB,zD,zC,reduceIte,reduceCtorEq,zA]
 refine cp n82 T_pc (SubL.refl _) ?_
 try simp only [go_sem,zB,zD,zC,reduceIte,reduceCtorEq,zA]
 refine cp n32 q4 (SubL.refl _) ?_
 simp only [go_sem,zAd,frA,zAc,AV.cells,AV.one,zL,zO,zK,splice,zI,zH,and_self,zX,qG,zB,zD,zC,reduceIte,reduceCtorEq,zA]
 refine cp n81 S_pc (SubL.refl _) ?_
 simp only [go_sem,b1,b2,b3,b4,b5,b6,b7,zB,zD,zC,reduceIte,reduceCtorEq,zA]
 refine cp n39 q5 (SubL.refl _) ?_
 simp only [go_sem,zAd,frA,zAc,AV.cells,AV.one,zL,zO,zK,splice,zI,zH,and_self,zX,qG,zB,zD,zC,reduceIte,reduceCtorEq,zA]
 refine cp n81 S_pc (SubL.refl _) ?_
 simp only [go_sem,b1,b2,b3,b4,b5,b6,b7,zB,zD,zC,reduceIte,reduceCtorEq,zA]
 refine cp n35 q6 (SubL.cons (Sub.refl _) (SubL.cons (Sub.unk _ _ _) (SubL.refl _))) ?_
 simp only [go_sem,zAd,frA,zAc,AV.cells,AV.one,zL,zO,zK,splice,zI,zH,and_self,zX,qG,zB,zD,zC,reduceIte,reduceCtorEq,zA]
 refine cp n81 S_pc (SubL.refl _) ?_
 simp only [go_sem,b1,b2,b3,b4,b5,b6,b7,zB,zD,zC,reduceIte,reduceCtorEq,zA]
 refine cp n42 q7 (SubL.refl _) ?_
 simp only [go_sem,zAd,frA,zAc,AV.cells,AV.one,zL,zO,zK,splice,zI,zH,and_self,zX,qG,zB,zD,zC,reduceIte,reduceCtorEq,zA]
 refine cp n81 S_pc (SubL.refl _) ?_
 simp only [go_sem,b1,b2,b3,b4,b5,b6,b7,zB,zD,zC,reduceIte,reduceCtorEq,zA]
 refine cp n43 q8 (SubL.refl _) ?_
 simp only [go_sem,zAd,frA,zAc,AV.cells,AV.one,zL,zO,zK,splice,zI,zH,and_self,zX,qG,zB,zD,zC,reduceIte,reduceCtorEq,zA]
 refine cp n81 S_pc (SubL.refl _) ?_
 simp only [go_sem,b1,b2,b3,b4,b5,b6,b7,zB,zD,zC,reduceIte,reduceCtorEq,zA]
 refine cp n47 q9 (SubL.cons (Sub.refl _) (SubL.cons (Sub.refl _) (SubL.cons (Sub.refl _) (SubL.cons (Sub.unk _ _ _) (SubL.refl _))))) ?_
 simp only [go_sem,zAd,frA,zAc,AV.cells,AV.one,zL,zO,zK,splice,zI,zH,and_self,zX,qG,zB,zD,zC,reduceIte,reduceCtorEq,zA]
 refine cp n83 U_pc (SubL.refl _) ?_
 try simp only [go_sem,zB,zD,zC,reduceIte,reduceCtorEq,zA]
 refine cp n50 q10 (SubL.refl _) ?_
 simp only [go_sem,zAd,frA,zAc,AV.cells,AV.one,zL,zO,zK,splice,zI,zH,and_self,zX,qG,zB,zD,zC,reduceIte,reduceCtorEq,zA]
 refine cp n83 U_pc (SubL.refl _) ?_
 try simp only [go_sem,zB,zD,zC,reduceIte,reduceCtorEq,zA]
 refine cp n51 q11 (SubL.refl _) ?_
 simp only [go_sem,zAd,zB,zD,zC,reduceIte,reduceCtorEq,zA]
 refine cp n60 q12 (SubL.refl _) ?_
 simp only [go_sem,zAd,z0,decide_false,zAc,AV.cells,AV.one,zL,zO,zK,splice,zI,zH,and_self,zX,qG,b8,n1,b14,zB,zD,zC,reduceIte,reduceCtorEq,zA]
 refine cp n29 (Same_pc [0,9,5,13] [0,9,5,13] (by decide) (by decide)) (SubL.cons (Sub.refl _) (SubL.cons (Sub.unk _ _ _) (SubL.refl _))) ?_
 rw [decide_eq_true rfl]
 simp only [go_sem,zAj,qB,b14,zB,zD,zC,reduceIte,reduceCtorEq,zA]
 refine cp n29 (Same_pc [0,11,9,17] [0,11,9,17] (by decide) (by decide)) (SubL.cons (Sub.refl _) (SubL.cons (Sub.unk _ _ _) (SubL.refl _))) ?_
 rw [decide_eq_true rfl]
 simp only [go_sem,zAj,qB,b11,b12,b13,zB,zD,zC,reduceIte,reduceCtorEq,zA]
 refine cp n76 (SameSteps_pc [⟨0,false⟩,⟨1,false⟩,⟨2,false⟩,⟨3,true⟩] [⟨0,false⟩,⟨1,false⟩,⟨2,false⟩,⟨3,true⟩] (by decide) (by decide)) (SubL.cons (Sub.refl _) (SubL.cons (Sub.unk _ _ _) (SubL.refl _))) ?_
 rw [decide_eq_true rfl]
 simp only [go_sem,zAj,qB,b10,n3,b14,zB,zD,zC,reduceIte,reduceCtorEq,zA]
 refine cp n29 (Same_pc [0,47,38,73] [0,47,38,73] (by decide) (by decide)) (SubL.cons (Sub.refl _) (SubL.cons (Sub.unk _ _ _) (SubL.refl _))) ?_
 rw [decide_eq_true rfl]
 simp only [go_sem,zAj,qB,z1,z2,z3,z7,decide_false,decide_true,b9,n2,b16,zB,zD,zC,reduceIte,reduceCtorEq,zA]
 refine cp n29 (Same_pc [1] [1] (by decide) (by decide)) (SubL.cons (Sub.refl _) (SubL.cons (Sub.unk _ _ _) (SubL.refl _))) ?_
 rw [decide_eq_true rfl]
 simp only [go_sem,b15,zB,zD,zC,reduceIte,reduceCtorEq,zA]
 refine cp n29 (Same_pc [1,2,3] [1,2,3] (by decide) (by decide)) (SubL.cons (Sub.refl _) (SubL.cons (Sub.unk _ _ _) (SubL.refl _))) ?_
 rw [decide_eq_true rfl]
 simp only [go_sem,zB,zD,zC,reduceIte,reduceCtorEq,zA]
 refine cp n61 q13 (SubL.refl _) ?_
 simp only [go_sem,z4,Tryz.f24,zB,zD,zC,reduceIte,reduceCtorEq,zA]
end Go.Av.Lx
end
section
set_option maxHeartbeats 8000000
namespace Go.Av.Lx
open Go Go.Av Go.Av.Tb Go.Av.Fx Go.Proofs
open Go.Lv (Sight Survey Sw Sv SightOk errF)

end Go.Av.Lx
end
section
set_option maxHeartbeats 8000000
namespace Go.Av.Lx
open Go Go.Av Go.Av.Tb Go.Av.Fx Go.Proofs
open Go.Lv (Sight Survey Sw Sv SightOk possS)

end Go.Av.Lx
end
section
set_option maxHeartbeats 8000000
namespace Go.Av.Lx
open Go Go.Av Go.Av.Tb Go.Av.Fx Go.Proofs
open Go.Lv (Sight Survey Sw Sv SightOk possS)
open Go.Fw (Sq ent Bd Mat)

end Go.Av.Lx
end
section
set_option maxHeartbeats 8000000
namespace Go.Av.Lx
open Go Go.Av Go.Av.Tb Go.Av.Fx Go.Proofs
open Go.Lv (Sight Survey Sw Sv SightOk Leg LegOk RangeOk Tun TunOk Try TryOk Stp fallW meetL meetH bestAt driveF wideI)
open Go.Fw (Sq ent Bd Mat)

set_option maxHeartbeats 8000000

end Go.Av.Lx
end
section
set_option maxHeartbeats 8000000
namespace Go.Av.Lx
open Go Go.Av Go.Av.Tb Go.Av.Fx Go.Proofs
open Go.Lv (Sight Survey Sw Sv SightOk Leg LegOk RangeOk Tun TunOk Try TryOk Stp fallW carryW)
open Go.Fw (Sq ent Bd Mat)

end Go.Av.Lx
end
section
set_option maxHeartbeats 8000000
namespace Go.Av.Lx
open Go Go.Av Go.Av.Tb Go.Av.Fx Go.Proofs
open Go.Lv (Sight Survey Sw Sv SightOk bas)
open Go.Fw (Sq ent Bd Mat)
theorem baseG_least {V:Mat} {n j b:Nat} (hbn:b<n) (hb:ent V b j<far):baseG V n j≤b:=by
 unfold baseG
 cases h:(List.range n).find? fun b=>decide (ent V b j<far) with
 | none=>exact absurd (decide_eq_true hb) (List.find?_eq_none.1 h b (List.mem_range.2 hbn))
 | some d =>
  show d≤b
  refine Nat.le_of_not_lt fun hlt => ?_
  obtain ⟨_,us,vs,e,hno⟩:=List.find?_eq_some_iff_append.1 h
  have hmem:b∈List.range n:=List.mem_range.2 hbn
  rw [e] at hmem
  rcases List.mem_append.1 hmem with hm | hm
  ·have:=hno b hm
   rw [decide_eq_true hb] at this;cases this
  ·have hs:(us ++ d :: vs).Pairwise (· < ·):=by rw [← e];exact List.pairwise_lt_range
   have:=(List.pairwise_append.1 hs).2.1
   rcases List.mem_cons.1 hm with rfl | hm
   ·omega
   ·have:=(List.pairwise_cons.1 this).1 b hm;omega
theorem base_bas {V:Mat} {n j:Nat} (hj:j<n) (hd:ent V j j=0):baseG V n j=bas V j:=by
 have h1:=Lv.bas_far hd
 have h2:=Lv.bas_le V j
 have h3:=baseG_least (n:=n) (by omega) h1
 have h4:=Lv.bas_least (baseG_far hj (by rw [hd];decide))
 omega
theorem ints_get {l:List Int} {i:Nat} (h:i<l.length):(ints l)[i]? = some (.int .i64 (l.getD i 0)):=by
 unfold ints
 rw [qI,zG,zF h]
 rfl
end Go.Av.Lx
end
section
set_option maxHeartbeats 8000000
namespace Go.Av.Lx
open Go Go.Av Go.Av.Tb Go.Av.Fx Go.Proofs
open Go.Lv (Sight Survey Sw Sv SightOk Leg LegOk RangeOk Tun TunOk Try TryOk Stp fallW carryW)
open Go.Fw (Sq ent Bd Mat)

end Go.Av.Lx
end
section
set_option maxHeartbeats 8000000
namespace Go.Av.Lx
open Go Go.Av Go.Av.Tb Go.Av.Fx Go.Proofs
open Go.Lv (Sight Survey Sw Sv SightOk withS possS)
open Go.Fw (Sq ent Bd Mat)

end Go.Av.Lx
end
section
set_option maxHeartbeats 8000000
namespace Go.Av.Lx
open Go Go.Av Go.Av.Tb Go.Av.Fx Go.Proofs
open Go.Lv (Sight Survey Sw Sv SightOk withS possS Try TryOk worstW bestAt tried)
open Go.Fw (Sq ent Bd Mat)

end Go.Av.Lx
end
section
set_option maxHeartbeats 8000000
namespace Go.Av.Lx
open Go Go.Av Go.Av.Tb Go.Av.Fx Go.Proofs
open Go.Lv (Sight Survey Sw Sv SightOk possS bas evenH errF evenB)
open Go.Fw (Sq ent Bd Mat)
def mxI (a b:Int):Int:=if b > a then b else a
theorem mx_ok (S:St) (a b:Int):zAa T S .max [3,3] [.int .i64 a,.int .i64 b]=some (.pure (.int .i64 (mxI a b))):=rfl
theorem mxI_le (a b:Int):a≤mxI a b∧b≤mxI a b∧(mxI a b=a∨mxI a b=b):=by
 unfold mxI;split <;> omega
theorem even_d18 (s:Survey) (hs L:List Int) (by' p q w:Int) (k:Nat) (W:AV) (X:List (Option Blk)) (nt:Nat) (tk:List Nat) (a b:Nat) (r o:Int) (haL:a<L.length) (hbL:b<L.length) (hLa:-800000≤L.getD a 0∧L.getD a 0≤800000) (hLb:-800000≤L.getD b 0∧L.getD b 0≤800000) (hrq:-8000≤r * q∧r * q≤8000) (v:AV) (Q:AQ)
  (hQ:Q .normal [(1,sl hs),(2,.int .i64 by'),(3,.ref 0 0),(7,.ref 1 0),(8,sl L),(11,.int .i64 w),(12,.ref 2 0),(13,.int .i64 (k:Nat)),(14,.ref (X.length+1+1+1) 0),(15,.int .i64 (L.getD b 0 - L.getD a 0 - r * q))] ⟨some (.cells (surC s)) :: some (.cells [.int .i64 p,.int .i64 q]) :: some (.cells [.int .i64 s.stations,W]) :: (X ++ [some (.cells [.int .i64 (a:Nat),.int .i64 (b:Nat),.int .i64 r,.int .i64 o])]),nt,tk⟩) :
  WC (E 209) (.draw [1,2,3,7,8,11,12,13,14,15] 16 [] r10_18) Q [(1,sl hs),(2,.int .i64 by'),(3,.ref 0 0),(7,.ref 1 0),(8,sl L),(11,.int .i64 w),(12,.ref 2 0),(13,.int .i64 (k:Nat)),(14,.ref (X.length+1+1+1) 0)] ⟨some (.cells (surC s)) :: some (.cells [.int .i64 p,.int .i64 q]) :: some (.cells [.int .i64 s.stations,W]) :: (X ++ [some (.cells [.int .i64 (a:Nat),.int .i64 (b:Nat),.int .i64 r,.int .i64 o])]),nt,tk⟩:=by
 have c1:∀ a b c q,cellsAt (a :: b :: c :: (X ++ [some (.cells q)])) (X.length+1+1+1)=some q:=fun a b c q=>zAf (a :: b :: c :: X) q
 have c2:∀ a b c y B,setH (a :: b :: c :: (X ++ [y])) (X.length+1+1+1) B=a :: b :: c :: (X ++ [some B]):=fun a b c y B=>zAs (a :: b :: c :: X) y B
 have a1:0≤(a:Int)∧(a:Int)<L.length:=by omega
 have a2:0≤(b:Int)∧(b:Int)<L.length:=by omega
 have g1:=ints_get haL
 have g2:=ints_get hbL
 have w1:IntKind.i64.wrap (L.getD b 0 - L.getD a 0)=L.getD b 0 - L.getD a 0:=wrap64 (by omega)
 have w2:IntKind.i64.wrap (r * q)=r * q:=wrap64 (by omega)
 have w3:IntKind.i64.wrap (L.getD b 0 - L.getD a 0 - r * q)=L.getD b 0 - L.getD a 0 - r * q:=wrap64 (by omega)
 generalize L.getD a 0=x at *
 generalize L.getD b 0=y at *
 simp only [go_sem,c1,a1,a2,zAg,and_self,g1,g2,w1,w2,w3,zB,zD,zC,reduceIte,reduceCtorEq,zA]
 exact hQ
theorem even_d21 (s:Survey) (hs L:List Int) (by' p q w:Int) (k:Nat) (W:AV) (X:List (Option Blk)) (nt:Nat) (tk:List Nat) (a b:Nat) (r o:Int) (haL:a<hs.length) (hbL:b<hs.length) (hLa:-20000≤hs.getD a 0∧hs.getD a 0≤20000) (hLb:-20000≤hs.getD b 0∧hs.getD b 0≤20000) (hrq:-1000000≤r * by'∧r * by'≤1000000) (v:AV) (Q:AQ)
  (hQ:Q .normal [(1,sl hs),(2,.int .i64 by'),(3,.ref 0 0),(7,.ref 1 0),(8,sl L),(11,.int .i64 w),(12,.ref 2 0),(13,.int .i64 (k:Nat)),(14,.ref (X.length+1+1+1) 0),(16,.int .i64 (hs.getD b 0 - hs.getD a 0 - r * by'))] ⟨some (.cells (surC s)) :: some (.cells [.int .i64 p,.int .i64 q]) :: some (.cells [.int .i64 s.stations,W]) :: (X ++ [some (.cells [.int .i64 (a:Nat),.int .i64 (b:Nat),.int .i64 r,.int .i64 o])]),nt,tk⟩) :
  WC (E 209) (.draw [1,2,3,7,8,11,12,13,14,16] 15 [] r10_21) Q [(1,sl hs),(2,.int .i64 by'),(3,.ref 0 0),(7,.ref 1 0),(8,sl L),(11,.int .i64 w),(12,.ref 2 0),(13,.int .i64 (k:Nat)),(14,.ref (X.length+1+1+1) 0),(141,v)] ⟨some (.cells (surC s)) :: some (.cells [.int .i64 p,.int .i64 q]) :: some (.cells [.int .i64 s.stations,W]) :: (X ++ [some (.cells [.int .i64 (a:Nat),.int .i64 (b:Nat),.int .i64 r,.int .i64 o])]),nt,tk⟩:=by
 have c1:∀ a b c q,cellsAt (a :: b :: c :: (X ++ [some (.cells q)])) (X.length+1+1+1)=some q:=fun a b c q=>zAf (a :: b :: c :: X) q
 have c2:∀ a b c y B,setH (a :: b :: c :: (X ++ [y])) (X.length+1+1+1) B=a :: b :: c :: (X ++ [some B]):=fun a b c y B=>zAs (a :: b :: c :: X) y B
 have a1:0≤(a:Int)∧(a:Int)<hs.length:=by omega
 have a2:0≤(b:Int)∧(b:Int)<hs.length:=by omega
 have g1:=ints_get haL
 have g2:=ints_get hbL
 have w1:IntKind.i64.wrap (hs.getD b 0 - hs.getD a 0)=hs.getD b 0 - hs.getD a 0:=wrap64 (by omega)
 have w2:IntKind.i64.wrap (r * by')=r * by':=wrap64 (by omega)
 have w3:IntKind.i64.wrap (hs.getD b 0 - hs.getD a 0 - r * by')=hs.getD b 0 - hs.getD a 0 - r * by':=wrap64 (by omega)
 generalize hs.getD a 0=x at *
 generalize hs.getD b 0=y at *
 simp only [go_sem,c1,a1,a2,zAg,and_self,g1,g2,w1,w2,w3,zB,zD,zC,reduceIte,reduceCtorEq,zA]
 exact hQ
theorem even_d23 (s:Survey) (hs L:List Int) (by' p q w:Int) (k:Nat) (W:AV) (X:List (Option Blk)) (nt:Nat) (tk:List Nat) (a b:Nat) (r o:Int) (hp:0≤p∧p≤8000) (hq:1≤q∧q≤8) (Q:AQ)
  (hQ:Q .normal [(1,sl hs),(2,.int .i64 by'),(3,.ref 0 0),(7,.ref 1 0),(8,sl L),(11,.int .i64 w),(12,.ref 2 0),(13,.int .i64 (k:Nat)),(14,.ref (X.length+1+1+1) 0)] ⟨some (.cells (surC s)) :: some (.cells [.int .i64 p,.int .i64 q]) :: some (.cells [.int .i64 s.stations,W]) :: (X ++ [some (.cells [.int .i64 (a:Nat),.int .i64 (b:Nat),.int .i64 r,.int .i64 (mxI o ((p+q - 1).tdiv q))])]),nt,tk⟩) :
  WC (E 209) (.draw [1,2,3,7,8,11,12,13,14] 11 [] r10_23) Q [(1,sl hs),(2,.int .i64 by'),(3,.ref 0 0),(7,.ref 1 0),(8,sl L),(11,.int .i64 w),(12,.ref 2 0),(13,.int .i64 (k:Nat)),(14,.ref (X.length+1+1+1) 0)] ⟨some (.cells (surC s)) :: some (.cells [.int .i64 p,.int .i64 q]) :: some (.cells [.int .i64 s.stations,W]) :: (X ++ [some (.cells [.int .i64 (a:Nat),.int .i64 (b:Nat),.int .i64 r,.int .i64 o])]),nt,tk⟩:=by
 have hc2:∀ a b:AV,AV.cells (.agg [a,b])=[a,b]:=fun _ _=>rfl
 have oI:∀ n:Int,AV.one (.int .i64 n)=true:=fun _=>rfl
 have oS:∀ (l:List AV) (n:Nat) (u:Tail),AV.one (.slice l n u)=true:=fun _ _ _=>rfl
 have c1:∀ a b c q,cellsAt (a :: b :: c :: (X ++ [some (.cells q)])) (X.length+1+1+1)=some q:=fun a b c q=>zAf (a :: b :: c :: X) q
 have c2:∀ a b c y B,setH (a :: b :: c :: (X ++ [y])) (X.length+1+1+1) B=a :: b :: c :: (X ++ [some B]):=fun a b c y B=>zAs (a :: b :: c :: X) y B
 have w1:IntKind.i64.wrap (p+q)=p+q:=wrap64 (by omega)
 have w2:IntKind.i64.wrap (p+q - 1)=p+q - 1:=wrap64 (by omega)
 have hd:(p+q - 1).tdiv q=(p+q - 1) / q:=qX (by omega)
 have h1:0≤(p+q - 1) / q:=Int.ediv_nonneg (by omega) (by omega)
 have h2:(p+q - 1) / q≤p+q - 1:=Int.ediv_le_self _ (by omega)
 have eQ:intOp .quo .i64 (p+q - 1) q=some (.int .i64 ((p+q - 1).tdiv q)):=by
  show (if q=0 then none else some (AV.int .i64 (IntKind.i64.wrap ((p+q - 1).tdiv q))))=_
  rw [if_neg (by omega),wrap64 (by rw [hd];omega)]
 generalize (p+q - 1).tdiv q=z at *
 simp only [go_sem,c1,c2,w1,w2,eQ,mx_ok,zAc,hc2,oI,oS,zL,zO,zK,splice,zI,zH,and_self,zX,qG,zB,zD,zC,reduceIte,reduceCtorEq,zA]
 exact hQ
def wideY (p q:Int) (y:Sight):Sight:=⟨y.frm,y.to,y.rise,mxI y.off ((p+q - 1).tdiv q)⟩
def offN (hs:List Int) (by':Int) (y:Sight):Int:=hs.getD y.to.toNat 0 - hs.getD y.frm.toNat 0 - y.rise * by'
theorem even_loop0 (s:Survey) (hs L:List Int) (by' p q:Int) (hL:L.length≤100) (hb:∀ x∈L,-800000≤x∧x≤800000) (Q:AQ)
  (hQ:Q .normal [(1,sl hs),(2,.int .i64 by'),(3,.ref 0 0),(7,.ref 1 0),(8,sl L),(10,.int .i64 (L.length:Nat)),(85,.bool false)] ⟨[some (.cells (surC s)),some (.cells [.int .i64 p,.int .i64 q])],0,[]⟩) :
  WC (E 209) (.loop l10_0) (blockQ 0 Q) [(1,sl hs),(2,.int .i64 by'),(3,.ref 0 0),(7,.ref 1 0),(8,sl L),(10,.int .i64 0)] ⟨[some (.cells (surC s)),some (.cells [.int .i64 p,.int .i64 q])],0,[]⟩:=by
 refine zDk L.length (fun k=>[(1,sl hs),(2,.int .i64 by'),(3,.ref 0 0),(7,.ref 1 0),(8,sl L),(10,.int .i64 (k:Nat))]) (fun _=>⟨[some (.cells (surC s)),some (.cells [.int .i64 p,.int .i64 q])],0,[]⟩) rfl rfl ?_
 intro k hk I hI
 by_cases hlt:k<L.length
 rotate_left
 ·have he:k=L.length:=by omega
  subst he
  have k1:¬ ((L.length:Int)<L.length):=by omega
  simp only [go_sem,l10_0,zAa,k1,decide_false,zB,zD,zC,reduceIte,reduceCtorEq,zA]
  exact hQ
 have k1:(k:Int)<L.length:=by omega
 have k2:0≤(k:Int)∧(k:Int)<L.length:=by omega
 have k4:IntKind.i64.wrap ((k:Int)+1)=(k+1:Nat):=wrap64 (by omega)
 have g1:=ints_get hlt
 have hx:=hb (L.getD k 0) (by rw [zG,zF hlt];exact zW hlt)
 generalize L.getD k 0=x at *
 have a1:¬ (x < -800000):=by omega
 have a2:¬ (x > 800000):=by omega
 simp only [go_sem,l10_0,zAa,k1,decide_true,decide_false,k2,zAg,and_self,g1,a1,a2,k4,zB,zD,zC,reduceIte,reduceCtorEq,zA]
 exact hI hlt
theorem even_loop1 (s:Survey) (hv:Sv s) (hs L:List Int) (by' p q:Int) (hby:1≤by'∧by'≤1000) (hp:0≤p∧p≤8000) (hq:1≤q∧q≤8) (hh:HsOk s.stations hs) (hLl:L.length=Lv.num s) (hLb:∀ j,-800000≤L.getD j 0∧L.getD j 0≤800000)
  (hfit:∀ y∈s.sights,-p≤L.getD y.to.toNat 0 - L.getD y.frm.toNat 0 - y.rise * q∧L.getD y.to.toNat 0 - L.getD y.frm.toNat 0 - y.rise * q≤p) (Q:AQ)
  (hQ:∀ w X W nt tk,Own (sgts (s.sights.map (wideY p q))) (s.sights.map (wideY p q)).length W nt tk→(0≤w∧w≤1100000)→(∀ y∈s.sights,-w≤offN hs by' y∧offN hs by' y≤w)→Q .normal [(1,sl hs),(2,.int .i64 by'),(3,.ref 0 0),(7,.ref 1 0),(8,sl L),(11,.int .i64 w),(12,.ref 2 0),(13,.int .i64 (s.sights.length:Nat)),(106,.bool false)] ⟨some (.cells (surC s)) :: some (.cells [.int .i64 p,.int .i64 q]) :: some (.cells [.int .i64 s.stations,W]) :: X,nt,tk⟩) :
  WC (E 209) (.loop l10_1) (blockQ 2 Q) [(1,sl hs),(2,.int .i64 by'),(3,.ref 0 0),(7,.ref 1 0),(8,sl L),(11,.int .i64 0),(12,.ref 2 0),(13,.int .i64 0)] ⟨some (.cells (surC s)) :: some (.cells [.int .i64 p,.int .i64 q]) :: some (.cells [.int .i64 s.stations,.nilS]) :: [],0,[]⟩:=by
 have hc2:∀ a b:AV,AV.cells (.agg [a,b])=[a,b]:=fun _ _=>rfl
 have oI:∀ n:Int,AV.one (.int .i64 n)=true:=fun _=>rfl
 have oS:∀ (l:List AV) (n:Nat) (u:Tail),AV.one (.slice l n u)=true:=fun _ _ _=>rfl
 obtain ⟨D1,hD1⟩:∃ D,MC.draw [1,2,3,7,8,11,12,13,14,15] 16 [] r10_18=D:=⟨_,rfl⟩
 obtain ⟨D2,hD2⟩:∃ D,MC.draw [1,2,3,7,8,11,12,13,14,16] 15 [] r10_21=D:=⟨_,rfl⟩
 obtain ⟨D3,hD3⟩:∃ D,MC.draw [1,2,3,7,8,11,12,13,14] 11 [] r10_23=D:=⟨_,rfl⟩
 refine zAu (fun m ts' S' => ∃ k w X W nt tk,k≤s.sights.length∧m=s.sights.length - k∧ts'=[(1,sl hs),(2,.int .i64 by'),(3,.ref 0 0),(7,.ref 1 0),(8,sl L),(11,.int .i64 w),(12,.ref 2 0),(13,.int .i64 (k:Nat))]∧S'=⟨some (.cells (surC s)) :: some (.cells [.int .i64 p,.int .i64 q]) :: some (.cells [.int .i64 s.stations,W]) :: X,nt,tk⟩∧Own (sgts ((s.sights.take k).map (wideY p q))) ((s.sights.take k).map (wideY p q)).length W nt tk∧(0≤w∧w≤1100000)∧(∀ y∈s.sights.take k,-w≤offN hs by' y∧offN hs by' y≤w)) s.sights.length ⟨0,0,[],.nilS,0,[],qH _,rfl,rfl,rfl,Own.nil _ _,by omega,fun y hy=>by simp at hy⟩ ?_
 rintro m ts' S' ⟨k,w,X,W,nt,tk,hk,rfl,rfl,rfl,ho,hw,hle⟩
 have hm:=hv.many
 by_cases hlt:k<s.sights.length
 rotate_left
 ·have he:k=s.sights.length:=by omega
  subst he
  rw [yG] at ho hle
  have k1:¬ ((s.sights.length:Int)<s.sights.length):=by omega
  unfold l10_1
  rw [hD1,hD2,hD3]
  simp only [go_sem,zAa,k1,decide_false,zB,zD,zC,reduceIte,reduceCtorEq,zA]
  exact hQ w X W nt tk ho hw hle
 have k1:(k:Int)<s.sights.length:=by omega
 have k2:0≤(k:Int)∧(k:Int)<s.sights.length:=by omega
 have k3:k * 4+4≤(sgts s.sights).length:=by rw [zAy];omega
 have k4:IntKind.i64.wrap ((k:Int)+1)=(k+1:Nat):=wrap64 (by omega)
 have k5:=zCa s.sights k hlt
 have hok:=hv.sights _ (zW hlt)
 have hft:=hfit _ (zW hlt)
 have tk1:s.sights.take (k+1)=s.sights.take k ++ [s.sights[k]]:=qJ hlt
 have hlen:((s.sights.take k).map (wideY p q)).length=k:=by rw [List.length_map,List.length_take];omega
 generalize s.sights[k]=y at *
 have hst:s.stations=(Lv.num s:Int):=by have:=hv.st;show _=((s.stations.toNat:Nat):Int);omega
 have hhl:=hh.len
 have o1:=hok.frm
 have o2:=hok.to
 have o3:=hok.rise
 have o4:=hok.off
 obtain ⟨frm,to,r,o⟩:=y
 simp only at o1 o2 o3 o4 hft
 obtain ⟨a,rfl⟩:∃ a:Nat,frm=a:=⟨frm.toNat,by omega⟩
 obtain ⟨b,rfl⟩:∃ b:Nat,to=b:=⟨to.toNat,by omega⟩
 simp only [qO] at hft
 have hrq:-8000≤r * q∧r * q≤8000:=rise_by o3 hq
 have hrb:-1000000≤r * by'∧r * by'≤1000000:=by
  have e1:r * by'≤1000 * by':=qE o3.2 (by omega)
  have e2:-1000 * by'≤r * by':=qE o3.1 (by omega)
  omega
 have i1:=hh.at a
 have i2:=hh.at b
 have h18:=even_d18 s hs L by' p q w k W X nt tk a b r o (by omega) (by omega) (hLb a) (hLb b) hrq (.bool true)
 have h21:=even_d21 s hs L by' p q w k W X nt tk a b r o (by omega) (by omega) i1 i2 hrb (.bool false)
 have h23:=fun w'=>even_d23 s hs L by' p q w' k W X nt tk a b r o hp hq
 have hoff:offN hs by' ⟨a,b,r,o⟩=hs.getD b 0 - hs.getD a 0 - r * by':=rfl
 have hwy:wideY p q ⟨a,b,r,o⟩=⟨a,b,r,mxI o ((p+q - 1).tdiv q)⟩:=rfl
 have uP:unA .neg (.int .i64 p)=some (.int .i64 (-p)):=by show some (AV.int .i64 (IntKind.i64.wrap (0 - p)))=_;rw [wrap64 (by omega)];simp
 generalize L.getD b 0 - L.getD a 0 - r * q=f at *
 generalize hn:hs.getD b 0 - hs.getD a 0 - r * by'=n at *
 have uN:unA .neg (.int .i64 n)=some (.int .i64 (-n)):=by show some (AV.int .i64 (IntKind.i64.wrap (0 - n)))=_;rw [wrap64 (by omega)];simp
 have v1:¬ (f < -p):=by omega
 have v2:¬ (f > p):=by omega
 have m1:=mxI_le n (-n)
 have m2:=mxI_le w (mxI n (-n))
 have c1:∀ a b c q,cellsAt (a :: b :: c :: (X ++ [some (.cells q)])) (X.length+1+1+1)=some q:=fun a b c q=>zAf (a :: b :: c :: X) q
 have c2:∀ a b c y B,setH (a :: b :: c :: (X ++ [y])) (X.length+1+1+1) B=a :: b :: c :: (X ++ [some B]):=fun a b c y B=>zAs (a :: b :: c :: X) y B
 have c3:∀ a b c q,cellsAt (a :: b :: c :: (X ++ [some (.cells q)])) 2=(match c with | some (.cells l)=>some l | _=>none):=fun _ _ c _=>by cases c with | none=>rfl | some B=>cases B <;> rfl
 have qW:=ho.cells
 unfold l10_1
 rw [hD1,hD2,hD3]
 simp only [go_sem,zAa,k1,decide_true,k2,k3,k5,zAg,and_self,c1,c2,zAc,hc2,oI,oS,zL,zO,zK,splice,zI,zH,and_self,zX,qG,zB,zD,zC,reduceIte,reduceCtorEq,zA]
 subst hD1
 refine h18 _ ?_
 simp only [go_sem,uP,v1,v2,decide_false,zB,zD,zC,reduceIte,reduceCtorEq,zA]
 subst hD2
 refine h21 _ ?_
 simp only [go_sem,uN,mx_ok,zB,zD,zC,reduceIte,reduceCtorEq,zA]
 subst hD3
 refine h23 _ _ ?_
 generalize (mxI o ((p+q - 1).tdiv q))=o' at *
 generalize mxI w (mxI n (-n))=w' at *
 obtain ⟨q1,q2⟩:=qW
 simp only [go_sem,c1,zAa,zB,zD,zC,reduceIte,reduceCtorEq,zA]
 refine zDo (lx:=sgtC ⟨a,b,r,o'⟩) zDp ho (by rw [zAy];omega) rfl (by decide) rfl (by omega) fun W' tk' g => ?_
 obtain ⟨q3,q4⟩:=g.own.cells
 simp only [go_sem,q3,q4,zAc,zL,zO,zK,splice,zI,zH,and_self,k4,zB,zD,zC,reduceIte,reduceCtorEq,zA]
 refine zAi (s.sights.length - (k+1)) (by omega) ⟨k+1,w',_,W',nt+1,tk',hlt,rfl,rfl,rfl, ?_,by omega, ?_⟩
 ·have:=g.own
  rw [zEv] at this
  rw [tk1,qS,yO,List.map_nil,hwy,qC,List.length_singleton]
  exact this
 ·intro y hy
  rw [tk1,List.mem_append,yP] at hy
  rcases hy with hy | rfl
  ·have:=hle y hy;omega
  ·rw [hoff];omega
theorem even_low {s:Survey} (h:Sw s) {j:Nat} (hj:j<Lv.num s):lowAt (evenV s) (Lv.num s) j=evenH (evenV s) j ∧ -128000≤evenH (evenV s) j∧evenH (evenV s) j≤128000:=by
 have hr:=Lv.err_ok h
 obtain ⟨hd,h0,h8⟩:=Lv.err_bd h hr
 have hc:=Lv.clo_clos h.num8 (Lv.even_oks h hd ⟨h0,h8⟩) (evenV_eq h)
 have hn8:=h.num8
 have hdg:=hc.diag j hj
 have hb:=Lv.bas_le (evenV s) j
 have hf:=Lv.bas_far hdg
 have hbn:bas (evenV s) j<Lv.num s:=by omega
 have hf2:=hc.sym (Lv.even_both s _ _) hbn hj hf
 have hm:∀ c∈evenB s (errF s).2 (errF s).1,c.m≤16000:=fun c hc=>by
  obtain ⟨x,hx,hc⟩:=Lv.mem_evenB.1 hc
  have hx2:=rise_by (h.sights x hx).rise hd
  rcases hc with rfl | rfl
  ·show x.rise * (errF s).2+(errF s).1≤16000;omega
  ·show (errF s).1 - x.rise * (errF s).2≤16000;omega
 have t1:=hc.top (M:=16000) (by omega) hm hbn hj hf
 have t2:=hc.top (M:=16000) (by omega) hm hj hbn hf2
 have n1:=hc.neg hbn hj hf hf2
 have n2:=hc.neg hj hbn hf2 hf
 unfold lowAt Lv.evenH
 rw [base_bas hj hdg]
 have e:IntKind.i64.wrap (0 - ent (evenV s) j (bas (evenV s) j)) = -ent (evenV s) j (bas (evenV s) j):=by rw [wrap64 (by omega)];omega
 rw [e]
 exact ⟨rfl,by omega,by omega⟩
theorem evenL_get {s:Survey} (j:Nat) (hj:j<Lv.num s):(evenL s).getD j 0=lowAt (evenV s) (Lv.num s) j:=by
 unfold evenL
 rw [zG,qI,qP hj]
 rfl
theorem evenL_bd {s:Survey} (h:Sw s) (j:Nat):-800000≤(evenL s).getD j 0∧(evenL s).getD j 0≤800000:=by
 by_cases hj:j<Lv.num s
 ·rw [evenL_get j hj]
  obtain ⟨e,b1,b2⟩:=even_low h hj
  omega
 ·have:(evenL s).getD j 0=0:=by
   rw [zG,zM (by rw [show (evenL s).length=Lv.num s by unfold evenL;simp];omega)];rfl
  omega
theorem evenL_fit {s:Survey} (h:Sw s):∀ y∈s.sights,-(errF s).1≤(evenL s).getD y.to.toNat 0 - (evenL s).getD y.frm.toNat 0 - y.rise * (errF s).2∧(evenL s).getD y.to.toNat 0 - (evenL s).getD y.frm.toNat 0 - y.rise * (errF s).2≤(errF s).1:=fun y hy=>by
 have hok:=h.sights y hy
 have o1:=hok.frm
 have o2:=hok.to
 have h1:y.frm.toNat<Lv.num s:=by show y.frm.toNat<s.stations.toNat;omega
 have h2:y.to.toNat<Lv.num s:=by show y.to.toNat<s.stations.toNat;omega
 rw [evenL_get _ h1,evenL_get _ h2,(even_low h h1).1,(even_low h h2).1]
 exact Lv.even_fit h (Lv.err_ok h) (evenV_eq h) y hy
theorem wide_off {p q o:Int} (hp:0≤p) (hq:1≤q):p≤mxI o ((p+q - 1).tdiv q) * q:=by
 have hd:(p+q - 1).tdiv q=(p+q - 1) / q:=qX (by omega)
 rw [hd]
 have h1:=Int.lt_ediv_add_one_mul_self (p+q - 1) (b:=q) (by omega)
 rw [Int.add_mul,Int.one_mul] at h1
 have h2:=(mxI_le o ((p+q - 1) / q)).2.1
 have h3:(p+q - 1) / q * q≤mxI o ((p+q - 1) / q) * q:=qE h2 (by omega)
 omega
theorem even_t25 (s:Survey) (hv:Sv s) (hs L:List Int) (by' p q w:Int) (hby:1≤by'∧by'≤1000) (hp:0≤p∧p≤8000) (hq:1≤q∧q≤8) (hw:0≤w∧w≤1100000) (W:AV) (X:List (Option Blk)) (nt:Nat) (tk:List Nat)
  (ho:Own (sgts (s.sights.map (wideY p q))) (s.sights.map (wideY p q)).length W nt tk) (hlaw:p * by'≤w * q) (hposs:∀ h:Sw ⟨s.stations,s.sights.map (wideY p q)⟩,possS ⟨s.stations,s.sights.map (wideY p q)⟩=true) (Q:AQ) (hQ:∀ X nt tk,Q .ret [(6,.bool true)] ⟨X,nt,tk⟩) :
  WC (E 209) (.seq (.seq (.region [12,191] r10_25) (.cond (.tmp 191) (.seq (.region [6] r10_26) .ret) .skip)) (.seq (.seq (.region [12,194] r10_27) (.cond (.tmp 194) (.seq (.region [6] r10_28) .ret) .skip)) (.seq (.region [17,18] r10_29) (.seq (.region [6] r10_30) .ret)))) Q [(1,sl hs),(2,.int .i64 by'),(3,.ref 0 0),(7,.ref 1 0),(8,sl L),(11,.int .i64 w),(12,.ref 2 0),(13,.int .i64 (s.sights.length:Nat)),(106,.bool false)] ⟨some (.cells (surC s)) :: some (.cells [.int .i64 p,.int .i64 q]) :: some (.cells [.int .i64 s.stations,W]) :: X,nt,tk⟩:=by
 have hc2:∀ a b:AV,AV.cells (.agg [a,b])=[a,b]:=fun _ _=>rfl
 have oI:∀ n:Int,AV.one (.int .i64 n)=true:=fun _=>rfl
 have oS:∀ (l:List AV) (n:Nat) (u:Tail),AV.one (.slice l n u)=true:=fun _ _ _=>rfl
 have z0:decide ((0:Int)=0)=true:=rfl
 have hm:=hv.many
 have m1:=Lv.mul_small (a:=w) (b:=q) (A:=1100000) (B:=8) (by omega) (by omega)
 have m2:=Lv.mul_small (a:=p) (b:=by') (A:=8000) (B:=1000) (by omega) (by omega)
 have w1:IntKind.i64.wrap (w * q)=w * q:=wrap64 (by omega)
 have w2:IntKind.i64.wrap (p * by')=p * by':=wrap64 (by omega)
 have c:¬ (w * q<p * by'):=by omega
 have hS:=rSurvey_pc ⟨s.stations,s.sights.map (wideY p q)⟩ (by show (s.sights.map (wideY p q)).length<9223372036854775808 - 1;rw [List.length_map];omega)
 have hP:=Possible_pc ⟨s.stations,s.sights.map (wideY p q)⟩ (by show (s.sights.map (wideY p q)).length<9223372036854775808 - 1;rw [List.length_map];omega)
 have hsub:=sur_sub s.stations (s.sights.map (wideY p q)) ho
 obtain ⟨q1,q2⟩:=ho.cells
 simp only [go_sem,w1,w2,c,decide_false,zB,zD,zC,reduceIte,reduceCtorEq,zA]
 refine cp n33 hS (SubL.cons hsub (SubL.refl [])) ?_
 cases hsv:zAp ⟨s.stations,s.sights.map (wideY p q)⟩
 ·simp only [go_sem,zAj,qF,zB,zD,zC,reduceIte,reduceCtorEq,zA]
  refine cp n24 zCp (SubL.refl _) ?_
  simp only [go_sem,zB,zD,zC,reduceIte,reduceCtorEq,zA]
  exact hQ _ _ _
 ·have eP:possA ⟨s.stations,s.sights.map (wideY p q)⟩=.tuple [.bool true,.int .i64 0]:=by unfold possA;rw [if_pos hsv,hposs (zCl.1 hsv).toSw]
  rw [eP] at hP
  simp only [go_sem,zAj,qB,zB,zD,zC,reduceIte,reduceCtorEq,zA]
  refine cp n57 hP (SubL.cons hsub (SubL.refl [])) ?_
  simp only [go_sem,zAd,z0,decide_true,zB,zD,zC,reduceIte,reduceCtorEq,zA]
  refine cp n24 zCp (SubL.refl _) ?_
  simp only [go_sem,zB,zD,zC,reduceIte,reduceCtorEq,zA]
  exact hQ _ _ _
theorem even_t3 (s:Survey) (hl:okL s.sights.length) (hv:Sv s) (hs:List Int) (hh:HsOk s.stations hs) (by':Int) (hby:1≤by'∧by'≤1000) (Q:AQ) (hQ:∀ X nt tk,Q .ret [(6,.bool true)] ⟨X,nt,tk⟩) :
  WC (E 209) (.seq (.region [1,2,3,7,8,9] r10_3) (.seq (.seq (.region [1,2,3,7,8,81] r10_4) (.cond (.tmp 81) (.seq (.region [6] r10_5) .ret) .skip)) (.seq (.seq (.region [1,2,3,7,8,10] r10_6) (.block 0 (.loop l10_0))) (.seq (.region [1,2,3,7,8,11] r10_11) (.seq (.region [1,2,3,7,8,11,12] r10_12) (.seq (.region [1,2,3,7,8,11,12] r10_13) (.seq (.seq (.region [1,2,3,7,8,11,12,13] r10_14) (.block 2 (.loop l10_1))) (.seq (.seq (.region [12,191] r10_25) (.cond (.tmp 191) (.seq (.region [6] r10_26) .ret) .skip)) (.seq (.seq (.region [12,194] r10_27) (.cond (.tmp 194) (.seq (.region [6] r10_28) .ret) .skip)) (.seq (.region [17,18] r10_29) (.seq (.region [6] r10_30) .ret))))))))))) Q [(1,sl hs),(2,.int .i64 by'),(3,.ref 0 0),(45,.bool false)] ⟨[some (.cells (surC s))],0,[]⟩:=by
 have hc2:∀ a b:AV,AV.cells (.agg [a,b])=[a,b]:=fun _ _=>rfl
 have oI:∀ n:Int,AV.one (.int .i64 n)=true:=fun _=>rfl
 have oS:∀ (l:List AV) (n:Nat) (u:Tail),AV.one (.slice l n u)=true:=fun _ _ _=>rfl
 obtain ⟨TT,hT⟩:∃ TT,MC.seq (.seq (.region [12,191] r10_25) (.cond (.tmp 191) (.seq (.region [6] r10_26) .ret) .skip)) (.seq (.seq (.region [12,194] r10_27) (.cond (.tmp 194) (.seq (.region [6] r10_28) .ret) .skip)) (.seq (.region [17,18] r10_29) (.seq (.region [6] r10_30) .ret)))=TT:=⟨_,rfl⟩
 rw [hT]
 have y0:¬ ((0:Int)≠0):=by decide
 have hst:s.stations=(Lv.num s:Int):=by have:=hv.st;show _=((s.stations.toNat:Nat):Int);omega
 have hLe:=Least_pc s hl
 have eA:leastA s=.tuple [frA (errF s),sl (evenL s),.int .i64 0]:=by unfold leastA;rw [if_pos (zCl.2 hv)]
 rw [eA] at hLe
 have hr:=Lv.err_ok hv.toSw
 obtain ⟨hd,h0⟩:=Lv.err_bd hv.toSw hr
 have hLl:(evenL s).length=Lv.num s:=by unfold evenL;simp
 have hn8:=hv.toSw.num8
 have hLb:=evenL_bd hv.toSw
 have hfit:=evenL_fit hv.toSw
 have hoff:=fun (w:Int) (hw:0≤w) hx=>Lv.off_least (hs:=fun i=>hs.getD i 0) (b:=by') (w:=w) hr.err (by omega) hw hx
 have hposs:∀ h:Sw ⟨s.stations,s.sights.map (wideY (errF s).1 (errF s).2)⟩,possS ⟨s.stations,s.sights.map (wideY (errF s).1 (errF s).2)⟩=true:=fun h =>
  Lv.wide_poss hv.toSw h hr.err rfl (by show (s.sights.map _).length=_;simp) (fun i hi hi'=>by
   have e:(s.sights.map (wideY (errF s).1 (errF s).2))[i]'hi'=wideY (errF s).1 (errF s).2 s.sights[i]:=by simp
   have e2:(Survey.mk s.stations (s.sights.map (wideY (errF s).1 (errF s).2))).sights[i]'hi'=wideY (errF s).1 (errF s).2 s.sights[i]:=e
   rw [e2]
   exact ⟨rfl,rfl,rfl,wide_off h0.1 hd.1⟩)
 have hbL:∀ x∈evenL s,-800000≤x∧x≤800000:=fun x hx=>by
  obtain ⟨i,hi,rfl⟩:=List.mem_iff_getElem.1 hx
  have:=hLb i
  rw [zG,zF hi] at this
  exact this
 have e1:frA (errF s)=.agg [.int .i64 (errF s).1,.int .i64 (errF s).2]:=rfl
 rw [e1] at hLe
 generalize (errF s).1=p at *
 generalize (errF s).2=q at *
 generalize evenL s=L at *
 have a1:¬ (p<0):=by omega
 have a2:¬ (p > 100000):=by omega
 have a3:¬ (q<1):=by omega
 have a4:¬ (q > 8):=by omega
 have a5:¬ ((L.length:Int)≠s.stations):=fun h=>h (by omega)
 simp only [go_sem,zB,zD,zC,reduceIte,reduceCtorEq,zA]
 refine cp n32 hLe (SubL.refl _) ?_
 simp only [go_sem,zAd,zAc,hc2,oI,oS,zL,zO,zK,splice,zI,zH,and_self,zX,qG,y0,a1,a2,a3,a4,zAa,a5,decide_false,zB,zD,zC,reduceIte,reduceCtorEq,zA]
 refine even_loop0 s hs L by' p q (by omega) hbL _ ?_
 simp only [go_sem,zAc,hc2,oI,oS,zL,zO,zK,splice,zI,zH,and_self,zX,qG,zB,zD,zC,reduceIte,reduceCtorEq,zA]
 refine even_loop1 s hv hs L by' p q hby h0 hd hh hLl hLb hfit _ ?_
 intro w X W nt tk ho hw hle
 simp only [go_sem,zB,zD,zC,reduceIte,reduceCtorEq,zA]
 subst hT
 exact even_t25 s hv hs L by' p q w hby h0 hd hw W X nt tk ho (hoff w hw.1 hle) hposs Q hQ
theorem leven_pc (s:Survey) (hl:okL s.sights.length) (hs:List Int) (hhl:okL hs.length) (by':Int):PC Tryz.prog 10 [surA s,sl hs,.int .i64 by'] (.pure (.bool true)):=by
 refine PC.of_empty (AC.run (E_ok _) mix Tryz.func10 m10 rfl rfl rfl (zE rfl) ?_) (by simp [bndL,AV.bnd]) rfl
 obtain ⟨TL,hTL⟩:∃ TL,MC.seq (.region [1,2,3,7,8,9] r10_3) (.seq (.seq (.region [1,2,3,7,8,81] r10_4) (.cond (.tmp 81) (.seq (.region [6] r10_5) .ret) .skip)) (.seq (.seq (.region [1,2,3,7,8,10] r10_6) (.block 0 (.loop l10_0))) (.seq (.region [1,2,3,7,8,11] r10_11) (.seq (.region [1,2,3,7,8,11,12] r10_12) (.seq (.region [1,2,3,7,8,11,12] r10_13) (.seq (.seq (.region [1,2,3,7,8,11,12,13] r10_14) (.block 2 (.loop l10_1))) (.seq (.seq (.region [12,191] r10_25) (.cond (.tmp 191) (.seq (.region [6] r10_26) .ret) .skip)) (.seq (.seq (.region [12,194] r10_27) (.cond (.tmp 194) (.seq (.region [6] r10_28) .ret) .skip)) (.seq (.region [17,18] r10_29) (.seq (.region [6] r10_30) .ret))))))))))=TL:=⟨_,rfl⟩
 unfold c10
 rw [hTL]
 simp only [go_sem,boxA,zB,zD,zC,reduceIte,reduceCtorEq,zA]
 refine cp n23 (short_pc s) (SubL.refl _) ?_
 by_cases hsh:s.sights.length≤17
 rotate_left
 ·rw [decide_eq_false hsh]
  simp only [go_sem,zAj,qF,zB,zD,zC,reduceIte,reduceCtorEq,zA]
  refine cp n24 zCp (SubL.refl _) ?_
  simp only [go_sem,Tryz.f10,zB,zD,zC,reduceIte,reduceCtorEq,zA]
 rw [decide_eq_true hsh]
 by_cases hg12:(hs.length:Int) > 12
 ·simp only [go_sem,zAj,qB,zAa,hg12,decide_true,decide_false,zB,zD,zC,reduceIte,reduceCtorEq,zA]
  refine cp n24 zCp (SubL.refl _) ?_
  simp only [go_sem,Tryz.f10,zB,zD,zC,reduceIte,reduceCtorEq,zA]
 simp only [go_sem,zAj,qB,zAa,hg12,decide_false,zB,zD,zC,reduceIte,reduceCtorEq,zA]
 refine cp n33 (rSurvey_pc s hl) (SubL.refl _) ?_
 cases hv:zAp s
 ·simp only [go_sem,zAj,qF,zB,zD,zC,reduceIte,reduceCtorEq,zA]
  refine cp n24 zCp (SubL.refl _) ?_
  simp only [go_sem,Tryz.f10,zB,zD,zC,reduceIte,reduceCtorEq,zA]
 simp only [go_sem,zAj,qB,zB,zD,zC,reduceIte,reduceCtorEq,zA]
 refine cp n56 (rList_pc s hs hhl) (SubL.refl _) ?_
 cases hh:listOk s hs
 ·simp only [go_sem,zAj,qF,zB,zD,zC,reduceIte,reduceCtorEq,zA]
  refine cp n24 zCp (SubL.refl _) ?_
  simp only [go_sem,Tryz.f10,zB,zD,zC,reduceIte,reduceCtorEq,zA]
 by_cases a1:by'<1
 ·simp only [go_sem,zAj,qB,a1,decide_true,zB,zD,zC,reduceIte,reduceCtorEq,zA]
  refine cp n24 zCp (SubL.refl _) ?_
  simp only [go_sem,Tryz.f10,zB,zD,zC,reduceIte,reduceCtorEq,zA]
 by_cases a2:by' > 1000
 ·simp only [go_sem,zAj,qB,a1,a2,decide_true,decide_false,zB,zD,zC,reduceIte,reduceCtorEq,zA]
  refine cp n24 zCp (SubL.refl _) ?_
  simp only [go_sem,Tryz.f10,zB,zD,zC,reduceIte,reduceCtorEq,zA]
 simp only [go_sem,zAj,qB,a1,a2,decide_false,zB,zD,zC,reduceIte,reduceCtorEq,zA]
 subst hTL
 refine even_t3 s hl (zCl.1 hv) hs (list_iff.1 hh) by' (by omega) _ ?_
 intro X nt tk
 simp only [go_sem,Tryz.f10,zB,zD,zC,reduceIte,reduceCtorEq,zA]
end Go.Av.Lx
end
