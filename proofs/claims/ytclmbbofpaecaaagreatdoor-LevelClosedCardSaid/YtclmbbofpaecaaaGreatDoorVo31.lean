/- Part 31 of the proof. -/
import Derived.Test.YtclmbbofpaecaaaGreatDoorVo28
import Derived.Test.YtclmbbofpaecaaaGreatDoorVo29
import Derived.Test.YtclmbbofpaecaaaGreatDoorVo30
import Derived.Test.YtclmbbofpaecaaaGreatDoorVo22
import Derived.Test.YtclmbbofpaecaaaGreatDoorVo23
import Derived.Test.YtclmbbofpaecaaaGreatDoorVo20
import Derived.Test.YtclmbbofpaecaaaGreatDoorVo21
import Derived.Test.YtclmbbofpaecaaaGreatDoorVo25
import Derived.Test.YtclmbbofpaecaaaGreatDoorRows
import Derived.ProofKit
import Derived.LaidMore
import Derived.OpenShut
import Derived.Deep.Slices
import Derived.Stop.Joined
import Derived.ChangeOld
import Derived.SizedLaws
set_option linter.all false
set_option linter.unusedVariables false
set_option linter.unusedSimpArgs false
set_option linter.unusedSectionVars false
open Array renaming getElem?_eq_getElem → qA
open Bool renaming and_self → zK, and_eq_true → zS, not_true → zV, not_false → qB, not_eq_true' → qV
open List renaming getElem?_eq_getElem → zF, getD_eq_getElem?_getD → zG, set_cons_succ → zH, set_cons_zero → zI, all_cons → zL, getElem?_eq_none → zM, mem_cons_self → zO, all_nil → zP, getElem?_append_right → zY, length_cons → qC, getElem?_append_left → qJ, length_nil → qK, flatMap_cons → qZ, length_take → yM
open Nat renaming reduceLeDiff → zA, reduceEqDiff → zB, reduceAdd → zC, reduceBEq → zD, le_of_ble_eq_true → zE, le_refl → zN, lt_or_ge → zU
section
set_option maxRecDepth 100000
set_option maxHeartbeats 16000000
namespace Go.Av.Lx
open Go Go.Av Go.Av.Tb Go.Av.Fx Go.Proofs
open Go.Lv (Sight Survey Sw Sv SightOk Leg Tun Try Stp withS)
theorem ex_Ring:RingA surT=.tuple [stpsA [⟨0,false⟩,⟨1,false⟩,⟨2,false⟩,⟨3,true⟩],.int .i64 0]:=by
 unfold RingA
 rw [ex_ok,if_pos rfl,ex_poss,if_neg (by decide),ex_ring]
theorem ex_read:readA exB=.tuple [surA surX,.int .i64 0]:=by
 unfold readA
 rw [if_pos (by decide),ex_parsed]
 simp only [ex_xok,if_true]
theorem zCd:PC Tryz.prog 24 [] (.pure (.bool true)):=by
 refine PC.of_empty (AC.run (E_ok 223) mix Tryz.func24 m24 rfl rfl rfl (zE rfl) ?_) rfl rfl
 have oS:okL surS.sights.length:=by decide
 have oT:okL surT.sights.length:=by decide
 have oU:okL surU.sights.length:=by decide
 have q1:=Bounds_pc surS oS 0 2
 rw [ex_bounds] at q1
 have q2:=Heights_pc surS oS
 rw [ex_heights] at q2
 have q3:=Ring_pc surT oT
 rw [ex_Ring] at q3
 have q4:=Least_pc surT oT
 rw [ex_least] at q4
 have q5:=Falls_pc surS oS ⟨1,2,2⟩ 2 3
 rw [ex_falls] at q5
 have q6:=Carries_pc surS oS [⟨1,2,2⟩,⟨2,1,1⟩] (by decide) 0 3
 rw [ex_carries] at q6
 have q7:=Meets_pc surS oS ⟨3,0,5,3,1⟩
 rw [ex_meets] at q7
 have q8:=Drives_pc surS oS ⟨3,0,5,3,1⟩
 rw [ex_drives] at q8
 have q9:=Takes_pc surS oS 0 2 [⟨0,2,2⟩,⟨1,2,0⟩] (by decide)
 rw [ex_takes] at q9
 have q10:=Drops_pc surU oU
 rw [ex_drops] at q10
 have q11:=Blames_pc surU oU
 rw [ex_blames] at q11
 have q12:=Read_pc exB (by decide)
 rw [ex_read] at q12
 have q13:=rPrint_pc surX (small_plain (parsed_small ex_parsed) (by decide))
 rw [ex_text] at q13
 have b1:buildA T 61 [(0,.int .i64 1),(1,.int .i64 2),(2,.int .i64 2)]=some (.agg (legC ⟨1,2,2⟩)):=rfl
 have b2:buildA T 61 [(0,.int .i64 2),(1,.int .i64 1),(2,.int .i64 1)]=some (.agg (legC ⟨2,1,1⟩)):=rfl
 have b3:zAe T 54 2 [(0,.agg (legC ⟨1,2,2⟩)),(1,.agg (legC ⟨2,1,1⟩))]=some (.slice (legsC [⟨1,2,2⟩,⟨2,1,1⟩]) [(⟨1,2,2⟩:Leg),⟨2,1,1⟩].length .exact):=rfl
 have b4:buildA T 68 [(0,.int .i64 3),(1,.int .i64 0),(2,.int .i64 5),(3,.int .i64 3),(4,.int .i64 1)]=some (.agg (tunC ⟨3,0,5,3,1⟩)):=rfl
 have b5:buildA T 95 [(0,.int .i64 0),(1,.int .i64 2),(2,.int .i64 2)]=some (.agg (tryC ⟨0,2,2⟩)):=rfl
 have b6:buildA T 95 [(0,.int .i64 1),(1,.int .i64 2)]=some (.agg (tryC ⟨1,2,0⟩)):=rfl
 have b7:zAe T 76 2 [(0,.agg (tryC ⟨0,2,2⟩)),(1,.agg (tryC ⟨1,2,0⟩))]=some (.slice (triesC [⟨0,2,2⟩,⟨1,2,0⟩]) [(⟨0,2,2⟩:Try),⟨1,2,0⟩].length .exact):=rfl
 have b8:buildA T 28 [(0,.int .i64 5),(1,.int .i64 9)]=some (.agg [.int .i64 5,.int .i64 9]):=rfl
 have b9:buildA T 28 [(0,.int .i64 (-7)),(1,.int .i64 7)]=some (.agg [.int .i64 (-7),.int .i64 7]):=rfl
 have b10:buildA T 49 [(0,.int .i64 7),(1,.int .i64 4)]=some (.agg [.int .i64 7,.int .i64 4]):=rfl
 have b11:∀ n,buildA T 127 [(0,.int .i64 n)]=some (.agg (stpC ⟨n,false⟩)):=fun n=>rfl
 have b12:∀ n,buildA T 127 [(0,.int .i64 n),(1,.bool true)]=some (.agg (stpC ⟨n,true⟩)):=fun n=>rfl
 have b13:zAe T 117 4 [(0,.agg (stpC ⟨0,false⟩)),(1,.agg (stpC ⟨1,false⟩)),(2,.agg (stpC ⟨2,false⟩)),(3,.agg (stpC ⟨3,true⟩))]=some (.slice (stpsC [⟨0,false⟩,⟨1,false⟩,⟨2,false⟩,⟨3,true⟩]) [(⟨0,false⟩:Stp),⟨1,false⟩,⟨2,false⟩,⟨3,true⟩].length .exact):=rfl
 have b14:∀ a b c d:Int,zAe T 32 4 [(0,.int .i64 a),(1,.int .i64 b),(2,.int .i64 c),(3,.int .i64 d)]=some (.slice (ints [a,b,c,d]) [a,b,c,d].length .exact):=fun a b c d=>rfl
 have b15:zAe T 32 3 [(0,.int .i64 1),(1,.int .i64 2),(2,.int .i64 3)]=some (.slice (ints [1,2,3]) [(1:Int),2,3].length .exact):=rfl
 have b16:zAe T 32 1 [(0,.int .i64 1)]=some (.slice (ints [1]) [(1:Int)].length .exact):=rfl
 have n1:binA T .neq 28 (.agg [.int .i64 5,.int .i64 9]) (.agg [.int .i64 5,.int .i64 9])=some (.bool false):=rfl
 have n2:binA T .neq 28 (.agg [.int .i64 (-7),.int .i64 7]) (.agg [.int .i64 (-7),.int .i64 7])=some (.bool false):=rfl
 have n3:binA T .neq 49 (.agg [.int .i64 7,.int .i64 4]) (.agg [.int .i64 7,.int .i64 4])=some (.bool false):=rfl
 have z0:¬ ((0:Int)≠0):=by decide
 have z1:¬ ((1:Int)≠1):=by decide
 have z2:¬ ((2:Int)≠2):=by decide
 have z3:¬ ((3:Int)≠3):=by decide
 have z7:¬ ((7:Int)≠7):=by decide
 have y1:decide ((1:Int)=1)=true:=rfl
 have y2:decide ((2:Int)=2)=true:=rfl
 have z4:binA T .eql 9 (.str exB) (.str ⟨#[115,117,114,118,101,121,32,50,10,115,105,103,104,116,32,48,32,49,32,52,32,48,10,101,110,100,32,48,49,50,10]⟩)=some (.bool true):=(show binA T .eql 9 (.str exB) (.str exB)=some (.bool true) by rw [eqS,decide_eq_true rfl])
 simp only [go_sem,zB,zD,zC,reduceIte,reduceCtorEq,zA]
 refine cp n81 S_pc (SubL.refl _) ?_
 try simp only [go_sem,zB,zD,zC,reduceIte,reduceCtorEq,zA]
 refine cp n25 q1 (SubL.refl _) ?_
 simp only [go_sem,zAc,frA,zAd,AV.cells,AV.one,zL,zP,zK,splice,zI,zH,and_self,qC,qK,zB,zD,zC,reduceIte,reduceCtorEq,zA]
 refine cp n81 S_pc (SubL.refl _) ?_
 try simp only [go_sem,zB,zD,zC,reduceIte,reduceCtorEq,zA]
 refine cp n26 q2 (SubL.refl _) ?_
 simp only [go_sem,zAc,frA,zAd,AV.cells,AV.one,zL,zP,zK,splice,zI,zH,and_self,qC,qK,zB,zD,zC,reduceIte,reduceCtorEq,zA]
 refine cp n82 T_pc (SubL.refl _) ?_
 try simp only [go_sem,zB,zD,zC,reduceIte,reduceCtorEq,zA]
 refine cp n72 q3 (SubL.refl _) ?_
 simp only [go_sem,zAc,frA,zAd,AV.cells,AV.one,zL,zP,zK,splice,zI,zH,and_self,qC,qK,zB,zD,zC,reduceIte,reduceCtorEq,zA]
 refine cp n82 T_pc (SubL.refl _) ?_
 try simp only [go_sem,zB,zD,zC,reduceIte,reduceCtorEq,zA]
 refine cp n32 q4 (SubL.refl _) ?_
 simp only [go_sem,zAc,frA,zAd,AV.cells,AV.one,zL,zP,zK,splice,zI,zH,and_self,qC,qK,zB,zD,zC,reduceIte,reduceCtorEq,zA]
 refine cp n81 S_pc (SubL.refl _) ?_
 simp only [go_sem,b1,b2,b3,b4,b5,b6,b7,zB,zD,zC,reduceIte,reduceCtorEq,zA]
 refine cp n39 q5 (SubL.refl _) ?_
 simp only [go_sem,zAc,frA,zAd,AV.cells,AV.one,zL,zP,zK,splice,zI,zH,and_self,qC,qK,zB,zD,zC,reduceIte,reduceCtorEq,zA]
 refine cp n81 S_pc (SubL.refl _) ?_
 simp only [go_sem,b1,b2,b3,b4,b5,b6,b7,zB,zD,zC,reduceIte,reduceCtorEq,zA]
 refine cp n35 q6 (SubL.cons (Sub.refl _) (SubL.cons (Sub.unk _ _ _) (SubL.refl _))) ?_
 simp only [go_sem,zAc,frA,zAd,AV.cells,AV.one,zL,zP,zK,splice,zI,zH,and_self,qC,qK,zB,zD,zC,reduceIte,reduceCtorEq,zA]
 refine cp n81 S_pc (SubL.refl _) ?_
 simp only [go_sem,b1,b2,b3,b4,b5,b6,b7,zB,zD,zC,reduceIte,reduceCtorEq,zA]
 refine cp n42 q7 (SubL.refl _) ?_
 simp only [go_sem,zAc,frA,zAd,AV.cells,AV.one,zL,zP,zK,splice,zI,zH,and_self,qC,qK,zB,zD,zC,reduceIte,reduceCtorEq,zA]
 refine cp n81 S_pc (SubL.refl _) ?_
 simp only [go_sem,b1,b2,b3,b4,b5,b6,b7,zB,zD,zC,reduceIte,reduceCtorEq,zA]
 refine cp n43 q8 (SubL.refl _) ?_
 simp only [go_sem,zAc,frA,zAd,AV.cells,AV.one,zL,zP,zK,splice,zI,zH,and_self,qC,qK,zB,zD,zC,reduceIte,reduceCtorEq,zA]
 refine cp n81 S_pc (SubL.refl _) ?_
 simp only [go_sem,b1,b2,b3,b4,b5,b6,b7,zB,zD,zC,reduceIte,reduceCtorEq,zA]
 refine cp n47 q9 (SubL.cons (Sub.refl _) (SubL.cons (Sub.refl _) (SubL.cons (Sub.refl _) (SubL.cons (Sub.unk _ _ _) (SubL.refl _))))) ?_
 simp only [go_sem,zAc,frA,zAd,AV.cells,AV.one,zL,zP,zK,splice,zI,zH,and_self,qC,qK,zB,zD,zC,reduceIte,reduceCtorEq,zA]
 refine cp n83 U_pc (SubL.refl _) ?_
 try simp only [go_sem,zB,zD,zC,reduceIte,reduceCtorEq,zA]
 refine cp n50 q10 (SubL.refl _) ?_
 simp only [go_sem,zAc,frA,zAd,AV.cells,AV.one,zL,zP,zK,splice,zI,zH,and_self,qC,qK,zB,zD,zC,reduceIte,reduceCtorEq,zA]
 refine cp n83 U_pc (SubL.refl _) ?_
 try simp only [go_sem,zB,zD,zC,reduceIte,reduceCtorEq,zA]
 refine cp n51 q11 (SubL.refl _) ?_
 simp only [go_sem,zAc,zB,zD,zC,reduceIte,reduceCtorEq,zA]
 refine cp n60 q12 (SubL.refl _) ?_
 simp only [go_sem,zAc,z0,decide_false,zAd,AV.cells,AV.one,zL,zP,zK,splice,zI,zH,and_self,qC,qK,b8,n1,b14,zB,zD,zC,reduceIte,reduceCtorEq,zA]
 refine cp n29 (Same_pc [0,9,5,13] [0,9,5,13] (by decide) (by decide)) (SubL.cons (Sub.refl _) (SubL.cons (Sub.unk _ _ _) (SubL.refl _))) ?_
 rw [decide_eq_true rfl]
 simp only [go_sem,zAg,zV,b14,zB,zD,zC,reduceIte,reduceCtorEq,zA]
 refine cp n29 (Same_pc [0,11,9,17] [0,11,9,17] (by decide) (by decide)) (SubL.cons (Sub.refl _) (SubL.cons (Sub.unk _ _ _) (SubL.refl _))) ?_
 rw [decide_eq_true rfl]
 simp only [go_sem,zAg,zV,b11,b12,b13,zB,zD,zC,reduceIte,reduceCtorEq,zA]
 refine cp n76 (SameSteps_pc [⟨0,false⟩,⟨1,false⟩,⟨2,false⟩,⟨3,true⟩] [⟨0,false⟩,⟨1,false⟩,⟨2,false⟩,⟨3,true⟩] (by decide) (by decide)) (SubL.cons (Sub.refl _) (SubL.cons (Sub.unk _ _ _) (SubL.refl _))) ?_
 rw [decide_eq_true rfl]
 simp only [go_sem,zAg,zV,b10,n3,b14,zB,zD,zC,reduceIte,reduceCtorEq,zA]
 refine cp n29 (Same_pc [0,47,38,73] [0,47,38,73] (by decide) (by decide)) (SubL.cons (Sub.refl _) (SubL.cons (Sub.unk _ _ _) (SubL.refl _))) ?_
 rw [decide_eq_true rfl]
 simp only [go_sem,zAg,zV,z1,z2,z3,z7,decide_false,decide_true,b9,n2,b16,zB,zD,zC,reduceIte,reduceCtorEq,zA]
 refine cp n29 (Same_pc [1] [1] (by decide) (by decide)) (SubL.cons (Sub.refl _) (SubL.cons (Sub.unk _ _ _) (SubL.refl _))) ?_
 rw [decide_eq_true rfl]
 simp only [go_sem,b15,zB,zD,zC,reduceIte,reduceCtorEq,zA]
 refine cp n29 (Same_pc [1,2,3] [1,2,3] (by decide) (by decide)) (SubL.cons (Sub.refl _) (SubL.cons (Sub.unk _ _ _) (SubL.refl _))) ?_
 rw [decide_eq_true rfl]
 simp only [go_sem,zB,zD,zC,reduceIte,reduceCtorEq,zA]
 refine cp n61 q13 (SubL.refl _) ?_
 simp only [go_sem,z4,Tryz.f24,zB,zD,zC,reduceIte,reduceCtorEq,zA]
end Go.Av.Lx
end
section
set_option maxHeartbeats 8000000
namespace Go.Av.Lx
open Go Go.Av Go.Av.Tb Go.Av.Fx Go.Proofs
open Go.Lv (Sight Survey Sw Sv SightOk errF)

end Go.Av.Lx
end
section
set_option maxHeartbeats 8000000
namespace Go.Av.Lx
open Go Go.Av Go.Av.Tb Go.Av.Fx Go.Proofs
open Go.Lv (Sight Survey Sw Sv SightOk possS)

end Go.Av.Lx
end
section
set_option maxHeartbeats 8000000
namespace Go.Av.Lx
open Go Go.Av Go.Av.Tb Go.Av.Fx Go.Proofs
open Go.Lv (Sight Survey Sw Sv SightOk possS shortR ringB Stp)

end Go.Av.Lx
end
section
set_option maxHeartbeats 8000000
namespace Go.Av.Lx
open Go Go.Av Go.Av.Tb Go.Av.Fx Go.Proofs
open Go.Lv (Sight Survey Sw Sv SightOk possS)
open Go.Fw (Sq ent Bd Mat)

end Go.Av.Lx
end
section
set_option maxHeartbeats 8000000
namespace Go.Av.Lx
open Go Go.Av Go.Av.Tb Go.Av.Fx Go.Proofs
open Go.Lv (Sight Survey Sw Sv SightOk Leg LegOk RangeOk Tun TunOk Try TryOk Stp fallW meetL meetH bestAt driveF wideI)
open Go.Fw (Sq ent Bd Mat)

end Go.Av.Lx
end
section
set_option maxHeartbeats 8000000
namespace Go.Av.Lx
open Go Go.Av Go.Av.Tb Go.Av.Fx Go.Proofs
open Go.Lv (Sight Survey Sw Sv SightOk Leg LegOk RangeOk Tun TunOk Try TryOk Stp fallW carryW)
open Go.Fw (Sq ent Bd Mat)

end Go.Av.Lx
end
section
set_option maxHeartbeats 8000000
namespace Go.Av.Lx
open Go Go.Av Go.Av.Tb Go.Av.Fx Go.Proofs
open Go.Lv (Sight Survey Sw Sv SightOk Stp RingP ringB possS shortR Bf befS)
open Go.Fw (Sq ent Bd Mat)
theorem ok_steps {s:Survey} {l:List Stp}:zCc s l=true↔l.length≤8∧Lv.StepsIn s l:=by
 unfold zCc
 rw [zS,decide_eq_true_iff,qV,List.any_eq_false]
 have e:(∀ x∈l,¬ badStp s x=true)↔Lv.StepsIn s l:=by
  exact ⟨fun h x hx=>badStp_iff.1 (by have:=h x hx;simpa using this),fun h x hx=>by rw [badStp_iff.2 (h x hx)];decide⟩
 rw [e]
theorem closed_t11 (s:Survey) (hl:okL s.sights.length) (hv:Sv s) (l r:List Stp) (hl8:l.length≤8) (hr:Lv.StepsIn s r) (hr8:r.length≤8) (hrr:ringB s r=true) (is:Bool)
  (h1:is=true→r.length≤l.length) (h2:is=true→l.length=r.length→befS l r=false) (v:AV) (Q:AQ) (hQ:∀ X,Q .ret [(6,.bool true)] ⟨X,0,[]⟩) :
  WC (E 154) (.seq (.seq (.region [1,3,9,13,115] r22_11) (.cond (.tmp 115) (.seq (.region [6] r22_12) .ret) .skip)) (.seq (.region [1,9,13,15,16] r22_13) (.seq (.region [6] r22_14) .ret))) Q [(1,stpsA l),(3,.ref 0 0),(9,.bool is),(13,stpsA r),(14,.int .i64 0),(102,v)] ⟨[some (.cells (surC s))],0,[]⟩:=by
 have y0:¬ ((0:Int)≠0):=by decide
 have z0:decide ((0:Int)=0)=true:=rfl
 have hlr:okL r.length:=by unfold okL;omega
 have hll:okL l.length:=by unfold okL;omega
 have hS:=Steps_pc s hl r hlr
 rw [ok_steps.2 ⟨hr8,hr⟩] at hS
 have hI:=IsRing_pc s hl r hlr
 have eI:isRingA s r=.tuple [.bool true,.int .i64 0]:=by
  have:=ok_steps.2 ⟨hr8,hr⟩
  unfold zCc at this
  unfold isRingA
  rw [zBo.2 hv,this,hrr];rfl
 rw [eI] at hI
 simp only [go_sem,zB,zD,zC,reduceIte,reduceCtorEq,zA]
 refine cp n73 hS (SubL.refl _) ?_
 simp only [go_sem,zAg,zV,zB,zD,zC,reduceIte,reduceCtorEq,zA]
 refine cp n71 hI (SubL.refl _) ?_
 cases is
 ·simp only [go_sem,zAc,z0,zAg,qB,decide_true,zB,zD,zC,reduceIte,reduceCtorEq,zA]
  refine cp n24 zCd (SubL.refl _) ?_
  simp only [go_sem,zB,zD,zC,reduceIte,reduceCtorEq,zA]
  exact hQ _
 have h1':=h1 rfl
 have h2':=h2 rfl
 by_cases hgt:(l.length:Int) > r.length
 ·simp only [go_sem,zAc,z0,zAg,zV,zAa,hgt,decide_true,zB,zD,zC,reduceIte,reduceCtorEq,zA]
  refine cp n24 zCd (SubL.refl _) ?_
  simp only [go_sem,zB,zD,zC,reduceIte,reduceCtorEq,zA]
  exact hQ _
 ·have he:l.length=r.length:=by omega
  have he':(l.length:Int)=r.length:=by omega
  have hb:=before_pc l r hll he
  rw [h2' he] at hb
  have hde:decide ((l.length:Int)=r.length)=true:=decide_eq_true he'
  simp only [go_sem,zAc,z0,zAg,zV,zAa,hgt,hde,decide_true,decide_false,zB,zD,zC,reduceIte,reduceCtorEq,zA]
  refine cp n80 hb (SubL.refl _) ?_
  simp only [go_sem,zAg,qB,zB,zD,zC,reduceIte,reduceCtorEq,zA]
  refine cp n24 zCd (SubL.refl _) ?_
  simp only [go_sem,zB,zD,zC,reduceIte,reduceCtorEq,zA]
  exact hQ _
theorem closed_t3 (s:Survey) (hl:okL s.sights.length) (hv:Sv s) (l:List Stp) (hso:zCc s l=true) (hs:List Int) (hhl:okL hs.length) (hh:HsOk s.stations hs) (Q:AQ) (hQ:∀ X,Q .ret [(6,.bool true)] ⟨X,0,[]⟩) :
  WC (E 154) (.seq (.region [1,2,3,7,8] r22_3) (.seq (.region [1,2,3,7,8,9,10] r22_4) (.seq (.region [1,3,7,8,9,10,11,12] r22_5) (.seq (.region [1,3,7,8,9,10,11,12,13,14] r22_6) (.seq (.seq (.region [1,3,9,13,14,100] r22_7) (.cond (.tmp 100) (.seq (.region [6] r22_8) .ret) .skip)) (.seq (.seq (.region [1,3,9,13,14,102] r22_9) (.cond (.tmp 102) (.seq (.region [6] r22_10) .ret) .skip)) (.seq (.seq (.region [1,3,9,13,115] r22_11) (.cond (.tmp 115) (.seq (.region [6] r22_12) .ret) .skip)) (.seq (.region [1,9,13,15,16] r22_13) (.seq (.region [6] r22_14) .ret))))))))) Q [(1,stpsA l),(2,sl hs),(3,.ref 0 0),(46,.bool false)] ⟨[some (.cells (surC s))],0,[]⟩:=by
 have z2:decide ((2:Int)=2)=true:=rfl
 have z7:decide ((7:Int)=7)=true:=rfl
 have z5:decide ((5:Int)=5)=true:=rfl
 have z0:decide ((0:Int)=0)=true:=rfl
 have y0:¬ ((0:Int)≠0):=by decide
 have y2:¬ ((2:Int)≠2):=by decide
 have y7:¬ ((7:Int)≠7):=by decide
 have y5:¬ ((5:Int)≠5):=by decide
 have x2:((2:Int)≠0):=by decide
 have x7:((7:Int)≠0):=by decide
 have x5:((5:Int)≠0):=by decide
 have hcZ:AV.cells zeroR=[.nilS,.nilS]:=rfl
 have o1:AV.one .nilS=true:=rfl
 have hcR:∀ V,AV.cells (rA V)=[wS (rM V),.slice ((rJ V).map bl) (rJ V).length .unk]:=fun V=>rfl
 have oR:∀ (l:List AV) (n:Nat) (u:Tail),AV.one (.slice l n u)=true:=fun _ _ _=>rfl
 have nb:∀ a b:Bool,binA T .neq 4 (.bool a) (.bool b)=some (.bool (decide (a≠b))):=fun a b=>by cases a <;> cases b <;> rfl
 have eb:∀ a b:Bool,binA T .eql 4 (.bool a) (.bool b)=some (.bool (decide (a=b))):=fun a b=>by cases a <;> cases b <;> rfl
 have d1:decide (true=false)=false:=rfl
 have d2:decide (false=true)=false:=rfl
 have d3:decide (true=true)=true:=rfl
 have d4:decide (false=false)=true:=rfl
 have d5:decide (true≠true)=false:=rfl
 have d6:decide (false≠false)=false:=rfl
 obtain ⟨T,hT⟩:∃ T,MC.seq (.seq (.region [1,3,9,13,115] r22_11) (.cond (.tmp 115) (.seq (.region [6] r22_12) .ret) .skip)) (.seq (.region [1,9,13,15,16] r22_13) (.seq (.region [6] r22_14) .ret))=T:=⟨_,rfl⟩
 rw [hT]
 obtain ⟨hl8,hin⟩:=ok_steps.1 hso
 have hP:=Possible_pc s hl
 have eP:possA s=.tuple [.bool (possS s),.int .i64 0]:=by unfold possA;rw [if_pos (zBo.2 hv)]
 rw [eP] at hP
 have hF:=Fits_pc s hl hs hhl
 have eF:fitsA s hs=.tuple [.bool (fitB s hs),.int .i64 0]:=by unfold fitsA;rw [if_pos ⟨zBo.2 hv,list_iff.2 hh⟩]
 rw [eF] at hF
 have hI:=IsRing_pc s hl l (by unfold okL;omega)
 have eI:isRingA s l=.tuple [.bool (ringB s l),.int .i64 0]:=by
  unfold zCc at hso
  unfold isRingA
  rw [zBo.2 hv,hso];rfl
 rw [eI] at hI
 have hR:=Ring_pc s hl
 cases hp:possS s
 rotate_left
 ·have eR:RingA s=.tuple [.nilS,.int .i64 5]:=by unfold RingA;rw [zBo.2 hv,hp];rfl
  have hnr:ringB s l=false:=by
   cases h:ringB s l
   ·rfl
   ·have:=(Lv.poss_ring hv.toSw).2 ⟨l,hin,(Lv.ring_iff hv.toSw hin).1 h⟩
    rw [this] at hp;cases hp
  rw [eR] at hR
  rw [hp] at hP
  rw [hnr] at hI
  cases hf:fitB s hs
  all_goals
   rw [hf] at hF
   simp only [go_sem,zB,zD,zC,reduceIte,reduceCtorEq,zA]
   refine cp n57 hP (SubL.refl _) ?_
   simp only [go_sem,zAc,zB,zD,zC,reduceIte,reduceCtorEq,zA]
   refine cp n71 hI (SubL.refl _) ?_
   simp only [go_sem,zAc,zB,zD,zC,reduceIte,reduceCtorEq,zA]
   refine cp n64 hF (SubL.refl _) ?_
   simp only [go_sem,zAc,zB,zD,zC,reduceIte,reduceCtorEq,zA]
   refine cp n72 hR (SubL.refl _) ?_
   simp only [go_sem,zAc,y0,x5,z5,nb,eb,d1,d2,d3,d4,d5,d6,decide_true,decide_false,zAg,zV,qB,reduceCtorEq,ne_eq,not_true_eq_false,not_false_eq_true,zB,zD,zC,reduceIte,reduceCtorEq,zA]
   refine cp n24 zCd (SubL.refl _) ?_
   simp only [go_sem,zB,zD,zC,reduceIte,reduceCtorEq,zA]
   exact hQ _
 ·obtain ⟨r,er,hrin,hrp,hmin⟩:=Lv.short_ring hv.toSw hp
  have eR:RingA s=.tuple [stpsA r,.int .i64 0]:=by unfold RingA;rw [zBo.2 hv,hp,er];rfl
  have hnf:fitB s hs=false:=by
   cases h:fitB s hs
   ·rfl
   ·have:=(Lv.poss_fit hv.toSw).2 ⟨_,fit_iff.1 h⟩
    rw [this] at hp;cases hp
  have hr8:r.length≤8:=by have:=(hrp.len hv.toSw hrin).2;have:=hv.toSw.num8;omega
  rw [eR] at hR
  rw [hp] at hP
  rw [hnf] at hF
  have w05:¬ ((0:Int)=5):=by decide
  have ht:=closed_t11 s hl hv l r hl8 hrin hr8 ((Lv.ring_iff hv.toSw hrin).2 hrp) (ringB s l) (fun h=>(hmin l hin ((Lv.ring_iff hv.toSw hin).1 h)).1) (fun h e=>by
   cases hb:befS l r
   ·rfl
   ·exact absurd (Lv.bef_bf (n:=s.sights.length) (fun x hx=>hin x hx) (fun x hx=>hrin x hx) hb) ((hmin l hin ((Lv.ring_iff hv.toSw hin).1 h)).2 e))
  generalize ringB s l=is at hI ht
  cases is
  all_goals
   simp only [go_sem,zB,zD,zC,reduceIte,reduceCtorEq,zA]
   refine cp n57 hP (SubL.refl _) ?_
   simp only [go_sem,zAc,zB,zD,zC,reduceIte,reduceCtorEq,zA]
   refine cp n71 hI (SubL.refl _) ?_
   simp only [go_sem,zAc,zB,zD,zC,reduceIte,reduceCtorEq,zA]
   refine cp n64 hF (SubL.refl _) ?_
   simp only [go_sem,zAc,zB,zD,zC,reduceIte,reduceCtorEq,zA]
   refine cp n72 hR (SubL.refl _) ?_
   simp only [go_sem,zAc,y0,w05,nb,eb,d1,d2,d3,d4,d5,d6,decide_true,decide_false,zAg,zV,qB,reduceCtorEq,ne_eq,not_true_eq_false,not_false_eq_true,zB,zD,zC,reduceIte,reduceCtorEq,zA]
   subst hT
   exact ht _ _ hQ
theorem lclosed_pc (s:Survey) (hl:okL s.sights.length) (l:List Stp) (hll:okL l.length) (hs:List Int) (hhl:okL hs.length):PC Tryz.prog 22 [surA s,stpsA l,sl hs] (.pure (.bool true)):=by
 refine PC.of_empty (AC.run (E_ok _) mix Tryz.func22 m22 rfl rfl rfl (zE rfl) ?_) (by simp [bndL,AV.bnd]) rfl
 obtain ⟨TL,hTL⟩:∃ TL,MC.seq (.region [1,2,3,7,8] r22_3) (.seq (.region [1,2,3,7,8,9,10] r22_4) (.seq (.region [1,3,7,8,9,10,11,12] r22_5) (.seq (.region [1,3,7,8,9,10,11,12,13,14] r22_6) (.seq (.seq (.region [1,3,9,13,14,100] r22_7) (.cond (.tmp 100) (.seq (.region [6] r22_8) .ret) .skip)) (.seq (.seq (.region [1,3,9,13,14,102] r22_9) (.cond (.tmp 102) (.seq (.region [6] r22_10) .ret) .skip)) (.seq (.seq (.region [1,3,9,13,115] r22_11) (.cond (.tmp 115) (.seq (.region [6] r22_12) .ret) .skip)) (.seq (.region [1,9,13,15,16] r22_13) (.seq (.region [6] r22_14) .ret))))))))=TL:=⟨_,rfl⟩
 unfold c22
 rw [hTL]
 simp only [go_sem,boxA,zB,zD,zC,reduceIte,reduceCtorEq,zA]
 refine cp n23 (short_pc s) (SubL.refl _) ?_
 by_cases hsh:s.sights.length≤17
 rotate_left
 ·rw [decide_eq_false hsh]
  simp only [go_sem,zAg,qB,zB,zD,zC,reduceIte,reduceCtorEq,zA]
  refine cp n24 zCd (SubL.refl _) ?_
  simp only [go_sem,Tryz.f22,zB,zD,zC,reduceIte,reduceCtorEq,zA]
 rw [decide_eq_true hsh]
 by_cases hg10:(l.length:Int) > 10
 ·simp only [go_sem,zAg,zV,zAa,hg10,decide_true,decide_false,zB,zD,zC,reduceIte,reduceCtorEq,zA]
  refine cp n24 zCd (SubL.refl _) ?_
  simp only [go_sem,Tryz.f22,zB,zD,zC,reduceIte,reduceCtorEq,zA]
 by_cases hg12:(hs.length:Int) > 12
 ·simp only [go_sem,zAg,zV,zAa,hg10,hg12,decide_true,decide_false,zB,zD,zC,reduceIte,reduceCtorEq,zA]
  refine cp n24 zCd (SubL.refl _) ?_
  simp only [go_sem,Tryz.f22,zB,zD,zC,reduceIte,reduceCtorEq,zA]
 simp only [go_sem,zAg,zV,zAa,hg10,hg12,decide_false,zB,zD,zC,reduceIte,reduceCtorEq,zA]
 refine cp n33 (rSurvey_pc s hl) (SubL.refl _) ?_
 cases hv:zAl s
 ·simp only [go_sem,zAg,qB,zB,zD,zC,reduceIte,reduceCtorEq,zA]
  refine cp n24 zCd (SubL.refl _) ?_
  simp only [go_sem,Tryz.f22,zB,zD,zC,reduceIte,reduceCtorEq,zA]
 simp only [go_sem,zAg,zV,zB,zD,zC,reduceIte,reduceCtorEq,zA]
 refine cp n73 (Steps_pc s hl l hll) (SubL.refl _) ?_
 cases hx:zCc s l
 ·simp only [go_sem,zAg,qB,zB,zD,zC,reduceIte,reduceCtorEq,zA]
  refine cp n24 zCd (SubL.refl _) ?_
  simp only [go_sem,Tryz.f22,zB,zD,zC,reduceIte,reduceCtorEq,zA]
 simp only [go_sem,zAg,zV,zB,zD,zC,reduceIte,reduceCtorEq,zA]
 refine cp n56 (rList_pc s hs hhl) (SubL.refl _) ?_
 cases hh:listOk s hs
 ·simp only [go_sem,zAg,qB,zB,zD,zC,reduceIte,reduceCtorEq,zA]
  refine cp n24 zCd (SubL.refl _) ?_
  simp only [go_sem,Tryz.f22,zB,zD,zC,reduceIte,reduceCtorEq,zA]
 simp only [go_sem,zAg,zV,zB,zD,zC,reduceIte,reduceCtorEq,zA]
 subst hTL
 refine closed_t3 s hl (zBo.1 hv) l hx hs hhl (list_iff.1 hh) _ ?_
 intro X
 simp only [go_sem,Tryz.f22,zB,zD,zC,reduceIte,reduceCtorEq,zA]
end Go.Av.Lx
end
section
set_option maxRecDepth 100000
namespace Go.Av.Lx
open Go.Lv (Sight Survey Leg Tun Try Stp)
open Go Go.Av Go.Av.Tb Go.Av.Fx Go.Proofs Go.ChangeShapes Go.WideShapes Go.RowKit
def cW (W:World):Cx:=
 {K:=fun b o=>W.cell? ⟨b,o,none⟩,μ:=fun _=>none,τ:=fun _=>none,X:=fun _ _=>none
  XO:=fun b=>match W.heap[b]? with
   | some (.cells _ _ _)=>none
   | o=>o
  sz:=W.heap.size,FZ:=⟨fun _ _=>false,W⟩ }
structure TabOk (W:World):Prop where
 tab:∀ i,i<20→W.cell? ⟨tabB,i,none⟩=some (tabV i)
 tsh:∃ t,W.shape? tabB=some (t,20)
theorem cW_st {W:World} (h:TabOk W):StRel (cW W) St.empty W where
 sz:=zN _
 tab:=h.tab
 tsh:=h.tsh
 fr:=Frm.refl W
 K:=fun _ _ _ e=>e
 X:=fun _ _ _ e=>by cases e
 XO:=fun b ob e=>by
  simp only [cW] at e
  split at e
  ·cases e
  ·rename_i hn
   exact ⟨e,fun cs t f he=>hn cs t f (by rw [e,he])⟩
 F:=fun _ _ e=>by cases e
 dom:=fun _ _ e=>by cases e
 tdom:=fun _ _ e=>by cases e
 blk:=fun i B e=>by simp [St.empty] at e
 inj:=fun i j Bi Bj n e=>by simp [St.empty] at e
 tok:=fun k hk=>by cases hk
 tinj:=fun k k' b lo hi lo' hi' hk=>by cases hk
 tblk:=fun k i b lo hi B hk=>by cases hk
structure Keep (W W':World):Prop where
 os:W'.os=W.os
 out:W'.output=W.output
 block:∀ k,k<W.heap.size→W'.heap[k]? = W.heap[k]?
theorem keep_of {W W':World} {c':Cx} {S':St} (hle:(cW W).le c') (h:StRel c' S' W'):Keep W W':=by
 have hfr:Go.Av.Frm W W':=by have:=h.fr;rw [hle.FZ] at this;exact this
 refine ⟨hfr.os,hfr.out,fun k hk => ?_⟩
 have hob:W.heap[k]? = some W.heap[k]:=qA hk
 rw [hob]
 cases ho:W.heap[k] with
 | cells cs t fr =>
  rw [ho] at hob
  obtain ⟨cs',e1,e2⟩:=hfr.blk k cs t fr hob
  rw [e1]
  congr 2
  apply Array.ext
  ·exact e2
  ·intro j h1 h2
   have hc:W.cell? ⟨k,j,none⟩=some cs[j]:=by
    unfold World.cell?
    simp [hob,h2]
   have:=h.K k j _ (hle.K k j _ hc)
   unfold World.cell? at this
   simp [e1,h1] at this
   exact this
 | _ =>
  rw [ho] at hob
  exact (h.XO k _ (by rw [hle.XO];simp only [cW,hob])).1
theorem Keep.keptBut {W W':World} (h:Keep W W') (may:MemPlace→Prop):W.keptBut W' may:=by
 refine ⟨h.os,h.out,fun i hi => ?_⟩
 rw [h.block i hi,qA hi]
 cases W.heap[i] with
 | cells c t fr=>exact ⟨rfl,rfl,rfl,fun _ _=>rfl⟩
 | map es clock=>exact .inr ⟨rfl,rfl⟩
 | _=>rfl
theorem Keep.same {W W':World} (h:Keep W W') {p:MemPlace} (hp:p.block<W.heap.size):W.sameAt W' p:=by
 cases p with
 | cell b o=>exact World.cell?_of_block (w:=W) (h.block b hp)
 | map b=>exact h.block b hp
theorem Keep.trod {H:Type} {enc:TypeId × Value→H} {P:Program} {t:TypeId} (hl:laidOutB P=true) (hr:P.readableRec t=true) (hrow:t<P.types.size) {W W':World} {v:Value} {d:DataW H} {ps:List MemPlace}
  (h:DataW.Trod enc P W 0 (fun _=>true) true t v d ps) (hb:Keep W W') (hlt:∀ x∈ps,x.block<W.heap.size) :
  DataW.Trod enc P W' 0 (fun b=>decide (b<W.heap.size)) true t v d ps:=
 WideElems.Trod_stays hl hr hrow h (fun x hx=>hb.same (hlt x hx)) (fun x hx=>by simpa using hlt x hx)
theorem law_calls {f:FuncId} {args:List AV} {W:World} {vs:List Value} (h:PC Tryz.prog f args (.pure (.bool true))) (ht:TabOk W) (hl:LRel (cW W) args vs) :
  Calls Tryz.prog f vs.toArray W fun e W'=>e=.returned (.bool true)∧Keep W W':=by
 refine (h (cW W) St.empty W vs (cW_st ht) hl).mono ?_
 rintro e W' ⟨x,rfl,c',hle,_,_,hst,hv⟩
 refine ⟨?_,keep_of hle hst⟩
 cases hv;rfl
theorem cells_of {W:World} {b off:Nat} {l:List AV} {n cap:Nat} (hc:n≤cap) (h:∀ j x,l[j]? = some x → ∃ v,W.cell? ⟨b,off+j,none⟩=some v∧VRel (cW W) x v):VRel (cW W) (.slice l n .unk) (.slice (some ⟨b,off,none⟩) n cap):=by
 have get:∀ j (hj:j<l.length),∃ v,W.cell? ⟨b,off+j,none⟩=some v∧VRel (cW W) l[j] v:=fun j hj=>h j _ (zF hj)
 refine .slice l n .unk b off cap (fun j=>(W.cell? ⟨b,off+j,none⟩).getD default) hc (fun j hj => ?_) (fun j x hx => ?_) (fun e=>by cases e) (fun k e=>by cases e)
 ·obtain ⟨v,h1,h2⟩:=get j hj
  show W.cell? _=some ((W.cell? _).getD default)
  rw [h1];rfl
 ·obtain ⟨v,h1,h2⟩:=h j x hx
  rw [h1];exact h2
theorem add_at (b off i:Nat):(⟨b,off,none⟩:Addr).add i=⟨b,off+i,none⟩:=add_plain b off i
theorem has_spot {W:World} {base:Nat} {t e:TypeId} {a:Addr} {len cap:Nat} (ht:Tryz.prog.underlying t=some (.slice e)) (h:Cell.okWide Tryz.prog W .any base t (.slice (some a) len cap)):a.spot=none:=by
 simp only [Cell.okWide,ht,Cell.ok] at h
 exact h.2.2.2.1
section
variable {H:Type} {enc:TypeId × Value→H} {W:World} {base:Nat} {fuel:Nat} {x:DataW H × List MemPlace}
theorem av_ints {v:Value} (h:DataW.trod enc Tryz.prog W 0 (fun _=>true) true fuel 32 [v]=some x) (hw:∀ n∈x.1.weights Tryz.prog 32,n≤reachBytes) (hok:Cell.okWide Tryz.prog W .any base 32 v):∃ l:List Int,VRel (cW W) (sl l) v∧okL l.length:=by
 rcases open_ints Tryz.underlying32 Tryz.underlying3 (by kernel_rfl) h with ⟨hcs,_⟩ | ⟨a,len,cap,zs,hcs,_,hl,hm,hz,hx,hcell,_⟩
 ·cases hcs
  exact ⟨[],.sliceNil .unk (fun k e=>by cases e),Nat.zero_lt_succ _⟩
 ·cases hcs
  have hsp:=has_spot Tryz.underlying32 hok
  obtain ⟨b,off,spot⟩:=a
  simp only at hsp
  subst hsp
  have hz:zs.length=cap:=by simpa using hz
  have hlen:(zs.take len).length=len:=by rw [yM];omega
  have hsize:len<9223372036854775807:=by
   subst hx
   have h8:Tryz.prog.bytesOf 3=8:=by kernel_rfl
   have:=hw (((lits .i64 (zs.take len):List (DataW H)).length+(lits .i64 (zs.drop len):List (DataW H)).length) * 8) (by
    simp only [DataW.weights,Tryz.underlying32,h8]
    exact zO)
   have e1:(lits .i64 (zs.take len):List (DataW H)).length=len:=by simp [lits];omega
   rw [e1] at this
   unfold reachBytes at this
   omega
  refine ⟨zs.take len, ?_,by rw [hlen];exact hsize⟩
  show VRel (cW W) (.slice (ints (zs.take len)) (zs.take len).length .unk) _
  rw [hlen]
  refine cells_of hl fun j y hy => ?_
  rw [zAv] at hy
  have hj:j<(zs.take len).length:=by
   rcases zU j (zs.take len).length with h' | h'
   ·exact h'
   ·rw [zM h'] at hy;cases hy
  rw [zF hj] at hy
  cases hy
  have hj2:j<zs.length:=by omega
  have hc:=hcell j hj2
  rw [add_at] at hc
  refine ⟨_,hc, ?_⟩
  rw [List.getElem_take,zG,zF hj2]
  exact .int _ _
theorem av_int {v:Value} (h:DataW.trod enc Tryz.prog W 0 (fun _=>true) true fuel 3 [v]=some x):∃ n:Int,v=.int .i64 n∧(Lit.int .i64 n).wf=true:=by
 obtain ⟨n,hcs,_,hw⟩:=DataW.trod_int Tryz.underlying3 h
 cases hcs
 exact ⟨n,rfl,hw⟩
theorem av_bool {v:Value} (h:DataW.trod enc Tryz.prog W 0 (fun _=>true) true fuel 4 [v]=some x):∃ b:Bool,v=.bool b∧True:=by
 obtain ⟨b,hcs,_⟩:=DataW.trod_bool Tryz.underlying4 h
 cases hcs
 exact ⟨b,rfl,trivial⟩
theorem flat_get {α:Type} {f:α→List AV} {z:Nat} (hz:∀ a,(f a).length=z):∀ (l:List α) (j:Nat) (y:AV),(l.flatMap f)[j]? = some y → ∃ (i q:Nat) (hi:i<l.length),j=i * z+q∧q<z∧(f l[i])[q]? = some y
 | [],j,y,h=>by simp at h
 | c :: l,j,y,h=>by
  rw [qZ] at h
  by_cases hj:j<z
  ·rw [qJ (by rw [hz];exact hj)] at h
   exact ⟨0,j,by simp,by omega,hj,h⟩
  ·rw [zY (by rw [hz];omega),hz] at h
   obtain ⟨i,q,hi,e1,e2,e3⟩:=flat_get hz l _ y h
   refine ⟨i+1,q,by simpa using hi, ?_,e2,e3⟩
   rw [Nat.add_mul];omega
theorem av_rows {α:Type} (dflt:α) (f:α→List AV) {z by':Nat} (hz:∀ a,(f a).length=z) {t e:TypeId} (hu:Tryz.prog.underlying t=some (.slice e)) (hc:Tryz.prog.cellsOf e=z) (h8:Tryz.prog.bytesOf e=by') (hb:1≤by')
  (one:∀ {n:Nat} {y:DataW H × List MemPlace} {cs:List Value},DataW.trod enc Tryz.prog W 0 (fun _=>true) true n e cs=some y → ∃ a:α,LRel (cW W) (f a) cs)
  {v:Value} (h:DataW.trod enc Tryz.prog W 0 (fun _=>true) true fuel t [v]=some x) (hw:∀ n∈x.1.weights Tryz.prog t,n≤reachBytes) (hok:Cell.okWide Tryz.prog W .any base t v):∃ l:List α,VRel (cW W) (.slice (l.flatMap f) l.length .unk) v∧okL l.length:=by
 rcases Go.Deep.open_slice hu h with ⟨hcs,_⟩ | ⟨a,len,cap,m,n,D,Pl,hcs,_,hl,hm,hmm,hxx,hx⟩
 ·cases hcs
  exact ⟨[],.sliceNil .unk (fun k e=>by cases e),Nat.zero_lt_succ _⟩
 ·cases hcs
  have hsp:=has_spot hu hok
  obtain ⟨b,off,spot⟩:=a
  simp only at hsp
  subst hsp
  have hmc:m=cap:=by simpa using hmm
  rw [hc] at hx
  have each:∀ i,i<len → ∃ c:α,∀ (q:Nat) (y:AV),(f c)[q]? = some y → ∃ u,W.cell? ⟨b,off+(i * z+q),none⟩=some u∧VRel (cW W) y u:=by
   intro i hi
   obtain ⟨cs',h1,h2⟩:=hx i (by omega)
   obtain ⟨c,hr⟩:=one h2
   obtain ⟨_,hcl,hcell⟩:=World.cells?_some h1
   refine ⟨c,fun q y hy => ?_⟩
   obtain ⟨u,hu',hru⟩:=hr.get hy
   have hq:q<cs'.length:=by
    rcases zU q cs'.length with h' | h'
    ·exact h'
    ·rw [zM h'] at hu';cases hu'
   have hcq:=hcell q (by omega)
   rw [add_at,add_at,Nat.add_assoc] at hcq
   refine ⟨u, ?_,hru⟩
   rw [hcq]
   exact hu'
  obtain ⟨F,hF⟩:∃ F:Nat→α,∀ i,i<len → ∀ (q:Nat) (y:AV),(f (F i))[q]? = some y → ∃ u,W.cell? ⟨b,off+(i * z+q),none⟩=some u∧VRel (cW W) y u:=
   ⟨fun i=>if hi:i<len then (each i hi).choose else dflt,fun i hi=>by
    show ∀ (q:Nat) (y:AV),(f (if hi:i<len then (each i hi).choose else dflt))[q]? = some y→_
    rw [dif_pos hi];exact (each i hi).choose_spec⟩
  have hlen:((List.range len).map F).length=len:=by simp
  have hsize:len<9223372036854775807:=by
   subst hxx
   have:=hw ((((List.range len).map D).length+((List.range (m - len)).map fun j=>D (len+j)).length) * by') (by
    simp only [DataW.weights,hu,h8]
    exact zO)
   rw [List.length_map,List.length_range] at this
   have h3:len * 1≤(len+((List.range (m - len)).map fun j=>D (len+j)).length) * by':=Nat.mul_le_mul (by omega) hb
   unfold reachBytes at this
   omega
  refine ⟨(List.range len).map F, ?_,by rw [hlen];exact hsize⟩
  rw [hlen]
  refine cells_of hl fun j y hy => ?_
  obtain ⟨i,q,hi,rfl,_,e3⟩:=flat_get hz _ j y hy
  rw [hlen] at hi
  have e4:((List.range len).map F)[i]=F i:=by simp
  rw [e4] at e3
  exact hF i hi q y e3
theorem av_sight {n:Nat} {y:DataW H × List MemPlace} {cs:List Value} (h:DataW.trod enc Tryz.prog W 0 (fun _=>true) true n 85 cs=some y):∃ a:Sight,LRel (cW W) (sgtC a) cs:=by
 obtain ⟨xs,n,_,_,hl,hlen,hf⟩:=DataW.trod_struct Tryz.underlying85 h
 have hc:Tryz.prog.cellsOf 85=4:=by kernel_rfl
 have hc3:Tryz.prog.cellsOf 3=1:=by kernel_rfl
 have hc4:Tryz.prog.cellsOf 4=1:=by kernel_rfl
 rw [hc] at hl
 match cs,hl with
 | [a0,a1,a2,a3],_ =>
  match xs,hlen with
  | [y0,y1,y2,y3],_ =>
   have h0:DataW.trod enc Tryz.prog W 0 (fun _=>true) true n 3 (([a0,a1,a2,a3].drop 0).take (Tryz.prog.cellsOf 3))=some y0:=hf 0 _ rfl
   rw [hc3] at h0
   have h1:DataW.trod enc Tryz.prog W 0 (fun _=>true) true n 3 (([a0,a1,a2,a3].drop 1).take (Tryz.prog.cellsOf 3))=some y1:=hf 1 _ rfl
   rw [hc3] at h1
   have h2:DataW.trod enc Tryz.prog W 0 (fun _=>true) true n 3 (([a0,a1,a2,a3].drop 2).take (Tryz.prog.cellsOf 3))=some y2:=hf 2 _ rfl
   rw [hc3] at h2
   have h3:DataW.trod enc Tryz.prog W 0 (fun _=>true) true n 3 (([a0,a1,a2,a3].drop 3).take (Tryz.prog.cellsOf 3))=some y3:=hf 3 _ rfl
   rw [hc3] at h3
   obtain ⟨p0,rfl,_⟩:=av_int h0
   obtain ⟨p1,rfl,_⟩:=av_int h1
   obtain ⟨p2,rfl,_⟩:=av_int h2
   obtain ⟨p3,rfl,_⟩:=av_int h3
   exact ⟨⟨p0,p1,p2,p3⟩,(LRel.cons (.int _ _) (LRel.cons (.int _ _) (LRel.cons (.int _ _) (LRel.cons (.int _ _) (LRel.nil _)))))⟩
theorem av_step {n:Nat} {y:DataW H × List MemPlace} {cs:List Value} (h:DataW.trod enc Tryz.prog W 0 (fun _=>true) true n 127 cs=some y):∃ a:Stp,LRel (cW W) (stpC a) cs:=by
 obtain ⟨xs,n,_,_,hl,hlen,hf⟩:=DataW.trod_struct Tryz.underlying127 h
 have hc:Tryz.prog.cellsOf 127=2:=by kernel_rfl
 have hc3:Tryz.prog.cellsOf 3=1:=by kernel_rfl
 have hc4:Tryz.prog.cellsOf 4=1:=by kernel_rfl
 rw [hc] at hl
 match cs,hl with
 | [a0,a1],_ =>
  match xs,hlen with
  | [y0,y1],_ =>
   have h0:DataW.trod enc Tryz.prog W 0 (fun _=>true) true n 3 (([a0,a1].drop 0).take (Tryz.prog.cellsOf 3))=some y0:=hf 0 _ rfl
   rw [hc3] at h0
   have h1:DataW.trod enc Tryz.prog W 0 (fun _=>true) true n 4 (([a0,a1].drop 1).take (Tryz.prog.cellsOf 4))=some y1:=hf 1 _ rfl
   rw [hc4] at h1
   obtain ⟨p0,rfl,_⟩:=av_int h0
   obtain ⟨p1,rfl,_⟩:=av_bool h1
   exact ⟨⟨p0,p1⟩,(LRel.cons (.int _ _) (LRel.cons (.bool _) (LRel.nil _)))⟩
end
theorem cells_lone {v:Value} (h:∀ cs,v ≠ .agg cs):v.cells.toList=[v]:=by
 cases v <;> first | rfl | exact absurd rfl (h _)
section
variable {H:Type} {enc:TypeId × Value→H} {W:World} {base:Nat}
theorem av_intsA {v:Value} {d:DataW H} {ps:List MemPlace} (h:DataW.Trod enc Tryz.prog W 0 (fun _=>true) true 32 v d ps) (hw:∀ n∈d.weights Tryz.prog 32,n≤reachBytes) (hok:Value.okWide Tryz.prog W .any base 32 v) :
  ∃ l:List Int,VRel (cW W) (sl l) v∧okL l.length:=by
 obtain ⟨fuel,h⟩:=h
 simp only [Value.okWide,Tryz.underlying32] at hok
 rw [cells_lone (fun cs e=>by subst e;simp [Tryz.underlying32,Cell.okWide,Cell.ok] at hok)] at h
 exact av_ints h hw hok
theorem av_stepsA {v:Value} {d:DataW H} {ps:List MemPlace} (h:DataW.Trod enc Tryz.prog W 0 (fun _=>true) true 117 v d ps) (hw:∀ n∈d.weights Tryz.prog 117,n≤reachBytes) (hok:Value.okWide Tryz.prog W .any base 117 v) :
  ∃ l:List Stp,VRel (cW W) (.slice (l.flatMap stpC) l.length .unk) v∧okL l.length:=by
 obtain ⟨fuel,h⟩:=h
 simp only [Value.okWide,Tryz.underlying117] at hok
 rw [cells_lone (fun cs e=>by subst e;simp [Tryz.underlying117,Cell.okWide,Cell.ok] at hok)] at h
 exact av_rows (z:=2) (by':=16) (⟨0,false⟩:Stp) stpC (fun _=>rfl) Tryz.underlying117 (by kernel_rfl) (by kernel_rfl) (by decide) (fun h=>av_step h) h hw hok
theorem av_survey {v:Value} {d:DataW H} {ps:List MemPlace} (h:DataW.Trod enc Tryz.prog W 0 (fun _=>true) true 24 v d ps) (hw:∀ n∈d.weights Tryz.prog 24,n≤reachBytes) (hok:Value.okWide Tryz.prog W .any base 24 v) :
  ∃ s:Survey,VRel (cW W) (surA s) v∧okL s.sights.length:=by
 obtain ⟨fuel,h⟩:=h
 simp only [Value.okWide,Tryz.underlying24] at hok
 obtain ⟨cs,rfl,hsz,ts,hts,_,hrow⟩:=hok
 have hc:Tryz.prog.cellsOf 24=2:=by kernel_rfl
 rw [hc] at hsz
 obtain ⟨c0,c1,rfl⟩:∃ c0 c1,cs=#[c0,c1]:=by
  obtain ⟨l⟩:=cs
  match l,hsz with
  | [c0,c1],_=>exact ⟨c0,c1,rfl⟩
 have hts':Go.Program.cellTypes Tryz.prog Tryz.prog.depth 24=some [3,22]:=by kernel_rfl
 rw [hts'] at hts
 cases hts
 have k1:Cell.okWide Tryz.prog W .any base 22 c1:=by
  obtain ⟨u,e,hu⟩:=hrow 1 c1 rfl
  cases e;exact hu
 obtain ⟨xs,n,_,hd,hl,hlen,hf⟩:=DataW.trod_struct Tryz.underlying24 h
 have hc3:Tryz.prog.cellsOf 3=1:=by kernel_rfl
 have hc22:Tryz.prog.cellsOf 22=1:=by kernel_rfl
 match xs,hlen with
 | [y0,y1],_ =>
  have h0:DataW.trod enc Tryz.prog W 0 (fun _=>true) true n 3 (([c0,c1].drop 0).take (Tryz.prog.cellsOf 3))=some y0:=hf 0 _ rfl
  have h1:DataW.trod enc Tryz.prog W 0 (fun _=>true) true n 22 (([c0,c1].drop 1).take (Tryz.prog.cellsOf 22))=some y1:=hf 1 _ rfl
  rw [hc3] at h0
  rw [hc22] at h1
  cases hd
  have hw':∀ (j:Nat) (t:TypeId) (d:DataW H),[3,22][j]? = some t→[y0.1,y1.1][j]? = some d → ∀ n∈d.weights Tryz.prog t,n≤reachBytes:=fun j t d ht hd n hn=>by
   refine hw n ?_
   simp only [DataW.weights,Tryz.underlying24]
   exact DataW.weights_mem_each (ts:=[3,22]) ht hd n hn
  obtain ⟨p,rfl,_⟩:=av_int h0
  obtain ⟨g,hg,og⟩:=av_rows (z:=4) (by':=32) (⟨0,0,0,0⟩:Sight) sgtC (fun _=>rfl) Tryz.underlying22 (by kernel_rfl) (by kernel_rfl) (by decide) (fun h=>av_sight h) h1 (hw' 1 _ _ rfl rfl) k1
  refine ⟨⟨p,g⟩,VRel.mk_agg ?_,og⟩
  exact LRel.cons (.int _ _) (LRel.cons hg (LRel.nil _))
end
end Go.Av.Lx
end
