/- Part 31 of the proof. -/
import Derived.Test.YtclmbbofpaecaaaGreatDoorVg28
import Derived.Test.YtclmbbofpaecaaaGreatDoorVg29
import Derived.Test.YtclmbbofpaecaaaGreatDoorVg30
import Derived.Test.YtclmbbofpaecaaaGreatDoorVg22
import Derived.Test.YtclmbbofpaecaaaGreatDoorVg23
import Derived.Test.YtclmbbofpaecaaaGreatDoorVg21
import Derived.Test.YtclmbbofpaecaaaGreatDoorRows
import Derived.ProofKit
import Derived.LaidMore
import Derived.OpenShut
import Derived.Deep.Slices
import Derived.Stop.Joined
import Derived.ChangeOld
import Derived.SizedLaws
import Derived.Test.YtclmbbofpaecaaaGreatDoorTie
import Derived.Test.YtclmbbofpaecaaaGreatDoorCards
import Derived.Lib.LaidTab
import Derived.Lib.ItoaNum
import Derived.Lay
import Derived.LaidOnce
import Derived.MakeChecks
import Derived.SevenTiedAt
set_option linter.all false
set_option linter.unusedVariables false
set_option linter.unusedSimpArgs false
set_option linter.unusedSectionVars false
open Array renaming getElem?_eq_getElem → qC
open Bool renaming and_self → zJ, and_eq_true → zU, not_true → zY, not_false → qD, not_eq_true' → yR
open List renaming getElem?_eq_getElem → zF, getD_eq_getElem?_getD → zG, set_cons_succ → zH, set_cons_zero → zI, all_cons → zK, all_nil → zM, getElem?_eq_none → zO, mem_cons_self → zP, getElem?_append_right → zS, length_cons → qA, getElem?_map → qF, length_nil → qI, getElem?_append_left → qK, getElem?_range → qN, flatMap_cons → yB
open Nat renaming reduceLeDiff → zA, reduceEqDiff → zB, reduceAdd → zC, reduceBEq → zD, le_of_ble_eq_true → zE, le_refl → zN, lt_or_ge → zW
open Option renaming bind_some → yD
section
set_option maxRecDepth 100000
set_option maxHeartbeats 16000000
namespace Go.Av.Lx
open Go Go.Av Go.Av.Tb Go.Av.Fx Go.Proofs
open Go.Lv (Sight Survey Sw Sv SightOk Leg Tun Try Stp withS)
theorem ex_Ring:RingA surT=.tuple [stpsA [⟨0,false⟩,⟨1,false⟩,⟨2,false⟩,⟨3,true⟩],.int .i64 0]:=by
 unfold RingA
 rw [ex_ok,if_pos rfl,ex_poss,if_neg (by decide),ex_ring]
theorem ex_read:readA exB=.tuple [surA surX,.int .i64 0]:=by
 unfold readA
 rw [if_pos (by decide),ex_parsed]
 simp only [ex_xok,if_true]
theorem zDr:PC Tryz.prog 24 [] (.pure (.bool true)):=by
 refine PC.of_empty (AC.run (E_ok 223) mix Tryz.func24 m24 rfl rfl rfl (zE rfl) ?_) rfl rfl
 have oS:okL surS.sights.length:=by decide
 have oT:okL surT.sights.length:=by decide
 have oU:okL surU.sights.length:=by decide
 have q1:=Bounds_pc surS oS 0 2
 rw [ex_bounds] at q1
 have q2:=Heights_pc surS oS
 rw [ex_heights] at q2
 have q3:=Ring_pc surT oT
 rw [ex_Ring] at q3
 have q4:=Least_pc surT oT
 rw [ex_least] at q4
 have q5:=Falls_pc surS oS ⟨1,2,2⟩ 2 3
 rw [ex_falls] at q5
 have q6:=Carries_pc surS oS [⟨1,2,2⟩,⟨2,1,1⟩] (by decide) 0 3
 rw [ex_carries] at q6
 have q7:=Meets_pc surS oS ⟨3,0,5,3,1⟩
 rw [ex_meets] at q7
 have q8:=Drives_pc surS oS ⟨3,0,5,3,1⟩
 rw [ex_drives] at q8
 have q9:=Takes_pc surS oS 0 2 [⟨0,2,2⟩,⟨1,2,0⟩] (by decide)
 rw [ex_takes] at q9
 have q10:=Drops_pc surU oU
 rw [ex_drops] at q10
 have q11:=Blames_pc surU oU
 rw [ex_blames] at q11
 have q12:=Read_pc exB (by decide)
 rw [ex_read] at q12
 have q13:=rPrint_pc surX (small_plain (parsed_small ex_parsed) (by decide))
 rw [ex_text] at q13
 have b1:buildA T 61 [(0,.int .i64 1),(1,.int .i64 2),(2,.int .i64 2)]=some (.agg (legC ⟨1,2,2⟩)):=rfl
 have b2:buildA T 61 [(0,.int .i64 2),(1,.int .i64 1),(2,.int .i64 1)]=some (.agg (legC ⟨2,1,1⟩)):=rfl
 have b3:zAf T 54 2 [(0,.agg (legC ⟨1,2,2⟩)),(1,.agg (legC ⟨2,1,1⟩))]=some (.slice (legsC [⟨1,2,2⟩,⟨2,1,1⟩]) [(⟨1,2,2⟩:Leg),⟨2,1,1⟩].length .exact):=rfl
 have b4:buildA T 68 [(0,.int .i64 3),(1,.int .i64 0),(2,.int .i64 5),(3,.int .i64 3),(4,.int .i64 1)]=some (.agg (tunC ⟨3,0,5,3,1⟩)):=rfl
 have b5:buildA T 95 [(0,.int .i64 0),(1,.int .i64 2),(2,.int .i64 2)]=some (.agg (tryC ⟨0,2,2⟩)):=rfl
 have b6:buildA T 95 [(0,.int .i64 1),(1,.int .i64 2)]=some (.agg (tryC ⟨1,2,0⟩)):=rfl
 have b7:zAf T 76 2 [(0,.agg (tryC ⟨0,2,2⟩)),(1,.agg (tryC ⟨1,2,0⟩))]=some (.slice (triesC [⟨0,2,2⟩,⟨1,2,0⟩]) [(⟨0,2,2⟩:Try),⟨1,2,0⟩].length .exact):=rfl
 have b8:buildA T 28 [(0,.int .i64 5),(1,.int .i64 9)]=some (.agg [.int .i64 5,.int .i64 9]):=rfl
 have b9:buildA T 28 [(0,.int .i64 (-7)),(1,.int .i64 7)]=some (.agg [.int .i64 (-7),.int .i64 7]):=rfl
 have b10:buildA T 49 [(0,.int .i64 7),(1,.int .i64 4)]=some (.agg [.int .i64 7,.int .i64 4]):=rfl
 have b11:∀ n,buildA T 127 [(0,.int .i64 n)]=some (.agg (stpC ⟨n,false⟩)):=fun n=>rfl
 have b12:∀ n,buildA T 127 [(0,.int .i64 n),(1,.bool true)]=some (.agg (stpC ⟨n,true⟩)):=fun n=>rfl
 have b13:zAf T 117 4 [(0,.agg (stpC ⟨0,false⟩)),(1,.agg (stpC ⟨1,false⟩)),(2,.agg (stpC ⟨2,false⟩)),(3,.agg (stpC ⟨3,true⟩))]=some (.slice (stpsC [⟨0,false⟩,⟨1,false⟩,⟨2,false⟩,⟨3,true⟩]) [(⟨0,false⟩:Stp),⟨1,false⟩,⟨2,false⟩,⟨3,true⟩].length .exact):=rfl
 have b14:∀ a b c d:Int,zAf T 32 4 [(0,.int .i64 a),(1,.int .i64 b),(2,.int .i64 c),(3,.int .i64 d)]=some (.slice (ints [a,b,c,d]) [a,b,c,d].length .exact):=fun a b c d=>rfl
 have b15:zAf T 32 3 [(0,.int .i64 1),(1,.int .i64 2),(2,.int .i64 3)]=some (.slice (ints [1,2,3]) [(1:Int),2,3].length .exact):=rfl
 have b16:zAf T 32 1 [(0,.int .i64 1)]=some (.slice (ints [1]) [(1:Int)].length .exact):=rfl
 have n1:binA T .neq 28 (.agg [.int .i64 5,.int .i64 9]) (.agg [.int .i64 5,.int .i64 9])=some (.bool false):=rfl
 have n2:binA T .neq 28 (.agg [.int .i64 (-7),.int .i64 7]) (.agg [.int .i64 (-7),.int .i64 7])=some (.bool false):=rfl
 have n3:binA T .neq 49 (.agg [.int .i64 7,.int .i64 4]) (.agg [.int .i64 7,.int .i64 4])=some (.bool false):=rfl
 have z0:¬ ((0:Int)≠0):=by decide
 have z1:¬ ((1:Int)≠1):=by decide
 have z2:¬ ((2:Int)≠2):=by decide
 have z3:¬ ((3:Int)≠3):=by decide
 have z7:¬ ((7:Int)≠7):=by decide
 have y1:decide ((1:Int)=1)=true:=rfl
 have y2:decide ((2:Int)=2)=true:=rfl
 have z4:binA T .eql 9 (.str exB) (.str ⟨#[115,117,114,118,101,121,32,50,10,115,105,103,104,116,32,48,32,49,32,52,32,48,10,101,110,100,32,48,49,50,10]⟩)=some (.bool true):=(show binA T .eql 9 (.str exB) (.str exB)=some (.bool true) by rw [eqS,decide_eq_true rfl])
 simp only [go_sem,zB,zD,zC,reduceIte,reduceCtorEq,zA]
 refine cp n81 S_pc (SubL.refl _) ?_
 try simp only [go_sem,zB,zD,zC,reduceIte,reduceCtorEq,zA]
 refine cp n25 q1 (SubL.refl _) ?_
 simp only [go_sem,zAc,frA,zAd,AV.cells,AV.one,zK,zM,zJ,splice,zI,zH,and_self,qA,qI,zB,zD,zC,reduceIte,reduceCtorEq,zA]
 refine cp n81 S_pc (SubL.refl _) ?_
 try simp only [go_sem,zB,zD,zC,reduceIte,reduceCtorEq,zA]
 refine cp n26 q2 (SubL.refl _) ?_
 simp only [go_sem,zAc,frA,zAd,AV.cells,AV.one,zK,zM,zJ,splice,zI,zH,and_self,qA,qI,zB,zD,zC,reduceIte,reduceCtorEq,zA]
 refine cp n82 T_pc (SubL.refl _) ?_
 try simp only [go_sem,zB,zD,zC,reduceIte,reduceCtorEq,zA]
 refine cp n72 q3 (SubL.refl _) ?_
 simp only [go_sem,zAc,frA,zAd,AV.cells,AV.one,zK,zM,zJ,splice,zI,zH,and_self,qA,qI,zB,zD,zC,reduceIte,reduceCtorEq,zA]
 refine cp n82 T_pc (SubL.refl _) ?_
 try simp only [go_sem,zB,zD,zC,reduceIte,reduceCtorEq,zA]
 refine cp n32 q4 (SubL.refl _) ?_
 simp only [go_sem,zAc,frA,zAd,AV.cells,AV.one,zK,zM,zJ,splice,zI,zH,and_self,qA,qI,zB,zD,zC,reduceIte,reduceCtorEq,zA]
 refine cp n81 S_pc (SubL.refl _) ?_
 simp only [go_sem,b1,b2,b3,b4,b5,b6,b7,zB,zD,zC,reduceIte,reduceCtorEq,zA]
 refine cp n39 q5 (SubL.refl _) ?_
 simp only [go_sem,zAc,frA,zAd,AV.cells,AV.one,zK,zM,zJ,splice,zI,zH,and_self,qA,qI,zB,zD,zC,reduceIte,reduceCtorEq,zA]
 refine cp n81 S_pc (SubL.refl _) ?_
 simp only [go_sem,b1,b2,b3,b4,b5,b6,b7,zB,zD,zC,reduceIte,reduceCtorEq,zA]
 refine cp n35 q6 (SubL.cons (Sub.refl _) (SubL.cons (Sub.unk _ _ _) (SubL.refl _))) ?_
 simp only [go_sem,zAc,frA,zAd,AV.cells,AV.one,zK,zM,zJ,splice,zI,zH,and_self,qA,qI,zB,zD,zC,reduceIte,reduceCtorEq,zA]
 refine cp n81 S_pc (SubL.refl _) ?_
 simp only [go_sem,b1,b2,b3,b4,b5,b6,b7,zB,zD,zC,reduceIte,reduceCtorEq,zA]
 refine cp n42 q7 (SubL.refl _) ?_
 simp only [go_sem,zAc,frA,zAd,AV.cells,AV.one,zK,zM,zJ,splice,zI,zH,and_self,qA,qI,zB,zD,zC,reduceIte,reduceCtorEq,zA]
 refine cp n81 S_pc (SubL.refl _) ?_
 simp only [go_sem,b1,b2,b3,b4,b5,b6,b7,zB,zD,zC,reduceIte,reduceCtorEq,zA]
 refine cp n43 q8 (SubL.refl _) ?_
 simp only [go_sem,zAc,frA,zAd,AV.cells,AV.one,zK,zM,zJ,splice,zI,zH,and_self,qA,qI,zB,zD,zC,reduceIte,reduceCtorEq,zA]
 refine cp n81 S_pc (SubL.refl _) ?_
 simp only [go_sem,b1,b2,b3,b4,b5,b6,b7,zB,zD,zC,reduceIte,reduceCtorEq,zA]
 refine cp n47 q9 (SubL.cons (Sub.refl _) (SubL.cons (Sub.refl _) (SubL.cons (Sub.refl _) (SubL.cons (Sub.unk _ _ _) (SubL.refl _))))) ?_
 simp only [go_sem,zAc,frA,zAd,AV.cells,AV.one,zK,zM,zJ,splice,zI,zH,and_self,qA,qI,zB,zD,zC,reduceIte,reduceCtorEq,zA]
 refine cp n83 U_pc (SubL.refl _) ?_
 try simp only [go_sem,zB,zD,zC,reduceIte,reduceCtorEq,zA]
 refine cp n50 q10 (SubL.refl _) ?_
 simp only [go_sem,zAc,frA,zAd,AV.cells,AV.one,zK,zM,zJ,splice,zI,zH,and_self,qA,qI,zB,zD,zC,reduceIte,reduceCtorEq,zA]
 refine cp n83 U_pc (SubL.refl _) ?_
 try simp only [go_sem,zB,zD,zC,reduceIte,reduceCtorEq,zA]
 refine cp n51 q11 (SubL.refl _) ?_
 simp only [go_sem,zAc,zB,zD,zC,reduceIte,reduceCtorEq,zA]
 refine cp n60 q12 (SubL.refl _) ?_
 simp only [go_sem,zAc,z0,decide_false,zAd,AV.cells,AV.one,zK,zM,zJ,splice,zI,zH,and_self,qA,qI,b8,n1,b14,zB,zD,zC,reduceIte,reduceCtorEq,zA]
 refine cp n29 (Same_pc [0,9,5,13] [0,9,5,13] (by decide) (by decide)) (SubL.cons (Sub.refl _) (SubL.cons (Sub.unk _ _ _) (SubL.refl _))) ?_
 rw [decide_eq_true rfl]
 simp only [go_sem,zAj,zY,b14,zB,zD,zC,reduceIte,reduceCtorEq,zA]
 refine cp n29 (Same_pc [0,11,9,17] [0,11,9,17] (by decide) (by decide)) (SubL.cons (Sub.refl _) (SubL.cons (Sub.unk _ _ _) (SubL.refl _))) ?_
 rw [decide_eq_true rfl]
 simp only [go_sem,zAj,zY,b11,b12,b13,zB,zD,zC,reduceIte,reduceCtorEq,zA]
 refine cp n76 (zEb [⟨0,false⟩,⟨1,false⟩,⟨2,false⟩,⟨3,true⟩] [⟨0,false⟩,⟨1,false⟩,⟨2,false⟩,⟨3,true⟩] (by decide) (by decide)) (SubL.cons (Sub.refl _) (SubL.cons (Sub.unk _ _ _) (SubL.refl _))) ?_
 rw [decide_eq_true rfl]
 simp only [go_sem,zAj,zY,b10,n3,b14,zB,zD,zC,reduceIte,reduceCtorEq,zA]
 refine cp n29 (Same_pc [0,47,38,73] [0,47,38,73] (by decide) (by decide)) (SubL.cons (Sub.refl _) (SubL.cons (Sub.unk _ _ _) (SubL.refl _))) ?_
 rw [decide_eq_true rfl]
 simp only [go_sem,zAj,zY,z1,z2,z3,z7,decide_false,decide_true,b9,n2,b16,zB,zD,zC,reduceIte,reduceCtorEq,zA]
 refine cp n29 (Same_pc [1] [1] (by decide) (by decide)) (SubL.cons (Sub.refl _) (SubL.cons (Sub.unk _ _ _) (SubL.refl _))) ?_
 rw [decide_eq_true rfl]
 simp only [go_sem,b15,zB,zD,zC,reduceIte,reduceCtorEq,zA]
 refine cp n29 (Same_pc [1,2,3] [1,2,3] (by decide) (by decide)) (SubL.cons (Sub.refl _) (SubL.cons (Sub.unk _ _ _) (SubL.refl _))) ?_
 rw [decide_eq_true rfl]
 simp only [go_sem,zB,zD,zC,reduceIte,reduceCtorEq,zA]
 refine cp n61 q13 (SubL.refl _) ?_
 simp only [go_sem,z4,Tryz.f24,zB,zD,zC,reduceIte,reduceCtorEq,zA]
end Go.Av.Lx
end
section
set_option maxHeartbeats 8000000
namespace Go.Av.Lx
open Go Go.Av Go.Av.Tb Go.Av.Fx Go.Proofs
open Go.Lv (Sight Survey Sw Sv SightOk errF)

end Go.Av.Lx
end
section
set_option maxHeartbeats 8000000
namespace Go.Av.Lx
open Go Go.Av Go.Av.Tb Go.Av.Fx Go.Proofs
open Go.Lv (Sight Survey Sw Sv SightOk possS)
theorem neBool (a:Bool):binA T .neq 4 (.bool a) (.bool a)=some (.bool false):=by cases a <;> rfl
end Go.Av.Lx
end
section
set_option maxHeartbeats 8000000
namespace Go.Av.Lx
open Go Go.Av Go.Av.Tb Go.Av.Fx Go.Proofs
open Go.Lv (Sight Survey Sw Sv SightOk possS shortR ringB Stp)
theorem lrings_pc (s:Survey) (hl:okL s.sights.length) (l:List Stp) (hll:okL l.length):PC Tryz.prog 19 [surA s,stpsA l] (.pure (.bool true)):=by
 refine PC.of_empty (AC.run (E_ok _) mix Tryz.func19 m19 rfl rfl rfl (zE rfl) ?_) (by simp [bndL,AV.bnd]) rfl
 have z2:decide ((2:Int)=2)=true:=rfl
 have z0:decide ((0:Int)=0)=true:=rfl
 have z5:decide ((5:Int)=5)=true:=rfl
 have y0:¬ ((0:Int)≠0):=by decide
 have y2:¬ ((2:Int)≠2):=by decide
 simp only [go_sem,boxA,zB,zD,zC,reduceIte,reduceCtorEq,zA]
 refine cp n23 (short_pc s) (SubL.refl _) ?_
 by_cases hsh:s.sights.length≤17
 rotate_left
 ·rw [decide_eq_false hsh]
  simp only [go_sem,zAj,qD,zB,zD,zC,reduceIte,reduceCtorEq,zA]
  refine cp n24 zDr (SubL.refl _) ?_
  simp only [go_sem,Tryz.f19,zB,zD,zC,reduceIte,reduceCtorEq,zA]
 rw [decide_eq_true hsh]
 by_cases h10:(l.length:Int) > 10
 ·simp only [go_sem,zAj,zY,zAa,h10,decide_true,zB,zD,zC,reduceIte,reduceCtorEq,zA]
  refine cp n24 zDr (SubL.refl _) ?_
  simp only [go_sem,Tryz.f19,zB,zD,zC,reduceIte,reduceCtorEq,zA]
 simp only [go_sem,zAj,zY,zAa,h10,decide_false,zB,zD,zC,reduceIte,reduceCtorEq,zA]
 have hI:=IsRing_pc s hl l hll
 have hR:=Ring_pc s hl
 cases hv:zAp s
 ·have eI:isRingA s l=.tuple [.bool false,.int .i64 2]:=by unfold isRingA;rw [hv];rfl
  have eR:RingA s=.tuple [.nilS,.int .i64 2]:=by unfold RingA;rw [hv];rfl
  rw [eI] at hI
  rw [eR] at hR
  refine cp n71 hI (SubL.refl _) ?_
  simp only [go_sem,zAc,zB,zD,zC,reduceIte,reduceCtorEq,zA]
  refine cp n72 hR (SubL.refl _) ?_
  simp only [go_sem,zAc,zB,zD,zC,reduceIte,reduceCtorEq,zA]
  refine cp n33 (zDj s hl) (SubL.refl _) ?_
  rw [hv]
  simp only [go_sem,zAj,qD,z2,z0,zAa,decide_true,zB,zD,zC,reduceIte,reduceCtorEq,zA]
  refine cp n24 zDr (SubL.refl _) ?_
  simp only [go_sem,Tryz.f19,zB,zD,zC,reduceIte,reduceCtorEq,zA]
 have hsv:=zDs.1 hv
 have hK:=rKnown_pc s hsv.toSw (by omega)
 obtain ⟨a,b,ek,oa,ob⟩:=rknown_is s
 have hc:AV.cells (.agg [a,b])=[a,b]:=rfl
 rw [ek] at hK
 have nb:=neBool (ringB s l)
 have hS:=Steps_pc s hl l hll
 cases hso:zEm s l
 rotate_left
 ·have eI:isRingA s l=.tuple [.bool (ringB s l),.int .i64 0]:=by
   unfold isRingA
   rw [hv,show (decide (l.length≤8) && !l.any (badStp s))=true from hso];rfl
  have hin:Lv.StepsIn s l:=fun x hx=>badStp_iff.1 (by
   unfold zEm at hso
   rw [zU,yR,List.any_eq_false] at hso
   have:=hso.2 x hx
   simpa using this)
  have hl8:l.length≤100:=by omega
  rw [eI] at hI
  rw [hso] at hS
  cases hp:possS s
  rotate_left
  ·rw [hp] at hK
   have eR:RingA s=.tuple [.nilS,.int .i64 5]:=by unfold RingA;rw [hv,hp];rfl
   rw [eR] at hR
   refine cp n71 hI (SubL.refl _) ?_
   simp only [go_sem,zAc,zB,zD,zC,reduceIte,reduceCtorEq,zA]
   refine cp n72 hR (SubL.refl _) ?_
   simp only [go_sem,zAc,zB,zD,zC,reduceIte,reduceCtorEq,zA]
   refine cp n33 (zDj s hl) (SubL.refl _) ?_
   rw [hv]
   simp only [go_sem,zAj,zY,zB,zD,zC,reduceIte,reduceCtorEq,zA]
   refine cp n73 hS (SubL.refl _) ?_
   simp only [go_sem,zAj,zY,y0,decide_false,zB,zD,zC,reduceIte,reduceCtorEq,zA]
   refine cp n74 (rIsRing_pc s hsv.toSw l hl8 hin) (SubL.refl _) ?_
   simp only [go_sem,nb,zB,zD,zC,reduceIte,reduceCtorEq,zA]
   refine cp n65 hK (SubL.refl _) ?_
   simp only [go_sem,zAc,oa,ob,hc,zAd,zK,zM,zJ,splice,zI,zH,and_self,qA,qI,z5,z0,zAa,decide_true,zB,zD,zC,reduceIte,reduceCtorEq,zA]
   refine cp n24 zDr (SubL.refl _) ?_
   simp only [go_sem,Tryz.f19,zB,zD,zC,reduceIte,reduceCtorEq,zA]
  rw [hp] at hK
  obtain ⟨r,er,hrin,hrp,_⟩:=Lv.short_ring hsv.toSw hp
  have hr8:r.length≤100:=by have:=(hrp.len hsv.toSw hrin).2;have:=hsv.toSw.num8;omega
  have eR:RingA s=.tuple [stpsA r,.int .i64 0]:=by unfold RingA;rw [hv,hp,er];rfl
  rw [eR] at hR
  refine cp n71 hI (SubL.refl _) ?_
  simp only [go_sem,zAc,zB,zD,zC,reduceIte,reduceCtorEq,zA]
  refine cp n72 hR (SubL.refl _) ?_
  simp only [go_sem,zAc,zB,zD,zC,reduceIte,reduceCtorEq,zA]
  refine cp n33 (zDj s hl) (SubL.refl _) ?_
  rw [hv]
  simp only [go_sem,zAj,zY,zB,zD,zC,reduceIte,reduceCtorEq,zA]
  refine cp n73 hS (SubL.refl _) ?_
  simp only [go_sem,zAj,zY,y0,decide_false,zB,zD,zC,reduceIte,reduceCtorEq,zA]
  refine cp n74 (rIsRing_pc s hsv.toSw l hl8 hin) (SubL.refl _) ?_
  simp only [go_sem,nb,zB,zD,zC,reduceIte,reduceCtorEq,zA]
  refine cp n65 hK (SubL.refl _) ?_
  simp only [go_sem,zAc,oa,ob,hc,zAd,zK,zM,zJ,splice,zI,zH,and_self,qA,qI,z5,z0,zAa,decide_true,zB,zD,zC,reduceIte,reduceCtorEq,zA]
  have hRR:=rRing_pc s hsv
  have eRR:rRingA s=.tuple [stpsA r,.bool true]:=by unfold rRingA;rw [er]
  rw [eRR] at hRR
  refine cp n75 hRR (SubL.refl _) ?_
  simp only [go_sem,zAc,z0,decide_true,zB,zD,zC,reduceIte,reduceCtorEq,zA]
  refine cp n76 (zEb r r (by show r.length<9223372036854775807;omega) (by show r.length<9223372036854775807;omega)) (SubL.refl _) ?_
  rw [decide_eq_true rfl]
  simp only [go_sem,zB,zD,zC,reduceIte,reduceCtorEq,zA]
  refine cp n24 zDr (SubL.refl _) ?_
  simp only [go_sem,Tryz.f19,zB,zD,zC,reduceIte,reduceCtorEq,zA]
 have eI:isRingA s l=.tuple [.bool false,.int .i64 2]:=by
  unfold isRingA
  rw [hv,show (decide (l.length≤8) && !l.any (badStp s))=false from hso];rfl
 rw [eI] at hI
 rw [hso] at hS
 cases hp:possS s
 rotate_left
 ·rw [hp] at hK
  have eR:RingA s=.tuple [.nilS,.int .i64 5]:=by unfold RingA;rw [hv,hp];rfl
  rw [eR] at hR
  refine cp n71 hI (SubL.refl _) ?_
  simp only [go_sem,zAc,zB,zD,zC,reduceIte,reduceCtorEq,zA]
  refine cp n72 hR (SubL.refl _) ?_
  simp only [go_sem,zAc,zB,zD,zC,reduceIte,reduceCtorEq,zA]
  refine cp n33 (zDj s hl) (SubL.refl _) ?_
  rw [hv]
  simp only [go_sem,zAj,zY,zB,zD,zC,reduceIte,reduceCtorEq,zA]
  refine cp n73 hS (SubL.refl _) ?_
  simp only [go_sem,zAj,qD,y2,decide_false,zB,zD,zC,reduceIte,reduceCtorEq,zA]
  refine cp n65 hK (SubL.refl _) ?_
  simp only [go_sem,zAc,oa,ob,hc,zAd,zK,zM,zJ,splice,zI,zH,and_self,qA,qI,z5,z0,zAa,decide_true,zB,zD,zC,reduceIte,reduceCtorEq,zA]
  refine cp n24 zDr (SubL.refl _) ?_
  simp only [go_sem,Tryz.f19,zB,zD,zC,reduceIte,reduceCtorEq,zA]
 rw [hp] at hK
 obtain ⟨r,er,hrin,hrp,_⟩:=Lv.short_ring hsv.toSw hp
 have hr8:r.length≤100:=by have:=(hrp.len hsv.toSw hrin).2;have:=hsv.toSw.num8;omega
 have eR:RingA s=.tuple [stpsA r,.int .i64 0]:=by unfold RingA;rw [hv,hp,er];rfl
 rw [eR] at hR
 refine cp n71 hI (SubL.refl _) ?_
 simp only [go_sem,zAc,zB,zD,zC,reduceIte,reduceCtorEq,zA]
 refine cp n72 hR (SubL.refl _) ?_
 simp only [go_sem,zAc,zB,zD,zC,reduceIte,reduceCtorEq,zA]
 refine cp n33 (zDj s hl) (SubL.refl _) ?_
 rw [hv]
 simp only [go_sem,zAj,zY,zB,zD,zC,reduceIte,reduceCtorEq,zA]
 refine cp n73 hS (SubL.refl _) ?_
 simp only [go_sem,zAj,qD,y2,decide_false,zB,zD,zC,reduceIte,reduceCtorEq,zA]
 refine cp n65 hK (SubL.refl _) ?_
 simp only [go_sem,zAc,oa,ob,hc,zAd,zK,zM,zJ,splice,zI,zH,and_self,qA,qI,z5,z0,zAa,decide_true,zB,zD,zC,reduceIte,reduceCtorEq,zA]
 have hRR:=rRing_pc s hsv
 have eRR:rRingA s=.tuple [stpsA r,.bool true]:=by unfold rRingA;rw [er]
 rw [eRR] at hRR
 refine cp n75 hRR (SubL.refl _) ?_
 simp only [go_sem,zAc,z0,decide_true,zB,zD,zC,reduceIte,reduceCtorEq,zA]
 refine cp n76 (zEb r r (by show r.length<9223372036854775807;omega) (by show r.length<9223372036854775807;omega)) (SubL.refl _) ?_
 rw [decide_eq_true rfl]
 simp only [go_sem,zB,zD,zC,reduceIte,reduceCtorEq,zA]
 refine cp n24 zDr (SubL.refl _) ?_
 simp only [go_sem,Tryz.f19,zB,zD,zC,reduceIte,reduceCtorEq,zA]
end Go.Av.Lx
end
section
set_option maxRecDepth 100000
namespace Go.Av.Lx
open Go.Lv (Sight Survey Leg Tun Try Stp)
open Go Go.Av Go.Av.Tb Go.Av.Fx Go.Proofs Go.ChangeShapes Go.WideShapes Go.RowKit
def cW (W:World):Cx:=
 {K:=fun b o=>W.cell? ⟨b,o,none⟩,μ:=fun _=>none,τ:=fun _=>none,X:=fun _ _=>none
  XO:=fun b=>match W.heap[b]? with
   | some (.cells _ _ _)=>none
   | o=>o
  sz:=W.heap.size,FZ:=⟨fun _ _=>false,W⟩ }
structure TabOk (W:World):Prop where
 tab:∀ i,i<20→W.cell? ⟨tabB,i,none⟩=some (tabV i)
 tsh:∃ t,W.shape? tabB=some (t,20)
theorem cW_st {W:World} (h:TabOk W):StRel (cW W) St.empty W where
 sz:=zN _
 tab:=h.tab
 tsh:=h.tsh
 fr:=Frm.refl W
 K:=fun _ _ _ e=>e
 X:=fun _ _ _ e=>by cases e
 XO:=fun b ob e=>by
  simp only [cW] at e
  split at e
  ·cases e
  ·rename_i hn
   exact ⟨e,fun cs t f he=>hn cs t f (by rw [e,he])⟩
 F:=fun _ _ e=>by cases e
 dom:=fun _ _ e=>by cases e
 tdom:=fun _ _ e=>by cases e
 blk:=fun i B e=>by simp [St.empty] at e
 inj:=fun i j Bi Bj n e=>by simp [St.empty] at e
 tok:=fun k hk=>by cases hk
 tinj:=fun k k' b lo hi lo' hi' hk=>by cases hk
 tblk:=fun k i b lo hi B hk=>by cases hk
structure Keep (W W':World):Prop where
 os:W'.os=W.os
 out:W'.output=W.output
 block:∀ k,k<W.heap.size→W'.heap[k]? = W.heap[k]?
theorem keep_of {W W':World} {c':Cx} {S':St} (hle:(cW W).le c') (h:StRel c' S' W'):Keep W W':=by
 have hfr:Go.Av.Frm W W':=by have:=h.fr;rw [hle.FZ] at this;exact this
 refine ⟨hfr.os,hfr.out,fun k hk => ?_⟩
 have hob:W.heap[k]? = some W.heap[k]:=qC hk
 rw [hob]
 cases ho:W.heap[k] with
 | cells cs t fr =>
  rw [ho] at hob
  obtain ⟨cs',e1,e2⟩:=hfr.blk k cs t fr hob
  rw [e1]
  congr 2
  apply Array.ext
  ·exact e2
  ·intro j h1 h2
   have hc:W.cell? ⟨k,j,none⟩=some cs[j]:=by
    unfold World.cell?
    simp [hob,h2]
   have:=h.K k j _ (hle.K k j _ hc)
   unfold World.cell? at this
   simp [e1,h1] at this
   exact this
 | _ =>
  rw [ho] at hob
  exact (h.XO k _ (by rw [hle.XO];simp only [cW,hob])).1
theorem Keep.keptBut {W W':World} (h:Keep W W') (may:MemPlace→Prop):W.keptBut W' may:=by
 refine ⟨h.os,h.out,fun i hi => ?_⟩
 rw [h.block i hi,qC hi]
 cases W.heap[i] with
 | cells c t fr=>exact ⟨rfl,rfl,rfl,fun _ _=>rfl⟩
 | map es clock=>exact .inr ⟨rfl,rfl⟩
 | _=>rfl
theorem Keep.same {W W':World} (h:Keep W W') {p:MemPlace} (hp:p.block<W.heap.size):W.sameAt W' p:=by
 cases p with
 | cell b o=>exact World.cell?_of_block (w:=W) (h.block b hp)
 | map b=>exact h.block b hp
theorem Keep.trod {H:Type} {enc:TypeId × Value→H} {P:Program} {t:TypeId} (hl:laidOutB P=true) (hr:P.readableRec t=true) (hrow:t<P.types.size) {W W':World} {v:Value} {d:DataW H} {ps:List MemPlace}
  (h:DataW.Trod enc P W 0 (fun _=>true) true t v d ps) (hb:Keep W W') (hlt:∀ x∈ps,x.block<W.heap.size) :
  DataW.Trod enc P W' 0 (fun b=>decide (b<W.heap.size)) true t v d ps:=
 WideElems.Trod_stays hl hr hrow h (fun x hx=>hb.same (hlt x hx)) (fun x hx=>by simpa using hlt x hx)
theorem law_calls {f:FuncId} {args:List AV} {W:World} {vs:List Value} (h:PC Tryz.prog f args (.pure (.bool true))) (ht:TabOk W) (hl:LRel (cW W) args vs) :
  Calls Tryz.prog f vs.toArray W fun e W'=>e=.returned (.bool true)∧Keep W W':=by
 refine (h (cW W) St.empty W vs (cW_st ht) hl).mono ?_
 rintro e W' ⟨x,rfl,c',hle,_,_,hst,hv⟩
 refine ⟨?_,keep_of hle hst⟩
 cases hv;rfl
theorem cells_of {W:World} {b off:Nat} {l:List AV} {n cap:Nat} (hc:n≤cap) (h:∀ j x,l[j]? = some x → ∃ v,W.cell? ⟨b,off+j,none⟩=some v∧VRel (cW W) x v):VRel (cW W) (.slice l n .unk) (.slice (some ⟨b,off,none⟩) n cap):=by
 have get:∀ j (hj:j<l.length),∃ v,W.cell? ⟨b,off+j,none⟩=some v∧VRel (cW W) l[j] v:=fun j hj=>h j _ (zF hj)
 refine .slice l n .unk b off cap (fun j=>(W.cell? ⟨b,off+j,none⟩).getD default) hc (fun j hj => ?_) (fun j x hx => ?_) (fun e=>by cases e) (fun k e=>by cases e)
 ·obtain ⟨v,h1,h2⟩:=get j hj
  show W.cell? _=some ((W.cell? _).getD default)
  rw [h1];rfl
 ·obtain ⟨v,h1,h2⟩:=h j x hx
  rw [h1];exact h2
theorem add_at (b off i:Nat):(⟨b,off,none⟩:Addr).add i=⟨b,off+i,none⟩:=add_plain b off i
theorem has_spot {W:World} {base:Nat} {t e:TypeId} {a:Addr} {len cap:Nat} (ht:Tryz.prog.underlying t=some (.slice e)) (h:Cell.okWide Tryz.prog W .any base t (.slice (some a) len cap)):a.spot=none:=by
 simp only [Cell.okWide,ht,Cell.ok] at h
 exact h.2.2.2.1
section
variable {H:Type} {enc:TypeId × Value→H} {W:World} {base:Nat} {fuel:Nat} {x:DataW H × List MemPlace}
theorem av_int {v:Value} (h:DataW.trod enc Tryz.prog W 0 (fun _=>true) true fuel 3 [v]=some x):∃ n:Int,v=.int .i64 n∧(Lit.int .i64 n).wf=true:=by
 obtain ⟨n,hcs,_,hw⟩:=DataW.trod_int Tryz.underlying3 h
 cases hcs
 exact ⟨n,rfl,hw⟩
theorem av_bool {v:Value} (h:DataW.trod enc Tryz.prog W 0 (fun _=>true) true fuel 4 [v]=some x):∃ b:Bool,v=.bool b∧True:=by
 obtain ⟨b,hcs,_⟩:=DataW.trod_bool Tryz.underlying4 h
 cases hcs
 exact ⟨b,rfl,trivial⟩
theorem flat_get {α:Type} {f:α→List AV} {z:Nat} (hz:∀ a,(f a).length=z):∀ (l:List α) (j:Nat) (y:AV),(l.flatMap f)[j]? = some y → ∃ (i q:Nat) (hi:i<l.length),j=i * z+q∧q<z∧(f l[i])[q]? = some y
 | [],j,y,h=>by simp at h
 | c :: l,j,y,h=>by
  rw [yB] at h
  by_cases hj:j<z
  ·rw [qK (by rw [hz];exact hj)] at h
   exact ⟨0,j,by simp,by omega,hj,h⟩
  ·rw [zS (by rw [hz];omega),hz] at h
   obtain ⟨i,q,hi,e1,e2,e3⟩:=flat_get hz l _ y h
   refine ⟨i+1,q,by simpa using hi, ?_,e2,e3⟩
   rw [Nat.add_mul];omega
theorem av_rows {α:Type} (dflt:α) (f:α→List AV) {z by':Nat} (hz:∀ a,(f a).length=z) {t e:TypeId} (hu:Tryz.prog.underlying t=some (.slice e)) (hc:Tryz.prog.cellsOf e=z) (h8:Tryz.prog.bytesOf e=by') (hb:1≤by')
  (one:∀ {n:Nat} {y:DataW H × List MemPlace} {cs:List Value},DataW.trod enc Tryz.prog W 0 (fun _=>true) true n e cs=some y → ∃ a:α,LRel (cW W) (f a) cs)
  {v:Value} (h:DataW.trod enc Tryz.prog W 0 (fun _=>true) true fuel t [v]=some x) (hw:∀ n∈x.1.weights Tryz.prog t,n≤reachBytes) (hok:Cell.okWide Tryz.prog W .any base t v):∃ l:List α,VRel (cW W) (.slice (l.flatMap f) l.length .unk) v∧okL l.length:=by
 rcases Go.Deep.open_slice hu h with ⟨hcs,_⟩ | ⟨a,len,cap,m,n,D,Pl,hcs,_,hl,hm,hmm,hxx,hx⟩
 ·cases hcs
  exact ⟨[],.sliceNil .unk (fun k e=>by cases e),Nat.zero_lt_succ _⟩
 ·cases hcs
  have hsp:=has_spot hu hok
  obtain ⟨b,off,spot⟩:=a
  simp only at hsp
  subst hsp
  have hmc:m=cap:=by simpa using hmm
  rw [hc] at hx
  have each:∀ i,i<len → ∃ c:α,∀ (q:Nat) (y:AV),(f c)[q]? = some y → ∃ u,W.cell? ⟨b,off+(i * z+q),none⟩=some u∧VRel (cW W) y u:=by
   intro i hi
   obtain ⟨cs',h1,h2⟩:=hx i (by omega)
   obtain ⟨c,hr⟩:=one h2
   obtain ⟨_,hcl,hcell⟩:=World.cells?_some h1
   refine ⟨c,fun q y hy => ?_⟩
   obtain ⟨u,hu',hru⟩:=hr.get hy
   have hq:q<cs'.length:=by
    rcases zW q cs'.length with h' | h'
    ·exact h'
    ·rw [zO h'] at hu';cases hu'
   have hcq:=hcell q (by omega)
   rw [add_at,add_at,Nat.add_assoc] at hcq
   refine ⟨u, ?_,hru⟩
   rw [hcq]
   exact hu'
  obtain ⟨F,hF⟩:∃ F:Nat→α,∀ i,i<len → ∀ (q:Nat) (y:AV),(f (F i))[q]? = some y → ∃ u,W.cell? ⟨b,off+(i * z+q),none⟩=some u∧VRel (cW W) y u:=
   ⟨fun i=>if hi:i<len then (each i hi).choose else dflt,fun i hi=>by
    show ∀ (q:Nat) (y:AV),(f (if hi:i<len then (each i hi).choose else dflt))[q]? = some y→_
    rw [dif_pos hi];exact (each i hi).choose_spec⟩
  have hlen:((List.range len).map F).length=len:=by simp
  have hsize:len<9223372036854775807:=by
   subst hxx
   have:=hw ((((List.range len).map D).length+((List.range (m - len)).map fun j=>D (len+j)).length) * by') (by
    simp only [DataW.weights,hu,h8]
    exact zP)
   rw [List.length_map,List.length_range] at this
   have h3:len * 1≤(len+((List.range (m - len)).map fun j=>D (len+j)).length) * by':=Nat.mul_le_mul (by omega) hb
   unfold reachBytes at this
   omega
  refine ⟨(List.range len).map F, ?_,by rw [hlen];exact hsize⟩
  rw [hlen]
  refine cells_of hl fun j y hy => ?_
  obtain ⟨i,q,hi,rfl,_,e3⟩:=flat_get hz _ j y hy
  rw [hlen] at hi
  have e4:((List.range len).map F)[i]=F i:=by simp
  rw [e4] at e3
  exact hF i hi q y e3
theorem av_sight {n:Nat} {y:DataW H × List MemPlace} {cs:List Value} (h:DataW.trod enc Tryz.prog W 0 (fun _=>true) true n 85 cs=some y):∃ a:Sight,LRel (cW W) (sgtC a) cs:=by
 obtain ⟨xs,n,_,_,hl,hlen,hf⟩:=DataW.trod_struct Tryz.underlying85 h
 have hc:Tryz.prog.cellsOf 85=4:=by kernel_rfl
 have hc3:Tryz.prog.cellsOf 3=1:=by kernel_rfl
 have hc4:Tryz.prog.cellsOf 4=1:=by kernel_rfl
 rw [hc] at hl
 match cs,hl with
 | [a0,a1,a2,a3],_ =>
  match xs,hlen with
  | [y0,y1,y2,y3],_ =>
   have h0:DataW.trod enc Tryz.prog W 0 (fun _=>true) true n 3 (([a0,a1,a2,a3].drop 0).take (Tryz.prog.cellsOf 3))=some y0:=hf 0 _ rfl
   rw [hc3] at h0
   have h1:DataW.trod enc Tryz.prog W 0 (fun _=>true) true n 3 (([a0,a1,a2,a3].drop 1).take (Tryz.prog.cellsOf 3))=some y1:=hf 1 _ rfl
   rw [hc3] at h1
   have h2:DataW.trod enc Tryz.prog W 0 (fun _=>true) true n 3 (([a0,a1,a2,a3].drop 2).take (Tryz.prog.cellsOf 3))=some y2:=hf 2 _ rfl
   rw [hc3] at h2
   have h3:DataW.trod enc Tryz.prog W 0 (fun _=>true) true n 3 (([a0,a1,a2,a3].drop 3).take (Tryz.prog.cellsOf 3))=some y3:=hf 3 _ rfl
   rw [hc3] at h3
   obtain ⟨p0,rfl,_⟩:=av_int h0
   obtain ⟨p1,rfl,_⟩:=av_int h1
   obtain ⟨p2,rfl,_⟩:=av_int h2
   obtain ⟨p3,rfl,_⟩:=av_int h3
   exact ⟨⟨p0,p1,p2,p3⟩,(LRel.cons (.int _ _) (LRel.cons (.int _ _) (LRel.cons (.int _ _) (LRel.cons (.int _ _) (LRel.nil _)))))⟩
theorem av_step {n:Nat} {y:DataW H × List MemPlace} {cs:List Value} (h:DataW.trod enc Tryz.prog W 0 (fun _=>true) true n 127 cs=some y):∃ a:Stp,LRel (cW W) (stpC a) cs:=by
 obtain ⟨xs,n,_,_,hl,hlen,hf⟩:=DataW.trod_struct Tryz.underlying127 h
 have hc:Tryz.prog.cellsOf 127=2:=by kernel_rfl
 have hc3:Tryz.prog.cellsOf 3=1:=by kernel_rfl
 have hc4:Tryz.prog.cellsOf 4=1:=by kernel_rfl
 rw [hc] at hl
 match cs,hl with
 | [a0,a1],_ =>
  match xs,hlen with
  | [y0,y1],_ =>
   have h0:DataW.trod enc Tryz.prog W 0 (fun _=>true) true n 3 (([a0,a1].drop 0).take (Tryz.prog.cellsOf 3))=some y0:=hf 0 _ rfl
   rw [hc3] at h0
   have h1:DataW.trod enc Tryz.prog W 0 (fun _=>true) true n 4 (([a0,a1].drop 1).take (Tryz.prog.cellsOf 4))=some y1:=hf 1 _ rfl
   rw [hc4] at h1
   obtain ⟨p0,rfl,_⟩:=av_int h0
   obtain ⟨p1,rfl,_⟩:=av_bool h1
   exact ⟨⟨p0,p1⟩,(LRel.cons (.int _ _) (LRel.cons (.bool _) (LRel.nil _)))⟩
end
theorem cells_lone {v:Value} (h:∀ cs,v ≠ .agg cs):v.cells.toList=[v]:=by
 cases v <;> first | rfl | exact absurd rfl (h _)
section
variable {H:Type} {enc:TypeId × Value→H} {W:World} {base:Nat}
theorem av_stepsA {v:Value} {d:DataW H} {ps:List MemPlace} (h:DataW.Trod enc Tryz.prog W 0 (fun _=>true) true 117 v d ps) (hw:∀ n∈d.weights Tryz.prog 117,n≤reachBytes) (hok:Value.okWide Tryz.prog W .any base 117 v) :
  ∃ l:List Stp,VRel (cW W) (.slice (l.flatMap stpC) l.length .unk) v∧okL l.length:=by
 obtain ⟨fuel,h⟩:=h
 simp only [Value.okWide,Tryz.underlying117] at hok
 rw [cells_lone (fun cs e=>by subst e;simp [Tryz.underlying117,Cell.okWide,Cell.ok] at hok)] at h
 exact av_rows (z:=2) (by':=16) (⟨0,false⟩:Stp) stpC (fun _=>rfl) Tryz.underlying117 (by kernel_rfl) (by kernel_rfl) (by decide) (fun h=>av_step h) h hw hok
theorem av_survey {v:Value} {d:DataW H} {ps:List MemPlace} (h:DataW.Trod enc Tryz.prog W 0 (fun _=>true) true 24 v d ps) (hw:∀ n∈d.weights Tryz.prog 24,n≤reachBytes) (hok:Value.okWide Tryz.prog W .any base 24 v) :
  ∃ s:Survey,VRel (cW W) (surA s) v∧okL s.sights.length:=by
 obtain ⟨fuel,h⟩:=h
 simp only [Value.okWide,Tryz.underlying24] at hok
 obtain ⟨cs,rfl,hsz,ts,hts,_,hrow⟩:=hok
 have hc:Tryz.prog.cellsOf 24=2:=by kernel_rfl
 rw [hc] at hsz
 obtain ⟨c0,c1,rfl⟩:∃ c0 c1,cs=#[c0,c1]:=by
  obtain ⟨l⟩:=cs
  match l,hsz with
  | [c0,c1],_=>exact ⟨c0,c1,rfl⟩
 have hts':Go.Program.cellTypes Tryz.prog Tryz.prog.depth 24=some [3,22]:=by kernel_rfl
 rw [hts'] at hts
 cases hts
 have k1:Cell.okWide Tryz.prog W .any base 22 c1:=by
  obtain ⟨u,e,hu⟩:=hrow 1 c1 rfl
  cases e;exact hu
 obtain ⟨xs,n,_,hd,hl,hlen,hf⟩:=DataW.trod_struct Tryz.underlying24 h
 have hc3:Tryz.prog.cellsOf 3=1:=by kernel_rfl
 have hc22:Tryz.prog.cellsOf 22=1:=by kernel_rfl
 match xs,hlen with
 | [y0,y1],_ =>
  have h0:DataW.trod enc Tryz.prog W 0 (fun _=>true) true n 3 (([c0,c1].drop 0).take (Tryz.prog.cellsOf 3))=some y0:=hf 0 _ rfl
  have h1:DataW.trod enc Tryz.prog W 0 (fun _=>true) true n 22 (([c0,c1].drop 1).take (Tryz.prog.cellsOf 22))=some y1:=hf 1 _ rfl
  rw [hc3] at h0
  rw [hc22] at h1
  cases hd
  have hw':∀ (j:Nat) (t:TypeId) (d:DataW H),[3,22][j]? = some t→[y0.1,y1.1][j]? = some d → ∀ n∈d.weights Tryz.prog t,n≤reachBytes:=fun j t d ht hd n hn=>by
   refine hw n ?_
   simp only [DataW.weights,Tryz.underlying24]
   exact DataW.weights_mem_each (ts:=[3,22]) ht hd n hn
  obtain ⟨p,rfl,_⟩:=av_int h0
  obtain ⟨g,hg,og⟩:=av_rows (z:=4) (by':=32) (⟨0,0,0,0⟩:Sight) sgtC (fun _=>rfl) Tryz.underlying22 (by kernel_rfl) (by kernel_rfl) (by decide) (fun h=>av_sight h) h1 (hw' 1 _ _ rfl rfl) k1
  refine ⟨⟨p,g⟩,VRel.mk_agg ?_,og⟩
  exact LRel.cons (.int _ _) (LRel.cons hg (LRel.nil _))
end
end Go.Av.Lx
end
section
namespace Go.Proofs.YtclmbbofpaecaaaGreatDoor
open Go Go.Av Go.ChangeShapes Go.WideShapes Go.ChangeAt Go.RowKit
set_option maxRecDepth 100000
theorem own:ownKnob Tryz.prog.godebug=none:=by kernel_rfl
theorem laidOut:laidOutB Tryz.prog=true:=by kernel_rfl
def tabs:List (String × DataW Unit):=[("math/bits.deBruijn32tab", Rows.laid_math_bits_deBruijn32tab),("math/bits.deBruijn64tab", Rows.laid_math_bits_deBruijn64tab),("internal/strconv.uint64pow10", Rows.laid_internal_strconv_uint64pow10),("unicode/utf8.acceptRanges", Rows.laid_unicode_utf8_acceptRanges),("unicode/utf8.first", Rows.laid_unicode_utf8_first)]
theorem pow_data:(Rows.laid_internal_strconv_uint64pow10:DataW Unit)=Lib.tabData .u64 Lib.pow10Tab:=by kernel_rfl
theorem pow_name:Tryz.prog.globalNamed "internal/strconv.uint64pow10" = some 0:=by kernel_rfl
theorem pow_type:(Tryz.prog.globals[0]?).map (·.type)=some 266:=by kernel_rfl
theorem tab_ok {W:World} (h:laidMetH Tryz.prog tabs W):Go.Av.Lx.TabOk W:=by
 rw [MakeChecks.laidMetH_plain _ _ _ (by kernel_rfl)] at h
 obtain ⟨ps,⟨_,_,_,_,_,_,_,_,_,_,⟨_,_,_,_,_,_,_,_,_,_,⟨g,t,cs,fuel,p,q,hg,ht,hv,hd,_,_⟩,_⟩,_⟩,_,_⟩:=h
 obtain rfl:=Option.some.inj (pow_name.symm.trans hg)
 obtain rfl:=Option.some.inj (pow_type.symm.trans ht)
 rw [pow_data] at hd
 have hcs:=Lib.cells_of_tab (P:=Tryz.prog) (t:=266) (e:=245) (n:=20) (k:=.u64) (by kernel_rfl) (by kernel_rfl) (by kernel_rfl) (by kernel_rfl) hd
 have hlen:Lib.pow10Tab.length=20:=by simp [Lib.pow10Tab]
 have hTab:Lib.TabIs Tryz.prog W "internal/strconv.uint64pow10" .u64 Lib.pow10Tab:=by
  unfold Lib.TabIs
  rw [hv,← hcs]
 refine ⟨fun i hi => ?_, ?_⟩
 ·have:=hTab.cell pow_name i (by rw [hlen];exact hi)
  rw [show (Lib.pow10Tab.getD i 0:Int)=((10 ^ i:Nat):Int) by
   unfold Lib.pow10Tab
   rw [zG,qF,qN hi];rfl] at this
  exact this
 ·unfold World.var? at hv
  rw [pow_name,yD] at hv
  split at hv
  ·rename_i cs' t' fr e
   cases hv
   refine ⟨t', ?_⟩
   unfold World.shape?
   show (match W.heap[0]? with
    | some (.cells c elem _)=>some (elem,c.size)
    | _=>none)=_
   rw [e]
   have:cs.size=20:=by
    have:=congrArg List.length hcs
    simpa [hlen] using this
   simp [this]
  ·cases hv
def initS:String := "harness 6d35de1e401f8de53127ac5c61a8cef0ec1bad88697796d15747f2a67ee9c756 cut at quinaria/quinarialaw01.LevelBounds quinaria/quinarialaw01.LevelErrors quinaria/quinarialaw01.LevelFalls quinaria/quinarialaw01.LevelMeets quinaria/quinarialaw01.LevelTakes quinaria/quinarialaw01.LevelDrops quinaria/quinarialaw01.LevelMore quinaria/quinarialaw01.LevelEven quinaria/quinarialaw01.LevelNarrow quinaria/quinarialaw01.LevelPrints quinaria/quinarialaw01.LevelReads quinaria/quinarialaw01.LevelSpoilt quinaria/quinarialaw01.LevelLowest quinaria/quinarialaw01.LevelSurely quinaria/quinarialaw01.LevelHeads quinaria/quinarialaw01.LevelTrue quinaria/quinarialaw01.LevelRings quinaria/quinarialaw01.LevelFits quinaria/quinarialaw01.LevelFewest quinaria/quinarialaw01.LevelClosed"
def initL:List Char:=[.ofNat 104,.ofNat 97,.ofNat 114,.ofNat 110,.ofNat 101,.ofNat 115,.ofNat 115,.ofNat 32,.ofNat 54,.ofNat 100,.ofNat 51,.ofNat 53,.ofNat 100,.ofNat 101,.ofNat 49,.ofNat 101,.ofNat 52,.ofNat 48,.ofNat 49,.ofNat 102,.ofNat 56,.ofNat 100,.ofNat 101,.ofNat 53,.ofNat 51,.ofNat 49,.ofNat 50,.ofNat 55,.ofNat 97,.ofNat 99,.ofNat 53,.ofNat 99,.ofNat 54,.ofNat 49,.ofNat 97,.ofNat 56,.ofNat 99,.ofNat 101,.ofNat 102,.ofNat 48,.ofNat 101,.ofNat 99,.ofNat 49,.ofNat 98,.ofNat 97,.ofNat 100,.ofNat 56,.ofNat 56,.ofNat 54,.ofNat 57,.ofNat 55,.ofNat 55,.ofNat 57,.ofNat 54,.ofNat 100,.ofNat 49,.ofNat 53,.ofNat 55,.ofNat 52,.ofNat 55,.ofNat 102,.ofNat 50,.ofNat 97,.ofNat 54,.ofNat 55,.ofNat 101,.ofNat 101,.ofNat 57,.ofNat 99,.ofNat 55,.ofNat 53,.ofNat 54,.ofNat 32,.ofNat 99,.ofNat 117,.ofNat 116,.ofNat 32,.ofNat 97,.ofNat 116,.ofNat 32,.ofNat 113,.ofNat 117,.ofNat 105,.ofNat 110,.ofNat 97,.ofNat 114,.ofNat 105,.ofNat 97,.ofNat 47,.ofNat 113,.ofNat 117,.ofNat 105,.ofNat 110,.ofNat 97,.ofNat 114,.ofNat 105,.ofNat 97,.ofNat 108,.ofNat 97,.ofNat 119,.ofNat 48,.ofNat 49,.ofNat 46,.ofNat 76,.ofNat 101,.ofNat 118,.ofNat 101,.ofNat 108,.ofNat 66,.ofNat 111,.ofNat 117,.ofNat 110,.ofNat 100,.ofNat 115,.ofNat 32,.ofNat 113,.ofNat 117,.ofNat 105,.ofNat 110,.ofNat 97,.ofNat 114,.ofNat 105,.ofNat 97,.ofNat 47,.ofNat 113,.ofNat 117,.ofNat 105,.ofNat 110,.ofNat 97,.ofNat 114,.ofNat 105,.ofNat 97,.ofNat 108,.ofNat 97,.ofNat 119,.ofNat 48,.ofNat 49,.ofNat 46,.ofNat 76,.ofNat 101,.ofNat 118,.ofNat 101,.ofNat 108,.ofNat 69,.ofNat 114,.ofNat 114,.ofNat 111,.ofNat 114,.ofNat 115,.ofNat 32,.ofNat 113,.ofNat 117,.ofNat 105,.ofNat 110,.ofNat 97,.ofNat 114,.ofNat 105,.ofNat 97,.ofNat 47,.ofNat 113,.ofNat 117,.ofNat 105,.ofNat 110,.ofNat 97,.ofNat 114,.ofNat 105,.ofNat 97,.ofNat 108,.ofNat 97,.ofNat 119,.ofNat 48,.ofNat 49,.ofNat 46,.ofNat 76,.ofNat 101,.ofNat 118,.ofNat 101,.ofNat 108,.ofNat 70,.ofNat 97,.ofNat 108,.ofNat 108,.ofNat 115,.ofNat 32,.ofNat 113,.ofNat 117,.ofNat 105,.ofNat 110,.ofNat 97,.ofNat 114,.ofNat 105,.ofNat 97,.ofNat 47,.ofNat 113,.ofNat 117,.ofNat 105,.ofNat 110,.ofNat 97,.ofNat 114,.ofNat 105,.ofNat 97,.ofNat 108,.ofNat 97,.ofNat 119,.ofNat 48,.ofNat 49,.ofNat 46,.ofNat 76,.ofNat 101,.ofNat 118,.ofNat 101,.ofNat 108,.ofNat 77,.ofNat 101,.ofNat 101,.ofNat 116,.ofNat 115,.ofNat 32,.ofNat 113,.ofNat 117,.ofNat 105,.ofNat 110,.ofNat 97,.ofNat 114,.ofNat 105,.ofNat 97,.ofNat 47,.ofNat 113,.ofNat 117,.ofNat 105,.ofNat 110,.ofNat 97,.ofNat 114,.ofNat 105,.ofNat 97,.ofNat 108,.ofNat 97,.ofNat 119,.ofNat 48,.ofNat 49,.ofNat 46,.ofNat 76,.ofNat 101,.ofNat 118,.ofNat 101,.ofNat 108,.ofNat 84,.ofNat 97,.ofNat 107,.ofNat 101,.ofNat 115,.ofNat 32,.ofNat 113,.ofNat 117,.ofNat 105,.ofNat 110,.ofNat 97,.ofNat 114,.ofNat 105,.ofNat 97,.ofNat 47,.ofNat 113,.ofNat 117,.ofNat 105,.ofNat 110,.ofNat 97,.ofNat 114,.ofNat 105,.ofNat 97,.ofNat 108,.ofNat 97,.ofNat 119,.ofNat 48,.ofNat 49,.ofNat 46,.ofNat 76,.ofNat 101,.ofNat 118,.ofNat 101,.ofNat 108,.ofNat 68,.ofNat 114,.ofNat 111,.ofNat 112,.ofNat 115,.ofNat 32,.ofNat 113,.ofNat 117,.ofNat 105,.ofNat 110,.ofNat 97,.ofNat 114,.ofNat 105,.ofNat 97,.ofNat 47,.ofNat 113,.ofNat 117,.ofNat 105,.ofNat 110,.ofNat 97,.ofNat 114,.ofNat 105,.ofNat 97,.ofNat 108,.ofNat 97,.ofNat 119,.ofNat 48,.ofNat 49,.ofNat 46,.ofNat 76,.ofNat 101,.ofNat 118,.ofNat 101,.ofNat 108,.ofNat 77,.ofNat 111,.ofNat 114,.ofNat 101,.ofNat 32,.ofNat 113,.ofNat 117,.ofNat 105,.ofNat 110,.ofNat 97,.ofNat 114,.ofNat 105,.ofNat 97,.ofNat 47,.ofNat 113,.ofNat 117,.ofNat 105,.ofNat 110,.ofNat 97,.ofNat 114,.ofNat 105,.ofNat 97,.ofNat 108,.ofNat 97,.ofNat 119,.ofNat 48,.ofNat 49,.ofNat 46,.ofNat 76,.ofNat 101,.ofNat 118,.ofNat 101,.ofNat 108,.ofNat 69,.ofNat 118,.ofNat 101,.ofNat 110,.ofNat 32,.ofNat 113,.ofNat 117,.ofNat 105,.ofNat 110,.ofNat 97,.ofNat 114,.ofNat 105,.ofNat 97,.ofNat 47,.ofNat 113,.ofNat 117,.ofNat 105,.ofNat 110,.ofNat 97,.ofNat 114,.ofNat 105,.ofNat 97,.ofNat 108,.ofNat 97,.ofNat 119,.ofNat 48,.ofNat 49,.ofNat 46,.ofNat 76,.ofNat 101,.ofNat 118,.ofNat 101,.ofNat 108,.ofNat 78,.ofNat 97,.ofNat 114,.ofNat 114,.ofNat 111,.ofNat 119,.ofNat 32,.ofNat 113,.ofNat 117,.ofNat 105,.ofNat 110,.ofNat 97,.ofNat 114,.ofNat 105,.ofNat 97,.ofNat 47,.ofNat 113,.ofNat 117,.ofNat 105,.ofNat 110,.ofNat 97,.ofNat 114,.ofNat 105,.ofNat 97,.ofNat 108,.ofNat 97,.ofNat 119,.ofNat 48,.ofNat 49,.ofNat 46,.ofNat 76,.ofNat 101,.ofNat 118,.ofNat 101,.ofNat 108,.ofNat 80,.ofNat 114,.ofNat 105,.ofNat 110,.ofNat 116,.ofNat 115,.ofNat 32,.ofNat 113,.ofNat 117,.ofNat 105,.ofNat 110,.ofNat 97,.ofNat 114,.ofNat 105,.ofNat 97,.ofNat 47,.ofNat 113,.ofNat 117,.ofNat 105,.ofNat 110,.ofNat 97,.ofNat 114,.ofNat 105,.ofNat 97,.ofNat 108,.ofNat 97,.ofNat 119,.ofNat 48,.ofNat 49,.ofNat 46,.ofNat 76,.ofNat 101,.ofNat 118,.ofNat 101,.ofNat 108,.ofNat 82,.ofNat 101,.ofNat 97,.ofNat 100,.ofNat 115,.ofNat 32,.ofNat 113,.ofNat 117,.ofNat 105,.ofNat 110,.ofNat 97,.ofNat 114,.ofNat 105,.ofNat 97,.ofNat 47,.ofNat 113,.ofNat 117,.ofNat 105,.ofNat 110,.ofNat 97,.ofNat 114,.ofNat 105,.ofNat 97,.ofNat 108,.ofNat 97,.ofNat 119,.ofNat 48,.ofNat 49,.ofNat 46,.ofNat 76,.ofNat 101,.ofNat 118,.ofNat 101,.ofNat 108,.ofNat 83,.ofNat 112,.ofNat 111,.ofNat 105,.ofNat 108,.ofNat 116,.ofNat 32,.ofNat 113,.ofNat 117,.ofNat 105,.ofNat 110,.ofNat 97,.ofNat 114,.ofNat 105,.ofNat 97,.ofNat 47,.ofNat 113,.ofNat 117,.ofNat 105,.ofNat 110,.ofNat 97,.ofNat 114,.ofNat 105,.ofNat 97,.ofNat 108,.ofNat 97,.ofNat 119,.ofNat 48,.ofNat 49,.ofNat 46,.ofNat 76,.ofNat 101,.ofNat 118,.ofNat 101,.ofNat 108,.ofNat 76,.ofNat 111,.ofNat 119,.ofNat 101,.ofNat 115,.ofNat 116,.ofNat 32,.ofNat 113,.ofNat 117,.ofNat 105,.ofNat 110,.ofNat 97,.ofNat 114,.ofNat 105,.ofNat 97,.ofNat 47,.ofNat 113,.ofNat 117,.ofNat 105,.ofNat 110,.ofNat 97,.ofNat 114,.ofNat 105,.ofNat 97,.ofNat 108,.ofNat 97,.ofNat 119,.ofNat 48,.ofNat 49,.ofNat 46,.ofNat 76,.ofNat 101,.ofNat 118,.ofNat 101,.ofNat 108,.ofNat 83,.ofNat 117,.ofNat 114,.ofNat 101,.ofNat 108,.ofNat 121,.ofNat 32,.ofNat 113,.ofNat 117,.ofNat 105,.ofNat 110,.ofNat 97,.ofNat 114,.ofNat 105,.ofNat 97,.ofNat 47,.ofNat 113,.ofNat 117,.ofNat 105,.ofNat 110,.ofNat 97,.ofNat 114,.ofNat 105,.ofNat 97,.ofNat 108,.ofNat 97,.ofNat 119,.ofNat 48,.ofNat 49,.ofNat 46,.ofNat 76,.ofNat 101,.ofNat 118,.ofNat 101,.ofNat 108,.ofNat 72,.ofNat 101,.ofNat 97,.ofNat 100,.ofNat 115,.ofNat 32,.ofNat 113,.ofNat 117,.ofNat 105,.ofNat 110,.ofNat 97,.ofNat 114,.ofNat 105,.ofNat 97,.ofNat 47,.ofNat 113,.ofNat 117,.ofNat 105,.ofNat 110,.ofNat 97,.ofNat 114,.ofNat 105,.ofNat 97,.ofNat 108,.ofNat 97,.ofNat 119,.ofNat 48,.ofNat 49,.ofNat 46,.ofNat 76,.ofNat 101,.ofNat 118,.ofNat 101,.ofNat 108,.ofNat 84,.ofNat 114,.ofNat 117,.ofNat 101,.ofNat 32,.ofNat 113,.ofNat 117,.ofNat 105,.ofNat 110,.ofNat 97,.ofNat 114,.ofNat 105,.ofNat 97,.ofNat 47,.ofNat 113,.ofNat 117,.ofNat 105,.ofNat 110,.ofNat 97,.ofNat 114,.ofNat 105,.ofNat 97,.ofNat 108,.ofNat 97,.ofNat 119,.ofNat 48,.ofNat 49,.ofNat 46,.ofNat 76,.ofNat 101,.ofNat 118,.ofNat 101,.ofNat 108,.ofNat 82,.ofNat 105,.ofNat 110,.ofNat 103,.ofNat 115,.ofNat 32,.ofNat 113,.ofNat 117,.ofNat 105,.ofNat 110,.ofNat 97,.ofNat 114,.ofNat 105,.ofNat 97,.ofNat 47,.ofNat 113,.ofNat 117,.ofNat 105,.ofNat 110,.ofNat 97,.ofNat 114,.ofNat 105,.ofNat 97,.ofNat 108,.ofNat 97,.ofNat 119,.ofNat 48,.ofNat 49,.ofNat 46,.ofNat 76,.ofNat 101,.ofNat 118,.ofNat 101,.ofNat 108,.ofNat 70,.ofNat 105,.ofNat 116,.ofNat 115,.ofNat 32,.ofNat 113,.ofNat 117,.ofNat 105,.ofNat 110,.ofNat 97,.ofNat 114,.ofNat 105,.ofNat 97,.ofNat 47,.ofNat 113,.ofNat 117,.ofNat 105,.ofNat 110,.ofNat 97,.ofNat 114,.ofNat 105,.ofNat 97,.ofNat 108,.ofNat 97,.ofNat 119,.ofNat 48,.ofNat 49,.ofNat 46,.ofNat 76,.ofNat 101,.ofNat 118,.ofNat 101,.ofNat 108,.ofNat 70,.ofNat 101,.ofNat 119,.ofNat 101,.ofNat 115,.ofNat 116,.ofNat 32,.ofNat 113,.ofNat 117,.ofNat 105,.ofNat 110,.ofNat 97,.ofNat 114,.ofNat 105,.ofNat 97,.ofNat 47,.ofNat 113,.ofNat 117,.ofNat 105,.ofNat 110,.ofNat 97,.ofNat 114,.ofNat 105,.ofNat 97,.ofNat 108,.ofNat 97,.ofNat 119,.ofNat 48,.ofNat 49,.ofNat 46,.ofNat 76,.ofNat 101,.ofNat 118,.ofNat 101,.ofNat 108,.ofNat 67,.ofNat 108,.ofNat 111,.ofNat 115,.ofNat 101,.ofNat 100]
theorem init_eq:Tryz.prog.initOrder=initS:=by kernel_rfl
theorem init_lit:initS=String.ofList initL:=by kernel_rfl
theorem init_list:Tryz.prog.initOrder.toList=initL:=by rw [init_eq,init_lit,String.toList_ofList]
def initW:List (List Char):=(behindMainWord (wordsSigns initL)).tail
theorem words_eq:behindMainWord (wordsSigns initL) = "cut".toList :: initW:=by kernel_rfl
theorem words_of:behindMainWord (wordsSigns Tryz.prog.initOrder.toList) = "cut".toList :: initW:=by rw [init_list,words_eq]
theorem strip_cut (W:List (List Char)):stripLifts liftWords ("cut".toList :: W)=([], "cut".toList :: W):=by
 have h:(liftWords.all fun o => !("cut".toList == o.toList))=true:=by decide
 have key:∀ l:List String,(l.all fun o => !("cut".toList == o.toList))=true→stripLifts l ("cut".toList :: W)=([], "cut".toList :: W):=by
  intro l
  induction l with
  | nil=>intro _;rfl
  | cons o l ih =>
   intro h
   rw [zK,zU,yR] at h
   unfold stripLifts
   rw [h.1,if_neg (by decide),ih h.2]
 exact key _ h
theorem head_of {P:Program} {W:List (List Char)} (h:behindMainWord (wordsSigns P.initOrder.toList) = "cut".toList :: W):P.headLifts=[]:=by
 unfold Program.headLifts
 rw [h,strip_cut]
 simp
theorem enter_of {P:Program} {W:List (List Char)} (h:behindMainWord (wordsSigns P.initOrder.toList) = "cut".toList :: W) (h1:P.laysLater=false) (h2:P.bearsReflect=false) (h3:P.doorFits []=true):P.mayEnter=true:=by
 unfold Program.mayEnter
 rw [h]
 simp only []
 rw [strip_cut,h1,h2,h3]
 simp
theorem lifts_of {P:Program} {W:List (List Char)} (h:behindMainWord (wordsSigns P.initOrder.toList) = "cut".toList :: W):P.liftsFinal=false:=by
 unfold Program.liftsFinal
 rw [h,head_of h]
 simp
theorem make_of {P:Program} {W:List (List Char)} (h:behindMainWord (wordsSigns P.initOrder.toList) = "cut".toList :: W):P.make=some .cut:=by
 unfold Program.make
 rw [h]
 simp
theorem enter_eq:Tryz.prog.mayEnter=true:=enter_of words_of (by kernel_rfl) (by kernel_rfl) (by kernel_rfl)
theorem lifts_eq:Tryz.prog.liftsFinal=false:=lifts_of words_of
theorem make_eq:Tryz.prog.make=some .cut:=make_of words_of
theorem rowed_eq:mapsRowed Tryz.prog=true:=by kernel_rfl
theorem heard_eq:Tryz.prog.stopsHeard=true:=by kernel_rfl
end Go.Proofs.YtclmbbofpaecaaaGreatDoor
end
