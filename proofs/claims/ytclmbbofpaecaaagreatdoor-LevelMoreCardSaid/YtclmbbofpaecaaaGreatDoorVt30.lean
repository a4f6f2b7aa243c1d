/- Part 30 of the proof. -/
import Derived.Test.YtclmbbofpaecaaaGreatDoorVt27
import Derived.Test.YtclmbbofpaecaaaGreatDoorVt28
import Derived.Test.YtclmbbofpaecaaaGreatDoorVt29
import Derived.Test.YtclmbbofpaecaaaGreatDoorVt21
import Derived.Test.YtclmbbofpaecaaaGreatDoorVt22
import Derived.Test.YtclmbbofpaecaaaGreatDoorVt19
import Derived.Test.YtclmbbofpaecaaaGreatDoorVt20
import Derived.Test.YtclmbbofpaecaaaGreatDoorVt24
import Derived.Test.YtclmbbofpaecaaaGreatDoorVt18
set_option linter.all false
set_option linter.unusedVariables false
set_option linter.unusedSimpArgs false
set_option linter.unusedSectionVars false
open Bool renaming and_self → zJ, not_true → zX, not_false → qF
open List renaming getElem?_eq_getElem → zF, set_cons_succ → zG, set_cons_zero → zH, getD_eq_getElem?_getD → zI, all_cons → zK, all_nil → zM, length_cons → zS, getElem_mem → zW, length_nil → qB, length_append → qD, take_succ_eq_append_getElem → qG, getElem?_map → qK, not_mem_nil → qY, take_length → yC, mem_cons → yD, mem_singleton → yP
open Nat renaming reduceLeDiff → zA, reduceEqDiff → zB, reduceAdd → zC, reduceBEq → zD, le_of_ble_eq_true → zE, le_refl → zN, zero_le → qH
open Option renaming map_some → zY
section
set_option maxRecDepth 100000
set_option maxHeartbeats 16000000
namespace Go.Av.Lx
open Go Go.Av Go.Av.Tb Go.Av.Fx Go.Proofs
open Go.Lv (Sight Survey Sw Sv SightOk Leg Tun Try Stp withS)
theorem ex_Ring:RingA surT=.tuple [stpsA [⟨0,false⟩,⟨1,false⟩,⟨2,false⟩,⟨3,true⟩],.int .i64 0]:=by
 unfold RingA
 rw [ex_ok,if_pos rfl,ex_poss,if_neg (by decide),ex_ring]
theorem ex_read:readA exB=.tuple [surA surX,.int .i64 0]:=by
 unfold readA
 rw [if_pos (by decide),ex_parsed]
 simp only [ex_xok,if_true]
theorem zBf:PC Tryz.prog 24 [] (.pure (.bool true)):=by
 refine PC.of_empty (AC.run (E_ok 223) mix Tryz.func24 m24 rfl rfl rfl (zE rfl) ?_) rfl rfl
 have oS:okL surS.sights.length:=by decide
 have oT:okL surT.sights.length:=by decide
 have oU:okL surU.sights.length:=by decide
 have q1:=zDd surS oS 0 2
 rw [ex_bounds] at q1
 have q2:=Heights_pc surS oS
 rw [ex_heights] at q2
 have q3:=Ring_pc surT oT
 rw [ex_Ring] at q3
 have q4:=Least_pc surT oT
 rw [ex_least] at q4
 have q5:=Falls_pc surS oS ⟨1,2,2⟩ 2 3
 rw [ex_falls] at q5
 have q6:=Carries_pc surS oS [⟨1,2,2⟩,⟨2,1,1⟩] (by decide) 0 3
 rw [ex_carries] at q6
 have q7:=Meets_pc surS oS ⟨3,0,5,3,1⟩
 rw [ex_meets] at q7
 have q8:=Drives_pc surS oS ⟨3,0,5,3,1⟩
 rw [ex_drives] at q8
 have q9:=Takes_pc surS oS 0 2 [⟨0,2,2⟩,⟨1,2,0⟩] (by decide)
 rw [ex_takes] at q9
 have q10:=Drops_pc surU oU
 rw [ex_drops] at q10
 have q11:=Blames_pc surU oU
 rw [ex_blames] at q11
 have q12:=Read_pc exB (by decide)
 rw [ex_read] at q12
 have q13:=rPrint_pc surX (small_plain (parsed_small ex_parsed) (by decide))
 rw [ex_text] at q13
 have b1:buildA T 61 [(0,.int .i64 1),(1,.int .i64 2),(2,.int .i64 2)]=some (.agg (legC ⟨1,2,2⟩)):=rfl
 have b2:buildA T 61 [(0,.int .i64 2),(1,.int .i64 1),(2,.int .i64 1)]=some (.agg (legC ⟨2,1,1⟩)):=rfl
 have b3:zAe T 54 2 [(0,.agg (legC ⟨1,2,2⟩)),(1,.agg (legC ⟨2,1,1⟩))]=some (.slice (legsC [⟨1,2,2⟩,⟨2,1,1⟩]) [(⟨1,2,2⟩:Leg),⟨2,1,1⟩].length .exact):=rfl
 have b4:buildA T 68 [(0,.int .i64 3),(1,.int .i64 0),(2,.int .i64 5),(3,.int .i64 3),(4,.int .i64 1)]=some (.agg (tunC ⟨3,0,5,3,1⟩)):=rfl
 have b5:buildA T 95 [(0,.int .i64 0),(1,.int .i64 2),(2,.int .i64 2)]=some (.agg (tryC ⟨0,2,2⟩)):=rfl
 have b6:buildA T 95 [(0,.int .i64 1),(1,.int .i64 2)]=some (.agg (tryC ⟨1,2,0⟩)):=rfl
 have b7:zAe T 76 2 [(0,.agg (tryC ⟨0,2,2⟩)),(1,.agg (tryC ⟨1,2,0⟩))]=some (.slice (triesC [⟨0,2,2⟩,⟨1,2,0⟩]) [(⟨0,2,2⟩:Try),⟨1,2,0⟩].length .exact):=rfl
 have b8:buildA T 28 [(0,.int .i64 5),(1,.int .i64 9)]=some (.agg [.int .i64 5,.int .i64 9]):=rfl
 have b9:buildA T 28 [(0,.int .i64 (-7)),(1,.int .i64 7)]=some (.agg [.int .i64 (-7),.int .i64 7]):=rfl
 have b10:buildA T 49 [(0,.int .i64 7),(1,.int .i64 4)]=some (.agg [.int .i64 7,.int .i64 4]):=rfl
 have b11:∀ n,buildA T 127 [(0,.int .i64 n)]=some (.agg (stpC ⟨n,false⟩)):=fun n=>rfl
 have b12:∀ n,buildA T 127 [(0,.int .i64 n),(1,.bool true)]=some (.agg (stpC ⟨n,true⟩)):=fun n=>rfl
 have b13:zAe T 117 4 [(0,.agg (stpC ⟨0,false⟩)),(1,.agg (stpC ⟨1,false⟩)),(2,.agg (stpC ⟨2,false⟩)),(3,.agg (stpC ⟨3,true⟩))]=some (.slice (stpsC [⟨0,false⟩,⟨1,false⟩,⟨2,false⟩,⟨3,true⟩]) [(⟨0,false⟩:Stp),⟨1,false⟩,⟨2,false⟩,⟨3,true⟩].length .exact):=rfl
 have b14:∀ a b c d:Int,zAe T 32 4 [(0,.int .i64 a),(1,.int .i64 b),(2,.int .i64 c),(3,.int .i64 d)]=some (.slice (ints [a,b,c,d]) [a,b,c,d].length .exact):=fun a b c d=>rfl
 have b15:zAe T 32 3 [(0,.int .i64 1),(1,.int .i64 2),(2,.int .i64 3)]=some (.slice (ints [1,2,3]) [(1:Int),2,3].length .exact):=rfl
 have b16:zAe T 32 1 [(0,.int .i64 1)]=some (.slice (ints [1]) [(1:Int)].length .exact):=rfl
 have n1:binA T .neq 28 (.agg [.int .i64 5,.int .i64 9]) (.agg [.int .i64 5,.int .i64 9])=some (.bool false):=rfl
 have n2:binA T .neq 28 (.agg [.int .i64 (-7),.int .i64 7]) (.agg [.int .i64 (-7),.int .i64 7])=some (.bool false):=rfl
 have n3:binA T .neq 49 (.agg [.int .i64 7,.int .i64 4]) (.agg [.int .i64 7,.int .i64 4])=some (.bool false):=rfl
 have z0:¬ ((0:Int)≠0):=by decide
 have z1:¬ ((1:Int)≠1):=by decide
 have z2:¬ ((2:Int)≠2):=by decide
 have z3:¬ ((3:Int)≠3):=by decide
 have z7:¬ ((7:Int)≠7):=by decide
 have y1:decide ((1:Int)=1)=true:=rfl
 have y2:decide ((2:Int)=2)=true:=rfl
 have z4:binA T .eql 9 (.str exB) (.str ⟨#[115,117,114,118,101,121,32,50,10,115,105,103,104,116,32,48,32,49,32,52,32,48,10,101,110,100,32,48,49,50,10]⟩)=some (.bool true):=(show binA T .eql 9 (.str exB) (.str exB)=some (.bool true) by rw [eqS,decide_eq_true rfl])
 simp only [go_sem,zB,zD,zC,reduceIte,reduceCtorEq,zA]
 refine cp n81 S_pc (SubL.refl _) ?_
 try simp only [go_sem,zB,zD,zC,reduceIte,reduceCtorEq,zA]
 refine cp n25 q1 (SubL.refl _) ?_
 simp only [go_sem,zAd,frA,zAc,AV.cells,AV.one,zK,zM,zJ,splice,zH,zG,and_self,zS,qB,zB,zD,zC,reduceIte,reduceCtorEq,zA]
 refine cp n81 S_pc (SubL.refl _) ?_
 try simp only [go_sem,zB,zD,zC,reduceIte,reduceCtorEq,zA]
 refine cp n26 q2 (SubL.refl _) ?_
 simp only [go_sem,zAd,frA,zAc,AV.cells,AV.one,zK,zM,zJ,splice,zH,zG,and_self,zS,qB,zB,zD,zC,reduceIte,reduceCtorEq,zA]
 refine cp n82 T_pc (SubL.refl _) ?_
 try simp only [go_sem,zB,zD,zC,reduceIte,reduceCtorEq,zA]
 refine cp n72 q3 (SubL.refl _) ?_
 simp only [go_sem,zAd,frA,zAc,AV.cells,AV.one,zK,zM,zJ,splice,zH,zG,and_self,zS,qB,zB,zD,zC,reduceIte,reduceCtorEq,zA]
 refine cp n82 T_pc (SubL.refl _) ?_
 try simp only [go_sem,zB,zD,zC,reduceIte,reduceCtorEq,zA]
 refine cp n32 q4 (SubL.refl _) ?_
 simp only [go_sem,zAd,frA,zAc,AV.cells,AV.one,zK,zM,zJ,splice,zH,zG,and_self,zS,qB,zB,zD,zC,reduceIte,reduceCtorEq,zA]
 refine cp n81 S_pc (SubL.refl _) ?_
 simp only [go_sem,b1,b2,b3,b4,b5,b6,b7,zB,zD,zC,reduceIte,reduceCtorEq,zA]
 refine cp n39 q5 (SubL.refl _) ?_
 simp only [go_sem,zAd,frA,zAc,AV.cells,AV.one,zK,zM,zJ,splice,zH,zG,and_self,zS,qB,zB,zD,zC,reduceIte,reduceCtorEq,zA]
 refine cp n81 S_pc (SubL.refl _) ?_
 simp only [go_sem,b1,b2,b3,b4,b5,b6,b7,zB,zD,zC,reduceIte,reduceCtorEq,zA]
 refine cp n35 q6 (SubL.cons (Sub.refl _) (SubL.cons (Sub.unk _ _ _) (SubL.refl _))) ?_
 simp only [go_sem,zAd,frA,zAc,AV.cells,AV.one,zK,zM,zJ,splice,zH,zG,and_self,zS,qB,zB,zD,zC,reduceIte,reduceCtorEq,zA]
 refine cp n81 S_pc (SubL.refl _) ?_
 simp only [go_sem,b1,b2,b3,b4,b5,b6,b7,zB,zD,zC,reduceIte,reduceCtorEq,zA]
 refine cp n42 q7 (SubL.refl _) ?_
 simp only [go_sem,zAd,frA,zAc,AV.cells,AV.one,zK,zM,zJ,splice,zH,zG,and_self,zS,qB,zB,zD,zC,reduceIte,reduceCtorEq,zA]
 refine cp n81 S_pc (SubL.refl _) ?_
 simp only [go_sem,b1,b2,b3,b4,b5,b6,b7,zB,zD,zC,reduceIte,reduceCtorEq,zA]
 refine cp n43 q8 (SubL.refl _) ?_
 simp only [go_sem,zAd,frA,zAc,AV.cells,AV.one,zK,zM,zJ,splice,zH,zG,and_self,zS,qB,zB,zD,zC,reduceIte,reduceCtorEq,zA]
 refine cp n81 S_pc (SubL.refl _) ?_
 simp only [go_sem,b1,b2,b3,b4,b5,b6,b7,zB,zD,zC,reduceIte,reduceCtorEq,zA]
 refine cp n47 q9 (SubL.cons (Sub.refl _) (SubL.cons (Sub.refl _) (SubL.cons (Sub.refl _) (SubL.cons (Sub.unk _ _ _) (SubL.refl _))))) ?_
 simp only [go_sem,zAd,frA,zAc,AV.cells,AV.one,zK,zM,zJ,splice,zH,zG,and_self,zS,qB,zB,zD,zC,reduceIte,reduceCtorEq,zA]
 refine cp n83 U_pc (SubL.refl _) ?_
 try simp only [go_sem,zB,zD,zC,reduceIte,reduceCtorEq,zA]
 refine cp n50 q10 (SubL.refl _) ?_
 simp only [go_sem,zAd,frA,zAc,AV.cells,AV.one,zK,zM,zJ,splice,zH,zG,and_self,zS,qB,zB,zD,zC,reduceIte,reduceCtorEq,zA]
 refine cp n83 U_pc (SubL.refl _) ?_
 try simp only [go_sem,zB,zD,zC,reduceIte,reduceCtorEq,zA]
 refine cp n51 q11 (SubL.refl _) ?_
 simp only [go_sem,zAd,zB,zD,zC,reduceIte,reduceCtorEq,zA]
 refine cp n60 q12 (SubL.refl _) ?_
 simp only [go_sem,zAd,z0,decide_false,zAc,AV.cells,AV.one,zK,zM,zJ,splice,zH,zG,and_self,zS,qB,b8,n1,b14,zB,zD,zC,reduceIte,reduceCtorEq,zA]
 refine cp n29 (Same_pc [0,9,5,13] [0,9,5,13] (by decide) (by decide)) (SubL.cons (Sub.refl _) (SubL.cons (Sub.unk _ _ _) (SubL.refl _))) ?_
 rw [decide_eq_true rfl]
 simp only [go_sem,zAj,zX,b14,zB,zD,zC,reduceIte,reduceCtorEq,zA]
 refine cp n29 (Same_pc [0,11,9,17] [0,11,9,17] (by decide) (by decide)) (SubL.cons (Sub.refl _) (SubL.cons (Sub.unk _ _ _) (SubL.refl _))) ?_
 rw [decide_eq_true rfl]
 simp only [go_sem,zAj,zX,b11,b12,b13,zB,zD,zC,reduceIte,reduceCtorEq,zA]
 refine cp n76 (SameSteps_pc [⟨0,false⟩,⟨1,false⟩,⟨2,false⟩,⟨3,true⟩] [⟨0,false⟩,⟨1,false⟩,⟨2,false⟩,⟨3,true⟩] (by decide) (by decide)) (SubL.cons (Sub.refl _) (SubL.cons (Sub.unk _ _ _) (SubL.refl _))) ?_
 rw [decide_eq_true rfl]
 simp only [go_sem,zAj,zX,b10,n3,b14,zB,zD,zC,reduceIte,reduceCtorEq,zA]
 refine cp n29 (Same_pc [0,47,38,73] [0,47,38,73] (by decide) (by decide)) (SubL.cons (Sub.refl _) (SubL.cons (Sub.unk _ _ _) (SubL.refl _))) ?_
 rw [decide_eq_true rfl]
 simp only [go_sem,zAj,zX,z1,z2,z3,z7,decide_false,decide_true,b9,n2,b16,zB,zD,zC,reduceIte,reduceCtorEq,zA]
 refine cp n29 (Same_pc [1] [1] (by decide) (by decide)) (SubL.cons (Sub.refl _) (SubL.cons (Sub.unk _ _ _) (SubL.refl _))) ?_
 rw [decide_eq_true rfl]
 simp only [go_sem,b15,zB,zD,zC,reduceIte,reduceCtorEq,zA]
 refine cp n29 (Same_pc [1,2,3] [1,2,3] (by decide) (by decide)) (SubL.cons (Sub.refl _) (SubL.cons (Sub.unk _ _ _) (SubL.refl _))) ?_
 rw [decide_eq_true rfl]
 simp only [go_sem,zB,zD,zC,reduceIte,reduceCtorEq,zA]
 refine cp n61 q13 (SubL.refl _) ?_
 simp only [go_sem,z4,Tryz.f24,zB,zD,zC,reduceIte,reduceCtorEq,zA]
end Go.Av.Lx
end
section
set_option maxHeartbeats 8000000
namespace Go.Av.Lx
open Go Go.Av Go.Av.Tb Go.Av.Fx Go.Proofs
open Go.Lv (Sight Survey Sw Sv SightOk errF)

end Go.Av.Lx
end
section
set_option maxHeartbeats 8000000
namespace Go.Av.Lx
open Go Go.Av Go.Av.Tb Go.Av.Fx Go.Proofs
open Go.Lv (Sight Survey Sw Sv SightOk possS)

end Go.Av.Lx
end
section
set_option maxHeartbeats 8000000
namespace Go.Av.Lx
open Go Go.Av Go.Av.Tb Go.Av.Fx Go.Proofs
open Go.Lv (Sight Survey Sw Sv SightOk possS)
open Go.Fw (Sq ent Bd Mat)

end Go.Av.Lx
end
section
set_option maxHeartbeats 8000000
namespace Go.Av.Lx
open Go Go.Av Go.Av.Tb Go.Av.Fx Go.Proofs
open Go.Lv (Sight Survey Sw Sv SightOk Leg LegOk RangeOk Tun TunOk Try TryOk Stp fallW meetL meetH bestAt driveF wideI)
open Go.Fw (Sq ent Bd Mat)

set_option maxHeartbeats 8000000

end Go.Av.Lx
end
section
set_option maxHeartbeats 8000000
namespace Go.Av.Lx
open Go Go.Av Go.Av.Tb Go.Av.Fx Go.Proofs
open Go.Lv (Sight Survey Sw Sv SightOk Leg LegOk RangeOk Tun TunOk Try TryOk Stp fallW carryW)
open Go.Fw (Sq ent Bd Mat)

end Go.Av.Lx
end
section
set_option maxHeartbeats 8000000
namespace Go.Av.Lx
open Go Go.Av Go.Av.Tb Go.Av.Fx Go.Proofs
open Go.Lv (Sight Survey Sw Sv SightOk bas)
open Go.Fw (Sq ent Bd Mat)
theorem ints_get {l:List Int} {i:Nat} (h:i<l.length):(ints l)[i]? = some (.int .i64 (l.getD i 0)):=by
 unfold ints
 rw [qK,zI,zF h]
 rfl
end Go.Av.Lx
end
section
set_option maxHeartbeats 8000000
namespace Go.Av.Lx
open Go Go.Av Go.Av.Tb Go.Av.Fx Go.Proofs
open Go.Lv (Sight Survey Sw Sv SightOk Leg LegOk RangeOk Tun TunOk Try TryOk Stp fallW carryW)
open Go.Fw (Sq ent Bd Mat)

end Go.Av.Lx
end
section
set_option maxHeartbeats 8000000
namespace Go.Av.Lx
open Go Go.Av Go.Av.Tb Go.Av.Fx Go.Proofs
open Go.Lv (Sight Survey Sw Sv SightOk withS possS)
open Go.Fw (Sq ent Bd Mat)
theorem neSpS (a b:Int):binA T .neq 28 (.agg [.int .i64 a,.int .i64 b]) (.agg [.int .i64 a,.int .i64 b])=some (.bool false):=by
 have e:∀ a b c d:Int,binA T .neq 28 (.agg [.int .i64 a,.int .i64 b]) (.agg [.int .i64 c,.int .i64 d])=(if (a == c)=true then (if (b == d)=true then some true else some false) else some false).map (AV.bool !·):=fun _ _ _ _=>rfl
 rw [e];simp
theorem zDf (s:Survey) (hv:Sv s) (i j:Int) (hi:0≤i∧i<s.stations) (hj:0≤j∧j<s.stations):boundsA s i j=(match Lv.knownV s with
  | some V=>if ent V i.toNat j.toNat<far then .tuple [spanA V i.toNat j.toNat,.int .i64 0] else .tuple [.agg [.int .i64 0,.int .i64 0],.int .i64 5]
  | none=>.tuple [.agg [.int .i64 0,.int .i64 0],.int .i64 7]):=by
 unfold boundsA
 rw [zDa.2 hv,(zBh hv.st).2 hi,(zBh hv.st).2 hj]
 cases Lv.knownV s <;> rfl
theorem span_eq {s:Survey} (h:Sw s) {V:Mat} (hV:Lv.knownV s=some V) {i j:Nat} (hi:i<Lv.num s) (hj:j<Lv.num s) (hf:ent V j i<far):spanA V i j=.agg [.int .i64 (-ent V j i),.int .i64 (ent V i j)]:=by
 have b:=Lv.known_bd h hV hj hi hf
 unfold spanA
 rw [wrap64 (by omega),show 0 - ent V j i = -ent V j i by omega]
end Go.Av.Lx
end
section
set_option maxHeartbeats 8000000
namespace Go.Av.Lx
open Go Go.Av Go.Av.Tb Go.Av.Fx Go.Proofs
open Go.Lv (Sight Survey Sw Sv SightOk withS possS Try TryOk worstW bestAt tried)
open Go.Fw (Sq ent Bd Mat)

end Go.Av.Lx
end
section
set_option maxHeartbeats 8000000
namespace Go.Av.Lx
open Go Go.Av Go.Av.Tb Go.Av.Fx Go.Proofs
open Go.Lv (Sight Survey Sw Sv SightOk possS bas evenH errF evenB)
open Go.Fw (Sq ent Bd Mat)

end Go.Av.Lx
end
section
set_option maxHeartbeats 2000000
namespace Go.Av.Lx
open Go Go.Av Go.Av.Tb Go.Av.Fx Go.Proofs
open Go.Lv (Sight Survey Sw Sv SightOk keepS zAl dropsS blamesS possS searchM shortM firstI dropM)
open Go.Fw (Sq ent Bd Mat)
theorem sgts_leaf (l:List Sight):(sgts l).all AV.leaf=true:=List.all_eq_true.2 fun v hv=>by
 obtain ⟨x,_,hx⟩:=List.mem_flatMap.1 hv
 unfold sgtC at hx
 simp only [yD,qY,or_false] at hx
 rcases hx with rfl | rfl | rfl | rfl <;> rfl
theorem mk2_own {a:AV} (ha:a.leaf=true) {l:List AV} {n:Nat} (c:Cx) (x:Value) (k:Nat) (h:VRel c (.agg [a,.slice l n (.tok k)]) x):∃ y,VRel c (.slice l n (.tok k)) y ∧ ∀ (c':Cx) (v':AV),VRel c' v' y→VRel c' (.agg [a,v']) x:=by
 obtain ⟨vs,rfl,hr⟩:=h.of_agg
 obtain ⟨v1,r1,e1,h1,hr⟩:=hr.tail
 obtain ⟨v2,r2,rfl,h2,hr⟩:=hr.tail
 have:r2=[]:=by have:=hr.1;cases r2 <;> simp_all
 subst this
 exact ⟨v2,h2,fun c' v' hv'=>VRel.mk_agg (by rw [e1];exact LRel.cons (h1.of_leaf ha) (LRel.cons hv' (LRel.nil _)))⟩
theorem rWithoutO_pc (s:Survey) (hl:s.sights.length≤100) (w:List Int) (hw:okL w.length) (hne:(zAl s w).sights≠[]):PC Tryz.prog 54 [surA s,sl w] (.alloc (.cells (sgts (zAl s w).sights)) fun i=>.agg [.int .i64 s.stations,.sref i 0 (zAl s w).sights.length (zAl s w).sights.length]):=by
 refine PC.of_own (mk:=fun v=>.agg [.int .i64 s.stations,v]) (AC.run (E_ok _) mix Tryz.func54 m54 rfl rfl rfl (zE rfl) ?_) (by simp [bndL,AV.bnd]) (sgts_leaf _) (mk2_own rfl)
 have bd24:∀ a,buildA T 24 [(0,.int .i64 a)]=some (.agg [.int .i64 a,.nilS]):=fun a=>rfl
 simp only [go_sem,boxA,zAa,bd24,zAc,AV.cells,AV.one,zK,zM,zJ,splice,zH,zG,and_self,zB,zD,zC,reduceIte,reduceCtorEq,zA]
 refine zAv (fun m ts' S' => ∃ k W nt tk,k≤s.sights.length∧m=s.sights.length - k∧ts'=[(1,sl w),(2,.ref 0 0),(4,.ref 1 0),(5,.ref 2 0),(6,.int .i64 (k:Nat))]∧S'=⟨[some (.cells (surC s)),some (.cells [.int .i64 0,.nilS]),some (.cells [.int .i64 s.stations,W])],nt,tk⟩∧Own (sgts (keepS s w k)) (keepS s w k).length W nt tk) s.sights.length ⟨0,.nilS,0,[],qH _,rfl,rfl,rfl,Own.nil _ _⟩ ?_
 rintro m ts' S' ⟨k,W,nt,tk,hk,rfl,rfl,rfl,ho⟩
 by_cases hkl:k<s.sights.length
 ·have k1:(k:Int)<s.sights.length:=by omega
  have k2:0≤(k:Int)∧(k:Int)<s.sights.length:=by omega
  have k3:k * 4+4≤(sgts s.sights).length:=by rw [zAw];omega
  have k4:IntKind.i64.wrap ((k:Int)+1)=(k+1:Nat):=wrap64 (by omega)
  have k5:=zBs s.sights k hkl
  have hks:=Lv.keep_succ s w k
  have hg:s.sights.getD k Lv.sightZ=s.sights[k]:=by rw [zI,zF hkl];rfl
  have hkl2:=Lv.keep_len s w k
  rw [hg] at hks
  generalize s.sights[k]=x at *
  simp only [go_sem,l54_0,zAa,k1,decide_true,zB,zD,zC,reduceIte,reduceCtorEq,zA]
  refine zDn w.length (fun j=>[(1,sl w),(2,.ref 0 0),(4,.ref 1 0),(5,.ref 2 0),(6,.int .i64 (k:Nat)),(7,.bool ((w.take j).contains (k:Int))),(8,.int .i64 (j:Nat))]) (fun _=>⟨[some (.cells (surC s)),some (.cells [.int .i64 0,.nilS]),some (.cells [.int .i64 s.stations,W])],nt,tk⟩) rfl rfl ?_
  intro j hj I hI
  by_cases hjl:j<w.length
  ·have j1:(j:Int)<w.length:=by omega
   have j2:0≤(j:Int)∧(j:Int)<w.length:=by omega
   have j4:IntKind.i64.wrap ((j:Int)+1)=(j+1:Nat):=wrap64 (by omega)
   have j5:w[j]? = some w[j]:=zF hjl
   have htk:(w.take (j+1)).contains (k:Int)=((w.take j).contains (k:Int) || decide (w[j]=(k:Int))):=by
    rw [qG hjl,Bool.eq_iff_iff,List.contains_iff_mem,List.mem_append,Bool.or_eq_true,List.contains_iff_mem,decide_eq_true_iff,yP]
    exact or_congr Iff.rfl eq_comm
   have hI:=hI hjl
   rw [htk] at hI
   cases hc:(w.take j).contains (k:Int)
   ·rw [hc,Bool.false_or] at hI
    simp only [go_sem,l54_1,zAa,j1,decide_true,j2,Go.Av.Fx.ints_get,j5,zY,zAg,j4,zB,zD,zC,reduceIte,reduceCtorEq,zA]
    exact hI
   ·rw [hc,Bool.true_or] at hI
    simp only [go_sem,l54_1,zAa,j1,decide_true,j4,zB,zD,zC,reduceIte,reduceCtorEq,zA]
    exact hI
  ·have j1:¬ (j:Int)<w.length:=by omega
   have ej:j=w.length:=by omega
   subst ej
   rw [yC]
   simp only [go_sem,l54_1,zAa,j1,decide_false,zB,zD,zC,reduceIte,reduceCtorEq,zA]
   cases hc:w.contains (k:Int)
   ·rw [hc,if_neg (by decide)] at hks
    simp only [go_sem,zAj,qF,k2,k3,k5,zAg,and_self,zAa,zB,zD,zC,reduceIte,reduceCtorEq,zA]
    refine zDr (lx:=sgtC x) zDs ho (by rw [zAw];omega) rfl (by decide) rfl (by omega) fun W' tk' g => ?_
    obtain ⟨q1,q2⟩:=g.own.cells
    simp only [go_sem,q1,q2,zAc,zK,zM,zJ,splice,zH,zG,and_self,k4,zB,zD,zC,reduceIte,reduceCtorEq,zA]
    refine zAi (s.sights.length - (k+1)) (by omega) ⟨k+1,W',nt+1,tk',hkl,rfl,rfl,rfl, ?_⟩
    have:=g.own
    rw [zFc] at this
    rw [hks,qD,List.length_singleton]
    exact this
   ·rw [hc,if_pos rfl] at hks
    simp only [go_sem,zAj,zX,k4,zB,zD,zC,reduceIte,reduceCtorEq,zA]
    exact zAi (s.sights.length - (k+1)) (by omega) ⟨k+1,W,nt,tk,hkl,rfl,rfl,rfl,by rw [hks];exact ho⟩
 ·have k1:¬ (k:Int)<s.sights.length:=by omega
  have ek:k=s.sights.length:=by omega
  subst ek
  rcases ho with ⟨rfl,e,_⟩ | ⟨q,rfl,hq,_⟩
  ·exfalso
   cases hx:(zAl s w).sights with
   | nil=>exact hne hx
   | cons x r =>
    have:sgts (zAl s w).sights=[]:=e
    rw [hx] at this;cases this
  ·simp only [go_sem,l54_0,zAa,k1,decide_false,zAc,AV.cells,AV.one,zK,zM,zJ,splice,zH,zG,and_self,Tryz.f54,zB,zD,zC,reduceIte,reduceCtorEq,zA]
   exact ⟨_,rfl,hq⟩
theorem without_nil (s:Survey):zAl s []=s:=by
 have:∀ k,k≤s.sights.length→keepS s [] k=s.sights.take k:=fun k=>by
  induction k with
  | zero=>intro _;rfl
  | succ k ih =>
   intro hk
   have hk:k<s.sights.length:=hk
   rw [Lv.keep_succ,ih (by omega),if_neg (by simp),qG hk,zI,zF hk]
   rfl
 unfold zAl
 rw [this _ (zN _),yC]
end Go.Av.Lx
end
section
namespace Go.Lv
open Go.Fw Go.Wk
theorem off_known {s:Survey} (h:Sw s) {i:Nat} (hi:i<s.sights.length) {o:Int} (ho:0≤o) (hy:SightOk s.stations { s.sights[i] with off:=s.sights[i].off+o }) {V:Mat} (hV:knownV s=some V) :
  ∃ V',knownV (setS s i { s.sights[i] with off:=s.sights[i].off+o })=some V' ∧ ∀ a b,a<num s→b<num s→(ent V a b<far↔ent V' a b<far)∧(ent V a b<far→ent V a b≤ent V' a b):=by
 have h':=set_sw h (i:=i) hy
 obtain ⟨V',hV'⟩:=Option.isSome_iff_exists.1 (zEx (n:=num s) h.num8 h.oks h'.oks (off_loose hi ho) hV)
 refine ⟨V',hV',fun a b ha hb => ?_⟩
 have j:=fun hf=>(zAy h hV).join (zAy h' hV') (off_ends hi o) (i:=a) (j:=b) ha hb hf
 have l:=fun hf=>(zAy h hV).loose (zAy h' hV') (off_loose hi ho) (i:=a) (j:=b) ha hb hf
 exact ⟨⟨j,fun hf=>(l hf).1⟩,fun hf=>(l (j hf)).2⟩
theorem turn_known {s:Survey} (h:Sw s) {i:Nat} (hi:i<s.sights.length) {V:Mat} (hV:knownV s=some V) :
  ∃ V',knownV (setS s i (turn s.sights[i]))=some V' ∧ ∀ a b,a<num s→b<num s→(ent V a b<far↔ent V' a b<far)∧(ent V a b<far→ent V a b=ent V' a b):=by
 have h':=set_sw h (i:=i) (turn_ok (h.sights _ (zW hi)))
 have e:=clo_same (n:=num s) h.num8 h.oks h'.oks (turn_same hi)
 have hk:(clo (num s) (surveyB s)).isSome=true:=by
  have:clo (num s) (surveyB s)=some V:=hV
  rw [this];rfl
 rw [hk] at e
 obtain ⟨V',hV'⟩:=Option.isSome_iff_exists.1 e.symm
 exact ⟨V',hV',fun a b ha hb=>(zAy h hV).same (zAy h' hV') (turn_same hi) ha hb⟩
theorem turn_none {s:Survey} (h:Sw s) {i:Nat} (hi:i<s.sights.length) (hn:knownV s=none):knownV (setS s i (turn s.sights[i]))=none:=by
 have h':=set_sw h (i:=i) (turn_ok (h.sights _ (zW hi)))
 have e:=clo_same (n:=num s) h.num8 h.oks h'.oks (turn_same hi)
 have hk:clo (num s) (surveyB s)=none:=hn
 rw [hk] at e
 cases hV:knownV (setS s i (turn s.sights[i])) with
 | none=>rfl
 | some V =>
  have hV:clo (num s) (surveyB (setS s i (turn s.sights[i])))=some V:=hV
  rw [hV] at e;cases e
end Go.Lv
end
