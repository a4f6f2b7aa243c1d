/- Part 31 of the proof. -/
import Derived.Test.YtclmbbofpaecaaaGreatDoorVn28
import Derived.Test.YtclmbbofpaecaaaGreatDoorVn29
import Derived.Test.YtclmbbofpaecaaaGreatDoorVn30
import Derived.Test.YtclmbbofpaecaaaGreatDoorVn22
import Derived.Test.YtclmbbofpaecaaaGreatDoorVn23
import Derived.Test.YtclmbbofpaecaaaGreatDoorVn20
import Derived.Test.YtclmbbofpaecaaaGreatDoorVn21
import Derived.Test.YtclmbbofpaecaaaGreatDoorVn25
set_option linter.all false
set_option linter.unusedVariables false
set_option linter.unusedSimpArgs false
set_option linter.unusedSectionVars false
open Bool renaming and_self → zJ, not_true → zV, not_false → qF
open Int renaming toNat_natCast → qO
open List renaming getElem?_eq_getElem → zF, getD_eq_getElem?_getD → zG, set_cons_succ → zH, set_cons_zero → zI, all_cons → zL, all_nil → zO, length_cons → zW, length_nil → qE, getElem?_map → qK, cons_append → qX, nil_append → yB, headD_cons → yF, tail_cons → yH, mem_singleton → yP
open Nat renaming reduceLeDiff → zA, reduceEqDiff → zB, reduceAdd → zC, reduceBEq → zD, le_of_ble_eq_true → zE
section
set_option maxRecDepth 100000
set_option maxHeartbeats 16000000
namespace Go.Av.Lx
open Go Go.Av Go.Av.Tb Go.Av.Fx Go.Proofs
open Go.Lv (Sight Survey Sw Sv SightOk Leg Tun Try Stp withS)
theorem ex_Ring:RingA surT=.tuple [stpsA [⟨0,false⟩,⟨1,false⟩,⟨2,false⟩,⟨3,true⟩],.int .i64 0]:=by
 unfold RingA
 rw [ex_ok,if_pos rfl,ex_poss,if_neg (by decide),ex_ring]
theorem ex_read:readA exB=.tuple [surA surX,.int .i64 0]:=by
 unfold readA
 rw [if_pos (by decide),ex_parsed]
 simp only [ex_xok,if_true]
theorem zAw:PC Tryz.prog 24 [] (.pure (.bool true)):=by
 refine PC.of_empty (AC.run (E_ok 223) mix Tryz.func24 m24 rfl rfl rfl (zE rfl) ?_) rfl rfl
 have oS:okL surS.sights.length:=by decide
 have oT:okL surT.sights.length:=by decide
 have oU:okL surU.sights.length:=by decide
 have q1:=Bounds_pc surS oS 0 2
 rw [ex_bounds] at q1
 have q2:=Heights_pc surS oS
 rw [ex_heights] at q2
 have q3:=Ring_pc surT oT
 rw [ex_Ring] at q3
 have q4:=Least_pc surT oT
 rw [ex_least] at q4
 have q5:=Falls_pc surS oS ⟨1,2,2⟩ 2 3
 rw [ex_falls] at q5
 have q6:=Carries_pc surS oS [⟨1,2,2⟩,⟨2,1,1⟩] (by decide) 0 3
 rw [ex_carries] at q6
 have q7:=Meets_pc surS oS ⟨3,0,5,3,1⟩
 rw [ex_meets] at q7
 have q8:=Drives_pc surS oS ⟨3,0,5,3,1⟩
 rw [ex_drives] at q8
 have q9:=Takes_pc surS oS 0 2 [⟨0,2,2⟩,⟨1,2,0⟩] (by decide)
 rw [ex_takes] at q9
 have q10:=Drops_pc surU oU
 rw [ex_drops] at q10
 have q11:=Blames_pc surU oU
 rw [ex_blames] at q11
 have q12:=Read_pc exB (by decide)
 rw [ex_read] at q12
 have q13:=rPrint_pc surX (small_plain (parsed_small ex_parsed) (by decide))
 rw [ex_text] at q13
 have b1:buildA T 61 [(0,.int .i64 1),(1,.int .i64 2),(2,.int .i64 2)]=some (.agg (legC ⟨1,2,2⟩)):=rfl
 have b2:buildA T 61 [(0,.int .i64 2),(1,.int .i64 1),(2,.int .i64 1)]=some (.agg (legC ⟨2,1,1⟩)):=rfl
 have b3:zAe T 54 2 [(0,.agg (legC ⟨1,2,2⟩)),(1,.agg (legC ⟨2,1,1⟩))]=some (.slice (legsC [⟨1,2,2⟩,⟨2,1,1⟩]) [(⟨1,2,2⟩:Leg),⟨2,1,1⟩].length .exact):=rfl
 have b4:buildA T 68 [(0,.int .i64 3),(1,.int .i64 0),(2,.int .i64 5),(3,.int .i64 3),(4,.int .i64 1)]=some (.agg (tunC ⟨3,0,5,3,1⟩)):=rfl
 have b5:buildA T 95 [(0,.int .i64 0),(1,.int .i64 2),(2,.int .i64 2)]=some (.agg (tryC ⟨0,2,2⟩)):=rfl
 have b6:buildA T 95 [(0,.int .i64 1),(1,.int .i64 2)]=some (.agg (tryC ⟨1,2,0⟩)):=rfl
 have b7:zAe T 76 2 [(0,.agg (tryC ⟨0,2,2⟩)),(1,.agg (tryC ⟨1,2,0⟩))]=some (.slice (triesC [⟨0,2,2⟩,⟨1,2,0⟩]) [(⟨0,2,2⟩:Try),⟨1,2,0⟩].length .exact):=rfl
 have b8:buildA T 28 [(0,.int .i64 5),(1,.int .i64 9)]=some (.agg [.int .i64 5,.int .i64 9]):=rfl
 have b9:buildA T 28 [(0,.int .i64 (-7)),(1,.int .i64 7)]=some (.agg [.int .i64 (-7),.int .i64 7]):=rfl
 have b10:buildA T 49 [(0,.int .i64 7),(1,.int .i64 4)]=some (.agg [.int .i64 7,.int .i64 4]):=rfl
 have b11:∀ n,buildA T 127 [(0,.int .i64 n)]=some (.agg (stpC ⟨n,false⟩)):=fun n=>rfl
 have b12:∀ n,buildA T 127 [(0,.int .i64 n),(1,.bool true)]=some (.agg (stpC ⟨n,true⟩)):=fun n=>rfl
 have b13:zAe T 117 4 [(0,.agg (stpC ⟨0,false⟩)),(1,.agg (stpC ⟨1,false⟩)),(2,.agg (stpC ⟨2,false⟩)),(3,.agg (stpC ⟨3,true⟩))]=some (.slice (stpsC [⟨0,false⟩,⟨1,false⟩,⟨2,false⟩,⟨3,true⟩]) [(⟨0,false⟩:Stp),⟨1,false⟩,⟨2,false⟩,⟨3,true⟩].length .exact):=rfl
 have b14:∀ a b c d:Int,zAe T 32 4 [(0,.int .i64 a),(1,.int .i64 b),(2,.int .i64 c),(3,.int .i64 d)]=some (.slice (ints [a,b,c,d]) [a,b,c,d].length .exact):=fun a b c d=>rfl
 have b15:zAe T 32 3 [(0,.int .i64 1),(1,.int .i64 2),(2,.int .i64 3)]=some (.slice (ints [1,2,3]) [(1:Int),2,3].length .exact):=rfl
 have b16:zAe T 32 1 [(0,.int .i64 1)]=some (.slice (ints [1]) [(1:Int)].length .exact):=rfl
 have n1:binA T .neq 28 (.agg [.int .i64 5,.int .i64 9]) (.agg [.int .i64 5,.int .i64 9])=some (.bool false):=rfl
 have n2:binA T .neq 28 (.agg [.int .i64 (-7),.int .i64 7]) (.agg [.int .i64 (-7),.int .i64 7])=some (.bool false):=rfl
 have n3:binA T .neq 49 (.agg [.int .i64 7,.int .i64 4]) (.agg [.int .i64 7,.int .i64 4])=some (.bool false):=rfl
 have z0:¬ ((0:Int)≠0):=by decide
 have z1:¬ ((1:Int)≠1):=by decide
 have z2:¬ ((2:Int)≠2):=by decide
 have z3:¬ ((3:Int)≠3):=by decide
 have z7:¬ ((7:Int)≠7):=by decide
 have y1:decide ((1:Int)=1)=true:=rfl
 have y2:decide ((2:Int)=2)=true:=rfl
 have z4:binA T .eql 9 (.str exB) (.str ⟨#[115,117,114,118,101,121,32,50,10,115,105,103,104,116,32,48,32,49,32,52,32,48,10,101,110,100,32,48,49,50,10]⟩)=some (.bool true):=(show binA T .eql 9 (.str exB) (.str exB)=some (.bool true) by rw [eqS,decide_eq_true rfl])
 simp only [go_sem,zB,zD,zC,reduceIte,reduceCtorEq,zA]
 refine cp n81 S_pc (SubL.refl _) ?_
 try simp only [go_sem,zB,zD,zC,reduceIte,reduceCtorEq,zA]
 refine cp n25 q1 (SubL.refl _) ?_
 simp only [go_sem,zAc,frA,zAd,AV.cells,AV.one,zL,zO,zJ,splice,zI,zH,and_self,zW,qE,zB,zD,zC,reduceIte,reduceCtorEq,zA]
 refine cp n81 S_pc (SubL.refl _) ?_
 try simp only [go_sem,zB,zD,zC,reduceIte,reduceCtorEq,zA]
 refine cp n26 q2 (SubL.refl _) ?_
 simp only [go_sem,zAc,frA,zAd,AV.cells,AV.one,zL,zO,zJ,splice,zI,zH,and_self,zW,qE,zB,zD,zC,reduceIte,reduceCtorEq,zA]
 refine cp n82 T_pc (SubL.refl _) ?_
 try simp only [go_sem,zB,zD,zC,reduceIte,reduceCtorEq,zA]
 refine cp n72 q3 (SubL.refl _) ?_
 simp only [go_sem,zAc,frA,zAd,AV.cells,AV.one,zL,zO,zJ,splice,zI,zH,and_self,zW,qE,zB,zD,zC,reduceIte,reduceCtorEq,zA]
 refine cp n82 T_pc (SubL.refl _) ?_
 try simp only [go_sem,zB,zD,zC,reduceIte,reduceCtorEq,zA]
 refine cp n32 q4 (SubL.refl _) ?_
 simp only [go_sem,zAc,frA,zAd,AV.cells,AV.one,zL,zO,zJ,splice,zI,zH,and_self,zW,qE,zB,zD,zC,reduceIte,reduceCtorEq,zA]
 refine cp n81 S_pc (SubL.refl _) ?_
 simp only [go_sem,b1,b2,b3,b4,b5,b6,b7,zB,zD,zC,reduceIte,reduceCtorEq,zA]
 refine cp n39 q5 (SubL.refl _) ?_
 simp only [go_sem,zAc,frA,zAd,AV.cells,AV.one,zL,zO,zJ,splice,zI,zH,and_self,zW,qE,zB,zD,zC,reduceIte,reduceCtorEq,zA]
 refine cp n81 S_pc (SubL.refl _) ?_
 simp only [go_sem,b1,b2,b3,b4,b5,b6,b7,zB,zD,zC,reduceIte,reduceCtorEq,zA]
 refine cp n35 q6 (SubL.cons (Sub.refl _) (SubL.cons (Sub.unk _ _ _) (SubL.refl _))) ?_
 simp only [go_sem,zAc,frA,zAd,AV.cells,AV.one,zL,zO,zJ,splice,zI,zH,and_self,zW,qE,zB,zD,zC,reduceIte,reduceCtorEq,zA]
 refine cp n81 S_pc (SubL.refl _) ?_
 simp only [go_sem,b1,b2,b3,b4,b5,b6,b7,zB,zD,zC,reduceIte,reduceCtorEq,zA]
 refine cp n42 q7 (SubL.refl _) ?_
 simp only [go_sem,zAc,frA,zAd,AV.cells,AV.one,zL,zO,zJ,splice,zI,zH,and_self,zW,qE,zB,zD,zC,reduceIte,reduceCtorEq,zA]
 refine cp n81 S_pc (SubL.refl _) ?_
 simp only [go_sem,b1,b2,b3,b4,b5,b6,b7,zB,zD,zC,reduceIte,reduceCtorEq,zA]
 refine cp n43 q8 (SubL.refl _) ?_
 simp only [go_sem,zAc,frA,zAd,AV.cells,AV.one,zL,zO,zJ,splice,zI,zH,and_self,zW,qE,zB,zD,zC,reduceIte,reduceCtorEq,zA]
 refine cp n81 S_pc (SubL.refl _) ?_
 simp only [go_sem,b1,b2,b3,b4,b5,b6,b7,zB,zD,zC,reduceIte,reduceCtorEq,zA]
 refine cp n47 q9 (SubL.cons (Sub.refl _) (SubL.cons (Sub.refl _) (SubL.cons (Sub.refl _) (SubL.cons (Sub.unk _ _ _) (SubL.refl _))))) ?_
 simp only [go_sem,zAc,frA,zAd,AV.cells,AV.one,zL,zO,zJ,splice,zI,zH,and_self,zW,qE,zB,zD,zC,reduceIte,reduceCtorEq,zA]
 refine cp n83 U_pc (SubL.refl _) ?_
 try simp only [go_sem,zB,zD,zC,reduceIte,reduceCtorEq,zA]
 refine cp n50 q10 (SubL.refl _) ?_
 simp only [go_sem,zAc,frA,zAd,AV.cells,AV.one,zL,zO,zJ,splice,zI,zH,and_self,zW,qE,zB,zD,zC,reduceIte,reduceCtorEq,zA]
 refine cp n83 U_pc (SubL.refl _) ?_
 try simp only [go_sem,zB,zD,zC,reduceIte,reduceCtorEq,zA]
 refine cp n51 q11 (SubL.refl _) ?_
 simp only [go_sem,zAc,zB,zD,zC,reduceIte,reduceCtorEq,zA]
 refine cp n60 q12 (SubL.refl _) ?_
 simp only [go_sem,zAc,z0,decide_false,zAd,AV.cells,AV.one,zL,zO,zJ,splice,zI,zH,and_self,zW,qE,b8,n1,b14,zB,zD,zC,reduceIte,reduceCtorEq,zA]
 refine cp n29 (Same_pc [0,9,5,13] [0,9,5,13] (by decide) (by decide)) (SubL.cons (Sub.refl _) (SubL.cons (Sub.unk _ _ _) (SubL.refl _))) ?_
 rw [decide_eq_true rfl]
 simp only [go_sem,zAg,zV,b14,zB,zD,zC,reduceIte,reduceCtorEq,zA]
 refine cp n29 (Same_pc [0,11,9,17] [0,11,9,17] (by decide) (by decide)) (SubL.cons (Sub.refl _) (SubL.cons (Sub.unk _ _ _) (SubL.refl _))) ?_
 rw [decide_eq_true rfl]
 simp only [go_sem,zAg,zV,b11,b12,b13,zB,zD,zC,reduceIte,reduceCtorEq,zA]
 refine cp n76 (SameSteps_pc [⟨0,false⟩,⟨1,false⟩,⟨2,false⟩,⟨3,true⟩] [⟨0,false⟩,⟨1,false⟩,⟨2,false⟩,⟨3,true⟩] (by decide) (by decide)) (SubL.cons (Sub.refl _) (SubL.cons (Sub.unk _ _ _) (SubL.refl _))) ?_
 rw [decide_eq_true rfl]
 simp only [go_sem,zAg,zV,b10,n3,b14,zB,zD,zC,reduceIte,reduceCtorEq,zA]
 refine cp n29 (Same_pc [0,47,38,73] [0,47,38,73] (by decide) (by decide)) (SubL.cons (Sub.refl _) (SubL.cons (Sub.unk _ _ _) (SubL.refl _))) ?_
 rw [decide_eq_true rfl]
 simp only [go_sem,zAg,zV,z1,z2,z3,z7,decide_false,decide_true,b9,n2,b16,zB,zD,zC,reduceIte,reduceCtorEq,zA]
 refine cp n29 (Same_pc [1] [1] (by decide) (by decide)) (SubL.cons (Sub.refl _) (SubL.cons (Sub.unk _ _ _) (SubL.refl _))) ?_
 rw [decide_eq_true rfl]
 simp only [go_sem,b15,zB,zD,zC,reduceIte,reduceCtorEq,zA]
 refine cp n29 (Same_pc [1,2,3] [1,2,3] (by decide) (by decide)) (SubL.cons (Sub.refl _) (SubL.cons (Sub.unk _ _ _) (SubL.refl _))) ?_
 rw [decide_eq_true rfl]
 simp only [go_sem,zB,zD,zC,reduceIte,reduceCtorEq,zA]
 refine cp n61 q13 (SubL.refl _) ?_
 simp only [go_sem,z4,Tryz.f24,zB,zD,zC,reduceIte,reduceCtorEq,zA]
end Go.Av.Lx
end
section
set_option maxHeartbeats 8000000
namespace Go.Av.Lx
open Go Go.Av Go.Av.Tb Go.Av.Fx Go.Proofs
open Go.Lv (Sight Survey Sw Sv SightOk errF)

end Go.Av.Lx
end
section
set_option maxHeartbeats 8000000
namespace Go.Av.Lx
open Go Go.Av Go.Av.Tb Go.Av.Fx Go.Proofs
open Go.Lv (Sight Survey Sw Sv SightOk possS)

end Go.Av.Lx
end
section
set_option maxHeartbeats 8000000
namespace Go.Av.Lx
open Go Go.Av Go.Av.Tb Go.Av.Fx Go.Proofs
open Go.Lv (Sight Survey Sw Sv SightOk possS)
open Go.Fw (Sq ent Bd Mat)

end Go.Av.Lx
end
section
set_option maxHeartbeats 8000000
namespace Go.Av.Lx
open Go Go.Av Go.Av.Tb Go.Av.Fx Go.Proofs
open Go.Lv (Sight Survey Sw Sv SightOk Leg LegOk RangeOk Tun TunOk Try TryOk Stp fallW meetL meetH bestAt driveF wideI)
open Go.Fw (Sq ent Bd Mat)

end Go.Av.Lx
end
section
set_option maxHeartbeats 8000000
namespace Go.Av.Lx
open Go Go.Av Go.Av.Tb Go.Av.Fx Go.Proofs
open Go.Lv (Sight Survey Sw Sv SightOk Leg LegOk RangeOk Tun TunOk Try TryOk Stp fallW carryW)
open Go.Fw (Sq ent Bd Mat)

end Go.Av.Lx
end
section
set_option maxHeartbeats 8000000
namespace Go.Av.Lx
open Go Go.Av Go.Av.Tb Go.Av.Fx Go.Proofs
open Go.Lv (Sight Survey Sw Sv SightOk bas)
open Go.Fw (Sq ent Bd Mat)
theorem ints_get {l:List Int} {i:Nat} (h:i<l.length):(ints l)[i]? = some (.int .i64 (l.getD i 0)):=by
 unfold ints
 rw [qK,zG,zF h]
 rfl
end Go.Av.Lx
end
section
set_option maxHeartbeats 8000000
namespace Go.Av.Lx
open Go Go.Av Go.Av.Tb Go.Av.Fx Go.Proofs
open Go.Lv (Sight Survey Sw Sv SightOk Tun TunOk bestAt driveF wideI meetL meetH withFall)
open Go.Fw (Sq ent Bd Mat)
theorem meets_joined (s:Survey) (hv:Sv s) {V:Mat} (hV:Lv.knownV s=some V) (x:Tun) (hx:TunOk s.stations x) (hj:ent V x.frm.toNat x.to.toNat<far):meetsA s x=.tuple [meetA V x,.int .i64 0]:=by
 unfold meetsA betwA
 rw [zCk.2 hv,(tun_iff hv.st).2 hx,(zBd hv.st).2 hx.frm,(zBd hv.st).2 hx.to,hV]
 simp only [zJ,if_true]
 rw [if_pos hj]
 rfl
theorem heads_d15 (s:Survey) (x:Tun) (fall n w:Int) (v228:AV) (B2:Option Blk) (Q:AQ)
  (hQ:Q .normal [(6,.int .i64 fall),(7,.ref 0 0),(19,.int .i64 n),(20,.int .i64 w),(24,.ref 3 0),(25,.ref 4 0)] ⟨[some (.cells (surC s)),some (.cells (tunC x)),B2,some (.cells (tunC x)),some (.cells (tunC x))],0,[]⟩) :
  WC (E 297) (.drawZ [6,7,19,20,24,25] 5 [false,true,false,false,false,false,true] r17_15) Q [(6,.int .i64 fall),(7,.ref 0 0),(8,.ref 1 0),(19,.int .i64 n),(20,.int .i64 w),(228,v228)] ⟨[some (.cells (surC s)),some (.cells (tunC x)),B2],0,[]⟩:=by
 simp only [go_sem,zB,zD,zC,reduceIte,reduceCtorEq,zA]
 refine ⟨[1],fun i hi=>by simp only [yP] at hi;subst hi;simp, ?_⟩
 simp only [go_sem,preZ,QOpZ,guardM,isW,yF,yH,zB,zD,zC,reduceIte,reduceCtorEq,zA]
 refine ⟨rfl,trivial, ?_⟩
 refine ⟨lone 1 (tunC x),_,lone_sees rfl,by simp only [go_sem,lone_at,zB,zD,zC,reduceIte,reduceCtorEq,zA];all_goals rfl,rfl, ?_⟩
 simp only [yH,yF,Res.app]
 simp only [go_sem,zAd,AV.cells,AV.one,zL,zO,zJ,splice,and_self,zI,zH,Res.app,Res.ok,zB,zD,zC,reduceIte,reduceCtorEq,zA]
 exact ⟨rfl,rfl,fun i B v e=>by cases e;decide,hQ⟩
theorem heads_t16 (s:Survey) (x:Tun) (n fall lo1 hi1 lo2 hi2:Int) (B2:Option Blk)
  (hM1:PC Tryz.prog 42 [surA s,.agg [.int .i64 x.frm,.int .i64 x.to,.int .i64 x.long,.int .i64 n,.int .i64 x.err]] (.pure (.tuple [.agg [.int .i64 lo1,.int .i64 hi1],.int .i64 0])))
  (hM2:PC Tryz.prog 42 [surA s,.agg [.int .i64 x.frm,.int .i64 x.to,.int .i64 x.long,.int .i64 fall,.int .i64 x.err]] (.pure (.tuple [.agg [.int .i64 lo2,.int .i64 hi2],.int .i64 0])))
  (b1:-20000≤lo1∧lo1≤hi1∧hi1≤20000) (b2:-20000≤lo2∧lo2≤hi2∧hi2≤20000) (hle:wideI lo1 hi1≤wideI lo2 hi2) (heq:wideI lo2 hi2=wideI lo1 hi1→n≤fall) (Q:AQ)
  (hQ:∀ X,Q .ret [(14,.bool true)] ⟨X,0,[]⟩) :
  WC (E 297) (.seq (.region [6,7,19,20,24,25] r17_16) (.seq (.region [6,7,19,20,25,26,27] r17_17) (.seq (.region [6,19,20,26,27,28,29] r17_18) (.seq (.seq (.region [6,19,20,26,28,272] r17_19) (.cond (.tmp 272) (.seq (.region [14] r17_20) .ret) .skip)) (.seq (.region [14] r17_21) .ret))))) Q [(6,.int .i64 fall),(7,.ref 0 0),(19,.int .i64 n),(20,.int .i64 (wideI lo1 hi1)),(24,.ref 3 0),(25,.ref 4 0)] ⟨[some (.cells (surC s)),some (.cells (tunC x)),B2,some (.cells (tunC x)),some (.cells (tunC x))],0,[]⟩:=by
 have y0:¬ ((0:Int)≠0):=by decide
 have hc2:∀ a b:AV,AV.cells (.agg [a,b])=[a,b]:=fun _ _=>rfl
 have oI:∀ n:Int,AV.one (.int .i64 n)=true:=fun _=>rfl
 have a1:¬ lo1 < -100000:=by omega
 have a2:¬ hi1 > 100000:=by omega
 have a3:¬ lo2 < -100000:=by omega
 have a4:¬ hi2 > 100000:=by omega
 have w1:=Wide_pc lo1 hi1 (by omega) (by omega)
 have w2:=Wide_pc lo2 hi2 (by omega) (by omega)
 generalize wideI lo1 hi1=u1 at *
 generalize wideI lo2 hi2=u2 at *
 simp only [go_sem,zAd,hc2,oI,zL,zO,zJ,splice,zI,zH,and_self,zW,qE,zB,zD,zC,reduceIte,reduceCtorEq,zA]
 refine cp n42 hM1 (SubL.refl _) ?_
 simp only [go_sem,zAc,zAd,hc2,oI,zL,zO,zJ,splice,zI,zH,and_self,zW,qE,zB,zD,zC,reduceIte,reduceCtorEq,zA]
 refine cp n42 hM2 (SubL.refl _) ?_
 simp only [go_sem,zAc,zAd,hc2,oI,zL,zO,zJ,splice,zI,zH,and_self,zW,qE,y0,a1,a2,a3,a4,decide_false,zB,zD,zC,reduceIte,reduceCtorEq,zA]
 refine cp n70 w1 (SubL.refl _) ?_
 simp only [go_sem,decide_true,zB,zD,zC,reduceIte,reduceCtorEq,zA]
 refine cp n70 w2 (SubL.refl _) ?_
 by_cases hgt:u2 > u1
 ·simp only [go_sem,hgt,decide_true,zB,zD,zC,reduceIte,reduceCtorEq,zA]
  refine cp n24 zAw (SubL.refl _) ?_
  simp only [go_sem,zB,zD,zC,reduceIte,reduceCtorEq,zA]
  exact hQ _
 ·have e:u2=u1:=by omega
  have h3:=heq e
  subst e
  have hge:fall ≥ n:=h3
  simp only [go_sem,hgt,decide_false,zB,zD,zC,reduceIte,reduceCtorEq,zA]
  refine cp n70 w2 (SubL.refl _) ?_
  simp only [go_sem,hge,decide_true,zB,zD,zC,reduceIte,reduceCtorEq,zA]
  refine cp n24 zAw (SubL.refl _) ?_
  simp only [go_sem,zB,zD,zC,reduceIte,reduceCtorEq,zA]
  exact hQ _
theorem heads_d12 (s:Survey) (x:Tun) (hx:TunOk s.stations x) (hs:List Int) (hh:HsOk s.stations hs) (at' one other fall n w:Int) (is:Bool) (v:AV) (B2:Option Blk) (h0:0≤at'∧at'≤x.long)
  (h1:-x.err * at'≤one∧one≤x.err * at') (h2:-x.err * (x.long - at')≤other∧other≤x.err * (x.long - at')) (Q:AQ)
  (hQ:Q .normal [(6,.int .i64 fall),(7,.ref 0 0),(8,.ref 1 0),(15,.bool is),(17,.ref 2 0),(19,.int .i64 n),(20,.int .i64 w),(22,.int .i64 (hs.getD x.frm.toNat 0 - x.fall * at'+one)),(23,.int .i64 (hs.getD x.to.toNat 0+x.fall * (x.long - at')+other))] ⟨[some (.cells (surC s)),some (.cells (tunC x)),B2],0,[]⟩) :
  WC (E 297) (.draw [6,7,8,15,17,19,20,22,23] 28 [] r17_12) Q [(2,sl hs),(3,.int .i64 at'),(4,.int .i64 one),(5,.int .i64 other),(6,.int .i64 fall),(7,.ref 0 0),(8,.ref 1 0),(15,.bool is),(17,.ref 2 0),(19,.int .i64 n),(20,.int .i64 w),(184,v)] ⟨[some (.cells (surC s)),some (.cells (tunC x)),B2],0,[]⟩:=by
 have hl:=hh.len
 have o1:=hx.frm
 have o2:=hx.to
 have o3:=hx.long
 have o4:=hx.fall
 have o5:=hx.err
 obtain ⟨frm,to,long,fl,err⟩:=x
 simp only at *
 obtain ⟨a,rfl⟩:∃ a:Nat,frm=a:=⟨frm.toNat,by omega⟩
 obtain ⟨b,rfl⟩:∃ b:Nat,to=b:=⟨to.toNat,by omega⟩
 simp only [qO] at hQ
 have a1:0≤(a:Int)∧(a:Int)<hs.length:=by omega
 have a2:0≤(b:Int)∧(b:Int)<hs.length:=by omega
 have g1:=ints_get (l:=hs) (i:=a) (by omega)
 have g2:=ints_get (l:=hs) (i:=b) (by omega)
 have m1:=Lv.mul_small (a:=fl) (b:=at') (A:=20) (B:=100) (by omega) (by omega)
 have m2:=Lv.mul_small (a:=fl) (b:=long - at') (A:=20) (B:=100) (by omega) (by omega)
 have m3:=Lv.mul_small (a:=err) (b:=at') (A:=5) (B:=100) (by omega) (by omega)
 have m4:=Lv.mul_small (a:=err) (b:=long - at') (A:=5) (B:=100) (by omega) (by omega)
 have i1:=hh.at a
 have i2:=hh.at b
 rw [Int.neg_mul] at h1 h2
 generalize hs.getD a 0=p at *
 generalize hs.getD b 0=q at *
 have w0:IntKind.i64.wrap (long - at')=long - at':=wrap64 (by omega)
 have w1:IntKind.i64.wrap (fl * at')=fl * at':=wrap64 (by omega)
 have w2:IntKind.i64.wrap (fl * (long - at'))=fl * (long - at'):=wrap64 (by omega)
 generalize e1:fl * at'=f1 at *
 generalize e2:fl * (long - at')=f2 at *
 have w3:IntKind.i64.wrap (p - f1)=p - f1:=wrap64 (by omega)
 have w4:IntKind.i64.wrap (p - f1+one)=p - f1+one:=wrap64 (by omega)
 have w5:IntKind.i64.wrap (q+f2)=q+f2:=wrap64 (by omega)
 have w6:IntKind.i64.wrap (q+f2+other)=q+f2+other:=wrap64 (by omega)
 simp only [go_sem,a1,a2,zAi,and_self,g1,g2,w0,e1,e2,w1,w2,w3,w4,w5,w6,zB,zD,zC,reduceIte,reduceCtorEq,zA]
 exact hQ
theorem heads_t12 (s:Survey) (hl:okL s.sights.length) (hv:Sv s) {V:Mat} (hV:Lv.knownV s=some V) (x:Tun) (hx:TunOk s.stations x) (hj:ent V x.frm.toNat x.to.toNat<far) (hs:List Int) (hh:HsOk s.stations hs) (at' one other fall:Int) (v:AV) (h0:0≤at'∧at'≤x.long)
  (h1:-x.err * at'≤one∧one≤x.err * at') (h2:-x.err * (x.long - at')≤other∧other≤x.err * (x.long - at')) (hfl:0≤fall∧fall≤20) (Q:AQ)
  (hQ:∀ X,Q .ret [(14,.bool true)] ⟨X,0,[]⟩) :
  WC (E 297) (.seq (.draw [6,7,8,15,17,19,20,22,23] 28 [] r17_12) (.seq (.seq (.region [6,7,8,19,20,228] r17_13) (.cond (.tmp 228) (.seq (.region [14] r17_14) .ret) .skip)) (.seq (.drawZ [6,7,19,20,24,25] 5 [false,true,false,false,false,false,true] r17_15) (.seq (.region [6,7,19,20,24,25] r17_16) (.seq (.region [6,7,19,20,25,26,27] r17_17) (.seq (.region [6,19,20,26,27,28,29] r17_18) (.seq (.seq (.region [6,19,20,26,28,272] r17_19) (.cond (.tmp 272) (.seq (.region [14] r17_20) .ret) .skip)) (.seq (.region [14] r17_21) .ret)))))))) Q [(2,sl hs),(3,.int .i64 at'),(4,.int .i64 one),(5,.int .i64 other),(6,.int .i64 fall),(7,.ref 0 0),(8,.ref 1 0),(15,.bool (fitB s hs)),(17,.ref 2 0),(19,.int .i64 (bestAt (driveF V x) 20:Nat)),(20,.int .i64 (driveF V x (bestAt (driveF V x) 20))),(184,v)] ⟨[some (.cells (surC s)),some (.cells (tunC x)),some (.cells [.int .i64 (meetL V x),.int .i64 (meetH V x)])],0,[]⟩:=by
 obtain ⟨D,hD⟩:∃ D,MC.draw [6,7,8,15,17,19,20,22,23] 28 [] r17_12=D:=⟨_,rfl⟩
 obtain ⟨D',hD'⟩:∃ D',MC.drawZ [6,7,19,20,24,25] 5 [false,true,false,false,false,false,true] r17_15=D':=⟨_,rfl⟩
 obtain ⟨T,hT⟩:∃ T,MC.seq (.region [6,7,19,20,24,25] r17_16) (.seq (.region [6,7,19,20,25,26,27] r17_17) (.seq (.region [6,19,20,26,27,28,29] r17_18) (.seq (.seq (.region [6,19,20,26,28,272] r17_19) (.cond (.tmp 272) (.seq (.region [14] r17_20) .ret) .skip)) (.seq (.region [14] r17_21) .ret))))=T:=⟨_,rfl⟩
 rw [hD,hD',hT]
 have hbest:=Lv.best_ok (driveF V x) 20
 obtain ⟨f,rfl⟩:∃ f:Nat,fall=f:=⟨fall.toNat,by omega⟩
 have hbf:=hbest.2 f (by omega)
 generalize hn:bestAt (driveF V x) 20=n at *
 have hx1:TunOk s.stations (withFall x n):=⟨hx.frm,hx.to,hx.ne,hx.long,by show 0≤(n:Int)∧(n:Int)≤20;omega,hx.err⟩
 have hx2:TunOk s.stations (withFall x f):=⟨hx.frm,hx.to,hx.ne,hx.long,by show 0≤(f:Int)∧(f:Int)≤20;omega,hx.err⟩
 have hM1:=Meets_pc s hl (withFall x n)
 rw [meets_joined s hv hV _ hx1 hj] at hM1
 have hM2:=Meets_pc s hl (withFall x f)
 rw [meets_joined s hv hV _ hx2 hj] at hM2
 have b1:=Lv.meet_le hv.toSw hV hx1 hj
 have b2:=Lv.meet_le hv.toSw hV hx2 hj
 have hlaw:fitB s hs=true→meetL V x≤(hs.getD x.frm.toNat 0 - x.fall * at'+one) - (hs.getD x.to.toNat 0+x.fall * (x.long - at')+other)∧(hs.getD x.frm.toNat 0 - x.fall * at'+one) - (hs.getD x.to.toNat 0+x.fall * (x.long - at')+other)≤meetH V x:=fun hf=>Lv.heads hv.toSw hV hx hj (fit_iff.1 hf) h1 h2
 have hmb:=Lv.meet_le hv.toSw hV hx hj
 have o3:=hx.long
 have o4:=hx.fall
 have o5:=hx.err
 have m1:=Lv.mul_small (a:=x.fall) (b:=at') (A:=20) (B:=100) (by omega) (by omega)
 have m2:=Lv.mul_small (a:=x.fall) (b:=x.long - at') (A:=20) (B:=100) (by omega) (by omega)
 have m3:=Lv.mul_small (a:=x.err) (b:=at') (A:=5) (B:=100) (by omega) (by omega)
 have m4:=Lv.mul_small (a:=x.err) (b:=x.long - at') (A:=5) (B:=100) (by omega) (by omega)
 have i1:=hh.at x.frm.toNat
 have i2:=hh.at x.to.toNat
 have c1:-100000≤hs.getD x.frm.toNat 0 - x.fall * at'+one∧hs.getD x.frm.toNat 0 - x.fall * at'+one≤100000:=by rw [Int.neg_mul] at h1;omega
 have c2:-100000≤hs.getD x.to.toNat 0+x.fall * (x.long - at')+other∧hs.getD x.to.toNat 0+x.fall * (x.long - at')+other≤100000:=by rw [Int.neg_mul] at h2;omega
 have hd12:=heads_d12 s x hx hs hh at' one other f n (driveF V x n) (fitB s hs) v (some (.cells [.int .i64 (meetL V x),.int .i64 (meetH V x)])) h0 h1 h2
 simp only [go_sem,zB,zD,zC,reduceIte,reduceCtorEq,zA]
 subst hD
 refine hd12 _ ?_
 clear hd12
 generalize hs.getD x.frm.toNat 0 - x.fall * at'+one=low at *
 generalize hs.getD x.to.toNat 0+x.fall * (x.long - at')+other=high at *
 have w:IntKind.i64.wrap (low - high)=low - high:=wrap64 (by omega)
 have ht:=heads_t16 s x n f _ _ _ _ (some (.cells [.int .i64 (meetL V x),.int .i64 (meetH V x)])) hM1 hM2 b1 b2 (show driveF V x n≤driveF V x f from hbf.1) (fun he=>by
  have he':driveF V x f=driveF V x n:=he
  by_cases hlt:f<n
  ·have:=hbf.2 hlt;omega
  ·omega)
 cases hfit:fitB s hs
 ·simp only [go_sem,zB,zD,zC,reduceIte,reduceCtorEq,zA]
  subst hD'
  refine heads_d15 s x f n (driveF V x n) _ _ _ ?_
  simp only [go_sem,zB,zD,zC,reduceIte,reduceCtorEq,zA]
  subst hT
  exact ht _ hQ
 ·obtain ⟨l1,l2⟩:=hlaw hfit
  generalize meetL V x=ml at *
  generalize meetH V x=mh at *
  have v1:¬ (low - high<ml):=by omega
  have v2:¬ (low - high > mh):=by omega
  simp only [go_sem,w,v1,v2,decide_false,zB,zD,zC,reduceIte,reduceCtorEq,zA]
  subst hD'
  refine heads_d15 s x f n (driveF V x n) _ _ _ ?_
  simp only [go_sem,zB,zD,zC,reduceIte,reduceCtorEq,zA]
  subst hT
  exact ht _ hQ
theorem heads_t3 (s:Survey) (hl:okL s.sights.length) (hv:Sv s) (x:Tun) (hx:TunOk s.stations x) (hs:List Int) (hhl:okL hs.length) (hh:HsOk s.stations hs) (at' one other fall:Int) (h0:0≤at'∧at'≤x.long)
  (h1:-x.err * at'≤one∧one≤x.err * at') (h2:-x.err * (x.long - at')≤other∧other≤x.err * (x.long - at')) (hfl:0≤fall∧fall≤20) (Q:AQ)
  (hQ:∀ X,Q .ret [(14,.bool true)] ⟨X,0,[]⟩) :
  WC (E 297) (.seq (.region [2,3,4,5,6,7,8,15,16] r17_3) (.seq (.region [2,3,4,5,6,7,8,15,16,17,18] r17_4) (.seq (.region [2,3,4,5,6,7,8,15,16,17,18,19,20,21] r17_5) (.seq (.seq (.region [2,3,4,5,6,7,8,15,17,18,19,20,158] r17_6) (.cond (.tmp 158) (.seq (.region [14] r17_7) .ret) .skip)) (.seq (.seq (.region [2,3,4,5,6,7,8,15,17,19,20,160] r17_8) (.cond (.tmp 160) (.seq (.region [14] r17_9) .ret) .skip)) (.seq (.seq (.region [2,3,4,5,6,7,8,15,17,19,20,184] r17_10) (.cond (.tmp 184) (.seq (.region [14] r17_11) .ret) .skip)) (.seq (.draw [6,7,8,15,17,19,20,22,23] 28 [] r17_12) (.seq (.seq (.region [6,7,8,19,20,228] r17_13) (.cond (.tmp 228) (.seq (.region [14] r17_14) .ret) .skip)) (.seq (.drawZ [6,7,19,20,24,25] 5 [false,true,false,false,false,false,true] r17_15) (.seq (.region [6,7,19,20,24,25] r17_16) (.seq (.region [6,7,19,20,25,26,27] r17_17) (.seq (.region [6,19,20,26,27,28,29] r17_18) (.seq (.seq (.region [6,19,20,26,28,272] r17_19) (.cond (.tmp 272) (.seq (.region [14] r17_20) .ret) .skip)) (.seq (.region [14] r17_21) .ret)))))))))))))) Q [(2,sl hs),(3,.int .i64 at'),(4,.int .i64 one),(5,.int .i64 other),(6,.int .i64 fall),(7,.ref 0 0),(8,.ref 1 0),(112,.bool false)] ⟨[some (.cells (surC s)),some (.cells (tunC x))],0,[]⟩:=by
 have z2:decide ((2:Int)=2)=true:=rfl
 have z7:decide ((7:Int)=7)=true:=rfl
 have z5:decide ((5:Int)=5)=true:=rfl
 have z0:decide ((0:Int)=0)=true:=rfl
 have y0:¬ ((0:Int)≠0):=by decide
 have y2:¬ ((2:Int)≠2):=by decide
 have y7:¬ ((7:Int)≠7):=by decide
 have y5:¬ ((5:Int)≠5):=by decide
 have x2:((2:Int)≠0):=by decide
 have x7:((7:Int)≠0):=by decide
 have x5:((5:Int)≠0):=by decide
 have hcZ:AV.cells zeroR=[.nilS,.nilS]:=rfl
 have o1:AV.one .nilS=true:=rfl
 have hcR:∀ V,AV.cells (rA V)=[wS (rM V),.slice ((rJ V).map bl) (rJ V).length .unk]:=fun V=>rfl
 have oR:∀ (l:List AV) (n:Nat) (u:Tail),AV.one (.slice l n u)=true:=fun _ _ _=>rfl
 have hc2:∀ a b:AV,AV.cells (.agg [a,b])=[a,b]:=fun _ _=>rfl
 have oI:∀ n:Int,AV.one (.int .i64 n)=true:=fun _=>rfl
 obtain ⟨T,hT⟩:∃ T,MC.seq (.draw [6,7,8,15,17,19,20,22,23] 28 [] r17_12) (.seq (.seq (.region [6,7,8,19,20,228] r17_13) (.cond (.tmp 228) (.seq (.region [14] r17_14) .ret) .skip)) (.seq (.drawZ [6,7,19,20,24,25] 5 [false,true,false,false,false,false,true] r17_15) (.seq (.region [6,7,19,20,24,25] r17_16) (.seq (.region [6,7,19,20,25,26,27] r17_17) (.seq (.region [6,19,20,26,27,28,29] r17_18) (.seq (.seq (.region [6,19,20,26,28,272] r17_19) (.cond (.tmp 272) (.seq (.region [14] r17_20) .ret) .skip)) (.seq (.region [14] r17_21) .ret)))))))=T:=⟨_,rfl⟩
 rw [hT]
 have hF:=Fits_pc s hl hs hhl
 have eF:fitsA s hs=.tuple [.bool (fitB s hs),.int .i64 0]:=by unfold fitsA;rw [if_pos ⟨zCk.2 hv,list_iff.2 hh⟩]
 rw [eF] at hF
 have hM:=Meets_pc s hl x
 have hD:=Drives_pc s hl x
 have key:∀ z r,betwA s x.frm x.to (tunB s x) z r=(match Lv.knownV s with | some V=>if ent V x.frm.toNat x.to.toNat<far then .tuple (r V ++ [.int .i64 0]) else .tuple (z ++ [.int .i64 5]) | none=>.tuple (z ++ [.int .i64 7])):=fun z r=>by
  unfold betwA
  rw [zCk.2 hv,(tun_iff hv.st).2 hx,(zBd hv.st).2 hx.frm,(zBd hv.st).2 hx.to]
  simp only [zJ,if_true]
  cases Lv.knownV s <;> rfl
 unfold meetsA at hM
 unfold drivesA at hD
 rw [key] at hM hD
 have x57:decide ((5:Int)≠7)=true:=rfl
 have w57:¬ ((5:Int)=7):=by decide
 have w07:¬ ((0:Int)=7):=by decide
 cases hV:Lv.knownV s with
 | none =>
  simp only [hV,qX,yB] at hM hD
  have hnf:fitB s hs=false:=by
   cases h:fitB s hs
   ·rfl
   ·have:=(Lv.poss_fit hv.toSw).2 ⟨_,fit_iff.1 h⟩
    unfold Lv.possS at this
    rw [hV] at this;cases this
  rw [hnf] at hF
  simp only [go_sem,zB,zD,zC,reduceIte,reduceCtorEq,zA]
  refine cp n64 hF (SubL.refl _) ?_
  simp only [go_sem,zAc,zB,zD,zC,reduceIte,reduceCtorEq,zA]
  refine cp n42 hM (SubL.refl _) ?_
  simp only [go_sem,zAc,zAd,hc2,oI,zL,zO,zJ,splice,zI,zH,and_self,zW,qE,zB,zD,zC,reduceIte,reduceCtorEq,zA]
  refine cp n43 hD (SubL.refl _) ?_
  simp only [go_sem,zAc,y0,x7,y7,z7,decide_true,decide_false,zB,zD,zC,reduceIte,reduceCtorEq,zA]
  refine cp n24 zAw (SubL.refl _) ?_
  simp only [go_sem,zB,zD,zC,reduceIte,reduceCtorEq,zA]
  exact hQ _
 | some V =>
  by_cases hj:ent V x.frm.toNat x.to.toNat<far
  ·simp only [hV,if_pos hj,qX,yB] at hM hD
   have hbest:=(Lv.best_ok (driveF V x) 20).1
   have hmb:=Lv.meet_le hv.toSw hV hx hj
   have ht:=heads_t12 s hl hv hV x hx hj hs hh at' one other fall (.bool false) h0 h1 h2 hfl
   have e1:meetA V x=.agg [.int .i64 (meetL V x),.int .i64 (meetH V x)]:=rfl
   rw [e1] at hM
   clear e1 key
   generalize (bestAt (driveF V x) 20)=n at *
   generalize driveF V x n=w at *
   generalize meetL V x=ml at *
   generalize meetH V x=mh at *
   have a1:¬ ((n:Int)<0):=by omega
   have a2:¬ ((n:Int) > 20):=by omega
   have a3:¬ (ml < -100000):=by omega
   have a4:¬ (mh > 100000):=by omega
   have a5:¬ (ml > mh):=by omega
   simp only [go_sem,zB,zD,zC,reduceIte,reduceCtorEq,zA]
   refine cp n64 hF (SubL.refl _) ?_
   simp only [go_sem,zAc,zB,zD,zC,reduceIte,reduceCtorEq,zA]
   refine cp n42 hM (SubL.refl _) ?_
   simp only [go_sem,zAc,zAd,hc2,oI,zL,zO,zJ,splice,zI,zH,and_self,zW,qE,zB,zD,zC,reduceIte,reduceCtorEq,zA]
   refine cp n43 hD (SubL.refl _) ?_
   simp only [go_sem,zAc,y0,w07,a1,a2,a3,a4,a5,decide_true,decide_false,zB,zD,zC,reduceIte,reduceCtorEq,zA]
   subst hT
   exact ht _ hQ
  ·simp only [hV,if_neg hj,qX,yB] at hM hD
   simp only [go_sem,zB,zD,zC,reduceIte,reduceCtorEq,zA]
   refine cp n64 hF (SubL.refl _) ?_
   simp only [go_sem,zAc,zB,zD,zC,reduceIte,reduceCtorEq,zA]
   refine cp n42 hM (SubL.refl _) ?_
   simp only [go_sem,zAc,zAd,hc2,oI,zL,zO,zJ,splice,zI,zH,and_self,zW,qE,zB,zD,zC,reduceIte,reduceCtorEq,zA]
   refine cp n43 hD (SubL.refl _) ?_
   simp only [go_sem,zAc,y0,x5,x57,y5,w57,decide_true,decide_false,zB,zD,zC,reduceIte,reduceCtorEq,zA]
   refine cp n24 zAw (SubL.refl _) ?_
   simp only [go_sem,zB,zD,zC,reduceIte,reduceCtorEq,zA]
   exact hQ _
set_option maxRecDepth 10000 in
theorem lheads_pc (s:Survey) (hl:okL s.sights.length) (x:Tun) (hs:List Int) (hhl:okL hs.length) (at' one other fall:Int):PC Tryz.prog 17 [surA s,.agg (tunC x),sl hs,.int .i64 at',.int .i64 one,.int .i64 other,.int .i64 fall] (.pure (.bool true)):=by
 refine PC.of_empty (AC.run (E_ok _) mix Tryz.func17 m17 rfl rfl rfl (zE rfl) ?_) (by simp [bndL,AV.bnd]) rfl
 obtain ⟨TL,hTL⟩:∃ TL,MC.seq (.region [2,3,4,5,6,7,8,15,16] r17_3) (.seq (.region [2,3,4,5,6,7,8,15,16,17,18] r17_4) (.seq (.region [2,3,4,5,6,7,8,15,16,17,18,19,20,21] r17_5) (.seq (.seq (.region [2,3,4,5,6,7,8,15,17,18,19,20,158] r17_6) (.cond (.tmp 158) (.seq (.region [14] r17_7) .ret) .skip)) (.seq (.seq (.region [2,3,4,5,6,7,8,15,17,19,20,160] r17_8) (.cond (.tmp 160) (.seq (.region [14] r17_9) .ret) .skip)) (.seq (.seq (.region [2,3,4,5,6,7,8,15,17,19,20,184] r17_10) (.cond (.tmp 184) (.seq (.region [14] r17_11) .ret) .skip)) (.seq (.draw [6,7,8,15,17,19,20,22,23] 28 [] r17_12) (.seq (.seq (.region [6,7,8,19,20,228] r17_13) (.cond (.tmp 228) (.seq (.region [14] r17_14) .ret) .skip)) (.seq (.drawZ [6,7,19,20,24,25] 5 [false,true,false,false,false,false,true] r17_15) (.seq (.region [6,7,19,20,24,25] r17_16) (.seq (.region [6,7,19,20,25,26,27] r17_17) (.seq (.region [6,19,20,26,27,28,29] r17_18) (.seq (.seq (.region [6,19,20,26,28,272] r17_19) (.cond (.tmp 272) (.seq (.region [14] r17_20) .ret) .skip)) (.seq (.region [14] r17_21) .ret)))))))))))))=TL:=⟨_,rfl⟩
 unfold c17
 rw [hTL]
 simp only [go_sem,boxA,zB,zD,zC,reduceIte,reduceCtorEq,zA]
 refine cp n23 (short_pc s) (SubL.refl _) ?_
 by_cases hsh:s.sights.length≤17
 rotate_left
 ·rw [decide_eq_false hsh]
  simp only [go_sem,zAg,qF,zB,zD,zC,reduceIte,reduceCtorEq,zA]
  refine cp n24 zAw (SubL.refl _) ?_
  simp only [go_sem,Tryz.f17,zB,zD,zC,reduceIte,reduceCtorEq,zA]
 rw [decide_eq_true hsh]
 by_cases hg12:(hs.length:Int) > 12
 ·simp only [go_sem,zAg,zV,zAa,hg12,decide_true,decide_false,zB,zD,zC,reduceIte,reduceCtorEq,zA]
  refine cp n24 zAw (SubL.refl _) ?_
  simp only [go_sem,Tryz.f17,zB,zD,zC,reduceIte,reduceCtorEq,zA]
 simp only [go_sem,zAg,zV,zAa,hg12,decide_false,zB,zD,zC,reduceIte,reduceCtorEq,zA]
 refine cp n33 (rSurvey_pc s hl) (SubL.refl _) ?_
 cases hv:zAp s
 ·simp only [go_sem,zAg,qF,zB,zD,zC,reduceIte,reduceCtorEq,zA]
  refine cp n24 zAw (SubL.refl _) ?_
  simp only [go_sem,Tryz.f17,zB,zD,zC,reduceIte,reduceCtorEq,zA]
 simp only [go_sem,zAg,zV,zB,zD,zC,reduceIte,reduceCtorEq,zA]
 refine cp n44 (rTunnel_pc s x) (SubL.refl _) ?_
 cases hx:tunB s x
 ·simp only [go_sem,zAg,qF,zB,zD,zC,reduceIte,reduceCtorEq,zA]
  refine cp n24 zAw (SubL.refl _) ?_
  simp only [go_sem,Tryz.f17,zB,zD,zC,reduceIte,reduceCtorEq,zA]
 simp only [go_sem,zAg,zV,zB,zD,zC,reduceIte,reduceCtorEq,zA]
 refine cp n56 (rList_pc s hs hhl) (SubL.refl _) ?_
 cases hh:listOk s hs
 ·simp only [go_sem,zAg,qF,zB,zD,zC,reduceIte,reduceCtorEq,zA]
  refine cp n24 zAw (SubL.refl _) ?_
  simp only [go_sem,Tryz.f17,zB,zD,zC,reduceIte,reduceCtorEq,zA]
 have hsv:=zCk.1 hv
 have hxo:=(tun_iff hsv.st).1 hx
 have hhs:=list_iff.1 hh
 have o3:=hxo.long
 have o5:=hxo.err
 by_cases a1:at'<0
 ·simp only [go_sem,zAg,zV,a1,decide_true,zB,zD,zC,reduceIte,reduceCtorEq,zA]
  refine cp n24 zAw (SubL.refl _) ?_
  simp only [go_sem,Tryz.f17,zB,zD,zC,reduceIte,reduceCtorEq,zA]
 by_cases a2:at' > x.long
 ·simp only [go_sem,zAg,zV,a1,a2,decide_true,decide_false,zB,zD,zC,reduceIte,reduceCtorEq,zA]
  refine cp n24 zAw (SubL.refl _) ?_
  simp only [go_sem,Tryz.f17,zB,zD,zC,reduceIte,reduceCtorEq,zA]
 have m3:=Lv.mul_small (a:=x.err) (b:=at') (A:=5) (B:=100) (by omega) (by omega)
 have m4:=Lv.mul_small (a:=x.err) (b:=x.long - at') (A:=5) (B:=100) (by omega) (by omega)
 have w1:IntKind.i64.wrap (0 - x.err) = -x.err:=by rw [wrap64 (by omega)];omega
 have w1':IntKind.i64.wrap (-x.err) = -x.err:=wrap64 (by omega)
 have uN:unA .neg (.int .i64 x.err)=some (.int .i64 (-x.err)):=by first | (show some (AV.int .i64 (IntKind.i64.wrap (-x.err)))=_;rw [w1']) | (show some (AV.int .i64 (IntKind.i64.wrap (0 - x.err)))=_;rw [w1])
 have w2:IntKind.i64.wrap (x.err * at')=x.err * at':=wrap64 (by omega)
 have w3:IntKind.i64.wrap (-x.err * at') = -x.err * at':=by rw [Int.neg_mul];exact wrap64 (by omega)
 have w4:IntKind.i64.wrap (x.long - at')=x.long - at':=wrap64 (by omega)
 have w5:IntKind.i64.wrap (x.err * (x.long - at'))=x.err * (x.long - at'):=wrap64 (by omega)
 have w6:IntKind.i64.wrap (-x.err * (x.long - at')) = -x.err * (x.long - at'):=by rw [Int.neg_mul];exact wrap64 (by omega)
 clear m3 m4
 by_cases a3:one < -x.err * at'
 ·simp only [go_sem,zAg,zV,uN,w2,w3,w4,w5,w6,a1,a2,a3,decide_true,decide_false,zB,zD,zC,reduceIte,reduceCtorEq,zA]
  refine cp n24 zAw (SubL.refl _) ?_
  simp only [go_sem,Tryz.f17,zB,zD,zC,reduceIte,reduceCtorEq,zA]
 by_cases a4:one > x.err * at'
 ·simp only [go_sem,zAg,zV,uN,w2,w3,w4,w5,w6,a1,a2,a3,a4,decide_true,decide_false,zB,zD,zC,reduceIte,reduceCtorEq,zA]
  refine cp n24 zAw (SubL.refl _) ?_
  simp only [go_sem,Tryz.f17,zB,zD,zC,reduceIte,reduceCtorEq,zA]
 by_cases a5:other < -x.err * (x.long - at')
 ·simp only [go_sem,zAg,zV,uN,w2,w3,w4,w5,w6,a1,a2,a3,a4,a5,decide_true,decide_false,zB,zD,zC,reduceIte,reduceCtorEq,zA]
  refine cp n24 zAw (SubL.refl _) ?_
  simp only [go_sem,Tryz.f17,zB,zD,zC,reduceIte,reduceCtorEq,zA]
 by_cases a6:other > x.err * (x.long - at')
 ·simp only [go_sem,zAg,zV,uN,w2,w3,w4,w5,w6,a1,a2,a3,a4,a5,a6,decide_true,decide_false,zB,zD,zC,reduceIte,reduceCtorEq,zA]
  refine cp n24 zAw (SubL.refl _) ?_
  simp only [go_sem,Tryz.f17,zB,zD,zC,reduceIte,reduceCtorEq,zA]
 by_cases a7:fall<0
 ·simp only [go_sem,zAg,zV,uN,w2,w3,w4,w5,w6,a1,a2,a3,a4,a5,a6,a7,decide_true,decide_false,zB,zD,zC,reduceIte,reduceCtorEq,zA]
  refine cp n24 zAw (SubL.refl _) ?_
  simp only [go_sem,Tryz.f17,zB,zD,zC,reduceIte,reduceCtorEq,zA]
 by_cases a8:fall > 20
 ·simp only [go_sem,zAg,zV,uN,w2,w3,w4,w5,w6,a1,a2,a3,a4,a5,a6,a7,a8,decide_true,decide_false,zB,zD,zC,reduceIte,reduceCtorEq,zA]
  refine cp n24 zAw (SubL.refl _) ?_
  simp only [go_sem,Tryz.f17,zB,zD,zC,reduceIte,reduceCtorEq,zA]
 simp only [go_sem,zAg,zV,uN,w2,w3,w4,w5,w6,a1,a2,a3,a4,a5,a6,a7,a8,decide_true,decide_false,zB,zD,zC,reduceIte,reduceCtorEq,zA]
 subst hTL
 refine heads_t3 s hl hsv x hxo hs hhl hhs at' one other fall (by omega) ⟨Int.not_lt.1 a3,Int.not_lt.1 a4⟩ ⟨Int.not_lt.1 a5,Int.not_lt.1 a6⟩ (by omega) _ ?_
 intro X
 simp only [go_sem,Tryz.f17,zB,zD,zC,reduceIte,reduceCtorEq,zA]
end Go.Av.Lx
end
