/- Part 32 of the proof. -/
import Derived.Test.YtclmbbofpaecaaaGreatDoorVu29
import Derived.Test.YtclmbbofpaecaaaGreatDoorVu30
import Derived.Test.YtclmbbofpaecaaaGreatDoorVu31
import Derived.Test.YtclmbbofpaecaaaGreatDoorVu23
import Derived.Test.YtclmbbofpaecaaaGreatDoorVu24
import Derived.Test.YtclmbbofpaecaaaGreatDoorVu25
import Derived.Test.YtclmbbofpaecaaaGreatDoorVu14
import Derived.Test.YtclmbbofpaecaaaGreatDoorVu27
import Derived.Test.YtclmbbofpaecaaaGreatDoorVu22
import Derived.Test.YtclmbbofpaecaaaGreatDoorRows
import Derived.ProofKit
import Derived.LaidMore
import Derived.OpenShut
import Derived.Deep.Slices
import Derived.Stop.Joined
import Derived.ChangeOld
import Derived.SizedLaws
import Derived.Test.YtclmbbofpaecaaaGreatDoorTie
import Derived.Test.YtclmbbofpaecaaaGreatDoorCards
import Derived.Lib.LaidTab
import Derived.Lib.ItoaNum
import Derived.Lay
import Derived.LaidOnce
import Derived.MakeChecks
import Derived.SevenTiedAt
set_option linter.all false
set_option linter.unusedVariables false
set_option linter.unusedSimpArgs false
set_option linter.unusedSectionVars false
open Array renaming getElem?_eq_getElem → qC
open Bool renaming and_self → zJ, and_eq_true → zR, not_true → zX, not_false → qF
open List renaming set_cons_succ → zG, set_cons_zero → zH, getD_eq_getElem?_getD → zI, all_cons → zK, all_nil → zM, length_cons → zT, length_nil → zZ, getElem?_map → qN, getElem?_range → qT
open Nat renaming reduceLeDiff → zA, reduceEqDiff → zB, reduceAdd → zC, reduceBEq → zD, le_of_ble_eq_true → zE, le_refl → zN
open Option renaming bind_some → zY
section
set_option maxRecDepth 100000
set_option maxHeartbeats 16000000
namespace Go.Av.Lx
open Go Go.Av Go.Av.Tb Go.Av.Fx Go.Proofs
open Go.Lv (Sight Survey Sw Sv SightOk Leg Tun Try Stp withS)
theorem ex_Ring:RingA surT=.tuple [stpsA [⟨0,false⟩,⟨1,false⟩,⟨2,false⟩,⟨3,true⟩],.int .i64 0]:=by
 unfold RingA
 rw [ex_ok,if_pos rfl,ex_poss,if_neg (by decide),ex_ring]
theorem ex_read:readA exB=.tuple [surA surX,.int .i64 0]:=by
 unfold readA
 rw [if_pos (by decide),ex_parsed]
 simp only [ex_xok,if_true]
theorem zEa:PC Tryz.prog 24 [] (.pure (.bool true)):=by
 refine PC.of_empty (AC.run (E_ok 223) mix Tryz.func24 m24 rfl rfl rfl (zE rfl) ?_) rfl rfl
 have oS:okL surS.sights.length:=by decide
 have oT:okL surT.sights.length:=by decide
 have oU:okL surU.sights.length:=by decide
 have q1:=Bounds_pc surS oS 0 2
 rw [ex_bounds] at q1
 have q2:=Heights_pc surS oS
 rw [ex_heights] at q2
 have q3:=Ring_pc surT oT
 rw [ex_Ring] at q3
 have q4:=Least_pc surT oT
 rw [ex_least] at q4
 have q5:=Falls_pc surS oS ⟨1,2,2⟩ 2 3
 rw [ex_falls] at q5
 have q6:=Carries_pc surS oS [⟨1,2,2⟩,⟨2,1,1⟩] (by decide) 0 3
 rw [ex_carries] at q6
 have q7:=Meets_pc surS oS ⟨3,0,5,3,1⟩
 rw [ex_meets] at q7
 have q8:=Drives_pc surS oS ⟨3,0,5,3,1⟩
 rw [ex_drives] at q8
 have q9:=Takes_pc surS oS 0 2 [⟨0,2,2⟩,⟨1,2,0⟩] (by decide)
 rw [ex_takes] at q9
 have q10:=Drops_pc surU oU
 rw [ex_drops] at q10
 have q11:=Blames_pc surU oU
 rw [ex_blames] at q11
 have q12:=Read_pc exB (by decide)
 rw [ex_read] at q12
 have q13:=rPrint_pc surX (zEi (parsed_small ex_parsed) (by decide))
 rw [ex_text] at q13
 have b1:buildA T 61 [(0,.int .i64 1),(1,.int .i64 2),(2,.int .i64 2)]=some (.agg (legC ⟨1,2,2⟩)):=rfl
 have b2:buildA T 61 [(0,.int .i64 2),(1,.int .i64 1),(2,.int .i64 1)]=some (.agg (legC ⟨2,1,1⟩)):=rfl
 have b3:zAe T 54 2 [(0,.agg (legC ⟨1,2,2⟩)),(1,.agg (legC ⟨2,1,1⟩))]=some (.slice (legsC [⟨1,2,2⟩,⟨2,1,1⟩]) [(⟨1,2,2⟩:Leg),⟨2,1,1⟩].length .exact):=rfl
 have b4:buildA T 68 [(0,.int .i64 3),(1,.int .i64 0),(2,.int .i64 5),(3,.int .i64 3),(4,.int .i64 1)]=some (.agg (tunC ⟨3,0,5,3,1⟩)):=rfl
 have b5:buildA T 95 [(0,.int .i64 0),(1,.int .i64 2),(2,.int .i64 2)]=some (.agg (tryC ⟨0,2,2⟩)):=rfl
 have b6:buildA T 95 [(0,.int .i64 1),(1,.int .i64 2)]=some (.agg (tryC ⟨1,2,0⟩)):=rfl
 have b7:zAe T 76 2 [(0,.agg (tryC ⟨0,2,2⟩)),(1,.agg (tryC ⟨1,2,0⟩))]=some (.slice (triesC [⟨0,2,2⟩,⟨1,2,0⟩]) [(⟨0,2,2⟩:Try),⟨1,2,0⟩].length .exact):=rfl
 have b8:buildA T 28 [(0,.int .i64 5),(1,.int .i64 9)]=some (.agg [.int .i64 5,.int .i64 9]):=rfl
 have b9:buildA T 28 [(0,.int .i64 (-7)),(1,.int .i64 7)]=some (.agg [.int .i64 (-7),.int .i64 7]):=rfl
 have b10:buildA T 49 [(0,.int .i64 7),(1,.int .i64 4)]=some (.agg [.int .i64 7,.int .i64 4]):=rfl
 have b11:∀ n,buildA T 127 [(0,.int .i64 n)]=some (.agg (stpC ⟨n,false⟩)):=fun n=>rfl
 have b12:∀ n,buildA T 127 [(0,.int .i64 n),(1,.bool true)]=some (.agg (stpC ⟨n,true⟩)):=fun n=>rfl
 have b13:zAe T 117 4 [(0,.agg (stpC ⟨0,false⟩)),(1,.agg (stpC ⟨1,false⟩)),(2,.agg (stpC ⟨2,false⟩)),(3,.agg (stpC ⟨3,true⟩))]=some (.slice (stpsC [⟨0,false⟩,⟨1,false⟩,⟨2,false⟩,⟨3,true⟩]) [(⟨0,false⟩:Stp),⟨1,false⟩,⟨2,false⟩,⟨3,true⟩].length .exact):=rfl
 have b14:∀ a b c d:Int,zAe T 32 4 [(0,.int .i64 a),(1,.int .i64 b),(2,.int .i64 c),(3,.int .i64 d)]=some (.slice (ints [a,b,c,d]) [a,b,c,d].length .exact):=fun a b c d=>rfl
 have b15:zAe T 32 3 [(0,.int .i64 1),(1,.int .i64 2),(2,.int .i64 3)]=some (.slice (ints [1,2,3]) [(1:Int),2,3].length .exact):=rfl
 have b16:zAe T 32 1 [(0,.int .i64 1)]=some (.slice (ints [1]) [(1:Int)].length .exact):=rfl
 have n1:binA T .neq 28 (.agg [.int .i64 5,.int .i64 9]) (.agg [.int .i64 5,.int .i64 9])=some (.bool false):=rfl
 have n2:binA T .neq 28 (.agg [.int .i64 (-7),.int .i64 7]) (.agg [.int .i64 (-7),.int .i64 7])=some (.bool false):=rfl
 have n3:binA T .neq 49 (.agg [.int .i64 7,.int .i64 4]) (.agg [.int .i64 7,.int .i64 4])=some (.bool false):=rfl
 have z0:¬ ((0:Int)≠0):=by decide
 have z1:¬ ((1:Int)≠1):=by decide
 have z2:¬ ((2:Int)≠2):=by decide
 have z3:¬ ((3:Int)≠3):=by decide
 have z7:¬ ((7:Int)≠7):=by decide
 have y1:decide ((1:Int)=1)=true:=rfl
 have y2:decide ((2:Int)=2)=true:=rfl
 have z4:binA T .eql 9 (.str exB) (.str ⟨#[115,117,114,118,101,121,32,50,10,115,105,103,104,116,32,48,32,49,32,52,32,48,10,101,110,100,32,48,49,50,10]⟩)=some (.bool true):=(show binA T .eql 9 (.str exB) (.str exB)=some (.bool true) by rw [eqS,decide_eq_true rfl])
 simp only [go_sem,zB,zD,zC,reduceIte,reduceCtorEq,zA]
 refine cp n81 S_pc (SubL.refl _) ?_
 try simp only [go_sem,zB,zD,zC,reduceIte,reduceCtorEq,zA]
 refine cp n25 q1 (SubL.refl _) ?_
 simp only [go_sem,zAc,frA,zAd,AV.cells,AV.one,zK,zM,zJ,splice,zH,zG,and_self,zT,zZ,zB,zD,zC,reduceIte,reduceCtorEq,zA]
 refine cp n81 S_pc (SubL.refl _) ?_
 try simp only [go_sem,zB,zD,zC,reduceIte,reduceCtorEq,zA]
 refine cp n26 q2 (SubL.refl _) ?_
 simp only [go_sem,zAc,frA,zAd,AV.cells,AV.one,zK,zM,zJ,splice,zH,zG,and_self,zT,zZ,zB,zD,zC,reduceIte,reduceCtorEq,zA]
 refine cp n82 T_pc (SubL.refl _) ?_
 try simp only [go_sem,zB,zD,zC,reduceIte,reduceCtorEq,zA]
 refine cp n72 q3 (SubL.refl _) ?_
 simp only [go_sem,zAc,frA,zAd,AV.cells,AV.one,zK,zM,zJ,splice,zH,zG,and_self,zT,zZ,zB,zD,zC,reduceIte,reduceCtorEq,zA]
 refine cp n82 T_pc (SubL.refl _) ?_
 try simp only [go_sem,zB,zD,zC,reduceIte,reduceCtorEq,zA]
 refine cp n32 q4 (SubL.refl _) ?_
 simp only [go_sem,zAc,frA,zAd,AV.cells,AV.one,zK,zM,zJ,splice,zH,zG,and_self,zT,zZ,zB,zD,zC,reduceIte,reduceCtorEq,zA]
 refine cp n81 S_pc (SubL.refl _) ?_
 simp only [go_sem,b1,b2,b3,b4,b5,b6,b7,zB,zD,zC,reduceIte,reduceCtorEq,zA]
 refine cp n39 q5 (SubL.refl _) ?_
 simp only [go_sem,zAc,frA,zAd,AV.cells,AV.one,zK,zM,zJ,splice,zH,zG,and_self,zT,zZ,zB,zD,zC,reduceIte,reduceCtorEq,zA]
 refine cp n81 S_pc (SubL.refl _) ?_
 simp only [go_sem,b1,b2,b3,b4,b5,b6,b7,zB,zD,zC,reduceIte,reduceCtorEq,zA]
 refine cp n35 q6 (SubL.cons (Sub.refl _) (SubL.cons (Sub.unk _ _ _) (SubL.refl _))) ?_
 simp only [go_sem,zAc,frA,zAd,AV.cells,AV.one,zK,zM,zJ,splice,zH,zG,and_self,zT,zZ,zB,zD,zC,reduceIte,reduceCtorEq,zA]
 refine cp n81 S_pc (SubL.refl _) ?_
 simp only [go_sem,b1,b2,b3,b4,b5,b6,b7,zB,zD,zC,reduceIte,reduceCtorEq,zA]
 refine cp n42 q7 (SubL.refl _) ?_
 simp only [go_sem,zAc,frA,zAd,AV.cells,AV.one,zK,zM,zJ,splice,zH,zG,and_self,zT,zZ,zB,zD,zC,reduceIte,reduceCtorEq,zA]
 refine cp n81 S_pc (SubL.refl _) ?_
 simp only [go_sem,b1,b2,b3,b4,b5,b6,b7,zB,zD,zC,reduceIte,reduceCtorEq,zA]
 refine cp n43 q8 (SubL.refl _) ?_
 simp only [go_sem,zAc,frA,zAd,AV.cells,AV.one,zK,zM,zJ,splice,zH,zG,and_self,zT,zZ,zB,zD,zC,reduceIte,reduceCtorEq,zA]
 refine cp n81 S_pc (SubL.refl _) ?_
 simp only [go_sem,b1,b2,b3,b4,b5,b6,b7,zB,zD,zC,reduceIte,reduceCtorEq,zA]
 refine cp n47 q9 (SubL.cons (Sub.refl _) (SubL.cons (Sub.refl _) (SubL.cons (Sub.refl _) (SubL.cons (Sub.unk _ _ _) (SubL.refl _))))) ?_
 simp only [go_sem,zAc,frA,zAd,AV.cells,AV.one,zK,zM,zJ,splice,zH,zG,and_self,zT,zZ,zB,zD,zC,reduceIte,reduceCtorEq,zA]
 refine cp n83 U_pc (SubL.refl _) ?_
 try simp only [go_sem,zB,zD,zC,reduceIte,reduceCtorEq,zA]
 refine cp n50 q10 (SubL.refl _) ?_
 simp only [go_sem,zAc,frA,zAd,AV.cells,AV.one,zK,zM,zJ,splice,zH,zG,and_self,zT,zZ,zB,zD,zC,reduceIte,reduceCtorEq,zA]
 refine cp n83 U_pc (SubL.refl _) ?_
 try simp only [go_sem,zB,zD,zC,reduceIte,reduceCtorEq,zA]
 refine cp n51 q11 (SubL.refl _) ?_
 simp only [go_sem,zAc,zB,zD,zC,reduceIte,reduceCtorEq,zA]
 refine cp n60 q12 (SubL.refl _) ?_
 simp only [go_sem,zAc,z0,decide_false,zAd,AV.cells,AV.one,zK,zM,zJ,splice,zH,zG,and_self,zT,zZ,b8,n1,b14,zB,zD,zC,reduceIte,reduceCtorEq,zA]
 refine cp n29 (Same_pc [0,9,5,13] [0,9,5,13] (by decide) (by decide)) (SubL.cons (Sub.refl _) (SubL.cons (Sub.unk _ _ _) (SubL.refl _))) ?_
 rw [decide_eq_true rfl]
 simp only [go_sem,zAi,zX,b14,zB,zD,zC,reduceIte,reduceCtorEq,zA]
 refine cp n29 (Same_pc [0,11,9,17] [0,11,9,17] (by decide) (by decide)) (SubL.cons (Sub.refl _) (SubL.cons (Sub.unk _ _ _) (SubL.refl _))) ?_
 rw [decide_eq_true rfl]
 simp only [go_sem,zAi,zX,b11,b12,b13,zB,zD,zC,reduceIte,reduceCtorEq,zA]
 refine cp n76 (SameSteps_pc [⟨0,false⟩,⟨1,false⟩,⟨2,false⟩,⟨3,true⟩] [⟨0,false⟩,⟨1,false⟩,⟨2,false⟩,⟨3,true⟩] (by decide) (by decide)) (SubL.cons (Sub.refl _) (SubL.cons (Sub.unk _ _ _) (SubL.refl _))) ?_
 rw [decide_eq_true rfl]
 simp only [go_sem,zAi,zX,b10,n3,b14,zB,zD,zC,reduceIte,reduceCtorEq,zA]
 refine cp n29 (Same_pc [0,47,38,73] [0,47,38,73] (by decide) (by decide)) (SubL.cons (Sub.refl _) (SubL.cons (Sub.unk _ _ _) (SubL.refl _))) ?_
 rw [decide_eq_true rfl]
 simp only [go_sem,zAi,zX,z1,z2,z3,z7,decide_false,decide_true,b9,n2,b16,zB,zD,zC,reduceIte,reduceCtorEq,zA]
 refine cp n29 (Same_pc [1] [1] (by decide) (by decide)) (SubL.cons (Sub.refl _) (SubL.cons (Sub.unk _ _ _) (SubL.refl _))) ?_
 rw [decide_eq_true rfl]
 simp only [go_sem,b15,zB,zD,zC,reduceIte,reduceCtorEq,zA]
 refine cp n29 (Same_pc [1,2,3] [1,2,3] (by decide) (by decide)) (SubL.cons (Sub.refl _) (SubL.cons (Sub.unk _ _ _) (SubL.refl _))) ?_
 rw [decide_eq_true rfl]
 simp only [go_sem,zB,zD,zC,reduceIte,reduceCtorEq,zA]
 refine cp n61 q13 (SubL.refl _) ?_
 simp only [go_sem,z4,Tryz.f24,zB,zD,zC,reduceIte,reduceCtorEq,zA]
end Go.Av.Lx
end
section
set_option maxHeartbeats 8000000
namespace Go.Av.Lx
open Go Go.Av Go.Av.Tb Go.Av.Fx Go.Proofs
open Go.Lv (Sight Survey Sw Sv SightOk errF)

end Go.Av.Lx
end
section
set_option maxHeartbeats 8000000
namespace Go.Av.Lx
open Go Go.Av Go.Av.Tb Go.Av.Fx Go.Proofs
open Go.Lv (Sight Survey Sw Sv SightOk)
theorem eqSS (s:ByteArray):binA T .eql 9 (.str s) (.str s)=some (.bool true):=by rw [eqS,decide_eq_true rfl]
set_option maxHeartbeats 8000000
@[go_sem] theorem cv5_3 (n:Int):convA T 5 3 (.int .u8 n)=some (.int .i64 (IntKind.i64.wrap n)):=rfl
@[go_sem] theorem cv9_93 (s:ByteArray):convA T 9 106 (.str s)=none:=rfl
@[go_sem] theorem cv93_9 (a b c d:Nat):convA T 106 9 (.sref a b c d)=none:=rfl
theorem sub_zero:Sub (.agg [.int .i64 0,.nilS]) (surA ⟨0,[]⟩):=Sub.agg (SubL.cons (Sub.refl _) (SubL.cons Sub.nil (SubL.refl [])))
end Go.Av.Lx
end
section
set_option maxHeartbeats 8000000
namespace Go.Av.Lx
open Go Go.Av Go.Av.Tb Go.Av.Fx Go.Proofs
open Go.Lv (Sight Survey Sw Sv SightOk)
open Go.Fw (Sq ent Bd Mat)
theorem rReadA_is (t:ByteArray):rReadA t=(match parsedB t with | some s=>.tuple [surA s,.bool true] | none=>.tuple [surA ⟨0,[]⟩,.bool false]):=by
 unfold rReadA
 rw [rread_eq]
 cases parsedB t <;> rfl
theorem lreads_pc (t:ByteArray):PC Tryz.prog 13 [.str t] (.pure (.bool true)):=by
 refine PC.of_empty (AC.run (E_ok _) mix Tryz.func13 m13 rfl rfl rfl (zE rfl) ?_) (by simp [bndL,AV.bnd]) rfl
 have hc2:∀ a b:AV,AV.cells (.agg [a,b])=[a,b]:=fun _ _=>rfl
 have oI:∀ n:Int,AV.one (.int .i64 n)=true:=fun _=>rfl
 have oS:∀ (l:List AV) (n:Nat) (u:Tail),AV.one (.slice l n u)=true:=fun _ _ _=>rfl
 have o1:AV.one .nilS=true:=rfl
 have bd0:buildA T 24 []=some (.agg [.int .i64 0,.nilS]):=rfl
 have z0:decide ((0:Int)=0)=true:=rfl
 have z2:decide ((2:Int)=2)=true:=rfl
 have z3:decide ((3:Int)=3)=true:=rfl
 have z4:decide ((4:Int)=4)=true:=rfl
 have x2:(2:Int)≠0:=by decide
 have x3:(3:Int)≠0:=by decide
 have x4:(4:Int)≠0:=by decide
 have y0:¬ ((0:Int)≠0):=by decide
 by_cases h5:t.size≤500
 rotate_left
 ·have c1:(t.size:Int) > 500:=by omega
  simp only [go_sem,zAa,c1,decide_true,zB,zD,zC,reduceIte,reduceCtorEq,zA]
  refine cp n24 zEa (SubL.refl _) ?_
  simp only [go_sem,Tryz.f13,zB,zD,zC,reduceIte,reduceCtorEq,zA]
 have c1:¬ ((t.size:Int) > 500):=by omega
 have hR:=Read_pc t (by omega)
 have hr:=rRead_pc t (by omega)
 rw [rReadA_is] at hr
 by_cases h4:t.size≤400
 rotate_left
 ·have c2:(t.size:Int) > 400:=by omega
  have e:readA t=.tuple [.agg [.int .i64 0,.nilS],.int .i64 3]:=by unfold readA;rw [if_neg h4]
  rw [e] at hR
  cases hp:parsedB t with
  | none =>
   rw [hp] at hr
   simp only [go_sem,zAa,c1,c2,decide_true,decide_false,zB,zD,zC,reduceIte,reduceCtorEq,zA]
   refine cp n60 hR (SubL.refl _) ?_
   simp only [go_sem,zAc,zAa,c2,decide_true,decide_false,zAi,zX,qF,zAd,hc2,oI,oS,o1,zK,zM,zJ,splice,zH,zG,and_self,zT,zZ,zB,zD,zC,reduceIte,reduceCtorEq,zA]
   refine cp n63 hr (SubL.refl _) ?_
   simp only [go_sem,zAc,zAa,c2,decide_true,decide_false,zAi,zX,qF,zAd,hc2,oI,oS,o1,zK,zM,zJ,splice,zH,zG,and_self,zT,zZ,bd0,x3,z3,decide_true,zB,zD,zC,reduceIte,reduceCtorEq,zA]
   refine cp n62 (zBm ⟨0,[]⟩ ⟨0,[]⟩ (by decide) (by decide)) (SubL.cons sub_zero (SubL.cons sub_zero (SubL.refl []))) ?_
   rw [decide_eq_true rfl]
   simp only [go_sem,zB,zD,zC,reduceIte,reduceCtorEq,zA]
   refine cp n24 zEa (SubL.refl _) ?_
   simp only [go_sem,Tryz.f13,zB,zD,zC,reduceIte,reduceCtorEq,zA]
  | some s =>
   rw [hp] at hr
   simp only [go_sem,zAa,c1,c2,decide_true,decide_false,zB,zD,zC,reduceIte,reduceCtorEq,zA]
   refine cp n60 hR (SubL.refl _) ?_
   simp only [go_sem,zAc,zAa,c2,decide_true,decide_false,zAi,zX,qF,zAd,hc2,oI,oS,o1,zK,zM,zJ,splice,zH,zG,and_self,zT,zZ,zB,zD,zC,reduceIte,reduceCtorEq,zA]
   refine cp n63 hr (SubL.refl _) ?_
   simp only [go_sem,zAc,zAa,c2,decide_true,decide_false,zAi,zX,qF,zAd,hc2,oI,oS,o1,zK,zM,zJ,splice,zH,zG,and_self,zT,zZ,bd0,x3,z3,decide_true,zB,zD,zC,reduceIte,reduceCtorEq,zA]
   refine cp n62 (zBm ⟨0,[]⟩ ⟨0,[]⟩ (by decide) (by decide)) (SubL.cons sub_zero (SubL.cons sub_zero (SubL.refl []))) ?_
   rw [decide_eq_true rfl]
   simp only [go_sem,zB,zD,zC,reduceIte,reduceCtorEq,zA]
   refine cp n24 zEa (SubL.refl _) ?_
   simp only [go_sem,Tryz.f13,zB,zD,zC,reduceIte,reduceCtorEq,zA]
 have c2:¬ ((t.size:Int) > 400):=by omega
 cases hp:parsedB t with
 | none =>
  have e:readA t=.tuple [.agg [.int .i64 0,.nilS],.int .i64 4]:=by unfold readA;rw [if_pos h4,hp]
  rw [e] at hR
  rw [hp] at hr
  simp only [go_sem,zAa,c1,c2,decide_false,zB,zD,zC,reduceIte,reduceCtorEq,zA]
  refine cp n60 hR (SubL.refl _) ?_
  simp only [go_sem,zAc,zAa,c2,decide_true,decide_false,zAi,zX,qF,zAd,hc2,oI,oS,o1,zK,zM,zJ,splice,zH,zG,and_self,zT,zZ,zB,zD,zC,reduceIte,reduceCtorEq,zA]
  refine cp n63 hr (SubL.refl _) ?_
  simp only [go_sem,zAa,c2,decide_false,zAi,qF,zB,zD,zC,reduceIte,reduceCtorEq,zA]
  simp only [go_sem,zAc,zAa,c2,decide_true,decide_false,zAi,zX,qF,zAd,hc2,oI,oS,o1,zK,zM,zJ,splice,zH,zG,and_self,zT,zZ,bd0,x4,z4,decide_true,zB,zD,zC,reduceIte,reduceCtorEq,zA]
  refine cp n62 (zBm ⟨0,[]⟩ ⟨0,[]⟩ (by decide) (by decide)) (SubL.cons sub_zero (SubL.cons sub_zero (SubL.refl []))) ?_
  rw [decide_eq_true rfl]
  simp only [go_sem,zB,zD,zC,reduceIte,reduceCtorEq,zA]
  refine cp n24 zEa (SubL.refl _) ?_
  simp only [go_sem,Tryz.f13,zB,zD,zC,reduceIte,reduceCtorEq,zA]
 | some s =>
  rw [hp] at hr
  have hfew:=parsed_few hp (by omega)
  have hok:okL s.sights.length:=by unfold okL;omega
  have htx:=(rread_some (by rw [rread_eq,hp])).2
  cases hv:zAp s
  ·have e:readA t=.tuple [.agg [.int .i64 0,.nilS],.int .i64 2]:=by unfold readA;rw [if_pos h4,hp];simp only [hv];rfl
   rw [e] at hR
   simp only [go_sem,zAa,c1,c2,decide_false,zB,zD,zC,reduceIte,reduceCtorEq,zA]
   refine cp n60 hR (SubL.refl _) ?_
   simp only [go_sem,zAc,zAa,c2,decide_true,decide_false,zAi,zX,qF,zAd,hc2,oI,oS,o1,zK,zM,zJ,splice,zH,zG,and_self,zT,zZ,zB,zD,zC,reduceIte,reduceCtorEq,zA]
   refine cp n63 hr (SubL.refl _) ?_
   simp only [go_sem,zAc,zAa,c2,decide_true,decide_false,zAi,zX,qF,zAd,hc2,oI,oS,o1,zK,zM,zJ,splice,zH,zG,and_self,zT,zZ,zAi,zX,zB,zD,zC,reduceIte,reduceCtorEq,zA]
   refine cp n33 (rSurvey_pc s hok) (SubL.refl _) ?_
   rw [hv]
   simp only [go_sem,zAi,qF,zB,zD,zC,reduceIte,reduceCtorEq,zA]
   simp only [go_sem,zAc,zAa,c2,decide_true,decide_false,zAi,zX,qF,zAd,hc2,oI,oS,o1,zK,zM,zJ,splice,zH,zG,and_self,zT,zZ,bd0,x2,z2,decide_true,zB,zD,zC,reduceIte,reduceCtorEq,zA]
   refine cp n62 (zBm ⟨0,[]⟩ ⟨0,[]⟩ (by decide) (by decide)) (SubL.cons sub_zero (SubL.cons sub_zero (SubL.refl []))) ?_
   rw [decide_eq_true rfl]
   simp only [go_sem,zB,zD,zC,reduceIte,reduceCtorEq,zA]
   refine cp n24 zEa (SubL.refl _) ?_
   simp only [go_sem,Tryz.f13,zB,zD,zC,reduceIte,reduceCtorEq,zA]
  ·have e:readA t=.tuple [surA s,.int .i64 0]:=by unfold readA;rw [if_pos h4,hp];simp only [hv];rfl
   rw [e] at hR
   have hP:=Print_pc s hok
   have eP:printA s=.tuple [.str (textB s),.int .i64 0]:=by unfold printA;rw [hv];rfl
   rw [eP,htx] at hP
   have es:=eqSS t
   simp only [go_sem,zAa,c1,c2,decide_false,zB,zD,zC,reduceIte,reduceCtorEq,zA]
   refine cp n60 hR (SubL.refl _) ?_
   simp only [go_sem,zAc,zAa,c2,decide_true,decide_false,zAi,zX,qF,zAd,hc2,oI,oS,o1,zK,zM,zJ,splice,zH,zG,and_self,zT,zZ,zB,zD,zC,reduceIte,reduceCtorEq,zA]
   refine cp n63 hr (SubL.refl _) ?_
   simp only [go_sem,zAc,zAa,c2,decide_true,decide_false,zAi,zX,qF,zAd,hc2,oI,oS,o1,zK,zM,zJ,splice,zH,zG,and_self,zT,zZ,zAi,zX,zB,zD,zC,reduceIte,reduceCtorEq,zA]
   refine cp n33 (rSurvey_pc s hok) (SubL.refl _) ?_
   rw [hv]
   simp only [go_sem,zAi,zX,y0,decide_false,zB,zD,zC,reduceIte,reduceCtorEq,zA]
   refine cp n59 hP (SubL.refl _) ?_
   simp only [go_sem,zAc,z0,decide_true,zB,zD,zC,reduceIte,reduceCtorEq,zA]
   refine cp n62 (zBm s s hok hok) (SubL.refl _) ?_
   rw [decide_eq_true rfl]
   simp only [go_sem,es,z0,decide_true,zB,zD,zC,reduceIte,reduceCtorEq,zA]
   refine cp n24 zEa (SubL.refl _) ?_
   simp only [go_sem,Tryz.f13,zB,zD,zC,reduceIte,reduceCtorEq,zA]
end Go.Av.Lx
end
section
set_option maxRecDepth 100000
namespace Go.Av.Lx
open Go.Lv (Sight Survey Leg Tun Try Stp)
open Go Go.Av Go.Av.Tb Go.Av.Fx Go.Proofs Go.ChangeShapes Go.WideShapes Go.RowKit
def cW (W:World):Cx:=
 {K:=fun b o=>W.cell? ⟨b,o,none⟩,μ:=fun _=>none,τ:=fun _=>none,X:=fun _ _=>none
  XO:=fun b=>match W.heap[b]? with
   | some (.cells _ _ _)=>none
   | o=>o
  sz:=W.heap.size,FZ:=⟨fun _ _=>false,W⟩ }
structure TabOk (W:World):Prop where
 tab:∀ i,i<20→W.cell? ⟨tabB,i,none⟩=some (tabV i)
 tsh:∃ t,W.shape? tabB=some (t,20)
theorem cW_st {W:World} (h:TabOk W):StRel (cW W) St.empty W where
 sz:=zN _
 tab:=h.tab
 tsh:=h.tsh
 fr:=Frm.refl W
 K:=fun _ _ _ e=>e
 X:=fun _ _ _ e=>by cases e
 XO:=fun b ob e=>by
  simp only [cW] at e
  split at e
  ·cases e
  ·rename_i hn
   exact ⟨e,fun cs t f he=>hn cs t f (by rw [e,he])⟩
 F:=fun _ _ e=>by cases e
 dom:=fun _ _ e=>by cases e
 tdom:=fun _ _ e=>by cases e
 blk:=fun i B e=>by simp [St.empty] at e
 inj:=fun i j Bi Bj n e=>by simp [St.empty] at e
 tok:=fun k hk=>by cases hk
 tinj:=fun k k' b lo hi lo' hi' hk=>by cases hk
 tblk:=fun k i b lo hi B hk=>by cases hk
 tfr:=fun k b lo hi hk=>by cases hk
structure Keep (W W':World):Prop where
 os:W'.os=W.os
 out:W'.output=W.output
 block:∀ k,k<W.heap.size→W'.heap[k]? = W.heap[k]?
theorem keep_of {W W':World} {c':Cx} {S':St} (hle:(cW W).le c') (h:StRel c' S' W'):Keep W W':=by
 have hfr:Go.Av.Frm W W':=by have:=h.fr;rw [hle.FZ] at this;exact this
 refine ⟨hfr.os,hfr.out,fun k hk => ?_⟩
 have hob:W.heap[k]? = some W.heap[k]:=qC hk
 rw [hob]
 cases ho:W.heap[k] with
 | cells cs t fr =>
  rw [ho] at hob
  obtain ⟨cs',e1,e2⟩:=hfr.blk k cs t fr hob
  rw [e1]
  congr 2
  apply Array.ext
  ·exact e2
  ·intro j h1 h2
   have hc:W.cell? ⟨k,j,none⟩=some cs[j]:=by
    unfold World.cell?
    simp [hob,h2]
   have:=h.K k j _ (hle.K k j _ hc)
   unfold World.cell? at this
   simp [e1,h1] at this
   exact this
 | _ =>
  rw [ho] at hob
  exact (h.XO k _ (by rw [hle.XO];simp only [cW,hob])).1
theorem Keep.keptBut {W W':World} (h:Keep W W') (may:MemPlace→Prop):W.keptBut W' may:=by
 refine ⟨h.os,h.out,fun i hi => ?_⟩
 rw [h.block i hi,qC hi]
 cases W.heap[i] with
 | cells c t fr=>exact ⟨rfl,rfl,rfl,fun _ _=>rfl⟩
 | map es clock=>exact .inr ⟨rfl,rfl⟩
 | _=>rfl
theorem Keep.same {W W':World} (h:Keep W W') {p:MemPlace} (hp:p.block<W.heap.size):W.sameAt W' p:=by
 cases p with
 | cell b o=>exact World.cell?_of_block (w:=W) (h.block b hp)
 | map b=>exact h.block b hp
theorem law_calls {f:FuncId} {args:List AV} {W:World} {vs:List Value} (h:PC Tryz.prog f args (.pure (.bool true))) (ht:TabOk W) (hl:LRel (cW W) args vs) :
  Calls Tryz.prog f vs.toArray W fun e W'=>e=.returned (.bool true)∧Keep W W':=by
 refine (h (cW W) St.empty W vs (cW_st ht) hl).mono ?_
 rintro e W' ⟨x,rfl,c',hle,_,_,hst,hv⟩
 refine ⟨?_,keep_of hle hst⟩
 cases hv;rfl
end Go.Av.Lx
end
section
namespace Go.Proofs.YtclmbbofpaecaaaGreatDoor
open Go Go.Av Go.ChangeShapes Go.WideShapes Go.ChangeAt Go.RowKit
set_option maxRecDepth 100000
theorem own:ownKnob Tryz.prog.godebug=none:=by kernel_rfl
theorem laidOut:laidOutB Tryz.prog=true:=by kernel_rfl
def tabs:List (String × DataW Unit):=[("math/bits.deBruijn32tab", Rows.laid_math_bits_deBruijn32tab),("math/bits.deBruijn64tab", Rows.laid_math_bits_deBruijn64tab),("internal/strconv.uint64pow10", Rows.laid_internal_strconv_uint64pow10),("unicode/utf8.acceptRanges", Rows.laid_unicode_utf8_acceptRanges),("unicode/utf8.first", Rows.laid_unicode_utf8_first)]
theorem pow_data:(Rows.laid_internal_strconv_uint64pow10:DataW Unit)=Lib.tabData .u64 Lib.pow10Tab:=by kernel_rfl
theorem pow_name:Tryz.prog.globalNamed "internal/strconv.uint64pow10" = some 0:=by kernel_rfl
theorem pow_type:(Tryz.prog.globals[0]?).map (·.type)=some 266:=by kernel_rfl
theorem tab_ok {W:World} (h:laidMetH Tryz.prog tabs W):Go.Av.Lx.TabOk W:=by
 rw [MakeChecks.laidMetH_plain _ _ _ (by kernel_rfl)] at h
 obtain ⟨ps,⟨_,_,_,_,_,_,_,_,_,_,⟨_,_,_,_,_,_,_,_,_,_,⟨g,t,cs,fuel,p,q,hg,ht,hv,hd,_,_⟩,_⟩,_⟩,_,_⟩:=h
 obtain rfl:=Option.some.inj (pow_name.symm.trans hg)
 obtain rfl:=Option.some.inj (pow_type.symm.trans ht)
 rw [pow_data] at hd
 have hcs:=Lib.cells_of_tab (P:=Tryz.prog) (t:=266) (e:=245) (n:=20) (k:=.u64) (by kernel_rfl) (by kernel_rfl) (by kernel_rfl) (by kernel_rfl) hd
 have hlen:Lib.pow10Tab.length=20:=by simp [Lib.pow10Tab]
 have hTab:Lib.TabIs Tryz.prog W "internal/strconv.uint64pow10" .u64 Lib.pow10Tab:=by
  unfold Lib.TabIs
  rw [hv,← hcs]
 refine ⟨fun i hi => ?_, ?_⟩
 ·have:=hTab.cell pow_name i (by rw [hlen];exact hi)
  rw [show (Lib.pow10Tab.getD i 0:Int)=((10 ^ i:Nat):Int) by
   unfold Lib.pow10Tab
   rw [zI,qN,qT hi];rfl] at this
  exact this
 ·unfold World.var? at hv
  rw [pow_name,zY] at hv
  split at hv
  ·rename_i cs' t' fr e
   cases hv
   refine ⟨t', ?_⟩
   unfold World.shape?
   show (match W.heap[0]? with
    | some (.cells c elem _)=>some (elem,c.size)
    | _=>none)=_
   rw [e]
   have:cs.size=20:=by
    have:=congrArg List.length hcs
    simpa [hlen] using this
   simp [this]
  ·cases hv
def initS:String := "harness 6d35de1e401f8de53127ac5c61a8cef0ec1bad88697796d15747f2a67ee9c756 cut at quinaria/quinarialaw01.LevelBounds quinaria/quinarialaw01.LevelErrors quinaria/quinarialaw01.LevelFalls quinaria/quinarialaw01.LevelMeets quinaria/quinarialaw01.LevelTakes quinaria/quinarialaw01.LevelDrops quinaria/quinarialaw01.LevelMore quinaria/quinarialaw01.LevelEven quinaria/quinarialaw01.LevelNarrow quinaria/quinarialaw01.LevelPrints quinaria/quinarialaw01.LevelReads quinaria/quinarialaw01.LevelSpoilt quinaria/quinarialaw01.LevelLowest quinaria/quinarialaw01.LevelSurely quinaria/quinarialaw01.LevelHeads quinaria/quinarialaw01.LevelTrue quinaria/quinarialaw01.LevelRings quinaria/quinarialaw01.LevelFits quinaria/quinarialaw01.LevelFewest quinaria/quinarialaw01.LevelClosed"
def initL:List Char:=[.ofNat 104,.ofNat 97,.ofNat 114,.ofNat 110,.ofNat 101,.ofNat 115,.ofNat 115,.ofNat 32,.ofNat 54,.ofNat 100,.ofNat 51,.ofNat 53,.ofNat 100,.ofNat 101,.ofNat 49,.ofNat 101,.ofNat 52,.ofNat 48,.ofNat 49,.ofNat 102,.ofNat 56,.ofNat 100,.ofNat 101,.ofNat 53,.ofNat 51,.ofNat 49,.ofNat 50,.ofNat 55,.ofNat 97,.ofNat 99,.ofNat 53,.ofNat 99,.ofNat 54,.ofNat 49,.ofNat 97,.ofNat 56,.ofNat 99,.ofNat 101,.ofNat 102,.ofNat 48,.ofNat 101,.ofNat 99,.ofNat 49,.ofNat 98,.ofNat 97,.ofNat 100,.ofNat 56,.ofNat 56,.ofNat 54,.ofNat 57,.ofNat 55,.ofNat 55,.ofNat 57,.ofNat 54,.ofNat 100,.ofNat 49,.ofNat 53,.ofNat 55,.ofNat 52,.ofNat 55,.ofNat 102,.ofNat 50,.ofNat 97,.ofNat 54,.ofNat 55,.ofNat 101,.ofNat 101,.ofNat 57,.ofNat 99,.ofNat 55,.ofNat 53,.ofNat 54,.ofNat 32,.ofNat 99,.ofNat 117,.ofNat 116,.ofNat 32,.ofNat 97,.ofNat 116,.ofNat 32,.ofNat 113,.ofNat 117,.ofNat 105,.ofNat 110,.ofNat 97,.ofNat 114,.ofNat 105,.ofNat 97,.ofNat 47,.ofNat 113,.ofNat 117,.ofNat 105,.ofNat 110,.ofNat 97,.ofNat 114,.ofNat 105,.ofNat 97,.ofNat 108,.ofNat 97,.ofNat 119,.ofNat 48,.ofNat 49,.ofNat 46,.ofNat 76,.ofNat 101,.ofNat 118,.ofNat 101,.ofNat 108,.ofNat 66,.ofNat 111,.ofNat 117,.ofNat 110,.ofNat 100,.ofNat 115,.ofNat 32,.ofNat 113,.ofNat 117,.ofNat 105,.ofNat 110,.ofNat 97,.ofNat 114,.ofNat 105,.ofNat 97,.ofNat 47,.ofNat 113,.ofNat 117,.ofNat 105,.ofNat 110,.ofNat 97,.ofNat 114,.ofNat 105,.ofNat 97,.ofNat 108,.ofNat 97,.ofNat 119,.ofNat 48,.ofNat 49,.ofNat 46,.ofNat 76,.ofNat 101,.ofNat 118,.ofNat 101,.ofNat 108,.ofNat 69,.ofNat 114,.ofNat 114,.ofNat 111,.ofNat 114,.ofNat 115,.ofNat 32,.ofNat 113,.ofNat 117,.ofNat 105,.ofNat 110,.ofNat 97,.ofNat 114,.ofNat 105,.ofNat 97,.ofNat 47,.ofNat 113,.ofNat 117,.ofNat 105,.ofNat 110,.ofNat 97,.ofNat 114,.ofNat 105,.ofNat 97,.ofNat 108,.ofNat 97,.ofNat 119,.ofNat 48,.ofNat 49,.ofNat 46,.ofNat 76,.ofNat 101,.ofNat 118,.ofNat 101,.ofNat 108,.ofNat 70,.ofNat 97,.ofNat 108,.ofNat 108,.ofNat 115,.ofNat 32,.ofNat 113,.ofNat 117,.ofNat 105,.ofNat 110,.ofNat 97,.ofNat 114,.ofNat 105,.ofNat 97,.ofNat 47,.ofNat 113,.ofNat 117,.ofNat 105,.ofNat 110,.ofNat 97,.ofNat 114,.ofNat 105,.ofNat 97,.ofNat 108,.ofNat 97,.ofNat 119,.ofNat 48,.ofNat 49,.ofNat 46,.ofNat 76,.ofNat 101,.ofNat 118,.ofNat 101,.ofNat 108,.ofNat 77,.ofNat 101,.ofNat 101,.ofNat 116,.ofNat 115,.ofNat 32,.ofNat 113,.ofNat 117,.ofNat 105,.ofNat 110,.ofNat 97,.ofNat 114,.ofNat 105,.ofNat 97,.ofNat 47,.ofNat 113,.ofNat 117,.ofNat 105,.ofNat 110,.ofNat 97,.ofNat 114,.ofNat 105,.ofNat 97,.ofNat 108,.ofNat 97,.ofNat 119,.ofNat 48,.ofNat 49,.ofNat 46,.ofNat 76,.ofNat 101,.ofNat 118,.ofNat 101,.ofNat 108,.ofNat 84,.ofNat 97,.ofNat 107,.ofNat 101,.ofNat 115,.ofNat 32,.ofNat 113,.ofNat 117,.ofNat 105,.ofNat 110,.ofNat 97,.ofNat 114,.ofNat 105,.ofNat 97,.ofNat 47,.ofNat 113,.ofNat 117,.ofNat 105,.ofNat 110,.ofNat 97,.ofNat 114,.ofNat 105,.ofNat 97,.ofNat 108,.ofNat 97,.ofNat 119,.ofNat 48,.ofNat 49,.ofNat 46,.ofNat 76,.ofNat 101,.ofNat 118,.ofNat 101,.ofNat 108,.ofNat 68,.ofNat 114,.ofNat 111,.ofNat 112,.ofNat 115,.ofNat 32,.ofNat 113,.ofNat 117,.ofNat 105,.ofNat 110,.ofNat 97,.ofNat 114,.ofNat 105,.ofNat 97,.ofNat 47,.ofNat 113,.ofNat 117,.ofNat 105,.ofNat 110,.ofNat 97,.ofNat 114,.ofNat 105,.ofNat 97,.ofNat 108,.ofNat 97,.ofNat 119,.ofNat 48,.ofNat 49,.ofNat 46,.ofNat 76,.ofNat 101,.ofNat 118,.ofNat 101,.ofNat 108,.ofNat 77,.ofNat 111,.ofNat 114,.ofNat 101,.ofNat 32,.ofNat 113,.ofNat 117,.ofNat 105,.ofNat 110,.ofNat 97,.ofNat 114,.ofNat 105,.ofNat 97,.ofNat 47,.ofNat 113,.ofNat 117,.ofNat 105,.ofNat 110,.ofNat 97,.ofNat 114,.ofNat 105,.ofNat 97,.ofNat 108,.ofNat 97,.ofNat 119,.ofNat 48,.ofNat 49,.ofNat 46,.ofNat 76,.ofNat 101,.ofNat 118,.ofNat 101,.ofNat 108,.ofNat 69,.ofNat 118,.ofNat 101,.ofNat 110,.ofNat 32,.ofNat 113,.ofNat 117,.ofNat 105,.ofNat 110,.ofNat 97,.ofNat 114,.ofNat 105,.ofNat 97,.ofNat 47,.ofNat 113,.ofNat 117,.ofNat 105,.ofNat 110,.ofNat 97,.ofNat 114,.ofNat 105,.ofNat 97,.ofNat 108,.ofNat 97,.ofNat 119,.ofNat 48,.ofNat 49,.ofNat 46,.ofNat 76,.ofNat 101,.ofNat 118,.ofNat 101,.ofNat 108,.ofNat 78,.ofNat 97,.ofNat 114,.ofNat 114,.ofNat 111,.ofNat 119,.ofNat 32,.ofNat 113,.ofNat 117,.ofNat 105,.ofNat 110,.ofNat 97,.ofNat 114,.ofNat 105,.ofNat 97,.ofNat 47,.ofNat 113,.ofNat 117,.ofNat 105,.ofNat 110,.ofNat 97,.ofNat 114,.ofNat 105,.ofNat 97,.ofNat 108,.ofNat 97,.ofNat 119,.ofNat 48,.ofNat 49,.ofNat 46,.ofNat 76,.ofNat 101,.ofNat 118,.ofNat 101,.ofNat 108,.ofNat 80,.ofNat 114,.ofNat 105,.ofNat 110,.ofNat 116,.ofNat 115,.ofNat 32,.ofNat 113,.ofNat 117,.ofNat 105,.ofNat 110,.ofNat 97,.ofNat 114,.ofNat 105,.ofNat 97,.ofNat 47,.ofNat 113,.ofNat 117,.ofNat 105,.ofNat 110,.ofNat 97,.ofNat 114,.ofNat 105,.ofNat 97,.ofNat 108,.ofNat 97,.ofNat 119,.ofNat 48,.ofNat 49,.ofNat 46,.ofNat 76,.ofNat 101,.ofNat 118,.ofNat 101,.ofNat 108,.ofNat 82,.ofNat 101,.ofNat 97,.ofNat 100,.ofNat 115,.ofNat 32,.ofNat 113,.ofNat 117,.ofNat 105,.ofNat 110,.ofNat 97,.ofNat 114,.ofNat 105,.ofNat 97,.ofNat 47,.ofNat 113,.ofNat 117,.ofNat 105,.ofNat 110,.ofNat 97,.ofNat 114,.ofNat 105,.ofNat 97,.ofNat 108,.ofNat 97,.ofNat 119,.ofNat 48,.ofNat 49,.ofNat 46,.ofNat 76,.ofNat 101,.ofNat 118,.ofNat 101,.ofNat 108,.ofNat 83,.ofNat 112,.ofNat 111,.ofNat 105,.ofNat 108,.ofNat 116,.ofNat 32,.ofNat 113,.ofNat 117,.ofNat 105,.ofNat 110,.ofNat 97,.ofNat 114,.ofNat 105,.ofNat 97,.ofNat 47,.ofNat 113,.ofNat 117,.ofNat 105,.ofNat 110,.ofNat 97,.ofNat 114,.ofNat 105,.ofNat 97,.ofNat 108,.ofNat 97,.ofNat 119,.ofNat 48,.ofNat 49,.ofNat 46,.ofNat 76,.ofNat 101,.ofNat 118,.ofNat 101,.ofNat 108,.ofNat 76,.ofNat 111,.ofNat 119,.ofNat 101,.ofNat 115,.ofNat 116,.ofNat 32,.ofNat 113,.ofNat 117,.ofNat 105,.ofNat 110,.ofNat 97,.ofNat 114,.ofNat 105,.ofNat 97,.ofNat 47,.ofNat 113,.ofNat 117,.ofNat 105,.ofNat 110,.ofNat 97,.ofNat 114,.ofNat 105,.ofNat 97,.ofNat 108,.ofNat 97,.ofNat 119,.ofNat 48,.ofNat 49,.ofNat 46,.ofNat 76,.ofNat 101,.ofNat 118,.ofNat 101,.ofNat 108,.ofNat 83,.ofNat 117,.ofNat 114,.ofNat 101,.ofNat 108,.ofNat 121,.ofNat 32,.ofNat 113,.ofNat 117,.ofNat 105,.ofNat 110,.ofNat 97,.ofNat 114,.ofNat 105,.ofNat 97,.ofNat 47,.ofNat 113,.ofNat 117,.ofNat 105,.ofNat 110,.ofNat 97,.ofNat 114,.ofNat 105,.ofNat 97,.ofNat 108,.ofNat 97,.ofNat 119,.ofNat 48,.ofNat 49,.ofNat 46,.ofNat 76,.ofNat 101,.ofNat 118,.ofNat 101,.ofNat 108,.ofNat 72,.ofNat 101,.ofNat 97,.ofNat 100,.ofNat 115,.ofNat 32,.ofNat 113,.ofNat 117,.ofNat 105,.ofNat 110,.ofNat 97,.ofNat 114,.ofNat 105,.ofNat 97,.ofNat 47,.ofNat 113,.ofNat 117,.ofNat 105,.ofNat 110,.ofNat 97,.ofNat 114,.ofNat 105,.ofNat 97,.ofNat 108,.ofNat 97,.ofNat 119,.ofNat 48,.ofNat 49,.ofNat 46,.ofNat 76,.ofNat 101,.ofNat 118,.ofNat 101,.ofNat 108,.ofNat 84,.ofNat 114,.ofNat 117,.ofNat 101,.ofNat 32,.ofNat 113,.ofNat 117,.ofNat 105,.ofNat 110,.ofNat 97,.ofNat 114,.ofNat 105,.ofNat 97,.ofNat 47,.ofNat 113,.ofNat 117,.ofNat 105,.ofNat 110,.ofNat 97,.ofNat 114,.ofNat 105,.ofNat 97,.ofNat 108,.ofNat 97,.ofNat 119,.ofNat 48,.ofNat 49,.ofNat 46,.ofNat 76,.ofNat 101,.ofNat 118,.ofNat 101,.ofNat 108,.ofNat 82,.ofNat 105,.ofNat 110,.ofNat 103,.ofNat 115,.ofNat 32,.ofNat 113,.ofNat 117,.ofNat 105,.ofNat 110,.ofNat 97,.ofNat 114,.ofNat 105,.ofNat 97,.ofNat 47,.ofNat 113,.ofNat 117,.ofNat 105,.ofNat 110,.ofNat 97,.ofNat 114,.ofNat 105,.ofNat 97,.ofNat 108,.ofNat 97,.ofNat 119,.ofNat 48,.ofNat 49,.ofNat 46,.ofNat 76,.ofNat 101,.ofNat 118,.ofNat 101,.ofNat 108,.ofNat 70,.ofNat 105,.ofNat 116,.ofNat 115,.ofNat 32,.ofNat 113,.ofNat 117,.ofNat 105,.ofNat 110,.ofNat 97,.ofNat 114,.ofNat 105,.ofNat 97,.ofNat 47,.ofNat 113,.ofNat 117,.ofNat 105,.ofNat 110,.ofNat 97,.ofNat 114,.ofNat 105,.ofNat 97,.ofNat 108,.ofNat 97,.ofNat 119,.ofNat 48,.ofNat 49,.ofNat 46,.ofNat 76,.ofNat 101,.ofNat 118,.ofNat 101,.ofNat 108,.ofNat 70,.ofNat 101,.ofNat 119,.ofNat 101,.ofNat 115,.ofNat 116,.ofNat 32,.ofNat 113,.ofNat 117,.ofNat 105,.ofNat 110,.ofNat 97,.ofNat 114,.ofNat 105,.ofNat 97,.ofNat 47,.ofNat 113,.ofNat 117,.ofNat 105,.ofNat 110,.ofNat 97,.ofNat 114,.ofNat 105,.ofNat 97,.ofNat 108,.ofNat 97,.ofNat 119,.ofNat 48,.ofNat 49,.ofNat 46,.ofNat 76,.ofNat 101,.ofNat 118,.ofNat 101,.ofNat 108,.ofNat 67,.ofNat 108,.ofNat 111,.ofNat 115,.ofNat 101,.ofNat 100]
theorem init_eq:Tryz.prog.initOrder=initS:=by kernel_rfl
theorem init_lit:initS=String.ofList initL:=by kernel_rfl
theorem init_list:Tryz.prog.initOrder.toList=initL:=by rw [init_eq,init_lit,String.toList_ofList]
def initW:List (List Char):=(behindMainWord (wordsSigns initL)).tail
theorem words_eq:behindMainWord (wordsSigns initL) = "cut".toList :: initW:=by kernel_rfl
theorem words_of:behindMainWord (wordsSigns Tryz.prog.initOrder.toList) = "cut".toList :: initW:=by rw [init_list,words_eq]
theorem strip_cut (W:List (List Char)):stripLifts liftWords ("cut".toList :: W)=([], "cut".toList :: W):=by
 have h:(liftWords.all fun o => !("cut".toList == o.toList))=true:=by decide
 have key:∀ l:List String,(l.all fun o => !("cut".toList == o.toList))=true→stripLifts l ("cut".toList :: W)=([], "cut".toList :: W):=by
  intro l
  induction l with
  | nil=>intro _;rfl
  | cons o l ih =>
   intro h
   rw [zK,zR,Bool.not_eq_true'] at h
   unfold stripLifts
   rw [h.1,if_neg (by decide),ih h.2]
 exact key _ h
theorem head_of {P:Program} {W:List (List Char)} (h:behindMainWord (wordsSigns P.initOrder.toList) = "cut".toList :: W):P.headLifts=[]:=by
 unfold Program.headLifts
 rw [h,strip_cut]
 simp
theorem enter_of {P:Program} {W:List (List Char)} (h:behindMainWord (wordsSigns P.initOrder.toList) = "cut".toList :: W) (h1:P.laysLater=false) (h2:P.bearsReflect=false) (h3:P.doorFits []=true):P.mayEnter=true:=by
 unfold Program.mayEnter
 rw [h]
 simp only []
 rw [strip_cut,h1,h2,h3]
 simp
theorem lifts_of {P:Program} {W:List (List Char)} (h:behindMainWord (wordsSigns P.initOrder.toList) = "cut".toList :: W):P.liftsFinal=false:=by
 unfold Program.liftsFinal
 rw [h,head_of h]
 simp
theorem make_of {P:Program} {W:List (List Char)} (h:behindMainWord (wordsSigns P.initOrder.toList) = "cut".toList :: W):P.make=some .cut:=by
 unfold Program.make
 rw [h]
 simp
theorem enter_eq:Tryz.prog.mayEnter=true:=enter_of words_of (by kernel_rfl) (by kernel_rfl) (by kernel_rfl)
theorem lifts_eq:Tryz.prog.liftsFinal=false:=lifts_of words_of
theorem make_eq:Tryz.prog.make=some .cut:=make_of words_of
theorem rowed_eq:mapsRowed Tryz.prog=true:=by kernel_rfl
theorem heard_eq:Tryz.prog.stopsHeard=true:=by kernel_rfl
end Go.Proofs.YtclmbbofpaecaaaGreatDoor
end
