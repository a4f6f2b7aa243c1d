/- Part 30 of the proof. -/
import Derived.Test.YtclmbbofpaecaaaGreatDoorVp27
import Derived.Test.YtclmbbofpaecaaaGreatDoorVp28
import Derived.Test.YtclmbbofpaecaaaGreatDoorVp29
import Derived.Test.YtclmbbofpaecaaaGreatDoorVp21
import Derived.Test.YtclmbbofpaecaaaGreatDoorVp22
import Derived.Test.YtclmbbofpaecaaaGreatDoorVp20
import Derived.Test.YtclmbbofpaecaaaGreatDoorVp24
import Derived.Test.YtclmbbofpaecaaaGreatDoorRows
import Derived.ProofKit
import Derived.LaidMore
import Derived.OpenShut
import Derived.Deep.Slices
import Derived.Stop.Joined
import Derived.ChangeOld
import Derived.SizedLaws
set_option linter.all false
set_option linter.unusedVariables false
set_option linter.unusedSimpArgs false
set_option linter.unusedSectionVars false
open Array renaming getElem?_eq_getElem → qA
open Bool renaming and_self → zJ, and_eq_true → zR, not_true → zV, not_false → qD, not_eq_true' → yO
open List renaming getElem?_eq_getElem → zF, getD_eq_getElem?_getD → zG, set_cons_succ → zH, set_cons_zero → zI, all_cons → zL, getElem?_eq_none → zM, all_nil → zO, mem_cons_self → zP, getElem_mem → zX, getElem?_append_right → zY, length_cons → qB, take_succ_eq_append_getElem → qF, getElem?_append_left → qJ, getElem?_map → qK, length_nil → qL, flatMap_cons → qW, take_length → qZ, length_take → yL
open Nat renaming reduceLeDiff → zA, reduceEqDiff → zB, reduceAdd → zC, reduceBEq → zD, le_of_ble_eq_true → zE, le_refl → zN, lt_or_ge → zU
section
set_option maxRecDepth 100000
set_option maxHeartbeats 16000000
namespace Go.Av.Lx
open Go Go.Av Go.Av.Tb Go.Av.Fx Go.Proofs
open Go.Lv (Sight Survey Sw Sv SightOk Leg Tun Try Stp withS)
theorem ex_Ring:RingA surT=.tuple [stpsA [⟨0,false⟩,⟨1,false⟩,⟨2,false⟩,⟨3,true⟩],.int .i64 0]:=by
 unfold RingA
 rw [ex_ok,if_pos rfl,ex_poss,if_neg (by decide),ex_ring]
theorem ex_read:readA exB=.tuple [surA surX,.int .i64 0]:=by
 unfold readA
 rw [if_pos (by decide),ex_parsed]
 simp only [ex_xok,if_true]
theorem zCg:PC Tryz.prog 24 [] (.pure (.bool true)):=by
 refine PC.of_empty (AC.run (E_ok 223) mix Tryz.func24 m24 rfl rfl rfl (zE rfl) ?_) rfl rfl
 have oS:okL surS.sights.length:=by decide
 have oT:okL surT.sights.length:=by decide
 have oU:okL surU.sights.length:=by decide
 have q1:=Bounds_pc surS oS 0 2
 rw [ex_bounds] at q1
 have q2:=Heights_pc surS oS
 rw [ex_heights] at q2
 have q3:=Ring_pc surT oT
 rw [ex_Ring] at q3
 have q4:=Least_pc surT oT
 rw [ex_least] at q4
 have q5:=Falls_pc surS oS ⟨1,2,2⟩ 2 3
 rw [ex_falls] at q5
 have q6:=Carries_pc surS oS [⟨1,2,2⟩,⟨2,1,1⟩] (by decide) 0 3
 rw [ex_carries] at q6
 have q7:=Meets_pc surS oS ⟨3,0,5,3,1⟩
 rw [ex_meets] at q7
 have q8:=Drives_pc surS oS ⟨3,0,5,3,1⟩
 rw [ex_drives] at q8
 have q9:=Takes_pc surS oS 0 2 [⟨0,2,2⟩,⟨1,2,0⟩] (by decide)
 rw [ex_takes] at q9
 have q10:=Drops_pc surU oU
 rw [ex_drops] at q10
 have q11:=Blames_pc surU oU
 rw [ex_blames] at q11
 have q12:=Read_pc exB (by decide)
 rw [ex_read] at q12
 have q13:=rPrint_pc surX (small_plain (parsed_small ex_parsed) (by decide))
 rw [ex_text] at q13
 have b1:buildA T 61 [(0,.int .i64 1),(1,.int .i64 2),(2,.int .i64 2)]=some (.agg (legC ⟨1,2,2⟩)):=rfl
 have b2:buildA T 61 [(0,.int .i64 2),(1,.int .i64 1),(2,.int .i64 1)]=some (.agg (legC ⟨2,1,1⟩)):=rfl
 have b3:zAe T 54 2 [(0,.agg (legC ⟨1,2,2⟩)),(1,.agg (legC ⟨2,1,1⟩))]=some (.slice (legsC [⟨1,2,2⟩,⟨2,1,1⟩]) [(⟨1,2,2⟩:Leg),⟨2,1,1⟩].length .exact):=rfl
 have b4:buildA T 68 [(0,.int .i64 3),(1,.int .i64 0),(2,.int .i64 5),(3,.int .i64 3),(4,.int .i64 1)]=some (.agg (tunC ⟨3,0,5,3,1⟩)):=rfl
 have b5:buildA T 95 [(0,.int .i64 0),(1,.int .i64 2),(2,.int .i64 2)]=some (.agg (tryC ⟨0,2,2⟩)):=rfl
 have b6:buildA T 95 [(0,.int .i64 1),(1,.int .i64 2)]=some (.agg (tryC ⟨1,2,0⟩)):=rfl
 have b7:zAe T 76 2 [(0,.agg (tryC ⟨0,2,2⟩)),(1,.agg (tryC ⟨1,2,0⟩))]=some (.slice (triesC [⟨0,2,2⟩,⟨1,2,0⟩]) [(⟨0,2,2⟩:Try),⟨1,2,0⟩].length .exact):=rfl
 have b8:buildA T 28 [(0,.int .i64 5),(1,.int .i64 9)]=some (.agg [.int .i64 5,.int .i64 9]):=rfl
 have b9:buildA T 28 [(0,.int .i64 (-7)),(1,.int .i64 7)]=some (.agg [.int .i64 (-7),.int .i64 7]):=rfl
 have b10:buildA T 49 [(0,.int .i64 7),(1,.int .i64 4)]=some (.agg [.int .i64 7,.int .i64 4]):=rfl
 have b11:∀ n,buildA T 127 [(0,.int .i64 n)]=some (.agg (stpC ⟨n,false⟩)):=fun n=>rfl
 have b12:∀ n,buildA T 127 [(0,.int .i64 n),(1,.bool true)]=some (.agg (stpC ⟨n,true⟩)):=fun n=>rfl
 have b13:zAe T 117 4 [(0,.agg (stpC ⟨0,false⟩)),(1,.agg (stpC ⟨1,false⟩)),(2,.agg (stpC ⟨2,false⟩)),(3,.agg (stpC ⟨3,true⟩))]=some (.slice (stpsC [⟨0,false⟩,⟨1,false⟩,⟨2,false⟩,⟨3,true⟩]) [(⟨0,false⟩:Stp),⟨1,false⟩,⟨2,false⟩,⟨3,true⟩].length .exact):=rfl
 have b14:∀ a b c d:Int,zAe T 32 4 [(0,.int .i64 a),(1,.int .i64 b),(2,.int .i64 c),(3,.int .i64 d)]=some (.slice (ints [a,b,c,d]) [a,b,c,d].length .exact):=fun a b c d=>rfl
 have b15:zAe T 32 3 [(0,.int .i64 1),(1,.int .i64 2),(2,.int .i64 3)]=some (.slice (ints [1,2,3]) [(1:Int),2,3].length .exact):=rfl
 have b16:zAe T 32 1 [(0,.int .i64 1)]=some (.slice (ints [1]) [(1:Int)].length .exact):=rfl
 have n1:binA T .neq 28 (.agg [.int .i64 5,.int .i64 9]) (.agg [.int .i64 5,.int .i64 9])=some (.bool false):=rfl
 have n2:binA T .neq 28 (.agg [.int .i64 (-7),.int .i64 7]) (.agg [.int .i64 (-7),.int .i64 7])=some (.bool false):=rfl
 have n3:binA T .neq 49 (.agg [.int .i64 7,.int .i64 4]) (.agg [.int .i64 7,.int .i64 4])=some (.bool false):=rfl
 have z0:¬ ((0:Int)≠0):=by decide
 have z1:¬ ((1:Int)≠1):=by decide
 have z2:¬ ((2:Int)≠2):=by decide
 have z3:¬ ((3:Int)≠3):=by decide
 have z7:¬ ((7:Int)≠7):=by decide
 have y1:decide ((1:Int)=1)=true:=rfl
 have y2:decide ((2:Int)=2)=true:=rfl
 have z4:binA T .eql 9 (.str exB) (.str ⟨#[115,117,114,118,101,121,32,50,10,115,105,103,104,116,32,48,32,49,32,52,32,48,10,101,110,100,32,48,49,50,10]⟩)=some (.bool true):=(show binA T .eql 9 (.str exB) (.str exB)=some (.bool true) by rw [eqS,decide_eq_true rfl])
 simp only [go_sem,zB,zD,zC,reduceIte,reduceCtorEq,zA]
 refine cp n81 S_pc (SubL.refl _) ?_
 try simp only [go_sem,zB,zD,zC,reduceIte,reduceCtorEq,zA]
 refine cp n25 q1 (SubL.refl _) ?_
 simp only [go_sem,zAc,frA,zAd,AV.cells,AV.one,zL,zO,zJ,splice,zI,zH,and_self,qB,qL,zB,zD,zC,reduceIte,reduceCtorEq,zA]
 refine cp n81 S_pc (SubL.refl _) ?_
 try simp only [go_sem,zB,zD,zC,reduceIte,reduceCtorEq,zA]
 refine cp n26 q2 (SubL.refl _) ?_
 simp only [go_sem,zAc,frA,zAd,AV.cells,AV.one,zL,zO,zJ,splice,zI,zH,and_self,qB,qL,zB,zD,zC,reduceIte,reduceCtorEq,zA]
 refine cp n82 T_pc (SubL.refl _) ?_
 try simp only [go_sem,zB,zD,zC,reduceIte,reduceCtorEq,zA]
 refine cp n72 q3 (SubL.refl _) ?_
 simp only [go_sem,zAc,frA,zAd,AV.cells,AV.one,zL,zO,zJ,splice,zI,zH,and_self,qB,qL,zB,zD,zC,reduceIte,reduceCtorEq,zA]
 refine cp n82 T_pc (SubL.refl _) ?_
 try simp only [go_sem,zB,zD,zC,reduceIte,reduceCtorEq,zA]
 refine cp n32 q4 (SubL.refl _) ?_
 simp only [go_sem,zAc,frA,zAd,AV.cells,AV.one,zL,zO,zJ,splice,zI,zH,and_self,qB,qL,zB,zD,zC,reduceIte,reduceCtorEq,zA]
 refine cp n81 S_pc (SubL.refl _) ?_
 simp only [go_sem,b1,b2,b3,b4,b5,b6,b7,zB,zD,zC,reduceIte,reduceCtorEq,zA]
 refine cp n39 q5 (SubL.refl _) ?_
 simp only [go_sem,zAc,frA,zAd,AV.cells,AV.one,zL,zO,zJ,splice,zI,zH,and_self,qB,qL,zB,zD,zC,reduceIte,reduceCtorEq,zA]
 refine cp n81 S_pc (SubL.refl _) ?_
 simp only [go_sem,b1,b2,b3,b4,b5,b6,b7,zB,zD,zC,reduceIte,reduceCtorEq,zA]
 refine cp n35 q6 (SubL.cons (Sub.refl _) (SubL.cons (Sub.unk _ _ _) (SubL.refl _))) ?_
 simp only [go_sem,zAc,frA,zAd,AV.cells,AV.one,zL,zO,zJ,splice,zI,zH,and_self,qB,qL,zB,zD,zC,reduceIte,reduceCtorEq,zA]
 refine cp n81 S_pc (SubL.refl _) ?_
 simp only [go_sem,b1,b2,b3,b4,b5,b6,b7,zB,zD,zC,reduceIte,reduceCtorEq,zA]
 refine cp n42 q7 (SubL.refl _) ?_
 simp only [go_sem,zAc,frA,zAd,AV.cells,AV.one,zL,zO,zJ,splice,zI,zH,and_self,qB,qL,zB,zD,zC,reduceIte,reduceCtorEq,zA]
 refine cp n81 S_pc (SubL.refl _) ?_
 simp only [go_sem,b1,b2,b3,b4,b5,b6,b7,zB,zD,zC,reduceIte,reduceCtorEq,zA]
 refine cp n43 q8 (SubL.refl _) ?_
 simp only [go_sem,zAc,frA,zAd,AV.cells,AV.one,zL,zO,zJ,splice,zI,zH,and_self,qB,qL,zB,zD,zC,reduceIte,reduceCtorEq,zA]
 refine cp n81 S_pc (SubL.refl _) ?_
 simp only [go_sem,b1,b2,b3,b4,b5,b6,b7,zB,zD,zC,reduceIte,reduceCtorEq,zA]
 refine cp n47 q9 (SubL.cons (Sub.refl _) (SubL.cons (Sub.refl _) (SubL.cons (Sub.refl _) (SubL.cons (Sub.unk _ _ _) (SubL.refl _))))) ?_
 simp only [go_sem,zAc,frA,zAd,AV.cells,AV.one,zL,zO,zJ,splice,zI,zH,and_self,qB,qL,zB,zD,zC,reduceIte,reduceCtorEq,zA]
 refine cp n83 U_pc (SubL.refl _) ?_
 try simp only [go_sem,zB,zD,zC,reduceIte,reduceCtorEq,zA]
 refine cp n50 q10 (SubL.refl _) ?_
 simp only [go_sem,zAc,frA,zAd,AV.cells,AV.one,zL,zO,zJ,splice,zI,zH,and_self,qB,qL,zB,zD,zC,reduceIte,reduceCtorEq,zA]
 refine cp n83 U_pc (SubL.refl _) ?_
 try simp only [go_sem,zB,zD,zC,reduceIte,reduceCtorEq,zA]
 refine cp n51 q11 (SubL.refl _) ?_
 simp only [go_sem,zAc,zB,zD,zC,reduceIte,reduceCtorEq,zA]
 refine cp n60 q12 (SubL.refl _) ?_
 simp only [go_sem,zAc,z0,decide_false,zAd,AV.cells,AV.one,zL,zO,zJ,splice,zI,zH,and_self,qB,qL,b8,n1,b14,zB,zD,zC,reduceIte,reduceCtorEq,zA]
 refine cp n29 (Same_pc [0,9,5,13] [0,9,5,13] (by decide) (by decide)) (SubL.cons (Sub.refl _) (SubL.cons (Sub.unk _ _ _) (SubL.refl _))) ?_
 rw [decide_eq_true rfl]
 simp only [go_sem,zAh,zV,b14,zB,zD,zC,reduceIte,reduceCtorEq,zA]
 refine cp n29 (Same_pc [0,11,9,17] [0,11,9,17] (by decide) (by decide)) (SubL.cons (Sub.refl _) (SubL.cons (Sub.unk _ _ _) (SubL.refl _))) ?_
 rw [decide_eq_true rfl]
 simp only [go_sem,zAh,zV,b11,b12,b13,zB,zD,zC,reduceIte,reduceCtorEq,zA]
 refine cp n76 (SameSteps_pc [⟨0,false⟩,⟨1,false⟩,⟨2,false⟩,⟨3,true⟩] [⟨0,false⟩,⟨1,false⟩,⟨2,false⟩,⟨3,true⟩] (by decide) (by decide)) (SubL.cons (Sub.refl _) (SubL.cons (Sub.unk _ _ _) (SubL.refl _))) ?_
 rw [decide_eq_true rfl]
 simp only [go_sem,zAh,zV,b10,n3,b14,zB,zD,zC,reduceIte,reduceCtorEq,zA]
 refine cp n29 (Same_pc [0,47,38,73] [0,47,38,73] (by decide) (by decide)) (SubL.cons (Sub.refl _) (SubL.cons (Sub.unk _ _ _) (SubL.refl _))) ?_
 rw [decide_eq_true rfl]
 simp only [go_sem,zAh,zV,z1,z2,z3,z7,decide_false,decide_true,b9,n2,b16,zB,zD,zC,reduceIte,reduceCtorEq,zA]
 refine cp n29 (Same_pc [1] [1] (by decide) (by decide)) (SubL.cons (Sub.refl _) (SubL.cons (Sub.unk _ _ _) (SubL.refl _))) ?_
 rw [decide_eq_true rfl]
 simp only [go_sem,b15,zB,zD,zC,reduceIte,reduceCtorEq,zA]
 refine cp n29 (Same_pc [1,2,3] [1,2,3] (by decide) (by decide)) (SubL.cons (Sub.refl _) (SubL.cons (Sub.unk _ _ _) (SubL.refl _))) ?_
 rw [decide_eq_true rfl]
 simp only [go_sem,zB,zD,zC,reduceIte,reduceCtorEq,zA]
 refine cp n61 q13 (SubL.refl _) ?_
 simp only [go_sem,z4,Tryz.f24,zB,zD,zC,reduceIte,reduceCtorEq,zA]
end Go.Av.Lx
end
section
set_option maxHeartbeats 8000000
namespace Go.Av.Lx
open Go Go.Av Go.Av.Tb Go.Av.Fx Go.Proofs
open Go.Lv (Sight Survey Sw Sv SightOk errF)

end Go.Av.Lx
end
section
set_option maxHeartbeats 8000000
namespace Go.Av.Lx
open Go Go.Av Go.Av.Tb Go.Av.Fx Go.Proofs
open Go.Lv (Sight Survey Sw Sv SightOk possS)

end Go.Av.Lx
end
section
set_option maxHeartbeats 8000000
namespace Go.Av.Lx
open Go Go.Av Go.Av.Tb Go.Av.Fx Go.Proofs
open Go.Lv (Sight Survey Sw Sv SightOk possS shortR ringB Stp)

end Go.Av.Lx
end
section
set_option maxHeartbeats 8000000
namespace Go.Av.Lx
open Go Go.Av Go.Av.Tb Go.Av.Fx Go.Proofs
open Go.Lv (Sight Survey Sw Sv SightOk possS)
open Go.Fw (Sq ent Bd Mat)

end Go.Av.Lx
end
section
set_option maxHeartbeats 8000000
namespace Go.Av.Lx
open Go Go.Av Go.Av.Tb Go.Av.Fx Go.Proofs
open Go.Lv (Sight Survey Sw Sv SightOk Leg LegOk RangeOk Tun TunOk Try TryOk Stp fallW meetL meetH bestAt driveF wideI)
open Go.Fw (Sq ent Bd Mat)

end Go.Av.Lx
end
section
set_option maxHeartbeats 8000000
namespace Go.Av.Lx
open Go Go.Av Go.Av.Tb Go.Av.Fx Go.Proofs
open Go.Lv (Sight Survey Sw Sv SightOk Leg LegOk RangeOk Tun TunOk Try TryOk Stp fallW carryW)
open Go.Fw (Sq ent Bd Mat)

end Go.Av.Lx
end
section
set_option maxHeartbeats 8000000
namespace Go.Av.Lx
open Go Go.Av Go.Av.Tb Go.Av.Fx Go.Proofs
open Go.Lv (Sight Survey Sw Sv SightOk Stp RingP ringB possS shortR Bf befS)
open Go.Fw (Sq ent Bd Mat)
theorem ok_steps {s:Survey} {l:List Stp}:zBy s l=true↔l.length≤8∧Lv.StepsIn s l:=by
 unfold zBy
 rw [zR,decide_eq_true_iff,yO,List.any_eq_false]
 have e:(∀ x∈l,¬ badStp s x=true)↔Lv.StepsIn s l:=by
  exact ⟨fun h x hx=>badStp_iff.1 (by have:=h x hx;simpa using this),fun h x hx=>by rw [badStp_iff.2 (h x hx)];decide⟩
 rw [e]
end Go.Av.Lx
end
section
set_option maxHeartbeats 8000000
namespace Go.Av.Lx
open Go Go.Av Go.Av.Tb Go.Av.Fx Go.Proofs
open Go.Lv (Sight Survey Sw Sv SightOk bas)
open Go.Fw (Sq ent Bd Mat)
theorem ints_get {l:List Int} {i:Nat} (h:i<l.length):(ints l)[i]? = some (.int .i64 (l.getD i 0)):=by
 unfold ints
 rw [qK,zG,zF h]
 rfl
end Go.Av.Lx
end
section
set_option maxHeartbeats 8000000
namespace Go.Av.Lx
open Go Go.Av Go.Av.Tb Go.Av.Fx Go.Proofs
open Go.Lv (Sight Survey Sw Sv SightOk errF dropsS blamesS)

end Go.Av.Lx
end
section
set_option maxHeartbeats 8000000
namespace Go.Av.Lx
open Go Go.Av Go.Av.Tb Go.Av.Fx Go.Proofs
open Go.Lv (Sight Survey Sw Sv SightOk Stp RingP ringB possS DropP dropsS blamesS zAk risB lexI)
open Go.Fw (Sq ent Bd Mat)
theorem stps_get (l:List Stp) (k:Nat) (h:k<l.length):(stpsC l)[k * 2+0]? = some (.int .i64 l[k].sight):=by
 have e:=zDp l k h
 have e0:=congrArg (fun x=>x[0]?) e
 simp only [List.getElem?_take,List.getElem?_drop,Nat.zero_lt_succ,if_true] at e0
 exact e0
theorem fewest_loop1 (s:Survey) (p:List Stp) (hp:p.length≤8) (m:List Int) (rg:Bool) (k:Nat) (hk:k<m.length) (Q:AQ)
  (hQ:Q .normal [(2,stpsA p),(9,sl m),(17,.bool rg),(19,.int .i64 (k:Nat)),(20,.bool (p.any fun x=>decide (x.sight=m.getD k 0))),(21,.int .i64 (p.length:Nat)),(193,.bool false)] ⟨[some (.cells (surC s))],0,[]⟩) :
  WC (E 212) (.loop l21_1) (blockQ 2 Q) [(2,stpsA p),(9,sl m),(17,.bool rg),(19,.int .i64 (k:Nat)),(20,.bool false),(21,.int .i64 0)] ⟨[some (.cells (surC s))],0,[]⟩:=by
 refine zCq p.length (fun n=>[(2,stpsA p),(9,sl m),(17,.bool rg),(19,.int .i64 (k:Nat)),(20,.bool ((p.take n).any fun x=>decide (x.sight=m.getD k 0))),(21,.int .i64 (n:Nat))]) (fun _=>⟨[some (.cells (surC s))],0,[]⟩) rfl rfl ?_
 intro n hn I hI
 by_cases hlt:n<p.length
 rotate_left
 ·have he:n=p.length:=by omega
  subst he
  have k1:¬ ((p.length:Int)<p.length):=by omega
  rw [qZ]
  simp only [go_sem,l21_1,zAa,k1,decide_false,zB,zD,zC,reduceIte,reduceCtorEq,zA]
  exact hQ
 have k1:(n:Int)<p.length:=by omega
 have k2:0≤(n:Int)∧(n:Int)<p.length:=by omega
 have k4:IntKind.i64.wrap ((n:Int)+1)=(n+1:Nat):=wrap64 (by omega)
 have j2:0≤(k:Int)∧(k:Int)<m.length:=by omega
 have g1:=stps_get p n hlt
 have g2:=ints_get hk
 have tk1:p.take (n+1)=p.take n ++ [p[n]]:=qF hlt
 have hI':=hI hlt
 simp only [tk1,List.any_append,List.any_cons,List.any_nil,Bool.or_false] at hI'
 generalize ((p.take n).any fun x=>decide (x.sight=m.getD k 0))=M at hI' ⊢
 clear hI tk1
 generalize p[n]=x at *
 generalize m.getD k 0=y at *
 cases M
 ·simp only [go_sem,l21_1,zAa,k1,decide_true,k2,j2,zAf,and_self,g1,g2,k4,zB,zD,zC,reduceIte,reduceCtorEq,zA]
  exact hI'
 ·simp only [go_sem,l21_1,zAa,k1,decide_true,k2,zAf,and_self,k4,zB,zD,zC,reduceIte,reduceCtorEq,zA]
  exact hI'
theorem fewest_loop0 (s:Survey) (p:List Stp) (hp:p.length≤8) (m:List Int) (hm:m.length≤100) (rg:Bool) (hr:rg=true → ∀ y∈m,(p.any fun x=>decide (x.sight=y))=true) (Q:AQ)
  (hQ:∀ v,Q .normal [(2,stpsA p),(9,sl m),(17,.bool rg),(19,v),(187,.bool false)] ⟨[some (.cells (surC s))],0,[]⟩) :
  WC (E 212) (.loop l21_0) (blockQ 0 Q) [(2,stpsA p),(9,sl m),(17,.bool rg),(19,.int .i64 0)] ⟨[some (.cells (surC s))],0,[]⟩:=by
 cases rg
 ·refine zCq 0 (fun _=>_) (fun _=>_) rfl rfl ?_
  intro q hq I hI
  by_cases hpos:(0:Int)<m.length
  ·simp only [go_sem,l21_0,zAa,hpos,decide_true,zB,zD,zC,reduceIte,reduceCtorEq,zA]
   exact hQ _
  ·simp only [go_sem,l21_0,zAa,hpos,decide_false,zB,zD,zC,reduceIte,reduceCtorEq,zA]
   exact hQ _
 replace hr:=hr rfl
 refine zCq m.length (fun k=>[(2,stpsA p),(9,sl m),(17,.bool true),(19,.int .i64 (k:Nat))]) (fun _=>⟨[some (.cells (surC s))],0,[]⟩) rfl rfl ?_
 intro k hk I hI
 by_cases hlt:k<m.length
 rotate_left
 ·have he:k=m.length:=by omega
  subst he
  have k1:¬ ((m.length:Int)<m.length):=by omega
  simp only [go_sem,l21_0,zAa,k1,decide_false,zB,zD,zC,reduceIte,reduceCtorEq,zA]
  exact hQ _
 have k1:(k:Int)<m.length:=by omega
 have k4:IntKind.i64.wrap ((k:Int)+1)=(k+1:Nat):=wrap64 (by omega)
 have hy:=hr (m.getD k 0) (by rw [zG,zF hlt];exact zX hlt)
 simp only [go_sem,l21_0,zAa,k1,decide_true,zB,zD,zC,reduceIte,reduceCtorEq,zA]
 refine fewest_loop1 s p hp m true k hlt _ ?_
 rw [hy]
 simp only [go_sem,zAh,zV,k4,zB,zD,zC,reduceIte,reduceCtorEq,zA]
 exact hI hlt
theorem fewest_t9 (s:Survey) (hl:okL s.sights.length) (hv:Sv s) (p:List Stp) (hso:zBy s p=true) (v:AV) (Q:AQ) (hQ:∀ X,Q .ret [(6,.bool true)] ⟨X,0,[]⟩) :
  WC (E 212) (.seq (.region [2,3,7,9,15,16] r21_9) (.seq (.region [2,7,9,15,16,17,18] r21_10) (.seq (.seq (.region [2,9,17,180] r21_11) (.cond (.tmp 180) (.seq (.region [6] r21_12) .ret) .skip)) (.seq (.seq (.region [2,9,17,19] r21_13) (.block 0 (.loop l21_0))) (.seq (.region [6] r21_23) .ret))))) Q [(2,stpsA p),(3,.ref 0 0),(7,sl (dropsS s)),(9,sl (blamesS s)),(137,v)] ⟨[some (.cells (surC s))],0,[]⟩:=by
 have y0:¬ ((0:Int)≠0):=by decide
 have hd:=Lv.drops_ok hv.toSw
 have hdl:=hd.len
 have hm14:=hv.many
 obtain ⟨hp8,hin⟩:=ok_steps.1 hso
 have hW:=rWithout_pc s (by omega) (dropsS s) (by unfold okL;omega)
 have hP:=zEn (zAk s (dropsS s)) (by have:=(Lv.without_sv hv (dropsS s)).many;unfold okL;omega)
 have eP:possA (zAk s (dropsS s))=.tuple [.bool true,.int .i64 0]:=by unfold possA;rw [if_pos (zBr.2 (Lv.without_sv hv _)),hd.own]
 rw [eP] at hP
 have hI:=IsRing_pc s hl p (by unfold okL;omega)
 have eI:isRingA s p=.tuple [.bool (ringB s p),.int .i64 0]:=by
  unfold zBy at hso
  unfold isRingA
  rw [zBr.2 hv,hso];rfl
 rw [eI] at hI
 have hbl:(blamesS s).length≤100:=by
  rcases Lv.rsn_len (Lv.blames_up s) with h | h
  ·omega
  ·rw [h];simp
 have hlp:=fewest_loop0 s p hp8 (blamesS s) hbl (ringB s p) (fun h y hy=>by
  obtain ⟨x,hx,e⟩:=Lv.blame_ring hv.toSw (Lv.blame_iff.1 hy).2 hin ((Lv.ring_iff hv.toSw hin).1 h)
  exact List.any_eq_true.2 ⟨x,hx,decide_eq_true e⟩)
 have hone:=hd.one
 have hmore:=hd.more
 generalize ringB s p=rg at *
 generalize hD:dropsS s=l at *
 generalize hB:blamesS s=m at *
 simp only [go_sem,zB,zD,zC,reduceIte,reduceCtorEq,zA]
 refine cp n54 hW (SubL.refl _) ?_
 simp only [go_sem,zB,zD,zC,reduceIte,reduceCtorEq,zA]
 refine cp n57 hP (SubL.refl _) ?_
 simp only [go_sem,zAc,zB,zD,zC,reduceIte,reduceCtorEq,zA]
 refine cp n71 hI (SubL.refl _) ?_
 by_cases h1:l.length=1
 ·have h2:=hone h1
  have b1:decide ((l.length:Int)=1)=true:=decide_eq_true (by omega)
  have b2:decide ((m.length:Int)=0)=false:=decide_eq_false (fun h=>h2 (List.length_eq_zero_iff.1 (by omega)))
  have b3:decide ((l.length:Int) > 1)=false:=decide_eq_false (by omega)
  simp only [go_sem,zAc,y0,zAh,zV,zAa,b1,b2,b3,decide_false,zB,zD,zC,reduceIte,reduceCtorEq,zA]
  refine hlp _ ?_
  intro v
  simp only [go_sem,zB,zD,zC,reduceIte,reduceCtorEq,zA]
  refine cp n24 zCg (SubL.refl _) ?_
  simp only [go_sem,zB,zD,zC,reduceIte,reduceCtorEq,zA]
  exact hQ _
 ·have b1:decide ((l.length:Int)=1)=false:=decide_eq_false (by omega)
  by_cases h2:1<l.length
  ·have h3:=hmore h2
   have b3:decide ((l.length:Int) > 1)=true:=decide_eq_true (by omega)
   have b4:decide ((m.length:Int) > 0)=false:=decide_eq_false (by rw [h3];simp)
   simp only [go_sem,zAc,y0,zAh,zV,zAa,b1,b3,b4,decide_false,zB,zD,zC,reduceIte,reduceCtorEq,zA]
   refine hlp _ ?_
   intro v
   simp only [go_sem,zB,zD,zC,reduceIte,reduceCtorEq,zA]
   refine cp n24 zCg (SubL.refl _) ?_
   simp only [go_sem,zB,zD,zC,reduceIte,reduceCtorEq,zA]
   exact hQ _
  ·have b3:decide ((l.length:Int) > 1)=false:=decide_eq_false (by omega)
   simp only [go_sem,zAc,y0,zAh,zV,zAa,b1,b3,decide_false,zB,zD,zC,reduceIte,reduceCtorEq,zA]
   refine hlp _ ?_
   intro v
   simp only [go_sem,zB,zD,zC,reduceIte,reduceCtorEq,zA]
   refine cp n24 zCg (SubL.refl _) ?_
   simp only [go_sem,zB,zD,zC,reduceIte,reduceCtorEq,zA]
   exact hQ _
set_option maxRecDepth 10000 in
theorem fewest_t3 (s:Survey) (hl:okL s.sights.length) (hv:Sv s) (o:List Int) (hol:okL o.length) (hro:risB s.sights.length o=true) (p:List Stp) (hso:zBy s p=true) (Q:AQ) (hQ:∀ X,Q .ret [(6,.bool true)] ⟨X,0,[]⟩) :
  WC (E 212) (.seq (.region [1,2,3,7,8] r21_3) (.seq (.region [1,2,3,7,8,9,10] r21_4) (.seq (.region [1,2,3,7,8,9,10,11,12] r21_5) (.seq (.region [1,2,3,7,8,9,10,11,12,13,14] r21_6) (.seq (.seq (.region [2,3,7,9,137] r21_7) (.cond (.tmp 137) (.seq (.region [6] r21_8) .ret) .skip)) (.seq (.region [2,3,7,9,15,16] r21_9) (.seq (.region [2,7,9,15,16,17,18] r21_10) (.seq (.seq (.region [2,9,17,180] r21_11) (.cond (.tmp 180) (.seq (.region [6] r21_12) .ret) .skip)) (.seq (.seq (.region [2,9,17,19] r21_13) (.block 0 (.loop l21_0))) (.seq (.region [6] r21_23) .ret)))))))))) Q [(1,sl o),(2,stpsA p),(3,.ref 0 0),(51,.bool false)] ⟨[some (.cells (surC s))],0,[]⟩:=by
 have z2:decide ((2:Int)=2)=true:=rfl
 have z7:decide ((7:Int)=7)=true:=rfl
 have z5:decide ((5:Int)=5)=true:=rfl
 have z0:decide ((0:Int)=0)=true:=rfl
 have y0:¬ ((0:Int)≠0):=by decide
 have y2:¬ ((2:Int)≠2):=by decide
 have y7:¬ ((7:Int)≠7):=by decide
 have y5:¬ ((5:Int)≠5):=by decide
 have x2:((2:Int)≠0):=by decide
 have x7:((7:Int)≠0):=by decide
 have x5:((5:Int)≠0):=by decide
 have hcZ:AV.cells zeroR=[.nilS,.nilS]:=rfl
 have o1:AV.one .nilS=true:=rfl
 have hcR:∀ V,AV.cells (rA V)=[wS (rM V),.slice ((rJ V).map bl) (rJ V).length .unk]:=fun V=>rfl
 have oR:∀ (l:List AV) (n:Nat) (u:Tail),AV.one (.slice l n u)=true:=fun _ _ _=>rfl
 have nb:∀ a b:Bool,binA T .neq 4 (.bool a) (.bool b)=some (.bool (decide (a≠b))):=fun a b=>by cases a <;> cases b <;> rfl
 have eb:∀ a b:Bool,binA T .eql 4 (.bool a) (.bool b)=some (.bool (decide (a=b))):=fun a b=>by cases a <;> cases b <;> rfl
 obtain ⟨T,hT⟩:∃ T,MC.seq (.region [2,3,7,9,15,16] r21_9) (.seq (.region [2,7,9,15,16,17,18] r21_10) (.seq (.seq (.region [2,9,17,180] r21_11) (.cond (.tmp 180) (.seq (.region [6] r21_12) .ret) .skip)) (.seq (.seq (.region [2,9,17,19] r21_13) (.block 0 (.loop l21_0))) (.seq (.region [6] r21_23) .ret))))=T:=⟨_,rfl⟩
 rw [hT]
 have hm14:=hv.many
 have hd:=Lv.drops_ok hv.toSw
 have hdl:=hd.len
 have hDr:=Drops_pc s hl
 have eDr:dropsA s=.tuple [sl (dropsS s),.int .i64 0]:=by unfold dropsA;rw [if_pos (zBr.2 hv)]
 rw [eDr] at hDr
 have hBl:=Blames_pc s hl
 have eBl:blamesA s=.tuple [sl (blamesS s),.int .i64 0]:=by unfold blamesA;rw [if_pos (zBr.2 hv)]
 rw [eBl] at hBl
 have hP:=zEn s hl
 have eP:possA s=.tuple [.bool (possS s),.int .i64 0]:=by unfold possA;rw [if_pos (zBr.2 hv)]
 rw [eP] at hP
 have hW:=rWithout_pc s (by omega) o hol
 have hP2:=zEn (zAk s o) (by have:=(Lv.without_sv hv o).many;unfold okL;omega)
 have eP2:possA (zAk s o)=.tuple [.bool (possS (zAk s o)),.int .i64 0]:=by unfold possA;rw [if_pos (zBr.2 (Lv.without_sv hv _))]
 rw [eP2] at hP2
 have hbl:(blamesS s).length≤100:=by
  rcases Lv.rsn_len (Lv.blames_up s) with h | h
  ·omega
  ·rw [h];simp
 have hR1:=rising_pc s (dropsS s) (by omega)
 rw [Lv.ris_iff.2 hd.up] at hR1
 have hR2:=rising_pc s (blamesS s) (by omega)
 rw [Lv.ris_iff.2 (Lv.blames_up s)] at hR2
 have hE:∀ h:o.length=(dropsS s).length,PC Tryz.prog 79 [sl o,sl (dropsS s)] (.pure (.bool (lexI o (dropsS s)))):=fun h=>earlier_pc o (dropsS s) hol h
 have hle:=fun h=>hd.least o (Lv.ris_iff.1 hro) h
 have hni:=hd.nil
 have a1:¬ (((dropsS s).length:Int) > s.sights.length):=by omega
 have hq:decide (possS s≠decide (((dropsS s).length:Int)=0))=false:=by
  refine decide_eq_false ?_
  by_cases h:(dropsS s)=[]
  ·rw [hni.2 h,h];decide
  ·have:possS s=false:=by cases e:possS s with | false=>rfl | true=>exact absurd (hni.1 e) h
   rw [this]
   have h2:¬ (((dropsS s).length:Int)=0):=fun h'=>h (List.length_eq_zero_iff.1 (by omega))
   rw [decide_eq_false h2];decide
 have ht:=fewest_t9 s hl hv p hso
 clear hd hni eDr eBl eP eP2 hdl
 generalize possS s=can at *
 generalize possS (zAk s o)=is at *
 generalize dropsS s=l at *
 generalize blamesS s=m at *
 simp only [go_sem,zB,zD,zC,reduceIte,reduceCtorEq,zA]
 refine cp n50 hDr (SubL.refl _) ?_
 simp only [go_sem,zAc,zB,zD,zC,reduceIte,reduceCtorEq,zA]
 refine cp n51 hBl (SubL.refl _) ?_
 simp only [go_sem,zAc,zB,zD,zC,reduceIte,reduceCtorEq,zA]
 refine cp n57 hP (SubL.refl _) ?_
 simp only [go_sem,zAc,zB,zD,zC,reduceIte,reduceCtorEq,zA]
 refine cp n54 hW (SubL.refl _) ?_
 simp only [go_sem,zB,zD,zC,reduceIte,reduceCtorEq,zA]
 refine cp n57 hP2 (SubL.refl _) ?_
 simp only [go_sem,zAc,y0,decide_false,zB,zD,zC,reduceIte,reduceCtorEq,zA]
 refine cp n78 hR1 (SubL.refl _) ?_
 simp only [go_sem,zAh,zV,zB,zD,zC,reduceIte,reduceCtorEq,zA]
 refine cp n78 hR2 (SubL.refl _) ?_
 cases is
 ·simp only [go_sem,zAh,zV,zAa,a1,nb,hq,decide_false,zB,zD,zC,reduceIte,reduceCtorEq,zA]
  subst hT
  exact ht _ _ hQ
 ·obtain ⟨l1,l2⟩:=hle rfl
  have b1:decide ((o.length:Int)<l.length)=false:=decide_eq_false (by omega)
  by_cases he:o.length=l.length
  ·have b2:decide ((o.length:Int)=l.length)=true:=decide_eq_true (by omega)
   have hE':=hE he
   have hlx:lexI o l=false:=by
    cases h:lexI o l
    ·rfl
    ·exact absurd (Lv.lexI_lx h) (l2 he)
   rw [hlx] at hE'
   simp only [go_sem,zAh,zV,zAa,a1,nb,hq,b1,b2,decide_false,zB,zD,zC,reduceIte,reduceCtorEq,zA]
   refine cp n79 hE' (SubL.refl _) ?_
   simp only [go_sem,zB,zD,zC,reduceIte,reduceCtorEq,zA]
   subst hT
   exact ht _ _ hQ
  ·have b2:decide ((o.length:Int)=l.length)=false:=decide_eq_false (by omega)
   simp only [go_sem,zAh,zV,zAa,a1,nb,hq,b1,b2,decide_false,zB,zD,zC,reduceIte,reduceCtorEq,zA]
   subst hT
   exact ht _ _ hQ
theorem lfewest_pc (s:Survey) (hl:okL s.sights.length) (o:List Int) (hol:okL o.length) (p:List Stp) (hpl:okL p.length):PC Tryz.prog 21 [surA s,sl o,stpsA p] (.pure (.bool true)):=by
 refine PC.of_empty (AC.run (E_ok _) mix Tryz.func21 m21 rfl rfl rfl (zE rfl) ?_) (by simp [bndL,AV.bnd]) rfl
 obtain ⟨TL,hTL⟩:∃ TL,MC.seq (.region [1,2,3,7,8] r21_3) (.seq (.region [1,2,3,7,8,9,10] r21_4) (.seq (.region [1,2,3,7,8,9,10,11,12] r21_5) (.seq (.region [1,2,3,7,8,9,10,11,12,13,14] r21_6) (.seq (.seq (.region [2,3,7,9,137] r21_7) (.cond (.tmp 137) (.seq (.region [6] r21_8) .ret) .skip)) (.seq (.region [2,3,7,9,15,16] r21_9) (.seq (.region [2,7,9,15,16,17,18] r21_10) (.seq (.seq (.region [2,9,17,180] r21_11) (.cond (.tmp 180) (.seq (.region [6] r21_12) .ret) .skip)) (.seq (.seq (.region [2,9,17,19] r21_13) (.block 0 (.loop l21_0))) (.seq (.region [6] r21_23) .ret)))))))))=TL:=⟨_,rfl⟩
 unfold c21
 rw [hTL]
 simp only [go_sem,boxA,zB,zD,zC,reduceIte,reduceCtorEq,zA]
 refine cp n23 (short_pc s) (SubL.refl _) ?_
 by_cases hsh:s.sights.length≤17
 rotate_left
 ·rw [decide_eq_false hsh]
  simp only [go_sem,zAh,qD,zB,zD,zC,reduceIte,reduceCtorEq,zA]
  refine cp n24 zCg (SubL.refl _) ?_
  simp only [go_sem,Tryz.f21,zB,zD,zC,reduceIte,reduceCtorEq,zA]
 rw [decide_eq_true hsh]
 by_cases hg17:(o.length:Int) > 17
 ·simp only [go_sem,zAh,zV,zAa,hg17,decide_true,decide_false,zB,zD,zC,reduceIte,reduceCtorEq,zA]
  refine cp n24 zCg (SubL.refl _) ?_
  simp only [go_sem,Tryz.f21,zB,zD,zC,reduceIte,reduceCtorEq,zA]
 by_cases hg10:(p.length:Int) > 10
 ·simp only [go_sem,zAh,zV,zAa,hg10,hg17,decide_true,decide_false,zB,zD,zC,reduceIte,reduceCtorEq,zA]
  refine cp n24 zCg (SubL.refl _) ?_
  simp only [go_sem,Tryz.f21,zB,zD,zC,reduceIte,reduceCtorEq,zA]
 simp only [go_sem,zAh,zV,zAa,hg10,hg17,decide_false,zB,zD,zC,reduceIte,reduceCtorEq,zA]
 refine cp n33 (rSurvey_pc s hl) (SubL.refl _) ?_
 cases hv:zAo s
 ·simp only [go_sem,zAh,qD,zB,zD,zC,reduceIte,reduceCtorEq,zA]
  refine cp n24 zCg (SubL.refl _) ?_
  simp only [go_sem,Tryz.f21,zB,zD,zC,reduceIte,reduceCtorEq,zA]
 simp only [go_sem,zAh,zV,zB,zD,zC,reduceIte,reduceCtorEq,zA]
 refine cp n78 (rising_pc s o (by omega)) (SubL.refl _) ?_
 cases hro:risB s.sights.length o
 ·simp only [go_sem,zAh,qD,zB,zD,zC,reduceIte,reduceCtorEq,zA]
  refine cp n24 zCg (SubL.refl _) ?_
  simp only [go_sem,Tryz.f21,zB,zD,zC,reduceIte,reduceCtorEq,zA]
 simp only [go_sem,zAh,zV,zB,zD,zC,reduceIte,reduceCtorEq,zA]
 refine cp n73 (Steps_pc s hl p hpl) (SubL.refl _) ?_
 cases hso:zBy s p
 ·simp only [go_sem,zAh,qD,zB,zD,zC,reduceIte,reduceCtorEq,zA]
  refine cp n24 zCg (SubL.refl _) ?_
  simp only [go_sem,Tryz.f21,zB,zD,zC,reduceIte,reduceCtorEq,zA]
 simp only [go_sem,zAh,zV,zB,zD,zC,reduceIte,reduceCtorEq,zA]
 subst hTL
 refine fewest_t3 s hl (zBr.1 hv) o hol hro p hso _ ?_
 intro X
 simp only [go_sem,Tryz.f21,zB,zD,zC,reduceIte,reduceCtorEq,zA]
end Go.Av.Lx
end
section
set_option maxRecDepth 100000
namespace Go.Av.Lx
open Go.Lv (Sight Survey Leg Tun Try Stp)
open Go Go.Av Go.Av.Tb Go.Av.Fx Go.Proofs Go.ChangeShapes Go.WideShapes Go.RowKit
def cW (W:World):Cx:=
 {K:=fun b o=>W.cell? ⟨b,o,none⟩,μ:=fun _=>none,τ:=fun _=>none,X:=fun _ _=>none
  XO:=fun b=>match W.heap[b]? with
   | some (.cells _ _ _)=>none
   | o=>o
  sz:=W.heap.size,FZ:=⟨fun _ _=>false,W⟩ }
structure TabOk (W:World):Prop where
 tab:∀ i,i<20→W.cell? ⟨tabB,i,none⟩=some (tabV i)
 tsh:∃ t,W.shape? tabB=some (t,20)
theorem cW_st {W:World} (h:TabOk W):StRel (cW W) St.empty W where
 sz:=zN _
 tab:=h.tab
 tsh:=h.tsh
 fr:=Frm.refl W
 K:=fun _ _ _ e=>e
 X:=fun _ _ _ e=>by cases e
 XO:=fun b ob e=>by
  simp only [cW] at e
  split at e
  ·cases e
  ·rename_i hn
   exact ⟨e,fun cs t f he=>hn cs t f (by rw [e,he])⟩
 F:=fun _ _ e=>by cases e
 dom:=fun _ _ e=>by cases e
 tdom:=fun _ _ e=>by cases e
 blk:=fun i B e=>by simp [St.empty] at e
 inj:=fun i j Bi Bj n e=>by simp [St.empty] at e
 tok:=fun k hk=>by cases hk
 tinj:=fun k k' b lo hi lo' hi' hk=>by cases hk
 tblk:=fun k i b lo hi B hk=>by cases hk
 tfr:=fun k b lo hi hk=>by cases hk
structure Keep (W W':World):Prop where
 os:W'.os=W.os
 out:W'.output=W.output
 block:∀ k,k<W.heap.size→W'.heap[k]? = W.heap[k]?
theorem keep_of {W W':World} {c':Cx} {S':St} (hle:(cW W).le c') (h:StRel c' S' W'):Keep W W':=by
 have hfr:Go.Av.Frm W W':=by have:=h.fr;rw [hle.FZ] at this;exact this
 refine ⟨hfr.os,hfr.out,fun k hk => ?_⟩
 have hob:W.heap[k]? = some W.heap[k]:=qA hk
 rw [hob]
 cases ho:W.heap[k] with
 | cells cs t fr =>
  rw [ho] at hob
  obtain ⟨cs',e1,e2⟩:=hfr.blk k cs t fr hob
  rw [e1]
  congr 2
  apply Array.ext
  ·exact e2
  ·intro j h1 h2
   have hc:W.cell? ⟨k,j,none⟩=some cs[j]:=by
    unfold World.cell?
    simp [hob,h2]
   have:=h.K k j _ (hle.K k j _ hc)
   unfold World.cell? at this
   simp [e1,h1] at this
   exact this
 | _ =>
  rw [ho] at hob
  exact (h.XO k _ (by rw [hle.XO];simp only [cW,hob])).1
theorem Keep.keptBut {W W':World} (h:Keep W W') (may:MemPlace→Prop):W.keptBut W' may:=by
 refine ⟨h.os,h.out,fun i hi => ?_⟩
 rw [h.block i hi,qA hi]
 cases W.heap[i] with
 | cells c t fr=>exact ⟨rfl,rfl,rfl,fun _ _=>rfl⟩
 | map es clock=>exact .inr ⟨rfl,rfl⟩
 | _=>rfl
theorem Keep.same {W W':World} (h:Keep W W') {p:MemPlace} (hp:p.block<W.heap.size):W.sameAt W' p:=by
 cases p with
 | cell b o=>exact World.cell?_of_block (w:=W) (h.block b hp)
 | map b=>exact h.block b hp
theorem Keep.trod {H:Type} {enc:TypeId × Value→H} {P:Program} {t:TypeId} (hl:laidOutB P=true) (hr:P.readableRec t=true) (hrow:t<P.types.size) {W W':World} {v:Value} {d:DataW H} {ps:List MemPlace}
  (h:DataW.Trod enc P W 0 (fun _=>true) true t v d ps) (hb:Keep W W') (hlt:∀ x∈ps,x.block<W.heap.size) :
  DataW.Trod enc P W' 0 (fun b=>decide (b<W.heap.size)) true t v d ps:=
 WideElems.Trod_stays hl hr hrow h (fun x hx=>hb.same (hlt x hx)) (fun x hx=>by simpa using hlt x hx)
theorem law_calls {f:FuncId} {args:List AV} {W:World} {vs:List Value} (h:PC Tryz.prog f args (.pure (.bool true))) (ht:TabOk W) (hl:LRel (cW W) args vs) :
  Calls Tryz.prog f vs.toArray W fun e W'=>e=.returned (.bool true)∧Keep W W':=by
 refine (h (cW W) St.empty W vs (cW_st ht) hl).mono ?_
 rintro e W' ⟨x,rfl,c',hle,_,_,hst,hv⟩
 refine ⟨?_,keep_of hle hst⟩
 cases hv;rfl
theorem cells_of {W:World} {b off:Nat} {l:List AV} {n cap:Nat} (hc:n≤cap) (h:∀ j x,l[j]? = some x → ∃ v,W.cell? ⟨b,off+j,none⟩=some v∧VRel (cW W) x v):VRel (cW W) (.slice l n .unk) (.slice (some ⟨b,off,none⟩) n cap):=by
 have get:∀ j (hj:j<l.length),∃ v,W.cell? ⟨b,off+j,none⟩=some v∧VRel (cW W) l[j] v:=fun j hj=>h j _ (zF hj)
 refine .slice l n .unk b off cap (fun j=>(W.cell? ⟨b,off+j,none⟩).getD default) hc (fun j hj => ?_) (fun j x hx => ?_) (fun e=>by cases e) (fun k e=>by cases e)
 ·obtain ⟨v,h1,h2⟩:=get j hj
  show W.cell? _=some ((W.cell? _).getD default)
  rw [h1];rfl
 ·obtain ⟨v,h1,h2⟩:=h j x hx
  rw [h1];exact h2
theorem add_at (b off i:Nat):(⟨b,off,none⟩:Addr).add i=⟨b,off+i,none⟩:=add_plain b off i
theorem has_spot {W:World} {base:Nat} {t e:TypeId} {a:Addr} {len cap:Nat} (ht:Tryz.prog.underlying t=some (.slice e)) (h:Cell.okWide Tryz.prog W .any base t (.slice (some a) len cap)):a.spot=none:=by
 simp only [Cell.okWide,ht,Cell.ok] at h
 exact h.2.2.2.1
section
variable {H:Type} {enc:TypeId × Value→H} {W:World} {base:Nat} {fuel:Nat} {x:DataW H × List MemPlace}
theorem av_ints {v:Value} (h:DataW.trod enc Tryz.prog W 0 (fun _=>true) true fuel 32 [v]=some x) (hw:∀ n∈x.1.weights Tryz.prog 32,n≤reachBytes) (hok:Cell.okWide Tryz.prog W .any base 32 v):∃ l:List Int,VRel (cW W) (sl l) v∧okL l.length:=by
 rcases open_ints Tryz.underlying32 Tryz.underlying3 (by kernel_rfl) h with ⟨hcs,_⟩ | ⟨a,len,cap,zs,hcs,_,hl,hm,hz,hx,hcell,_⟩
 ·cases hcs
  exact ⟨[],.sliceNil .unk (fun k e=>by cases e),Nat.zero_lt_succ _⟩
 ·cases hcs
  have hsp:=has_spot Tryz.underlying32 hok
  obtain ⟨b,off,spot⟩:=a
  simp only at hsp
  subst hsp
  have hz:zs.length=cap:=by simpa using hz
  have hlen:(zs.take len).length=len:=by rw [yL];omega
  have hsize:len<9223372036854775807:=by
   subst hx
   have h8:Tryz.prog.bytesOf 3=8:=by kernel_rfl
   have:=hw (((lits .i64 (zs.take len):List (DataW H)).length+(lits .i64 (zs.drop len):List (DataW H)).length) * 8) (by
    simp only [DataW.weights,Tryz.underlying32,h8]
    exact zP)
   have e1:(lits .i64 (zs.take len):List (DataW H)).length=len:=by simp [lits];omega
   rw [e1] at this
   unfold reachBytes at this
   omega
  refine ⟨zs.take len, ?_,by rw [hlen];exact hsize⟩
  show VRel (cW W) (.slice (ints (zs.take len)) (zs.take len).length .unk) _
  rw [hlen]
  refine cells_of hl fun j y hy => ?_
  rw [Go.Av.Fx.ints_get] at hy
  have hj:j<(zs.take len).length:=by
   rcases zU j (zs.take len).length with h' | h'
   ·exact h'
   ·rw [zM h'] at hy;cases hy
  rw [zF hj] at hy
  cases hy
  have hj2:j<zs.length:=by omega
  have hc:=hcell j hj2
  rw [add_at] at hc
  refine ⟨_,hc, ?_⟩
  rw [List.getElem_take,zG,zF hj2]
  exact .int _ _
theorem av_int {v:Value} (h:DataW.trod enc Tryz.prog W 0 (fun _=>true) true fuel 3 [v]=some x):∃ n:Int,v=.int .i64 n∧(Lit.int .i64 n).wf=true:=by
 obtain ⟨n,hcs,_,hw⟩:=DataW.trod_int Tryz.underlying3 h
 cases hcs
 exact ⟨n,rfl,hw⟩
theorem av_bool {v:Value} (h:DataW.trod enc Tryz.prog W 0 (fun _=>true) true fuel 4 [v]=some x):∃ b:Bool,v=.bool b∧True:=by
 obtain ⟨b,hcs,_⟩:=DataW.trod_bool Tryz.underlying4 h
 cases hcs
 exact ⟨b,rfl,trivial⟩
theorem flat_get {α:Type} {f:α→List AV} {z:Nat} (hz:∀ a,(f a).length=z):∀ (l:List α) (j:Nat) (y:AV),(l.flatMap f)[j]? = some y → ∃ (i q:Nat) (hi:i<l.length),j=i * z+q∧q<z∧(f l[i])[q]? = some y
 | [],j,y,h=>by simp at h
 | c :: l,j,y,h=>by
  rw [qW] at h
  by_cases hj:j<z
  ·rw [qJ (by rw [hz];exact hj)] at h
   exact ⟨0,j,by simp,by omega,hj,h⟩
  ·rw [zY (by rw [hz];omega),hz] at h
   obtain ⟨i,q,hi,e1,e2,e3⟩:=flat_get hz l _ y h
   refine ⟨i+1,q,by simpa using hi, ?_,e2,e3⟩
   rw [Nat.add_mul];omega
theorem av_rows {α:Type} (dflt:α) (f:α→List AV) {z by':Nat} (hz:∀ a,(f a).length=z) {t e:TypeId} (hu:Tryz.prog.underlying t=some (.slice e)) (hc:Tryz.prog.cellsOf e=z) (h8:Tryz.prog.bytesOf e=by') (hb:1≤by')
  (one:∀ {n:Nat} {y:DataW H × List MemPlace} {cs:List Value},DataW.trod enc Tryz.prog W 0 (fun _=>true) true n e cs=some y → ∃ a:α,LRel (cW W) (f a) cs)
  {v:Value} (h:DataW.trod enc Tryz.prog W 0 (fun _=>true) true fuel t [v]=some x) (hw:∀ n∈x.1.weights Tryz.prog t,n≤reachBytes) (hok:Cell.okWide Tryz.prog W .any base t v):∃ l:List α,VRel (cW W) (.slice (l.flatMap f) l.length .unk) v∧okL l.length:=by
 rcases Go.Deep.open_slice hu h with ⟨hcs,_⟩ | ⟨a,len,cap,m,n,D,Pl,hcs,_,hl,hm,hmm,hxx,hx⟩
 ·cases hcs
  exact ⟨[],.sliceNil .unk (fun k e=>by cases e),Nat.zero_lt_succ _⟩
 ·cases hcs
  have hsp:=has_spot hu hok
  obtain ⟨b,off,spot⟩:=a
  simp only at hsp
  subst hsp
  have hmc:m=cap:=by simpa using hmm
  rw [hc] at hx
  have each:∀ i,i<len → ∃ c:α,∀ (q:Nat) (y:AV),(f c)[q]? = some y → ∃ u,W.cell? ⟨b,off+(i * z+q),none⟩=some u∧VRel (cW W) y u:=by
   intro i hi
   obtain ⟨cs',h1,h2⟩:=hx i (by omega)
   obtain ⟨c,hr⟩:=one h2
   obtain ⟨_,hcl,hcell⟩:=World.cells?_some h1
   refine ⟨c,fun q y hy => ?_⟩
   obtain ⟨u,hu',hru⟩:=hr.get hy
   have hq:q<cs'.length:=by
    rcases zU q cs'.length with h' | h'
    ·exact h'
    ·rw [zM h'] at hu';cases hu'
   have hcq:=hcell q (by omega)
   rw [add_at,add_at,Nat.add_assoc] at hcq
   refine ⟨u, ?_,hru⟩
   rw [hcq]
   exact hu'
  obtain ⟨F,hF⟩:∃ F:Nat→α,∀ i,i<len → ∀ (q:Nat) (y:AV),(f (F i))[q]? = some y → ∃ u,W.cell? ⟨b,off+(i * z+q),none⟩=some u∧VRel (cW W) y u:=
   ⟨fun i=>if hi:i<len then (each i hi).choose else dflt,fun i hi=>by
    show ∀ (q:Nat) (y:AV),(f (if hi:i<len then (each i hi).choose else dflt))[q]? = some y→_
    rw [dif_pos hi];exact (each i hi).choose_spec⟩
  have hlen:((List.range len).map F).length=len:=by simp
  have hsize:len<9223372036854775807:=by
   subst hxx
   have:=hw ((((List.range len).map D).length+((List.range (m - len)).map fun j=>D (len+j)).length) * by') (by
    simp only [DataW.weights,hu,h8]
    exact zP)
   rw [List.length_map,List.length_range] at this
   have h3:len * 1≤(len+((List.range (m - len)).map fun j=>D (len+j)).length) * by':=Nat.mul_le_mul (by omega) hb
   unfold reachBytes at this
   omega
  refine ⟨(List.range len).map F, ?_,by rw [hlen];exact hsize⟩
  rw [hlen]
  refine cells_of hl fun j y hy => ?_
  obtain ⟨i,q,hi,rfl,_,e3⟩:=flat_get hz _ j y hy
  rw [hlen] at hi
  have e4:((List.range len).map F)[i]=F i:=by simp
  rw [e4] at e3
  exact hF i hi q y e3
theorem av_sight {n:Nat} {y:DataW H × List MemPlace} {cs:List Value} (h:DataW.trod enc Tryz.prog W 0 (fun _=>true) true n 85 cs=some y):∃ a:Sight,LRel (cW W) (sgtC a) cs:=by
 obtain ⟨xs,n,_,_,hl,hlen,hf⟩:=DataW.trod_struct Tryz.underlying85 h
 have hc:Tryz.prog.cellsOf 85=4:=by kernel_rfl
 have hc3:Tryz.prog.cellsOf 3=1:=by kernel_rfl
 have hc4:Tryz.prog.cellsOf 4=1:=by kernel_rfl
 rw [hc] at hl
 match cs,hl with
 | [a0,a1,a2,a3],_ =>
  match xs,hlen with
  | [y0,y1,y2,y3],_ =>
   have h0:DataW.trod enc Tryz.prog W 0 (fun _=>true) true n 3 (([a0,a1,a2,a3].drop 0).take (Tryz.prog.cellsOf 3))=some y0:=hf 0 _ rfl
   rw [hc3] at h0
   have h1:DataW.trod enc Tryz.prog W 0 (fun _=>true) true n 3 (([a0,a1,a2,a3].drop 1).take (Tryz.prog.cellsOf 3))=some y1:=hf 1 _ rfl
   rw [hc3] at h1
   have h2:DataW.trod enc Tryz.prog W 0 (fun _=>true) true n 3 (([a0,a1,a2,a3].drop 2).take (Tryz.prog.cellsOf 3))=some y2:=hf 2 _ rfl
   rw [hc3] at h2
   have h3:DataW.trod enc Tryz.prog W 0 (fun _=>true) true n 3 (([a0,a1,a2,a3].drop 3).take (Tryz.prog.cellsOf 3))=some y3:=hf 3 _ rfl
   rw [hc3] at h3
   obtain ⟨p0,rfl,_⟩:=av_int h0
   obtain ⟨p1,rfl,_⟩:=av_int h1
   obtain ⟨p2,rfl,_⟩:=av_int h2
   obtain ⟨p3,rfl,_⟩:=av_int h3
   exact ⟨⟨p0,p1,p2,p3⟩,(LRel.cons (.int _ _) (LRel.cons (.int _ _) (LRel.cons (.int _ _) (LRel.cons (.int _ _) (LRel.nil _)))))⟩
theorem av_step {n:Nat} {y:DataW H × List MemPlace} {cs:List Value} (h:DataW.trod enc Tryz.prog W 0 (fun _=>true) true n 127 cs=some y):∃ a:Stp,LRel (cW W) (stpC a) cs:=by
 obtain ⟨xs,n,_,_,hl,hlen,hf⟩:=DataW.trod_struct Tryz.underlying127 h
 have hc:Tryz.prog.cellsOf 127=2:=by kernel_rfl
 have hc3:Tryz.prog.cellsOf 3=1:=by kernel_rfl
 have hc4:Tryz.prog.cellsOf 4=1:=by kernel_rfl
 rw [hc] at hl
 match cs,hl with
 | [a0,a1],_ =>
  match xs,hlen with
  | [y0,y1],_ =>
   have h0:DataW.trod enc Tryz.prog W 0 (fun _=>true) true n 3 (([a0,a1].drop 0).take (Tryz.prog.cellsOf 3))=some y0:=hf 0 _ rfl
   rw [hc3] at h0
   have h1:DataW.trod enc Tryz.prog W 0 (fun _=>true) true n 4 (([a0,a1].drop 1).take (Tryz.prog.cellsOf 4))=some y1:=hf 1 _ rfl
   rw [hc4] at h1
   obtain ⟨p0,rfl,_⟩:=av_int h0
   obtain ⟨p1,rfl,_⟩:=av_bool h1
   exact ⟨⟨p0,p1⟩,(LRel.cons (.int _ _) (LRel.cons (.bool _) (LRel.nil _)))⟩
end
theorem cells_lone {v:Value} (h:∀ cs,v ≠ .agg cs):v.cells.toList=[v]:=by
 cases v <;> first | rfl | exact absurd rfl (h _)
section
variable {H:Type} {enc:TypeId × Value→H} {W:World} {base:Nat}
theorem av_intsA {v:Value} {d:DataW H} {ps:List MemPlace} (h:DataW.Trod enc Tryz.prog W 0 (fun _=>true) true 32 v d ps) (hw:∀ n∈d.weights Tryz.prog 32,n≤reachBytes) (hok:Value.okWide Tryz.prog W .any base 32 v) :
  ∃ l:List Int,VRel (cW W) (sl l) v∧okL l.length:=by
 obtain ⟨fuel,h⟩:=h
 simp only [Value.okWide,Tryz.underlying32] at hok
 rw [cells_lone (fun cs e=>by subst e;simp [Tryz.underlying32,Cell.okWide,Cell.ok] at hok)] at h
 exact av_ints h hw hok
theorem av_stepsA {v:Value} {d:DataW H} {ps:List MemPlace} (h:DataW.Trod enc Tryz.prog W 0 (fun _=>true) true 117 v d ps) (hw:∀ n∈d.weights Tryz.prog 117,n≤reachBytes) (hok:Value.okWide Tryz.prog W .any base 117 v) :
  ∃ l:List Stp,VRel (cW W) (.slice (l.flatMap stpC) l.length .unk) v∧okL l.length:=by
 obtain ⟨fuel,h⟩:=h
 simp only [Value.okWide,Tryz.underlying117] at hok
 rw [cells_lone (fun cs e=>by subst e;simp [Tryz.underlying117,Cell.okWide,Cell.ok] at hok)] at h
 exact av_rows (z:=2) (by':=16) (⟨0,false⟩:Stp) stpC (fun _=>rfl) Tryz.underlying117 (by kernel_rfl) (by kernel_rfl) (by decide) (fun h=>av_step h) h hw hok
theorem av_survey {v:Value} {d:DataW H} {ps:List MemPlace} (h:DataW.Trod enc Tryz.prog W 0 (fun _=>true) true 24 v d ps) (hw:∀ n∈d.weights Tryz.prog 24,n≤reachBytes) (hok:Value.okWide Tryz.prog W .any base 24 v) :
  ∃ s:Survey,VRel (cW W) (surA s) v∧okL s.sights.length:=by
 obtain ⟨fuel,h⟩:=h
 simp only [Value.okWide,Tryz.underlying24] at hok
 obtain ⟨cs,rfl,hsz,ts,hts,_,hrow⟩:=hok
 have hc:Tryz.prog.cellsOf 24=2:=by kernel_rfl
 rw [hc] at hsz
 obtain ⟨c0,c1,rfl⟩:∃ c0 c1,cs=#[c0,c1]:=by
  obtain ⟨l⟩:=cs
  match l,hsz with
  | [c0,c1],_=>exact ⟨c0,c1,rfl⟩
 have hts':Go.Program.cellTypes Tryz.prog Tryz.prog.depth 24=some [3,22]:=by kernel_rfl
 rw [hts'] at hts
 cases hts
 have k1:Cell.okWide Tryz.prog W .any base 22 c1:=by
  obtain ⟨u,e,hu⟩:=hrow 1 c1 rfl
  cases e;exact hu
 obtain ⟨xs,n,_,hd,hl,hlen,hf⟩:=DataW.trod_struct Tryz.underlying24 h
 have hc3:Tryz.prog.cellsOf 3=1:=by kernel_rfl
 have hc22:Tryz.prog.cellsOf 22=1:=by kernel_rfl
 match xs,hlen with
 | [y0,y1],_ =>
  have h0:DataW.trod enc Tryz.prog W 0 (fun _=>true) true n 3 (([c0,c1].drop 0).take (Tryz.prog.cellsOf 3))=some y0:=hf 0 _ rfl
  have h1:DataW.trod enc Tryz.prog W 0 (fun _=>true) true n 22 (([c0,c1].drop 1).take (Tryz.prog.cellsOf 22))=some y1:=hf 1 _ rfl
  rw [hc3] at h0
  rw [hc22] at h1
  cases hd
  have hw':∀ (j:Nat) (t:TypeId) (d:DataW H),[3,22][j]? = some t→[y0.1,y1.1][j]? = some d → ∀ n∈d.weights Tryz.prog t,n≤reachBytes:=fun j t d ht hd n hn=>by
   refine hw n ?_
   simp only [DataW.weights,Tryz.underlying24]
   exact DataW.weights_mem_each (ts:=[3,22]) ht hd n hn
  obtain ⟨p,rfl,_⟩:=av_int h0
  obtain ⟨g,hg,og⟩:=av_rows (z:=4) (by':=32) (⟨0,0,0,0⟩:Sight) sgtC (fun _=>rfl) Tryz.underlying22 (by kernel_rfl) (by kernel_rfl) (by decide) (fun h=>av_sight h) h1 (hw' 1 _ _ rfl rfl) k1
  refine ⟨⟨p,g⟩,VRel.mk_agg ?_,og⟩
  exact LRel.cons (.int _ _) (LRel.cons hg (LRel.nil _))
end
end Go.Av.Lx
end
