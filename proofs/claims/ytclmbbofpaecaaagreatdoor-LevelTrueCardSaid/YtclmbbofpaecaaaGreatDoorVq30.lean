/- Part 30 of the proof. -/
import Derived.Test.YtclmbbofpaecaaaGreatDoorVq27
import Derived.Test.YtclmbbofpaecaaaGreatDoorVq28
import Derived.Test.YtclmbbofpaecaaaGreatDoorVq29
import Derived.Test.YtclmbbofpaecaaaGreatDoorVq22
import Derived.Test.YtclmbbofpaecaaaGreatDoorVq23
import Derived.Test.YtclmbbofpaecaaaGreatDoorVq20
import Derived.Test.YtclmbbofpaecaaaGreatDoorVq21
import Derived.Test.YtclmbbofpaecaaaGreatDoorVq24
import Derived.Test.YtclmbbofpaecaaaGreatDoorRows
import Derived.ProofKit
import Derived.LaidMore
import Derived.OpenShut
import Derived.Deep.Slices
import Derived.Stop.Joined
import Derived.ChangeOld
import Derived.SizedLaws
set_option linter.all false
set_option linter.unusedVariables false
set_option linter.unusedSimpArgs false
set_option linter.unusedSectionVars false
open Array renaming getElem?_eq_getElem → qA
open Bool renaming and_self → zJ, not_true → zY, not_false → qD
open Int renaming toNat_natCast → qN
open List renaming getElem?_eq_getElem → zF, getD_eq_getElem?_getD → zG, set_cons_succ → zH, set_cons_zero → zI, all_cons → zL, getElem?_eq_none → zM, all_nil → zO, mem_cons_self → zP, length_cons → zV, getElem?_append_right → zX, length_nil → qF, getElem?_append_left → qI, getElem?_map → qJ, flatMap_cons → qW
open Nat renaming reduceLeDiff → zA, reduceEqDiff → zB, reduceAdd → zC, reduceBEq → zD, le_of_ble_eq_true → zE, le_refl → zN, lt_or_ge → zU
section
set_option maxRecDepth 100000
set_option maxHeartbeats 16000000
namespace Go.Av.Lx
open Go Go.Av Go.Av.Tb Go.Av.Fx Go.Proofs
open Go.Lv (Sight Survey Sw Sv SightOk Leg Tun Try Stp withS)
theorem ex_Ring:RingA surT=.tuple [stpsA [⟨0,false⟩,⟨1,false⟩,⟨2,false⟩,⟨3,true⟩],.int .i64 0]:=by
 unfold RingA
 rw [ex_ok,if_pos rfl,ex_poss,if_neg (by decide),ex_ring]
theorem ex_read:readA exB=.tuple [surA surX,.int .i64 0]:=by
 unfold readA
 rw [if_pos (by decide),ex_parsed]
 simp only [ex_xok,if_true]
theorem zBi:PC Tryz.prog 24 [] (.pure (.bool true)):=by
 refine PC.of_empty (AC.run (E_ok 223) mix Tryz.func24 m24 rfl rfl rfl (zE rfl) ?_) rfl rfl
 have oS:okL surS.sights.length:=by decide
 have oT:okL surT.sights.length:=by decide
 have oU:okL surU.sights.length:=by decide
 have q1:=Bounds_pc surS oS 0 2
 rw [ex_bounds] at q1
 have q2:=Heights_pc surS oS
 rw [ex_heights] at q2
 have q3:=Ring_pc surT oT
 rw [ex_Ring] at q3
 have q4:=Least_pc surT oT
 rw [ex_least] at q4
 have q5:=Falls_pc surS oS ⟨1,2,2⟩ 2 3
 rw [ex_falls] at q5
 have q6:=Carries_pc surS oS [⟨1,2,2⟩,⟨2,1,1⟩] (by decide) 0 3
 rw [ex_carries] at q6
 have q7:=Meets_pc surS oS ⟨3,0,5,3,1⟩
 rw [ex_meets] at q7
 have q8:=Drives_pc surS oS ⟨3,0,5,3,1⟩
 rw [ex_drives] at q8
 have q9:=Takes_pc surS oS 0 2 [⟨0,2,2⟩,⟨1,2,0⟩] (by decide)
 rw [ex_takes] at q9
 have q10:=Drops_pc surU oU
 rw [ex_drops] at q10
 have q11:=Blames_pc surU oU
 rw [ex_blames] at q11
 have q12:=Read_pc exB (by decide)
 rw [ex_read] at q12
 have q13:=rPrint_pc surX (small_plain (parsed_small ex_parsed) (by decide))
 rw [ex_text] at q13
 have b1:buildA T 61 [(0,.int .i64 1),(1,.int .i64 2),(2,.int .i64 2)]=some (.agg (legC ⟨1,2,2⟩)):=rfl
 have b2:buildA T 61 [(0,.int .i64 2),(1,.int .i64 1),(2,.int .i64 1)]=some (.agg (legC ⟨2,1,1⟩)):=rfl
 have b3:zAe T 54 2 [(0,.agg (legC ⟨1,2,2⟩)),(1,.agg (legC ⟨2,1,1⟩))]=some (.slice (legsC [⟨1,2,2⟩,⟨2,1,1⟩]) [(⟨1,2,2⟩:Leg),⟨2,1,1⟩].length .exact):=rfl
 have b4:buildA T 68 [(0,.int .i64 3),(1,.int .i64 0),(2,.int .i64 5),(3,.int .i64 3),(4,.int .i64 1)]=some (.agg (tunC ⟨3,0,5,3,1⟩)):=rfl
 have b5:buildA T 95 [(0,.int .i64 0),(1,.int .i64 2),(2,.int .i64 2)]=some (.agg (tryC ⟨0,2,2⟩)):=rfl
 have b6:buildA T 95 [(0,.int .i64 1),(1,.int .i64 2)]=some (.agg (tryC ⟨1,2,0⟩)):=rfl
 have b7:zAe T 76 2 [(0,.agg (tryC ⟨0,2,2⟩)),(1,.agg (tryC ⟨1,2,0⟩))]=some (.slice (triesC [⟨0,2,2⟩,⟨1,2,0⟩]) [(⟨0,2,2⟩:Try),⟨1,2,0⟩].length .exact):=rfl
 have b8:buildA T 28 [(0,.int .i64 5),(1,.int .i64 9)]=some (.agg [.int .i64 5,.int .i64 9]):=rfl
 have b9:buildA T 28 [(0,.int .i64 (-7)),(1,.int .i64 7)]=some (.agg [.int .i64 (-7),.int .i64 7]):=rfl
 have b10:buildA T 49 [(0,.int .i64 7),(1,.int .i64 4)]=some (.agg [.int .i64 7,.int .i64 4]):=rfl
 have b11:∀ n,buildA T 127 [(0,.int .i64 n)]=some (.agg (stpC ⟨n,false⟩)):=fun n=>rfl
 have b12:∀ n,buildA T 127 [(0,.int .i64 n),(1,.bool true)]=some (.agg (stpC ⟨n,true⟩)):=fun n=>rfl
 have b13:zAe T 117 4 [(0,.agg (stpC ⟨0,false⟩)),(1,.agg (stpC ⟨1,false⟩)),(2,.agg (stpC ⟨2,false⟩)),(3,.agg (stpC ⟨3,true⟩))]=some (.slice (stpsC [⟨0,false⟩,⟨1,false⟩,⟨2,false⟩,⟨3,true⟩]) [(⟨0,false⟩:Stp),⟨1,false⟩,⟨2,false⟩,⟨3,true⟩].length .exact):=rfl
 have b14:∀ a b c d:Int,zAe T 32 4 [(0,.int .i64 a),(1,.int .i64 b),(2,.int .i64 c),(3,.int .i64 d)]=some (.slice (ints [a,b,c,d]) [a,b,c,d].length .exact):=fun a b c d=>rfl
 have b15:zAe T 32 3 [(0,.int .i64 1),(1,.int .i64 2),(2,.int .i64 3)]=some (.slice (ints [1,2,3]) [(1:Int),2,3].length .exact):=rfl
 have b16:zAe T 32 1 [(0,.int .i64 1)]=some (.slice (ints [1]) [(1:Int)].length .exact):=rfl
 have n1:binA T .neq 28 (.agg [.int .i64 5,.int .i64 9]) (.agg [.int .i64 5,.int .i64 9])=some (.bool false):=rfl
 have n2:binA T .neq 28 (.agg [.int .i64 (-7),.int .i64 7]) (.agg [.int .i64 (-7),.int .i64 7])=some (.bool false):=rfl
 have n3:binA T .neq 49 (.agg [.int .i64 7,.int .i64 4]) (.agg [.int .i64 7,.int .i64 4])=some (.bool false):=rfl
 have z0:¬ ((0:Int)≠0):=by decide
 have z1:¬ ((1:Int)≠1):=by decide
 have z2:¬ ((2:Int)≠2):=by decide
 have z3:¬ ((3:Int)≠3):=by decide
 have z7:¬ ((7:Int)≠7):=by decide
 have y1:decide ((1:Int)=1)=true:=rfl
 have y2:decide ((2:Int)=2)=true:=rfl
 have z4:binA T .eql 9 (.str exB) (.str ⟨#[115,117,114,118,101,121,32,50,10,115,105,103,104,116,32,48,32,49,32,52,32,48,10,101,110,100,32,48,49,50,10]⟩)=some (.bool true):=(show binA T .eql 9 (.str exB) (.str exB)=some (.bool true) by rw [eqS,decide_eq_true rfl])
 simp only [go_sem,zB,zD,zC,reduceIte,reduceCtorEq,zA]
 refine cp n81 S_pc (SubL.refl _) ?_
 try simp only [go_sem,zB,zD,zC,reduceIte,reduceCtorEq,zA]
 refine cp n25 q1 (SubL.refl _) ?_
 simp only [go_sem,zAc,frA,zAd,AV.cells,AV.one,zL,zO,zJ,splice,zI,zH,and_self,zV,qF,zB,zD,zC,reduceIte,reduceCtorEq,zA]
 refine cp n81 S_pc (SubL.refl _) ?_
 try simp only [go_sem,zB,zD,zC,reduceIte,reduceCtorEq,zA]
 refine cp n26 q2 (SubL.refl _) ?_
 simp only [go_sem,zAc,frA,zAd,AV.cells,AV.one,zL,zO,zJ,splice,zI,zH,and_self,zV,qF,zB,zD,zC,reduceIte,reduceCtorEq,zA]
 refine cp n82 T_pc (SubL.refl _) ?_
 try simp only [go_sem,zB,zD,zC,reduceIte,reduceCtorEq,zA]
 refine cp n72 q3 (SubL.refl _) ?_
 simp only [go_sem,zAc,frA,zAd,AV.cells,AV.one,zL,zO,zJ,splice,zI,zH,and_self,zV,qF,zB,zD,zC,reduceIte,reduceCtorEq,zA]
 refine cp n82 T_pc (SubL.refl _) ?_
 try simp only [go_sem,zB,zD,zC,reduceIte,reduceCtorEq,zA]
 refine cp n32 q4 (SubL.refl _) ?_
 simp only [go_sem,zAc,frA,zAd,AV.cells,AV.one,zL,zO,zJ,splice,zI,zH,and_self,zV,qF,zB,zD,zC,reduceIte,reduceCtorEq,zA]
 refine cp n81 S_pc (SubL.refl _) ?_
 simp only [go_sem,b1,b2,b3,b4,b5,b6,b7,zB,zD,zC,reduceIte,reduceCtorEq,zA]
 refine cp n39 q5 (SubL.refl _) ?_
 simp only [go_sem,zAc,frA,zAd,AV.cells,AV.one,zL,zO,zJ,splice,zI,zH,and_self,zV,qF,zB,zD,zC,reduceIte,reduceCtorEq,zA]
 refine cp n81 S_pc (SubL.refl _) ?_
 simp only [go_sem,b1,b2,b3,b4,b5,b6,b7,zB,zD,zC,reduceIte,reduceCtorEq,zA]
 refine cp n35 q6 (SubL.cons (Sub.refl _) (SubL.cons (Sub.unk _ _ _) (SubL.refl _))) ?_
 simp only [go_sem,zAc,frA,zAd,AV.cells,AV.one,zL,zO,zJ,splice,zI,zH,and_self,zV,qF,zB,zD,zC,reduceIte,reduceCtorEq,zA]
 refine cp n81 S_pc (SubL.refl _) ?_
 simp only [go_sem,b1,b2,b3,b4,b5,b6,b7,zB,zD,zC,reduceIte,reduceCtorEq,zA]
 refine cp n42 q7 (SubL.refl _) ?_
 simp only [go_sem,zAc,frA,zAd,AV.cells,AV.one,zL,zO,zJ,splice,zI,zH,and_self,zV,qF,zB,zD,zC,reduceIte,reduceCtorEq,zA]
 refine cp n81 S_pc (SubL.refl _) ?_
 simp only [go_sem,b1,b2,b3,b4,b5,b6,b7,zB,zD,zC,reduceIte,reduceCtorEq,zA]
 refine cp n43 q8 (SubL.refl _) ?_
 simp only [go_sem,zAc,frA,zAd,AV.cells,AV.one,zL,zO,zJ,splice,zI,zH,and_self,zV,qF,zB,zD,zC,reduceIte,reduceCtorEq,zA]
 refine cp n81 S_pc (SubL.refl _) ?_
 simp only [go_sem,b1,b2,b3,b4,b5,b6,b7,zB,zD,zC,reduceIte,reduceCtorEq,zA]
 refine cp n47 q9 (SubL.cons (Sub.refl _) (SubL.cons (Sub.refl _) (SubL.cons (Sub.refl _) (SubL.cons (Sub.unk _ _ _) (SubL.refl _))))) ?_
 simp only [go_sem,zAc,frA,zAd,AV.cells,AV.one,zL,zO,zJ,splice,zI,zH,and_self,zV,qF,zB,zD,zC,reduceIte,reduceCtorEq,zA]
 refine cp n83 U_pc (SubL.refl _) ?_
 try simp only [go_sem,zB,zD,zC,reduceIte,reduceCtorEq,zA]
 refine cp n50 q10 (SubL.refl _) ?_
 simp only [go_sem,zAc,frA,zAd,AV.cells,AV.one,zL,zO,zJ,splice,zI,zH,and_self,zV,qF,zB,zD,zC,reduceIte,reduceCtorEq,zA]
 refine cp n83 U_pc (SubL.refl _) ?_
 try simp only [go_sem,zB,zD,zC,reduceIte,reduceCtorEq,zA]
 refine cp n51 q11 (SubL.refl _) ?_
 simp only [go_sem,zAc,zB,zD,zC,reduceIte,reduceCtorEq,zA]
 refine cp n60 q12 (SubL.refl _) ?_
 simp only [go_sem,zAc,z0,decide_false,zAd,AV.cells,AV.one,zL,zO,zJ,splice,zI,zH,and_self,zV,qF,b8,n1,b14,zB,zD,zC,reduceIte,reduceCtorEq,zA]
 refine cp n29 (Same_pc [0,9,5,13] [0,9,5,13] (by decide) (by decide)) (SubL.cons (Sub.refl _) (SubL.cons (Sub.unk _ _ _) (SubL.refl _))) ?_
 rw [decide_eq_true rfl]
 simp only [go_sem,zAg,zY,b14,zB,zD,zC,reduceIte,reduceCtorEq,zA]
 refine cp n29 (Same_pc [0,11,9,17] [0,11,9,17] (by decide) (by decide)) (SubL.cons (Sub.refl _) (SubL.cons (Sub.unk _ _ _) (SubL.refl _))) ?_
 rw [decide_eq_true rfl]
 simp only [go_sem,zAg,zY,b11,b12,b13,zB,zD,zC,reduceIte,reduceCtorEq,zA]
 refine cp n76 (SameSteps_pc [⟨0,false⟩,⟨1,false⟩,⟨2,false⟩,⟨3,true⟩] [⟨0,false⟩,⟨1,false⟩,⟨2,false⟩,⟨3,true⟩] (by decide) (by decide)) (SubL.cons (Sub.refl _) (SubL.cons (Sub.unk _ _ _) (SubL.refl _))) ?_
 rw [decide_eq_true rfl]
 simp only [go_sem,zAg,zY,b10,n3,b14,zB,zD,zC,reduceIte,reduceCtorEq,zA]
 refine cp n29 (Same_pc [0,47,38,73] [0,47,38,73] (by decide) (by decide)) (SubL.cons (Sub.refl _) (SubL.cons (Sub.unk _ _ _) (SubL.refl _))) ?_
 rw [decide_eq_true rfl]
 simp only [go_sem,zAg,zY,z1,z2,z3,z7,decide_false,decide_true,b9,n2,b16,zB,zD,zC,reduceIte,reduceCtorEq,zA]
 refine cp n29 (Same_pc [1] [1] (by decide) (by decide)) (SubL.cons (Sub.refl _) (SubL.cons (Sub.unk _ _ _) (SubL.refl _))) ?_
 rw [decide_eq_true rfl]
 simp only [go_sem,b15,zB,zD,zC,reduceIte,reduceCtorEq,zA]
 refine cp n29 (Same_pc [1,2,3] [1,2,3] (by decide) (by decide)) (SubL.cons (Sub.refl _) (SubL.cons (Sub.unk _ _ _) (SubL.refl _))) ?_
 rw [decide_eq_true rfl]
 simp only [go_sem,zB,zD,zC,reduceIte,reduceCtorEq,zA]
 refine cp n61 q13 (SubL.refl _) ?_
 simp only [go_sem,z4,Tryz.f24,zB,zD,zC,reduceIte,reduceCtorEq,zA]
end Go.Av.Lx
end
section
set_option maxHeartbeats 8000000
namespace Go.Av.Lx
open Go Go.Av Go.Av.Tb Go.Av.Fx Go.Proofs
open Go.Lv (Sight Survey Sw Sv SightOk errF)

end Go.Av.Lx
end
section
set_option maxHeartbeats 8000000
namespace Go.Av.Lx
open Go Go.Av Go.Av.Tb Go.Av.Fx Go.Proofs
open Go.Lv (Sight Survey Sw Sv SightOk possS)

end Go.Av.Lx
end
section
set_option maxHeartbeats 8000000
namespace Go.Av.Lx
open Go Go.Av Go.Av.Tb Go.Av.Fx Go.Proofs
open Go.Lv (Sight Survey Sw Sv SightOk possS)
open Go.Fw (Sq ent Bd Mat)

end Go.Av.Lx
end
section
set_option maxHeartbeats 8000000
namespace Go.Av.Lx
open Go Go.Av Go.Av.Tb Go.Av.Fx Go.Proofs
open Go.Lv (Sight Survey Sw Sv SightOk Leg LegOk RangeOk Tun TunOk Try TryOk Stp fallW meetL meetH bestAt driveF wideI)
open Go.Fw (Sq ent Bd Mat)

end Go.Av.Lx
end
section
set_option maxHeartbeats 8000000
namespace Go.Av.Lx
open Go Go.Av Go.Av.Tb Go.Av.Fx Go.Proofs
open Go.Lv (Sight Survey Sw Sv SightOk Leg LegOk RangeOk Tun TunOk Try TryOk Stp fallW carryW)
open Go.Fw (Sq ent Bd Mat)

end Go.Av.Lx
end
section
set_option maxHeartbeats 8000000
namespace Go.Av.Lx
open Go Go.Av Go.Av.Tb Go.Av.Fx Go.Proofs
open Go.Lv (Sight Survey Sw Sv SightOk bas)
open Go.Fw (Sq ent Bd Mat)
theorem ints_get {l:List Int} {i:Nat} (h:i<l.length):(ints l)[i]? = some (.int .i64 (l.getD i 0)):=by
 unfold ints
 rw [qJ,zG,zF h]
 rfl
end Go.Av.Lx
end
section
set_option maxHeartbeats 8000000
namespace Go.Av.Lx
open Go Go.Av Go.Av.Tb Go.Av.Fx Go.Proofs
open Go.Lv (Sight Survey Sw Sv SightOk Leg LegOk RangeOk Tun TunOk Try TryOk Stp fallW carryW)
open Go.Fw (Sq ent Bd Mat)

end Go.Av.Lx
end
section
set_option maxHeartbeats 8000000
namespace Go.Av.Lx
open Go Go.Av Go.Av.Tb Go.Av.Fx Go.Proofs
open Go.Lv (Sight Survey Sw Sv SightOk withS possS)
open Go.Fw (Sq ent Bd Mat)
theorem neSpS (a b:Int):binA T .neq 28 (.agg [.int .i64 a,.int .i64 b]) (.agg [.int .i64 a,.int .i64 b])=some (.bool false):=by
 have e:∀ a b c d:Int,binA T .neq 28 (.agg [.int .i64 a,.int .i64 b]) (.agg [.int .i64 c,.int .i64 d])=(if (a == c)=true then (if (b == d)=true then some true else some false) else some false).map (AV.bool !·):=fun _ _ _ _=>rfl
 rw [e];simp
theorem with_sv {s:Survey} (h:Sv s) {x:Sight} (hx:SightOk s.stations x) (hm:s.sights.length<14):Sv (withS s x):=⟨Lv.with_sw h.toSw hx,by unfold withS;simp;omega⟩
theorem true_t18 (s:Survey) (hl:okL s.sights.length) (hv:Sv s) {V:Mat} (hV:Lv.knownV s=some V) (a b:Nat) (ha:a<Lv.num s) (hb:b<Lv.num s) (hne:a≠b) (hf:ent V a b<far) (hm:s.sights.length<14) (h1:-1000 < -ent V b a) (h2:ent V a b<1000) (v:AV) (B2:Option Blk) (Q:AQ) (hQ:∀ X,Q .ret [(8,.bool true)] ⟨X,0,[]⟩) :
  WC (E 263) (.seq (.region [2,3,4,13,18,19] r18_18) (.seq (.region [2,3,4,13,18,19,20,21] r18_19) (.seq (.region [2,3,4,13,18,19,20,21,22,23] r18_20) (.seq (.region [18,19,20,21,22,23,24,25] r18_21) (.seq (.region [8] r18_22) .ret))))) Q [(2,.int .i64 (a:Nat)),(3,.int .i64 (b:Nat)),(4,.ref 0 0),(13,.ref 1 0),(184,v)] ⟨[some (.cells (surC s)),some (.cells [.int .i64 (-ent V b a),.int .i64 (ent V a b)]),B2],0,[]⟩:=by
 have z0:decide ((0:Int)=0)=true:=rfl
 have hst:s.stations=(Lv.num s:Int):=by have:=hv.st;show _=((s.stations.toNat:Nat):Int);omega
 have hneg:=(Lv.known_clos hv.toSw hV).neg ha hb hf (Lv.known_sym hv.toSw hV ha hb hf)
 have hne':(a:Int)≠(b:Int):=by omega
 have ok:∀ r:Int,-1000≤r∧r≤1000→SightOk s.stations ⟨(a:Int),(b:Int),r,0⟩:=fun r hr=>⟨by show 0≤(a:Int)∧(a:Int)<s.stations;omega,by show 0≤(b:Int)∧(b:Int)<s.stations;omega,hne',hr,by show (0:Int)≤0∧(0:Int)≤50;omega⟩
 have hW:∀ r:Int,PC Tryz.prog 55 [surA s,.agg [.int .i64 (a:Nat),.int .i64 (b:Nat),.int .i64 r,.int .i64 0]] (.pure (surA (withS s ⟨(a:Int),(b:Int),r,0⟩))):=fun r=>With_pc s (by omega) ⟨(a:Int),(b:Int),r,0⟩
 have hP:∀ (r:Int) (p:Bool),-1000≤r∧r≤1000→possS (withS s ⟨(a:Int),(b:Int),r,0⟩)=p→PC Tryz.prog 57 [surA (withS s ⟨(a:Int),(b:Int),r,0⟩)] (.pure (.tuple [.bool p,.int .i64 0])):=fun r p hr hp=>by
  have hsv:=with_sv hv (ok r hr) hm
  have h:=Possible_pc (withS s ⟨(a:Int),(b:Int),r,0⟩) (by have:=hsv.many;unfold okL;omega)
  have e:possA (withS s ⟨(a:Int),(b:Int),r,0⟩)=.tuple [.bool p,.int .i64 0]:=by unfold possA;rw [if_pos (zCa.2 hsv),hp]
  rw [e] at h
  exact h
 have hend:∀ r:Int,-1000≤r∧r≤1000→(r=ent V a b∨r = -ent V b a→possS (withS s ⟨(a:Int),(b:Int),r,0⟩)=true)∧(r < -ent V b a∨ent V a b<r→possS (withS s ⟨(a:Int),(b:Int),r,0⟩)=false):=fun r hr =>
  Lv.end_true hv.toSw hV (a:=(a:Int)) (b:=(b:Int)) (by omega) (by omega) hne' hf hr
 have p1:=hP (-ent V b a) true (by omega) ((hend _ (by omega)).1 (.inr rfl))
 have p2:=hP (ent V a b) true (by omega) ((hend _ (by omega)).1 (.inl rfl))
 have p3:=hP (-ent V b a - 1) false (by omega) ((hend _ (by omega)).2 (.inl (by omega)))
 have p4:=hP (ent V a b+1) false (by omega) ((hend _ (by omega)).2 (.inr (by omega)))
 clear hend hP
 generalize -ent V b a=lo at *
 generalize ent V a b=hi at *
 have w1:IntKind.i64.wrap (lo - 1)=lo - 1:=wrap64 (by omega)
 have w2:IntKind.i64.wrap (hi+1)=hi+1:=wrap64 (by omega)
 have q1:=hW lo
 have q2:=hW hi
 have q3:=hW (lo - 1)
 have q4:=hW (hi+1)
 have bA:∀ x y z:Int,buildA T 85 [(0,.int .i64 x),(1,.int .i64 y),(2,.int .i64 z)]=some (.agg [.int .i64 x,.int .i64 y,.int .i64 z,.int .i64 0]):=fun _ _ _=>rfl
 simp only [go_sem,bA,zB,zD,zC,reduceIte,reduceCtorEq,zA]
 refine cp n55 q1 (SubL.refl _) ?_
 simp only [go_sem,zB,zD,zC,reduceIte,reduceCtorEq,zA]
 refine cp n57 p1 (SubL.refl _) ?_
 simp only [go_sem,zAc,bA,zB,zD,zC,reduceIte,reduceCtorEq,zA]
 refine cp n55 q2 (SubL.refl _) ?_
 simp only [go_sem,zB,zD,zC,reduceIte,reduceCtorEq,zA]
 refine cp n57 p2 (SubL.refl _) ?_
 simp only [go_sem,zAc,bA,w1,zB,zD,zC,reduceIte,reduceCtorEq,zA]
 refine cp n55 q3 (SubL.refl _) ?_
 simp only [go_sem,zB,zD,zC,reduceIte,reduceCtorEq,zA]
 refine cp n57 p3 (SubL.refl _) ?_
 simp only [go_sem,zAc,bA,w2,zB,zD,zC,reduceIte,reduceCtorEq,zA]
 refine cp n55 q4 (SubL.refl _) ?_
 simp only [go_sem,zB,zD,zC,reduceIte,reduceCtorEq,zA]
 refine cp n57 p4 (SubL.refl _) ?_
 simp only [go_sem,zAc,z0,zAg,qD,decide_true,zB,zD,zC,reduceIte,reduceCtorEq,zA]
 refine cp n24 zBi (SubL.refl _) ?_
 simp only [go_sem,zB,zD,zC,reduceIte,reduceCtorEq,zA]
 exact hQ _
theorem true_t11 (s:Survey) (hl:okL s.sights.length) (hv:Sv s) {V:Mat} (hV:Lv.knownV s=some V) (a b:Nat) (ha:a<Lv.num s) (hb:b<Lv.num s) (hne:a≠b) (hf:ent V a b<far) (hs:List Int) (hh:HsOk s.stations hs) (v:AV) (Q:AQ) (hQ:∀ X,Q .ret [(8,.bool true)] ⟨X,0,[]⟩) :
  WC (E 263) (.seq (.seq (.region [1,2,3,4,11,13,148] r18_11) (.cond (.tmp 148) (.seq (.region [8] r18_12) .ret) .skip)) (.seq (.seq (.draw [2,3,4,11,13,17] 8 [] r18_13) (.seq (.region [2,3,4,13,170] r18_14) (.cond (.tmp 170) (.seq (.region [8] r18_15) .ret) .skip))) (.seq (.seq (.region [2,3,4,13,184] r18_16) (.cond (.tmp 184) (.seq (.region [8] r18_17) .ret) .skip)) (.seq (.region [2,3,4,13,18,19] r18_18) (.seq (.region [2,3,4,13,18,19,20,21] r18_19) (.seq (.region [2,3,4,13,18,19,20,21,22,23] r18_20) (.seq (.region [18,19,20,21,22,23,24,25] r18_21) (.seq (.region [8] r18_22) .ret)))))))) Q [(1,sl hs),(2,.int .i64 (a:Nat)),(3,.int .i64 (b:Nat)),(4,.ref 0 0),(11,.bool (fitB s hs)),(13,.ref 1 0),(14,.int .i64 0),(15,.ref 2 0),(113,v)] ⟨[some (.cells (surC s)),some (.cells [.int .i64 (-ent V b a),.int .i64 (ent V a b)]),some (.cells [.int .i64 (-ent V a b),.int .i64 (ent V b a)])],0,[]⟩:=by
 obtain ⟨TT,hT⟩:∃ TT,MC.seq (.region [2,3,4,13,18,19] r18_18) (.seq (.region [2,3,4,13,18,19,20,21] r18_19) (.seq (.region [2,3,4,13,18,19,20,21,22,23] r18_20) (.seq (.region [18,19,20,21,22,23,24,25] r18_21) (.seq (.region [8] r18_22) .ret))))=TT:=⟨_,rfl⟩
 rw [hT]
 have hst:s.stations=(Lv.num s:Int):=by have:=hv.st;show _=((s.stations.toNat:Nat):Int);omega
 have f2:=Lv.known_sym hv.toSw hV ha hb hf
 have hneg:=(Lv.known_clos hv.toSw hV).neg ha hb hf f2
 have b1:=Lv.known_bd hv.toSw hV ha hb hf
 have b2:=Lv.known_bd hv.toSw hV hb ha f2
 have hlaw:fitB s hs=true → -ent V b a≤hs.getD b 0 - hs.getD a 0∧hs.getD b 0 - hs.getD a 0≤ent V a b:=fun h=>Lv.fit_most hv.toSw hV (fit_iff.1 h) ha hb hf
 have hlen:=hh.len
 have g1:=ints_get (l:=hs) (i:=a) (by omega)
 have g2:=ints_get (l:=hs) (i:=b) (by omega)
 have i1:=hh.at a
 have i2:=hh.at b
 have a1:0≤(a:Int)∧(a:Int)<hs.length:=by omega
 have a2:0≤(b:Int)∧(b:Int)<hs.length:=by omega
 have h18:=true_t18 s hl hv hV a b ha hb hne hf
 have uN1:unA .neg (.int .i64 (ent V a b))=some (.int .i64 (-ent V a b)):=by show some (AV.int .i64 (IntKind.i64.wrap (0 - ent V a b)))=_;rw [wrap64 (by omega)];simp
 have uN2:unA .neg (.int .i64 (-ent V b a))=some (.int .i64 (ent V b a)):=by show some (AV.int .i64 (IntKind.i64.wrap (0 - -ent V b a)))=_;rw [wrap64 (by omega)];simp
 have ne:=neSpS (-ent V a b) (ent V b a)
 have bA:∀ x y:Int,buildA T 28 [(0,.int .i64 x),(1,.int .i64 y)]=some (.agg [.int .i64 x,.int .i64 y]):=fun _ _=>rfl
 have hs14:=hv.many
 generalize hs.getD a 0=x at *
 generalize hs.getD b 0=y at *
 generalize ent V b a=lo' at *
 generalize ent V a b=hi at *
 have v1:¬ (-lo' < -100000):=by omega
 have v2:¬ (hi > 100000):=by omega
 have v3:¬ (-lo' > hi):=by omega
 have w:IntKind.i64.wrap (y - x)=y - x:=wrap64 (by omega)
 obtain ⟨TU,hT'⟩:∃ TU,MC.seq (.seq (.region [2,3,4,13,184] r18_16) (.cond (.tmp 184) (.seq (.region [8] r18_17) .ret) .skip)) TT=TU:=⟨_,rfl⟩
 have rest:∀ vv:AV,WC (E 263) TU Q [(2,.int .i64 (a:Nat)),(3,.int .i64 (b:Nat)),(4,.ref 0 0),(13,.ref 1 0),(170,vv)] ⟨[some (.cells (surC s)),some (.cells [.int .i64 (-lo'),.int .i64 hi]),some (.cells [.int .i64 (-hi),.int .i64 lo'])],0,[]⟩:=fun vv=>by
  subst hT'
  by_cases c1:(s.sights.length:Int) ≥ 14
  ·simp only [go_sem,zAa,c1,decide_true,zB,zD,zC,reduceIte,reduceCtorEq,zA]
   refine cp n24 zBi (SubL.refl _) ?_
   simp only [go_sem,zB,zD,zC,reduceIte,reduceCtorEq,zA]
   exact hQ _
  by_cases c2:-lo' ≤ -1000
  ·simp only [go_sem,zAa,c1,c2,decide_true,decide_false,zB,zD,zC,reduceIte,reduceCtorEq,zA]
   refine cp n24 zBi (SubL.refl _) ?_
   simp only [go_sem,zB,zD,zC,reduceIte,reduceCtorEq,zA]
   exact hQ _
  by_cases c3:hi ≥ 1000
  ·simp only [go_sem,zAa,c1,c2,c3,decide_true,decide_false,zB,zD,zC,reduceIte,reduceCtorEq,zA]
   refine cp n24 zBi (SubL.refl _) ?_
   simp only [go_sem,zB,zD,zC,reduceIte,reduceCtorEq,zA]
   exact hQ _
  simp only [go_sem,zAa,c1,c2,c3,decide_false,zB,zD,zC,reduceIte,reduceCtorEq,zA]
  subst hT
  exact h18 (by omega) (by omega) (by omega) _ _ _ hQ
 rw [hT']
 cases hfit:fitB s hs
 ·simp only [go_sem,v1,v2,v3,uN1,uN2,ne,bA,decide_false,a1,a2,zAh,and_self,g1,g2,w,zB,zD,zC,reduceIte,reduceCtorEq,zA]
  exact rest _
 ·obtain ⟨l1,l2⟩:=hlaw hfit
  generalize hd:y - x=d at *
  have v4:¬ (d < -lo'):=by omega
  have v5:¬ (d > hi):=by omega
  simp only [go_sem,v1,v2,v3,uN1,uN2,ne,bA,decide_false,a1,a2,zAh,and_self,g1,g2,hd,w,v4,v5,zB,zD,zC,reduceIte,reduceCtorEq,zA]
  exact rest _
theorem boundsA_eq (s:Survey) (hv:Sv s) (i j:Int) (hi:0≤i∧i<s.stations) (hj:0≤j∧j<s.stations):boundsA s i j=(match Lv.knownV s with
  | some V=>if ent V i.toNat j.toNat<far then .tuple [spanA V i.toNat j.toNat,.int .i64 0] else .tuple [.agg [.int .i64 0,.int .i64 0],.int .i64 5]
  | none=>.tuple [.agg [.int .i64 0,.int .i64 0],.int .i64 7]):=by
 unfold boundsA
 rw [zCa.2 hv,(zBc hv.st).2 hi,(zBc hv.st).2 hj]
 cases Lv.knownV s <;> rfl
theorem span_eq {s:Survey} (h:Sw s) {V:Mat} (hV:Lv.knownV s=some V) {i j:Nat} (hi:i<Lv.num s) (hj:j<Lv.num s) (hf:ent V j i<far):spanA V i j=.agg [.int .i64 (-ent V j i),.int .i64 (ent V i j)]:=by
 have b:=Lv.known_bd h hV hj hi hf
 unfold spanA
 rw [wrap64 (by omega),show 0 - ent V j i = -ent V j i by omega]
theorem true_t3 (s:Survey) (hl:okL s.sights.length) (hv:Sv s) (a b:Nat) (ha:a<Lv.num s) (hb:b<Lv.num s) (hne:a≠b) (hs:List Int) (hhl:okL hs.length) (hh:HsOk s.stations hs) (Q:AQ) (hQ:∀ X,Q .ret [(8,.bool true)] ⟨X,0,[]⟩) :
  WC (E 263) (.seq (.region [1,2,3,4,9,10] r18_3) (.seq (.region [1,2,3,4,9,10,11,12] r18_4) (.seq (.region [1,2,3,4,9,10,11,12,13,14] r18_5) (.seq (.region [1,2,3,4,9,10,11,12,13,14,15,16] r18_6) (.seq (.seq (.region [1,2,3,4,11,13,14,15,111] r18_7) (.cond (.tmp 111) (.seq (.region [8] r18_8) .ret) .skip)) (.seq (.seq (.region [1,2,3,4,11,13,14,15,113] r18_9) (.cond (.tmp 113) (.seq (.region [8] r18_10) .ret) .skip)) (.seq (.seq (.region [1,2,3,4,11,13,148] r18_11) (.cond (.tmp 148) (.seq (.region [8] r18_12) .ret) .skip)) (.seq (.seq (.draw [2,3,4,11,13,17] 8 [] r18_13) (.seq (.region [2,3,4,13,170] r18_14) (.cond (.tmp 170) (.seq (.region [8] r18_15) .ret) .skip))) (.seq (.seq (.region [2,3,4,13,184] r18_16) (.cond (.tmp 184) (.seq (.region [8] r18_17) .ret) .skip)) (.seq (.region [2,3,4,13,18,19] r18_18) (.seq (.region [2,3,4,13,18,19,20,21] r18_19) (.seq (.region [2,3,4,13,18,19,20,21,22,23] r18_20) (.seq (.region [18,19,20,21,22,23,24,25] r18_21) (.seq (.region [8] r18_22) .ret)))))))))))))) Q [(1,sl hs),(2,.int .i64 (a:Nat)),(3,.int .i64 (b:Nat)),(4,.ref 0 0),(61,.bool false)] ⟨[some (.cells (surC s))],0,[]⟩:=by
 have z2:decide ((2:Int)=2)=true:=rfl
 have z7:decide ((7:Int)=7)=true:=rfl
 have z5:decide ((5:Int)=5)=true:=rfl
 have z0:decide ((0:Int)=0)=true:=rfl
 have y0:¬ ((0:Int)≠0):=by decide
 have y2:¬ ((2:Int)≠2):=by decide
 have y7:¬ ((7:Int)≠7):=by decide
 have y5:¬ ((5:Int)≠5):=by decide
 have x2:((2:Int)≠0):=by decide
 have x7:((7:Int)≠0):=by decide
 have x5:((5:Int)≠0):=by decide
 have hcZ:AV.cells zeroR=[.nilS,.nilS]:=rfl
 have o1:AV.one .nilS=true:=rfl
 have hcR:∀ V,AV.cells (rA V)=[wS (rM V),.slice ((rJ V).map bl) (rJ V).length .unk]:=fun V=>rfl
 have oR:∀ (l:List AV) (n:Nat) (u:Tail),AV.one (.slice l n u)=true:=fun _ _ _=>rfl
 have nb:∀ a b:Bool,binA T .neq 4 (.bool a) (.bool b)=some (.bool (decide (a≠b))):=fun a b=>by cases a <;> cases b <;> rfl
 have eb:∀ a b:Bool,binA T .eql 4 (.bool a) (.bool b)=some (.bool (decide (a=b))):=fun a b=>by cases a <;> cases b <;> rfl
 have hc2:∀ a b:AV,AV.cells (.agg [a,b])=[a,b]:=fun _ _=>rfl
 have oI:∀ n:Int,AV.one (.int .i64 n)=true:=fun _=>rfl
 obtain ⟨TT,hT⟩:∃ TT,MC.seq (.seq (.region [1,2,3,4,11,13,148] r18_11) (.cond (.tmp 148) (.seq (.region [8] r18_12) .ret) .skip)) (.seq (.seq (.draw [2,3,4,11,13,17] 8 [] r18_13) (.seq (.region [2,3,4,13,170] r18_14) (.cond (.tmp 170) (.seq (.region [8] r18_15) .ret) .skip))) (.seq (.seq (.region [2,3,4,13,184] r18_16) (.cond (.tmp 184) (.seq (.region [8] r18_17) .ret) .skip)) (.seq (.region [2,3,4,13,18,19] r18_18) (.seq (.region [2,3,4,13,18,19,20,21] r18_19) (.seq (.region [2,3,4,13,18,19,20,21,22,23] r18_20) (.seq (.region [18,19,20,21,22,23,24,25] r18_21) (.seq (.region [8] r18_22) .ret)))))))=TT:=⟨_,rfl⟩
 rw [hT]
 have hst:s.stations=(Lv.num s:Int):=by have:=hv.st;show _=((s.stations.toNat:Nat):Int);omega
 have hP:=Possible_pc s hl
 have eP:possA s=.tuple [.bool (possS s),.int .i64 0]:=by unfold possA;rw [if_pos (zCa.2 hv)]
 rw [eP] at hP
 have hF:=Fits_pc s hl hs hhl
 have eF:fitsA s hs=.tuple [.bool (fitB s hs),.int .i64 0]:=by unfold fitsA;rw [if_pos ⟨zCa.2 hv,list_iff.2 hh⟩]
 rw [eF] at hF
 have hB1:=Bounds_pc s hl a b
 rw [boundsA_eq s hv _ _ (by omega) (by omega)] at hB1
 have hB2:=Bounds_pc s hl b a
 rw [boundsA_eq s hv _ _ (by omega) (by omega)] at hB2
 simp only [qN] at hB1 hB2
 have w7:¬ ((0:Int)=7):=by decide
 have u57:decide ((5:Int)≠7)=true:=rfl
 have u07:decide ((0:Int)≠7)=true:=rfl
 have w57:¬ ((5:Int)=7):=by decide
 have d1:decide (true≠true)=false:=rfl
 have d2:decide (false≠false)=false:=rfl
 cases hV:Lv.knownV s with
 | none =>
  simp only [hV] at hB1 hB2
  have hp:possS s=false:=by unfold Lv.possS;rw [hV];rfl
  have hnf:fitB s hs=false:=by
   cases h:fitB s hs
   ·rfl
   ·have:=(Lv.poss_fit hv.toSw).2 ⟨_,fit_iff.1 h⟩
    rw [this] at hp;cases hp
  rw [hnf] at hF
  rw [hp] at hP
  simp only [go_sem,zB,zD,zC,reduceIte,reduceCtorEq,zA]
  refine cp n57 hP (SubL.refl _) ?_
  simp only [go_sem,zAc,zB,zD,zC,reduceIte,reduceCtorEq,zA]
  refine cp n64 hF (SubL.refl _) ?_
  simp only [go_sem,zAc,zB,zD,zC,reduceIte,reduceCtorEq,zA]
  refine cp n25 hB1 (SubL.refl _) ?_
  simp only [go_sem,zAc,zAd,hc2,oI,zL,zO,zJ,splice,zI,zH,and_self,zV,qF,zB,zD,zC,reduceIte,reduceCtorEq,zA]
  refine cp n25 hB2 (SubL.refl _) ?_
  simp only [go_sem,zAc,zAd,hc2,oI,zL,zO,zJ,splice,zI,zH,and_self,zV,qF,y0,x7,y7,z7,nb,d1,d2,decide_true,decide_false,zB,zD,zC,reduceIte,reduceCtorEq,zA]
  refine cp n24 zBi (SubL.refl _) ?_
  simp only [go_sem,zB,zD,zC,reduceIte,reduceCtorEq,zA]
  exact hQ _
 | some V =>
  have hp:possS s=true:=by unfold Lv.possS;rw [hV];rfl
  rw [hp] at hP
  by_cases hf:ent V a b<far
  ·have f2:ent V b a<far:=Lv.known_sym hv.toSw hV ha hb hf
   simp only [hV] at hB1 hB2
   rw [if_pos hf] at hB1
   rw [if_pos f2] at hB2
   rw [span_eq hv.toSw hV ha hb f2] at hB1
   rw [span_eq hv.toSw hV hb ha hf] at hB2
   have ht:=fun v=>true_t11 s hl hv hV a b ha hb hne hf hs hh v Q hQ
   generalize -ent V b a=p1 at *
   generalize -ent V a b=p2 at *
   generalize ent V b a=p3 at *
   generalize ent V a b=p4 at *
   cases hfit:fitB s hs
   all_goals
    rw [hfit] at hF ht
    simp only [go_sem,zB,zD,zC,reduceIte,reduceCtorEq,zA]
    refine cp n57 hP (SubL.refl _) ?_
    simp only [go_sem,zAc,zB,zD,zC,reduceIte,reduceCtorEq,zA]
    refine cp n64 hF (SubL.refl _) ?_
    simp only [go_sem,zAc,zB,zD,zC,reduceIte,reduceCtorEq,zA]
    refine cp n25 hB1 (SubL.refl _) ?_
    simp only [go_sem,zAc,zAd,hc2,oI,zL,zO,zJ,splice,zI,zH,and_self,zV,qF,zB,zD,zC,reduceIte,reduceCtorEq,zA]
    refine cp n25 hB2 (SubL.refl _) ?_
    simp only [go_sem,zAc,zAd,hc2,oI,zL,zO,zJ,splice,zI,zH,and_self,zV,qF,y0,u07,nb,d1,d2,decide_true,decide_false,zAg,zY,zB,zD,zC,reduceIte,reduceCtorEq,zA]
    subst hT
    exact ht _
  ·have f2:¬ ent V b a<far:=fun h=>hf (Lv.known_sym hv.toSw hV hb ha h)
   simp only [hV] at hB1 hB2
   rw [if_neg hf] at hB1
   rw [if_neg f2] at hB2
   cases hfit:fitB s hs
   all_goals
    rw [hfit] at hF
    simp only [go_sem,zB,zD,zC,reduceIte,reduceCtorEq,zA]
    refine cp n57 hP (SubL.refl _) ?_
    simp only [go_sem,zAc,zB,zD,zC,reduceIte,reduceCtorEq,zA]
    refine cp n64 hF (SubL.refl _) ?_
    simp only [go_sem,zAc,zB,zD,zC,reduceIte,reduceCtorEq,zA]
    refine cp n25 hB1 (SubL.refl _) ?_
    simp only [go_sem,zAc,zAd,hc2,oI,zL,zO,zJ,splice,zI,zH,and_self,zV,qF,zB,zD,zC,reduceIte,reduceCtorEq,zA]
    refine cp n25 hB2 (SubL.refl _) ?_
    simp only [go_sem,zAc,zAd,hc2,oI,zL,zO,zJ,splice,zI,zH,and_self,zV,qF,y0,x5,y5,z5,u57,w57,nb,d1,d2,decide_true,decide_false,zAg,zY,zB,zD,zC,reduceIte,reduceCtorEq,zA]
    refine cp n24 zBi (SubL.refl _) ?_
    simp only [go_sem,zB,zD,zC,reduceIte,reduceCtorEq,zA]
    exact hQ _
theorem ltrue_pc (s:Survey) (hl:okL s.sights.length) (hs:List Int) (hhl:okL hs.length) (i j:Int):PC Tryz.prog 18 [surA s,sl hs,.int .i64 i,.int .i64 j] (.pure (.bool true)):=by
 refine PC.of_empty (AC.run (E_ok _) mix Tryz.func18 m18 rfl rfl rfl (zE rfl) ?_) (by simp [bndL,AV.bnd]) rfl
 obtain ⟨TL,hTL⟩:∃ TL,MC.seq (.region [1,2,3,4,9,10] r18_3) (.seq (.region [1,2,3,4,9,10,11,12] r18_4) (.seq (.region [1,2,3,4,9,10,11,12,13,14] r18_5) (.seq (.region [1,2,3,4,9,10,11,12,13,14,15,16] r18_6) (.seq (.seq (.region [1,2,3,4,11,13,14,15,111] r18_7) (.cond (.tmp 111) (.seq (.region [8] r18_8) .ret) .skip)) (.seq (.seq (.region [1,2,3,4,11,13,14,15,113] r18_9) (.cond (.tmp 113) (.seq (.region [8] r18_10) .ret) .skip)) (.seq (.seq (.region [1,2,3,4,11,13,148] r18_11) (.cond (.tmp 148) (.seq (.region [8] r18_12) .ret) .skip)) (.seq (.seq (.draw [2,3,4,11,13,17] 8 [] r18_13) (.seq (.region [2,3,4,13,170] r18_14) (.cond (.tmp 170) (.seq (.region [8] r18_15) .ret) .skip))) (.seq (.seq (.region [2,3,4,13,184] r18_16) (.cond (.tmp 184) (.seq (.region [8] r18_17) .ret) .skip)) (.seq (.region [2,3,4,13,18,19] r18_18) (.seq (.region [2,3,4,13,18,19,20,21] r18_19) (.seq (.region [2,3,4,13,18,19,20,21,22,23] r18_20) (.seq (.region [18,19,20,21,22,23,24,25] r18_21) (.seq (.region [8] r18_22) .ret)))))))))))))=TL:=⟨_,rfl⟩
 unfold c18
 rw [hTL]
 simp only [go_sem,boxA,zB,zD,zC,reduceIte,reduceCtorEq,zA]
 refine cp n23 (short_pc s) (SubL.refl _) ?_
 by_cases hsh:s.sights.length≤17
 rotate_left
 ·rw [decide_eq_false hsh]
  simp only [go_sem,zAg,qD,zB,zD,zC,reduceIte,reduceCtorEq,zA]
  refine cp n24 zBi (SubL.refl _) ?_
  simp only [go_sem,Tryz.f18,zB,zD,zC,reduceIte,reduceCtorEq,zA]
 rw [decide_eq_true hsh]
 by_cases hg12:(hs.length:Int) > 12
 ·simp only [go_sem,zAg,zY,zAa,hg12,decide_true,decide_false,zB,zD,zC,reduceIte,reduceCtorEq,zA]
  refine cp n24 zBi (SubL.refl _) ?_
  simp only [go_sem,Tryz.f18,zB,zD,zC,reduceIte,reduceCtorEq,zA]
 simp only [go_sem,zAg,zY,zAa,hg12,decide_false,zB,zD,zC,reduceIte,reduceCtorEq,zA]
 refine cp n33 (rSurvey_pc s hl) (SubL.refl _) ?_
 cases hv:zAn s
 ·simp only [go_sem,zAg,qD,zB,zD,zC,reduceIte,reduceCtorEq,zA]
  refine cp n24 zBi (SubL.refl _) ?_
  simp only [go_sem,Tryz.f18,zB,zD,zC,reduceIte,reduceCtorEq,zA]
 simp only [go_sem,zAg,zY,zB,zD,zC,reduceIte,reduceCtorEq,zA]
 refine cp n56 (rList_pc s hs hhl) (SubL.refl _) ?_
 cases hh:listOk s hs
 ·simp only [go_sem,zAg,qD,zB,zD,zC,reduceIte,reduceCtorEq,zA]
  refine cp n24 zBi (SubL.refl _) ?_
  simp only [go_sem,Tryz.f18,zB,zD,zC,reduceIte,reduceCtorEq,zA]
 simp only [go_sem,zAg,zY,zB,zD,zC,reduceIte,reduceCtorEq,zA]
 refine cp n30 (zDh s i) (SubL.refl _) ?_
 cases hi:staB s i
 ·simp only [go_sem,zAg,qD,zB,zD,zC,reduceIte,reduceCtorEq,zA]
  refine cp n24 zBi (SubL.refl _) ?_
  simp only [go_sem,Tryz.f18,zB,zD,zC,reduceIte,reduceCtorEq,zA]
 simp only [go_sem,zAg,zY,zB,zD,zC,reduceIte,reduceCtorEq,zA]
 refine cp n30 (zDh s j) (SubL.refl _) ?_
 cases hj:staB s j
 ·simp only [go_sem,zAg,qD,zB,zD,zC,reduceIte,reduceCtorEq,zA]
  refine cp n24 zBi (SubL.refl _) ?_
  simp only [go_sem,Tryz.f18,zB,zD,zC,reduceIte,reduceCtorEq,zA]
 have hsv:=zCa.1 hv
 have hst:s.stations=(Lv.num s:Int):=by have:=hsv.st;show _=((s.stations.toNat:Nat):Int);omega
 have hi':=(zBc hsv.st).1 hi
 have hj':=(zBc hsv.st).1 hj
 by_cases hij:i=j
 ·have de:decide (i=j)=true:=decide_eq_true hij
  simp only [go_sem,zAg,zY,de,zB,zD,zC,reduceIte,reduceCtorEq,zA]
  refine cp n24 zBi (SubL.refl _) ?_
  simp only [go_sem,Tryz.f18,zB,zD,zC,reduceIte,reduceCtorEq,zA]
 have de:decide (i=j)=false:=decide_eq_false hij
 simp only [go_sem,zAg,zY,de,zB,zD,zC,reduceIte,reduceCtorEq,zA]
 subst hTL
 obtain ⟨a,rfl⟩:∃ a:Nat,i=a:=⟨i.toNat,by omega⟩
 obtain ⟨b,rfl⟩:∃ b:Nat,j=b:=⟨j.toNat,by omega⟩
 refine true_t3 s hl hsv a b (by omega) (by omega) (by omega) hs hhl (list_iff.1 hh) _ ?_
 intro X
 simp only [go_sem,Tryz.f18,zB,zD,zC,reduceIte,reduceCtorEq,zA]
end Go.Av.Lx
end
section
set_option maxRecDepth 100000
namespace Go.Av.Lx
open Go.Lv (Sight Survey Leg Tun Try Stp)
open Go Go.Av Go.Av.Tb Go.Av.Fx Go.Proofs Go.ChangeShapes Go.WideShapes Go.RowKit
def cW (W:World):Cx:=
 {K:=fun b o=>W.cell? ⟨b,o,none⟩,μ:=fun _=>none,τ:=fun _=>none,X:=fun _ _=>none
  XO:=fun b=>match W.heap[b]? with
   | some (.cells _ _ _)=>none
   | o=>o
  sz:=W.heap.size,FZ:=⟨fun _ _=>false,W⟩ }
structure TabOk (W:World):Prop where
 tab:∀ i,i<20→W.cell? ⟨tabB,i,none⟩=some (tabV i)
 tsh:∃ t,W.shape? tabB=some (t,20)
theorem cW_st {W:World} (h:TabOk W):StRel (cW W) St.empty W where
 sz:=zN _
 tab:=h.tab
 tsh:=h.tsh
 fr:=Frm.refl W
 K:=fun _ _ _ e=>e
 X:=fun _ _ _ e=>by cases e
 XO:=fun b ob e=>by
  simp only [cW] at e
  split at e
  ·cases e
  ·rename_i hn
   exact ⟨e,fun cs t f he=>hn cs t f (by rw [e,he])⟩
 F:=fun _ _ e=>by cases e
 dom:=fun _ _ e=>by cases e
 tdom:=fun _ _ e=>by cases e
 blk:=fun i B e=>by simp [St.empty] at e
 inj:=fun i j Bi Bj n e=>by simp [St.empty] at e
 tok:=fun k hk=>by cases hk
 tinj:=fun k k' b lo hi lo' hi' hk=>by cases hk
 tblk:=fun k i b lo hi B hk=>by cases hk
 tfr:=fun k b lo hi hk=>by cases hk
structure Keep (W W':World):Prop where
 os:W'.os=W.os
 out:W'.output=W.output
 block:∀ k,k<W.heap.size→W'.heap[k]? = W.heap[k]?
theorem keep_of {W W':World} {c':Cx} {S':St} (hle:(cW W).le c') (h:StRel c' S' W'):Keep W W':=by
 have hfr:Go.Av.Frm W W':=by have:=h.fr;rw [hle.FZ] at this;exact this
 refine ⟨hfr.os,hfr.out,fun k hk => ?_⟩
 have hob:W.heap[k]? = some W.heap[k]:=qA hk
 rw [hob]
 cases ho:W.heap[k] with
 | cells cs t fr =>
  rw [ho] at hob
  obtain ⟨cs',e1,e2⟩:=hfr.blk k cs t fr hob
  rw [e1]
  congr 2
  apply Array.ext
  ·exact e2
  ·intro j h1 h2
   have hc:W.cell? ⟨k,j,none⟩=some cs[j]:=by
    unfold World.cell?
    simp [hob,h2]
   have:=h.K k j _ (hle.K k j _ hc)
   unfold World.cell? at this
   simp [e1,h1] at this
   exact this
 | _ =>
  rw [ho] at hob
  exact (h.XO k _ (by rw [hle.XO];simp only [cW,hob])).1
theorem Keep.keptBut {W W':World} (h:Keep W W') (may:MemPlace→Prop):W.keptBut W' may:=by
 refine ⟨h.os,h.out,fun i hi => ?_⟩
 rw [h.block i hi,qA hi]
 cases W.heap[i] with
 | cells c t fr=>exact ⟨rfl,rfl,rfl,fun _ _=>rfl⟩
 | map es clock=>exact .inr ⟨rfl,rfl⟩
 | _=>rfl
theorem Keep.same {W W':World} (h:Keep W W') {p:MemPlace} (hp:p.block<W.heap.size):W.sameAt W' p:=by
 cases p with
 | cell b o=>exact World.cell?_of_block (w:=W) (h.block b hp)
 | map b=>exact h.block b hp
theorem Keep.trod {H:Type} {enc:TypeId × Value→H} {P:Program} {t:TypeId} (hl:laidOutB P=true) (hr:P.readableRec t=true) (hrow:t<P.types.size) {W W':World} {v:Value} {d:DataW H} {ps:List MemPlace}
  (h:DataW.Trod enc P W 0 (fun _=>true) true t v d ps) (hb:Keep W W') (hlt:∀ x∈ps,x.block<W.heap.size) :
  DataW.Trod enc P W' 0 (fun b=>decide (b<W.heap.size)) true t v d ps:=
 WideElems.Trod_stays hl hr hrow h (fun x hx=>hb.same (hlt x hx)) (fun x hx=>by simpa using hlt x hx)
theorem law_calls {f:FuncId} {args:List AV} {W:World} {vs:List Value} (h:PC Tryz.prog f args (.pure (.bool true))) (ht:TabOk W) (hl:LRel (cW W) args vs) :
  Calls Tryz.prog f vs.toArray W fun e W'=>e=.returned (.bool true)∧Keep W W':=by
 refine (h (cW W) St.empty W vs (cW_st ht) hl).mono ?_
 rintro e W' ⟨x,rfl,c',hle,_,_,hst,hv⟩
 refine ⟨?_,keep_of hle hst⟩
 cases hv;rfl
theorem cells_of {W:World} {b off:Nat} {l:List AV} {n cap:Nat} (hc:n≤cap) (h:∀ j x,l[j]? = some x → ∃ v,W.cell? ⟨b,off+j,none⟩=some v∧VRel (cW W) x v):VRel (cW W) (.slice l n .unk) (.slice (some ⟨b,off,none⟩) n cap):=by
 have get:∀ j (hj:j<l.length),∃ v,W.cell? ⟨b,off+j,none⟩=some v∧VRel (cW W) l[j] v:=fun j hj=>h j _ (zF hj)
 refine .slice l n .unk b off cap (fun j=>(W.cell? ⟨b,off+j,none⟩).getD default) hc (fun j hj => ?_) (fun j x hx => ?_) (fun e=>by cases e) (fun k e=>by cases e)
 ·obtain ⟨v,h1,h2⟩:=get j hj
  show W.cell? _=some ((W.cell? _).getD default)
  rw [h1];rfl
 ·obtain ⟨v,h1,h2⟩:=h j x hx
  rw [h1];exact h2
theorem add_at (b off i:Nat):(⟨b,off,none⟩:Addr).add i=⟨b,off+i,none⟩:=add_plain b off i
theorem has_spot {W:World} {base:Nat} {t e:TypeId} {a:Addr} {len cap:Nat} (ht:Tryz.prog.underlying t=some (.slice e)) (h:Cell.okWide Tryz.prog W .any base t (.slice (some a) len cap)):a.spot=none:=by
 simp only [Cell.okWide,ht,Cell.ok] at h
 exact h.2.2.2.1
section
variable {H:Type} {enc:TypeId × Value→H} {W:World} {base:Nat} {fuel:Nat} {x:DataW H × List MemPlace}
theorem av_ints {v:Value} (h:DataW.trod enc Tryz.prog W 0 (fun _=>true) true fuel 32 [v]=some x) (hw:∀ n∈x.1.weights Tryz.prog 32,n≤reachBytes) (hok:Cell.okWide Tryz.prog W .any base 32 v):∃ l:List Int,VRel (cW W) (sl l) v∧okL l.length:=by
 rcases open_ints Tryz.underlying32 Tryz.underlying3 (by kernel_rfl) h with ⟨hcs,_⟩ | ⟨a,len,cap,zs,hcs,_,hl,hm,hz,hx,hcell,_⟩
 ·cases hcs
  exact ⟨[],.sliceNil .unk (fun k e=>by cases e),Nat.zero_lt_succ _⟩
 ·cases hcs
  have hsp:=has_spot Tryz.underlying32 hok
  obtain ⟨b,off,spot⟩:=a
  simp only at hsp
  subst hsp
  have hz:zs.length=cap:=by simpa using hz
  have hlen:(zs.take len).length=len:=by rw [List.length_take];omega
  have hsize:len<9223372036854775807:=by
   subst hx
   have h8:Tryz.prog.bytesOf 3=8:=by kernel_rfl
   have:=hw (((lits .i64 (zs.take len):List (DataW H)).length+(lits .i64 (zs.drop len):List (DataW H)).length) * 8) (by
    simp only [DataW.weights,Tryz.underlying32,h8]
    exact zP)
   have e1:(lits .i64 (zs.take len):List (DataW H)).length=len:=by simp [lits];omega
   rw [e1] at this
   unfold reachBytes at this
   omega
  refine ⟨zs.take len, ?_,by rw [hlen];exact hsize⟩
  show VRel (cW W) (.slice (ints (zs.take len)) (zs.take len).length .unk) _
  rw [hlen]
  refine cells_of hl fun j y hy => ?_
  rw [Go.Av.Fx.ints_get] at hy
  have hj:j<(zs.take len).length:=by
   rcases zU j (zs.take len).length with h' | h'
   ·exact h'
   ·rw [zM h'] at hy;cases hy
  rw [zF hj] at hy
  cases hy
  have hj2:j<zs.length:=by omega
  have hc:=hcell j hj2
  rw [add_at] at hc
  refine ⟨_,hc, ?_⟩
  rw [List.getElem_take,zG,zF hj2]
  exact .int _ _
theorem av_int {v:Value} (h:DataW.trod enc Tryz.prog W 0 (fun _=>true) true fuel 3 [v]=some x):∃ n:Int,v=.int .i64 n∧(Lit.int .i64 n).wf=true:=by
 obtain ⟨n,hcs,_,hw⟩:=DataW.trod_int Tryz.underlying3 h
 cases hcs
 exact ⟨n,rfl,hw⟩
theorem flat_get {α:Type} {f:α→List AV} {z:Nat} (hz:∀ a,(f a).length=z):∀ (l:List α) (j:Nat) (y:AV),(l.flatMap f)[j]? = some y → ∃ (i q:Nat) (hi:i<l.length),j=i * z+q∧q<z∧(f l[i])[q]? = some y
 | [],j,y,h=>by simp at h
 | c :: l,j,y,h=>by
  rw [qW] at h
  by_cases hj:j<z
  ·rw [qI (by rw [hz];exact hj)] at h
   exact ⟨0,j,by simp,by omega,hj,h⟩
  ·rw [zX (by rw [hz];omega),hz] at h
   obtain ⟨i,q,hi,e1,e2,e3⟩:=flat_get hz l _ y h
   refine ⟨i+1,q,by simpa using hi, ?_,e2,e3⟩
   rw [Nat.add_mul];omega
theorem av_rows {α:Type} (dflt:α) (f:α→List AV) {z by':Nat} (hz:∀ a,(f a).length=z) {t e:TypeId} (hu:Tryz.prog.underlying t=some (.slice e)) (hc:Tryz.prog.cellsOf e=z) (h8:Tryz.prog.bytesOf e=by') (hb:1≤by')
  (one:∀ {n:Nat} {y:DataW H × List MemPlace} {cs:List Value},DataW.trod enc Tryz.prog W 0 (fun _=>true) true n e cs=some y → ∃ a:α,LRel (cW W) (f a) cs)
  {v:Value} (h:DataW.trod enc Tryz.prog W 0 (fun _=>true) true fuel t [v]=some x) (hw:∀ n∈x.1.weights Tryz.prog t,n≤reachBytes) (hok:Cell.okWide Tryz.prog W .any base t v):∃ l:List α,VRel (cW W) (.slice (l.flatMap f) l.length .unk) v∧okL l.length:=by
 rcases Go.Deep.open_slice hu h with ⟨hcs,_⟩ | ⟨a,len,cap,m,n,D,Pl,hcs,_,hl,hm,hmm,hxx,hx⟩
 ·cases hcs
  exact ⟨[],.sliceNil .unk (fun k e=>by cases e),Nat.zero_lt_succ _⟩
 ·cases hcs
  have hsp:=has_spot hu hok
  obtain ⟨b,off,spot⟩:=a
  simp only at hsp
  subst hsp
  have hmc:m=cap:=by simpa using hmm
  rw [hc] at hx
  have each:∀ i,i<len → ∃ c:α,∀ (q:Nat) (y:AV),(f c)[q]? = some y → ∃ u,W.cell? ⟨b,off+(i * z+q),none⟩=some u∧VRel (cW W) y u:=by
   intro i hi
   obtain ⟨cs',h1,h2⟩:=hx i (by omega)
   obtain ⟨c,hr⟩:=one h2
   obtain ⟨_,hcl,hcell⟩:=World.cells?_some h1
   refine ⟨c,fun q y hy => ?_⟩
   obtain ⟨u,hu',hru⟩:=hr.get hy
   have hq:q<cs'.length:=by
    rcases zU q cs'.length with h' | h'
    ·exact h'
    ·rw [zM h'] at hu';cases hu'
   have hcq:=hcell q (by omega)
   rw [add_at,add_at,Nat.add_assoc] at hcq
   refine ⟨u, ?_,hru⟩
   rw [hcq]
   exact hu'
  obtain ⟨F,hF⟩:∃ F:Nat→α,∀ i,i<len → ∀ (q:Nat) (y:AV),(f (F i))[q]? = some y → ∃ u,W.cell? ⟨b,off+(i * z+q),none⟩=some u∧VRel (cW W) y u:=
   ⟨fun i=>if hi:i<len then (each i hi).choose else dflt,fun i hi=>by
    show ∀ (q:Nat) (y:AV),(f (if hi:i<len then (each i hi).choose else dflt))[q]? = some y→_
    rw [dif_pos hi];exact (each i hi).choose_spec⟩
  have hlen:((List.range len).map F).length=len:=by simp
  have hsize:len<9223372036854775807:=by
   subst hxx
   have:=hw ((((List.range len).map D).length+((List.range (m - len)).map fun j=>D (len+j)).length) * by') (by
    simp only [DataW.weights,hu,h8]
    exact zP)
   rw [List.length_map,List.length_range] at this
   have h3:len * 1≤(len+((List.range (m - len)).map fun j=>D (len+j)).length) * by':=Nat.mul_le_mul (by omega) hb
   unfold reachBytes at this
   omega
  refine ⟨(List.range len).map F, ?_,by rw [hlen];exact hsize⟩
  rw [hlen]
  refine cells_of hl fun j y hy => ?_
  obtain ⟨i,q,hi,rfl,_,e3⟩:=flat_get hz _ j y hy
  rw [hlen] at hi
  have e4:((List.range len).map F)[i]=F i:=by simp
  rw [e4] at e3
  exact hF i hi q y e3
theorem av_sight {n:Nat} {y:DataW H × List MemPlace} {cs:List Value} (h:DataW.trod enc Tryz.prog W 0 (fun _=>true) true n 85 cs=some y):∃ a:Sight,LRel (cW W) (sgtC a) cs:=by
 obtain ⟨xs,n,_,_,hl,hlen,hf⟩:=DataW.trod_struct Tryz.underlying85 h
 have hc:Tryz.prog.cellsOf 85=4:=by kernel_rfl
 have hc3:Tryz.prog.cellsOf 3=1:=by kernel_rfl
 have hc4:Tryz.prog.cellsOf 4=1:=by kernel_rfl
 rw [hc] at hl
 match cs,hl with
 | [a0,a1,a2,a3],_ =>
  match xs,hlen with
  | [y0,y1,y2,y3],_ =>
   have h0:DataW.trod enc Tryz.prog W 0 (fun _=>true) true n 3 (([a0,a1,a2,a3].drop 0).take (Tryz.prog.cellsOf 3))=some y0:=hf 0 _ rfl
   rw [hc3] at h0
   have h1:DataW.trod enc Tryz.prog W 0 (fun _=>true) true n 3 (([a0,a1,a2,a3].drop 1).take (Tryz.prog.cellsOf 3))=some y1:=hf 1 _ rfl
   rw [hc3] at h1
   have h2:DataW.trod enc Tryz.prog W 0 (fun _=>true) true n 3 (([a0,a1,a2,a3].drop 2).take (Tryz.prog.cellsOf 3))=some y2:=hf 2 _ rfl
   rw [hc3] at h2
   have h3:DataW.trod enc Tryz.prog W 0 (fun _=>true) true n 3 (([a0,a1,a2,a3].drop 3).take (Tryz.prog.cellsOf 3))=some y3:=hf 3 _ rfl
   rw [hc3] at h3
   obtain ⟨p0,rfl,_⟩:=av_int h0
   obtain ⟨p1,rfl,_⟩:=av_int h1
   obtain ⟨p2,rfl,_⟩:=av_int h2
   obtain ⟨p3,rfl,_⟩:=av_int h3
   exact ⟨⟨p0,p1,p2,p3⟩,(LRel.cons (.int _ _) (LRel.cons (.int _ _) (LRel.cons (.int _ _) (LRel.cons (.int _ _) (LRel.nil _)))))⟩
end
theorem cells_lone {v:Value} (h:∀ cs,v ≠ .agg cs):v.cells.toList=[v]:=by
 cases v <;> first | rfl | exact absurd rfl (h _)
section
variable {H:Type} {enc:TypeId × Value→H} {W:World} {base:Nat}
theorem av_intsA {v:Value} {d:DataW H} {ps:List MemPlace} (h:DataW.Trod enc Tryz.prog W 0 (fun _=>true) true 32 v d ps) (hw:∀ n∈d.weights Tryz.prog 32,n≤reachBytes) (hok:Value.okWide Tryz.prog W .any base 32 v) :
  ∃ l:List Int,VRel (cW W) (sl l) v∧okL l.length:=by
 obtain ⟨fuel,h⟩:=h
 simp only [Value.okWide,Tryz.underlying32] at hok
 rw [cells_lone (fun cs e=>by subst e;simp [Tryz.underlying32,Cell.okWide,Cell.ok] at hok)] at h
 exact av_ints h hw hok
theorem av_survey {v:Value} {d:DataW H} {ps:List MemPlace} (h:DataW.Trod enc Tryz.prog W 0 (fun _=>true) true 24 v d ps) (hw:∀ n∈d.weights Tryz.prog 24,n≤reachBytes) (hok:Value.okWide Tryz.prog W .any base 24 v) :
  ∃ s:Survey,VRel (cW W) (surA s) v∧okL s.sights.length:=by
 obtain ⟨fuel,h⟩:=h
 simp only [Value.okWide,Tryz.underlying24] at hok
 obtain ⟨cs,rfl,hsz,ts,hts,_,hrow⟩:=hok
 have hc:Tryz.prog.cellsOf 24=2:=by kernel_rfl
 rw [hc] at hsz
 obtain ⟨c0,c1,rfl⟩:∃ c0 c1,cs=#[c0,c1]:=by
  obtain ⟨l⟩:=cs
  match l,hsz with
  | [c0,c1],_=>exact ⟨c0,c1,rfl⟩
 have hts':Go.Program.cellTypes Tryz.prog Tryz.prog.depth 24=some [3,22]:=by kernel_rfl
 rw [hts'] at hts
 cases hts
 have k1:Cell.okWide Tryz.prog W .any base 22 c1:=by
  obtain ⟨u,e,hu⟩:=hrow 1 c1 rfl
  cases e;exact hu
 obtain ⟨xs,n,_,hd,hl,hlen,hf⟩:=DataW.trod_struct Tryz.underlying24 h
 have hc3:Tryz.prog.cellsOf 3=1:=by kernel_rfl
 have hc22:Tryz.prog.cellsOf 22=1:=by kernel_rfl
 match xs,hlen with
 | [y0,y1],_ =>
  have h0:DataW.trod enc Tryz.prog W 0 (fun _=>true) true n 3 (([c0,c1].drop 0).take (Tryz.prog.cellsOf 3))=some y0:=hf 0 _ rfl
  have h1:DataW.trod enc Tryz.prog W 0 (fun _=>true) true n 22 (([c0,c1].drop 1).take (Tryz.prog.cellsOf 22))=some y1:=hf 1 _ rfl
  rw [hc3] at h0
  rw [hc22] at h1
  cases hd
  have hw':∀ (j:Nat) (t:TypeId) (d:DataW H),[3,22][j]? = some t→[y0.1,y1.1][j]? = some d → ∀ n∈d.weights Tryz.prog t,n≤reachBytes:=fun j t d ht hd n hn=>by
   refine hw n ?_
   simp only [DataW.weights,Tryz.underlying24]
   exact DataW.weights_mem_each (ts:=[3,22]) ht hd n hn
  obtain ⟨p,rfl,_⟩:=av_int h0
  obtain ⟨g,hg,og⟩:=av_rows (z:=4) (by':=32) (⟨0,0,0,0⟩:Sight) sgtC (fun _=>rfl) Tryz.underlying22 (by kernel_rfl) (by kernel_rfl) (by decide) (fun h=>av_sight h) h1 (hw' 1 _ _ rfl rfl) k1
  refine ⟨⟨p,g⟩,VRel.mk_agg ?_,og⟩
  exact LRel.cons (.int _ _) (LRel.cons hg (LRel.nil _))
end
end Go.Av.Lx
end
