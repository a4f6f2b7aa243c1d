/- Part 32 of the proof. -/
import Derived.Test.YtclmbbofpaecaaaGreatDoorVk29
import Derived.Test.YtclmbbofpaecaaaGreatDoorVk30
import Derived.Test.YtclmbbofpaecaaaGreatDoorVk31
import Derived.Test.YtclmbbofpaecaaaGreatDoorVk23
import Derived.Test.YtclmbbofpaecaaaGreatDoorVk24
import Derived.Test.YtclmbbofpaecaaaGreatDoorVk21
import Derived.Test.YtclmbbofpaecaaaGreatDoorVk20
import Derived.Test.YtclmbbofpaecaaaGreatDoorVk22
set_option linter.all false
set_option linter.unusedVariables false
set_option linter.unusedSimpArgs false
set_option linter.unusedSectionVars false
open Bool renaming and_self → zJ, false_eq_true → zT, and_eq_true → zU, not_true → qD, not_false → qH, false_and → qM, true_and → qY
open Int renaming toNat_natCast → qO
open List renaming getElem?_eq_getElem → zF, set_cons_succ → zG, getD_eq_getElem?_getD → zH, set_cons_zero → zI, all_cons → zK, all_nil → zL, length_cons → zW, getElem_mem → zX, getElem?_map → qC, length_nil → qE, take_succ_eq_append_getElem → qF, cons_append → qI, nil_append → qL, take_length → yH
open Nat renaming reduceLeDiff → zA, reduceEqDiff → zB, reduceAdd → zC, reduceBEq → zD, le_of_ble_eq_true → zE, zero_le → qN
section
set_option maxRecDepth 100000
set_option maxHeartbeats 16000000
namespace Go.Av.Lx
open Go Go.Av Go.Av.Tb Go.Av.Fx Go.Proofs
open Go.Lv (Sight Survey Sw Sv SightOk Leg Tun Try Stp withS)
theorem ex_Ring:RingA surT=.tuple [stpsA [⟨0,false⟩,⟨1,false⟩,⟨2,false⟩,⟨3,true⟩],.int .i64 0]:=by
 unfold RingA
 rw [ex_ok,if_pos rfl,ex_poss,if_neg (by decide),ex_ring]
theorem ex_read:readA exB=.tuple [surA surX,.int .i64 0]:=by
 unfold readA
 rw [if_pos (by decide),ex_parsed]
 simp only [ex_xok,if_true]
theorem zBp:PC Tryz.prog 24 [] (.pure (.bool true)):=by
 refine PC.of_empty (AC.run (E_ok 223) mix Tryz.func24 m24 rfl rfl rfl (zE rfl) ?_) rfl rfl
 have oS:okL surS.sights.length:=by decide
 have oT:okL surT.sights.length:=by decide
 have oU:okL surU.sights.length:=by decide
 have q1:=Bounds_pc surS oS 0 2
 rw [ex_bounds] at q1
 have q2:=Heights_pc surS oS
 rw [ex_heights] at q2
 have q3:=Ring_pc surT oT
 rw [ex_Ring] at q3
 have q4:=Least_pc surT oT
 rw [ex_least] at q4
 have q5:=Falls_pc surS oS ⟨1,2,2⟩ 2 3
 rw [ex_falls] at q5
 have q6:=Carries_pc surS oS [⟨1,2,2⟩,⟨2,1,1⟩] (by decide) 0 3
 rw [ex_carries] at q6
 have q7:=Meets_pc surS oS ⟨3,0,5,3,1⟩
 rw [ex_meets] at q7
 have q8:=Drives_pc surS oS ⟨3,0,5,3,1⟩
 rw [ex_drives] at q8
 have q9:=Takes_pc surS oS 0 2 [⟨0,2,2⟩,⟨1,2,0⟩] (by decide)
 rw [ex_takes] at q9
 have q10:=Drops_pc surU oU
 rw [ex_drops] at q10
 have q11:=Blames_pc surU oU
 rw [ex_blames] at q11
 have q12:=Read_pc exB (by decide)
 rw [ex_read] at q12
 have q13:=rPrint_pc surX (small_plain (parsed_small ex_parsed) (by decide))
 rw [ex_text] at q13
 have b1:buildA T 61 [(0,.int .i64 1),(1,.int .i64 2),(2,.int .i64 2)]=some (.agg (legC ⟨1,2,2⟩)):=rfl
 have b2:buildA T 61 [(0,.int .i64 2),(1,.int .i64 1),(2,.int .i64 1)]=some (.agg (legC ⟨2,1,1⟩)):=rfl
 have b3:zAg T 54 2 [(0,.agg (legC ⟨1,2,2⟩)),(1,.agg (legC ⟨2,1,1⟩))]=some (.slice (legsC [⟨1,2,2⟩,⟨2,1,1⟩]) [(⟨1,2,2⟩:Leg),⟨2,1,1⟩].length .exact):=rfl
 have b4:buildA T 68 [(0,.int .i64 3),(1,.int .i64 0),(2,.int .i64 5),(3,.int .i64 3),(4,.int .i64 1)]=some (.agg (tunC ⟨3,0,5,3,1⟩)):=rfl
 have b5:buildA T 95 [(0,.int .i64 0),(1,.int .i64 2),(2,.int .i64 2)]=some (.agg (tryC ⟨0,2,2⟩)):=rfl
 have b6:buildA T 95 [(0,.int .i64 1),(1,.int .i64 2)]=some (.agg (tryC ⟨1,2,0⟩)):=rfl
 have b7:zAg T 76 2 [(0,.agg (tryC ⟨0,2,2⟩)),(1,.agg (tryC ⟨1,2,0⟩))]=some (.slice (triesC [⟨0,2,2⟩,⟨1,2,0⟩]) [(⟨0,2,2⟩:Try),⟨1,2,0⟩].length .exact):=rfl
 have b8:buildA T 28 [(0,.int .i64 5),(1,.int .i64 9)]=some (.agg [.int .i64 5,.int .i64 9]):=rfl
 have b9:buildA T 28 [(0,.int .i64 (-7)),(1,.int .i64 7)]=some (.agg [.int .i64 (-7),.int .i64 7]):=rfl
 have b10:buildA T 49 [(0,.int .i64 7),(1,.int .i64 4)]=some (.agg [.int .i64 7,.int .i64 4]):=rfl
 have b11:∀ n,buildA T 127 [(0,.int .i64 n)]=some (.agg (stpC ⟨n,false⟩)):=fun n=>rfl
 have b12:∀ n,buildA T 127 [(0,.int .i64 n),(1,.bool true)]=some (.agg (stpC ⟨n,true⟩)):=fun n=>rfl
 have b13:zAg T 117 4 [(0,.agg (stpC ⟨0,false⟩)),(1,.agg (stpC ⟨1,false⟩)),(2,.agg (stpC ⟨2,false⟩)),(3,.agg (stpC ⟨3,true⟩))]=some (.slice (stpsC [⟨0,false⟩,⟨1,false⟩,⟨2,false⟩,⟨3,true⟩]) [(⟨0,false⟩:Stp),⟨1,false⟩,⟨2,false⟩,⟨3,true⟩].length .exact):=rfl
 have b14:∀ a b c d:Int,zAg T 32 4 [(0,.int .i64 a),(1,.int .i64 b),(2,.int .i64 c),(3,.int .i64 d)]=some (.slice (ints [a,b,c,d]) [a,b,c,d].length .exact):=fun a b c d=>rfl
 have b15:zAg T 32 3 [(0,.int .i64 1),(1,.int .i64 2),(2,.int .i64 3)]=some (.slice (ints [1,2,3]) [(1:Int),2,3].length .exact):=rfl
 have b16:zAg T 32 1 [(0,.int .i64 1)]=some (.slice (ints [1]) [(1:Int)].length .exact):=rfl
 have n1:binA T .neq 28 (.agg [.int .i64 5,.int .i64 9]) (.agg [.int .i64 5,.int .i64 9])=some (.bool false):=rfl
 have n2:binA T .neq 28 (.agg [.int .i64 (-7),.int .i64 7]) (.agg [.int .i64 (-7),.int .i64 7])=some (.bool false):=rfl
 have n3:binA T .neq 49 (.agg [.int .i64 7,.int .i64 4]) (.agg [.int .i64 7,.int .i64 4])=some (.bool false):=rfl
 have z0:¬ ((0:Int)≠0):=by decide
 have z1:¬ ((1:Int)≠1):=by decide
 have z2:¬ ((2:Int)≠2):=by decide
 have z3:¬ ((3:Int)≠3):=by decide
 have z7:¬ ((7:Int)≠7):=by decide
 have y1:decide ((1:Int)=1)=true:=rfl
 have y2:decide ((2:Int)=2)=true:=rfl
 have z4:binA T .eql 9 (.str exB) (.str ⟨#[115,117,114,118,101,121,32,50,10,115,105,103,104,116,32,48,32,49,32,52,32,48,10,101,110,100,32,48,49,50,10]⟩)=some (.bool true):=(show binA T .eql 9 (.str exB) (.str exB)=some (.bool true) by rw [eqS,decide_eq_true rfl])
 simp only [go_sem,zB,zD,zC,reduceIte,reduceCtorEq,zA]
 refine cp n81 S_pc (SubL.refl _) ?_
 try simp only [go_sem,zB,zD,zC,reduceIte,reduceCtorEq,zA]
 refine cp n25 q1 (SubL.refl _) ?_
 simp only [go_sem,zAc,frA,zAd,AV.cells,AV.one,zK,zL,zJ,splice,zI,zG,and_self,zW,qE,zB,zD,zC,reduceIte,reduceCtorEq,zA]
 refine cp n81 S_pc (SubL.refl _) ?_
 try simp only [go_sem,zB,zD,zC,reduceIte,reduceCtorEq,zA]
 refine cp n26 q2 (SubL.refl _) ?_
 simp only [go_sem,zAc,frA,zAd,AV.cells,AV.one,zK,zL,zJ,splice,zI,zG,and_self,zW,qE,zB,zD,zC,reduceIte,reduceCtorEq,zA]
 refine cp n82 T_pc (SubL.refl _) ?_
 try simp only [go_sem,zB,zD,zC,reduceIte,reduceCtorEq,zA]
 refine cp n72 q3 (SubL.refl _) ?_
 simp only [go_sem,zAc,frA,zAd,AV.cells,AV.one,zK,zL,zJ,splice,zI,zG,and_self,zW,qE,zB,zD,zC,reduceIte,reduceCtorEq,zA]
 refine cp n82 T_pc (SubL.refl _) ?_
 try simp only [go_sem,zB,zD,zC,reduceIte,reduceCtorEq,zA]
 refine cp n32 q4 (SubL.refl _) ?_
 simp only [go_sem,zAc,frA,zAd,AV.cells,AV.one,zK,zL,zJ,splice,zI,zG,and_self,zW,qE,zB,zD,zC,reduceIte,reduceCtorEq,zA]
 refine cp n81 S_pc (SubL.refl _) ?_
 simp only [go_sem,b1,b2,b3,b4,b5,b6,b7,zB,zD,zC,reduceIte,reduceCtorEq,zA]
 refine cp n39 q5 (SubL.refl _) ?_
 simp only [go_sem,zAc,frA,zAd,AV.cells,AV.one,zK,zL,zJ,splice,zI,zG,and_self,zW,qE,zB,zD,zC,reduceIte,reduceCtorEq,zA]
 refine cp n81 S_pc (SubL.refl _) ?_
 simp only [go_sem,b1,b2,b3,b4,b5,b6,b7,zB,zD,zC,reduceIte,reduceCtorEq,zA]
 refine cp n35 q6 (SubL.cons (Sub.refl _) (SubL.cons (Sub.unk _ _ _) (SubL.refl _))) ?_
 simp only [go_sem,zAc,frA,zAd,AV.cells,AV.one,zK,zL,zJ,splice,zI,zG,and_self,zW,qE,zB,zD,zC,reduceIte,reduceCtorEq,zA]
 refine cp n81 S_pc (SubL.refl _) ?_
 simp only [go_sem,b1,b2,b3,b4,b5,b6,b7,zB,zD,zC,reduceIte,reduceCtorEq,zA]
 refine cp n42 q7 (SubL.refl _) ?_
 simp only [go_sem,zAc,frA,zAd,AV.cells,AV.one,zK,zL,zJ,splice,zI,zG,and_self,zW,qE,zB,zD,zC,reduceIte,reduceCtorEq,zA]
 refine cp n81 S_pc (SubL.refl _) ?_
 simp only [go_sem,b1,b2,b3,b4,b5,b6,b7,zB,zD,zC,reduceIte,reduceCtorEq,zA]
 refine cp n43 q8 (SubL.refl _) ?_
 simp only [go_sem,zAc,frA,zAd,AV.cells,AV.one,zK,zL,zJ,splice,zI,zG,and_self,zW,qE,zB,zD,zC,reduceIte,reduceCtorEq,zA]
 refine cp n81 S_pc (SubL.refl _) ?_
 simp only [go_sem,b1,b2,b3,b4,b5,b6,b7,zB,zD,zC,reduceIte,reduceCtorEq,zA]
 refine cp n47 q9 (SubL.cons (Sub.refl _) (SubL.cons (Sub.refl _) (SubL.cons (Sub.refl _) (SubL.cons (Sub.unk _ _ _) (SubL.refl _))))) ?_
 simp only [go_sem,zAc,frA,zAd,AV.cells,AV.one,zK,zL,zJ,splice,zI,zG,and_self,zW,qE,zB,zD,zC,reduceIte,reduceCtorEq,zA]
 refine cp n83 U_pc (SubL.refl _) ?_
 try simp only [go_sem,zB,zD,zC,reduceIte,reduceCtorEq,zA]
 refine cp n50 q10 (SubL.refl _) ?_
 simp only [go_sem,zAc,frA,zAd,AV.cells,AV.one,zK,zL,zJ,splice,zI,zG,and_self,zW,qE,zB,zD,zC,reduceIte,reduceCtorEq,zA]
 refine cp n83 U_pc (SubL.refl _) ?_
 try simp only [go_sem,zB,zD,zC,reduceIte,reduceCtorEq,zA]
 refine cp n51 q11 (SubL.refl _) ?_
 simp only [go_sem,zAc,zB,zD,zC,reduceIte,reduceCtorEq,zA]
 refine cp n60 q12 (SubL.refl _) ?_
 simp only [go_sem,zAc,z0,decide_false,zAd,AV.cells,AV.one,zK,zL,zJ,splice,zI,zG,and_self,zW,qE,b8,n1,b14,zB,zD,zC,reduceIte,reduceCtorEq,zA]
 refine cp n29 (Same_pc [0,9,5,13] [0,9,5,13] (by decide) (by decide)) (SubL.cons (Sub.refl _) (SubL.cons (Sub.unk _ _ _) (SubL.refl _))) ?_
 rw [decide_eq_true rfl]
 simp only [go_sem,zAj,qD,b14,zB,zD,zC,reduceIte,reduceCtorEq,zA]
 refine cp n29 (Same_pc [0,11,9,17] [0,11,9,17] (by decide) (by decide)) (SubL.cons (Sub.refl _) (SubL.cons (Sub.unk _ _ _) (SubL.refl _))) ?_
 rw [decide_eq_true rfl]
 simp only [go_sem,zAj,qD,b11,b12,b13,zB,zD,zC,reduceIte,reduceCtorEq,zA]
 refine cp n76 (SameSteps_pc [⟨0,false⟩,⟨1,false⟩,⟨2,false⟩,⟨3,true⟩] [⟨0,false⟩,⟨1,false⟩,⟨2,false⟩,⟨3,true⟩] (by decide) (by decide)) (SubL.cons (Sub.refl _) (SubL.cons (Sub.unk _ _ _) (SubL.refl _))) ?_
 rw [decide_eq_true rfl]
 simp only [go_sem,zAj,qD,b10,n3,b14,zB,zD,zC,reduceIte,reduceCtorEq,zA]
 refine cp n29 (Same_pc [0,47,38,73] [0,47,38,73] (by decide) (by decide)) (SubL.cons (Sub.refl _) (SubL.cons (Sub.unk _ _ _) (SubL.refl _))) ?_
 rw [decide_eq_true rfl]
 simp only [go_sem,zAj,qD,z1,z2,z3,z7,decide_false,decide_true,b9,n2,b16,zB,zD,zC,reduceIte,reduceCtorEq,zA]
 refine cp n29 (Same_pc [1] [1] (by decide) (by decide)) (SubL.cons (Sub.refl _) (SubL.cons (Sub.unk _ _ _) (SubL.refl _))) ?_
 rw [decide_eq_true rfl]
 simp only [go_sem,b15,zB,zD,zC,reduceIte,reduceCtorEq,zA]
 refine cp n29 (Same_pc [1,2,3] [1,2,3] (by decide) (by decide)) (SubL.cons (Sub.refl _) (SubL.cons (Sub.unk _ _ _) (SubL.refl _))) ?_
 rw [decide_eq_true rfl]
 simp only [go_sem,zB,zD,zC,reduceIte,reduceCtorEq,zA]
 refine cp n61 q13 (SubL.refl _) ?_
 simp only [go_sem,z4,Tryz.f24,zB,zD,zC,reduceIte,reduceCtorEq,zA]
end Go.Av.Lx
end
section
set_option maxHeartbeats 8000000
namespace Go.Av.Lx
open Go Go.Av Go.Av.Tb Go.Av.Fx Go.Proofs
open Go.Lv (Sight Survey Sw Sv SightOk errF)

end Go.Av.Lx
end
section
set_option maxHeartbeats 8000000
namespace Go.Av.Lx
open Go Go.Av Go.Av.Tb Go.Av.Fx Go.Proofs
open Go.Lv (Sight Survey Sw Sv SightOk possS)

end Go.Av.Lx
end
section
set_option maxHeartbeats 8000000
namespace Go.Av.Lx
open Go Go.Av Go.Av.Tb Go.Av.Fx Go.Proofs
open Go.Lv (Sight Survey Sw Sv SightOk possS)
open Go.Fw (Sq ent Bd Mat)
theorem bools_ent {n:Nat} {V:Mat} (h:Sq n V) {a b:Nat} (ha:a<n) (hb:b<n):(bools ((V.getD a []).map jo))[b]? = some (.bool (decide (ent V a b<far))):=by
 have h1:=h.getD ha
 unfold bools ent jo
 rw [List.map_map,qC,zF (by omega),zH (l:=V.getD a []),zF (by omega)]
 rfl
end Go.Av.Lx
end
section
set_option maxHeartbeats 8000000
namespace Go.Av.Lx
open Go Go.Av Go.Av.Tb Go.Av.Fx Go.Proofs
open Go.Lv (Sight Survey Sw Sv SightOk Leg LegOk RangeOk Tun TunOk Try TryOk Stp fallW meetL meetH bestAt driveF wideI)
open Go.Fw (Sq ent Bd Mat)
theorem ask_cases (s:Survey) (i j:Int) (fine:Bool) (hst:zAn s=true→fine=true→staB s i=true∧staB s j=true) :
  (∃ k:Int,(k=2∨k=7)∧raskA s fine=.tuple [zeroR,.int .i64 k] ∧ ∀ z r,betwA s i j fine z r=.tuple (z ++ [.int .i64 k])) ∨
  (∃ V,Sv s∧fine=true∧Lv.knownV s=some V∧raskA s fine=.tuple [rA V,.int .i64 0]∧Sq (Lv.num s) V∧(0≤i∧i<Lv.num s)∧(0≤j∧j<Lv.num s) ∧
   ((¬ ent V i.toNat j.toNat<far ∧ ∀ z r,betwA s i j fine z r=.tuple (z ++ [.int .i64 5]))∨(ent V i.toNat j.toNat<far∧JoinP s V i j ∧ ∀ z r,betwA s i j fine z r=.tuple (r V ++ [.int .i64 0])))):=by
 unfold raskA betwA
 cases hs:zAn s
 ·exact .inl ⟨2,.inl rfl,rfl,fun _ _=>rfl⟩
 cases hf:fine
 ·exact .inl ⟨2,.inl rfl,rfl,fun _ _=>rfl⟩
 obtain ⟨hi,hj⟩:=hst hs hf
 rw [hi,hj]
 have hv:=zDm.1 hs
 cases hV:Lv.knownV s with
 | none=>exact .inl ⟨7,.inr rfl,rfl,fun _ _=>rfl⟩
 | some V =>
  have e:s.stations=(Lv.num s:Int):=by have:=hv.st;show _=((s.stations.toNat:Nat):Int);omega
  have hi':=(zBj hv.st).1 hi
  have hj':=(zBj hv.st).1 hj
  rw [e] at hi' hj'
  refine .inr ⟨V,hv,rfl,rfl,rfl,zBd (ds:=[]) hV,hi',hj', ?_⟩
  simp only [zJ,if_true]
  by_cases hlt:ent V i.toNat j.toNat<far
  ·exact .inr ⟨hlt,joinP hv.toSw hV ((zBj hv.st).1 hi) ((zBj hv.st).1 hj) hlt,fun _ _=>if_pos hlt⟩
  ·exact .inl ⟨hlt,fun _ _=>if_neg hlt⟩
theorem link_sta {s:Survey} {a b:Int} (h:linkB s a b=true):staB s a=true∧staB s b=true:=by
 unfold linkB at h
 simp only [zU] at h
 exact ⟨h.1,h.2.1⟩
end Go.Av.Lx
end
section
set_option maxHeartbeats 8000000
namespace Go.Av.Lx
open Go Go.Av Go.Av.Tb Go.Av.Fx Go.Proofs
open Go.Lv (Sight Survey Sw Sv SightOk Leg LegOk RangeOk Tun TunOk Try TryOk Stp fallW carryW)
open Go.Fw (Sq ent Bd Mat)
theorem legs_get (l:List Leg) (k:Nat) (h:k<l.length):(legsC l)[k * 3+0]? = some (.int .i64 l[k].frm)∧(legsC l)[k * 3+1]? = some (.int .i64 l[k].to):=by
 have e:=zEu l k h
 have e0:=congrArg (fun x=>x[0]?) e
 have e1:=congrArg (fun x=>x[1]?) e
 simp only [List.getElem?_take,List.getElem?_drop,Nat.zero_lt_succ,if_true,show 1<3 by decide] at e0 e1
 exact ⟨e0,e1⟩
theorem zDx (l:List Leg) (lo hi:Int) (k:Nat) (X:List (Option Blk)) (R S0:List AV) (v15 v16:AV) (w:Int) (hw:decide (w=0)=false) (Q:AQ)
  (hQ:Q .normal [(1,legsA l),(2,.int .i64 lo),(3,.int .i64 hi),(4,.ref 0 0),(14,.int .i64 (k:Nat)),(15,v15),(16,v16),(17,.ref (X.length+1) 0),(18,.int .i64 w),(149,.bool false)] ⟨some (.cells S0) :: (X ++ [some (.cells R)]),0,[]⟩) :
  WC (E 174) (.draw [1,2,3,4,14,15,16,17,18,149] 17 [] r5_20) Q [(1,legsA l),(2,.int .i64 lo),(3,.int .i64 hi),(4,.ref 0 0),(14,.int .i64 (k:Nat)),(15,v15),(16,v16),(17,.ref (X.length+1) 0),(18,.int .i64 w)] ⟨some (.cells S0) :: (X ++ [some (.cells R)]),0,[]⟩:=by
 simp only [go_sem,hw,zB,zD,zC,reduceIte,reduceCtorEq,zA]
 exact hQ
theorem falls_draw1 (l:List Leg) (lo hi:Int) (k:Nat) (X:List (Option Blk)) (S0:List AV) (v15 v16:AV) (Q:AQ) {n:Nat} {V:Mat} (hsq:Sq n V) {a b:Nat} (ha:a<n) (hb:b<n)
  (hlt:k<l.length) (g0:(legsC l)[k * 3+0]? = some (.int .i64 a)) (g1:(legsC l)[k * 3+1]? = some (.int .i64 b))
  (hQ:Q .normal [(1,legsA l),(2,.int .i64 lo),(3,.int .i64 hi),(4,.ref 0 0),(14,.int .i64 (k:Nat)),(15,v15),(16,v16),(17,.ref (X.length+1) 0),(18,.int .i64 0),(149,.bool (!decide (ent V a b<far)))] ⟨some (.cells S0) :: (X ++ [some (.cells (AV.cells (rA V)))]),0,[]⟩) :
  WC (E 174) (.draw [1,2,3,4,14,15,16,17,18,149] 17 [] r5_20) Q [(1,legsA l),(2,.int .i64 lo),(3,.int .i64 hi),(4,.ref 0 0),(14,.int .i64 (k:Nat)),(15,v15),(16,v16),(17,.ref (X.length+1) 0),(18,.int .i64 0)] ⟨some (.cells S0) :: (X ++ [some (.cells (AV.cells (rA V)))]),0,[]⟩:=by
 have c1:∀ a q,cellsAt (a :: (X ++ [some (.cells q)])) (X.length+1)=some q:=fun a q=>zAf (a :: X) q
 have hcR:∀ V,AV.cells (rA V)=[wS (rM V),.slice ((rJ V).map bl) (rJ V).length .unk]:=fun V=>rfl
 have z0:decide ((0:Int)=0)=true:=rfl
 have k2:0≤(k:Int)∧(k:Int)<l.length:=by omega
 have ga:=rJ_get hsq ha
 have xa:0≤(a:Int)∧(a:Int)<((rJ V).length:Int):=by rw [rJ_len hsq];omega
 have xb:0≤(b:Int)∧(b:Int)<(n:Int):=by omega
 have gb:(bools ((V.getD a []).map jo))[b]? = some (.bool (decide (ent V a b<far))):=bools_ent hsq ha hb
 rw [hcR] at hQ ⊢
 simp only [go_sem,z0,decide_true,c1,k2,zAe,and_self,g0,g1,xa,xb,ga,gb,zAj,zB,zD,zC,reduceIte,reduceCtorEq,zA]
 exact hQ
theorem zBa (s:Survey) (hl:okL s.sights.length) (l:List Leg) (hll:okL l.length) (lo hi:Int) (Q:AQ) (B:Option Blk)
  (hQ:∀ X,Q .normal [(1,legsA l),(2,.int .i64 lo),(3,.int .i64 hi),(4,.ref 0 0),(14,.int .i64 (l.length:Nat)),(99,.bool false)] ⟨some (.cells (surC s)) :: X,0,[]⟩) :
  WC (E 174) (.loop l5_1) (blockQ 2 Q) [(1,legsA l),(2,.int .i64 lo),(3,.int .i64 hi),(4,.ref 0 0),(14,.int .i64 0)] ⟨[some (.cells (surC s)),B],0,[]⟩:=by
 have z2:decide ((2:Int)=2)=true:=rfl
 have z7:decide ((7:Int)=7)=true:=rfl
 have z5:decide ((5:Int)=5)=true:=rfl
 have z0:decide ((0:Int)=0)=true:=rfl
 have y0:¬ ((0:Int)≠0):=by decide
 have y2:¬ ((2:Int)≠2):=by decide
 have y7:¬ ((7:Int)≠7):=by decide
 have y5:¬ ((5:Int)≠5):=by decide
 have x2:((2:Int)≠0):=by decide
 have x7:((7:Int)≠0):=by decide
 have x5:((5:Int)≠0):=by decide
 have hcZ:AV.cells zeroR=[.nilS,.nilS]:=rfl
 have o1:AV.one .nilS=true:=rfl
 have hcR:∀ V,AV.cells (rA V)=[wS (rM V),.slice ((rJ V).map bl) (rJ V).length .unk]:=fun V=>rfl
 have oR:∀ (l:List AV) (n:Nat) (u:Tail),AV.one (.slice l n u)=true:=fun _ _ _=>rfl
 refine zBs l.length (fun k=>[(1,legsA l),(2,.int .i64 lo),(3,.int .i64 hi),(4,.ref 0 0),(14,.int .i64 (k:Nat))]) (fun _ S => ∃ X,S=⟨some (.cells (surC s)) :: X,0,[]⟩) rfl ⟨[B],rfl⟩ ?_
 rintro k hk S ⟨X,rfl⟩ I hI
 by_cases hlt:k<l.length
 rotate_left
 ·have he:k=l.length:=by omega
  subst he
  have k1:¬ ((l.length:Int)<l.length):=by omega
  simp only [go_sem,l5_1,zAa,k1,decide_false,zB,zD,zC,reduceIte,reduceCtorEq,zA]
  exact hQ X
 have k1:(k:Int)<l.length:=by omega
 have k2:0≤(k:Int)∧(k:Int)<l.length:=by omega
 have k3:k * 3+3≤(legsC l).length:=by rw [zDp];omega
 have k4:IntKind.i64.wrap ((k:Int)+1)=(k+1:Nat):=wrap64 (by unfold okL at hll;omega)
 have k5:=zEu l k hlt
 have g0:=legs_get l k hlt
 have hF:=Falls_pc s hl l[k] lo hi
 have hA:=lasked_pc s hl (legB s l[k] && rangeB lo hi)
 have hLg:=rLeg_pc s l[k]
 have hRg:=rRange_pc lo hi
 have hst:zAn s=true→(legB s l[k] && rangeB lo hi)=true→staB s l[k].frm=true∧staB s l[k].to=true:=fun _ h=>by
  rw [zU] at h
  have h2:=h.1
  unfold legB at h2
  rw [zU] at h2
  exact link_sta h2.1
 have hcs:=ask_cases s l[k].frm l[k].to _ hst
 unfold fallsA at hF
 replace hI:=fun S' h=>hI hlt S' h
 generalize l[k]=x at *
 have c1:∀ a q,cellsAt (a :: (X ++ [some (.cells q)])) (X.length+1)=some q:=fun a q=>zAf (a :: X) q
 have c2:∀ a y B,setH (a :: (X ++ [y])) (X.length+1) B=a :: (X ++ [some B]):=fun a y B=>zAs (a :: X) y B
 rcases hcs with ⟨m,hm,eA,eB⟩ | ⟨V,hv,hf,hV,eA,hsq,hi',hj',hc⟩
 ·rw [eB] at hF
  rw [eA] at hA
  cases hg:legB s x
  ·rw [hg,qM] at hA
   rcases hm with rfl | rfl
   ·obtain ⟨D,hD⟩:∃ D,MC.draw [1,2,3,4,14,15,16,17,18,149] 17 [] r5_20=D:=⟨_,rfl⟩
    unfold l5_1
    rw [hD]
    simp only [go_sem,zAa,k1,decide_true,k2,k3,k5,zAe,and_self,zB,zD,zC,reduceIte,reduceCtorEq,zA]
    refine qp n39 hF (SubL.refl _) ?_
    simp only [go_sem,zAc,qI,qL,k1,k2,k3,k5,zAe,and_self,zB,zD,zC,reduceIte,reduceCtorEq,zA]
    refine qp n40 hLg (SubL.refl _) ?_
    rw [hg]
    simp only [go_sem,zB,zD,zC,reduceIte,reduceCtorEq,zA]
    refine qp n27 hA (SubL.refl _) ?_
    simp only [go_sem,zAc,zAd,hcZ,hcR,o1,oR,zK,zL,zJ,splice,zI,zG,and_self,zW,qE,c1,c2,zB,zD,zC,reduceIte,reduceCtorEq,zA]
    subst hD
    refine zDx l lo hi k X _ _ _ _ 2 rfl _ ?_
    simp only [go_sem,k4,c1,zAa,x2,y2,y0,decide_false,decide_true,zB,zD,zC,reduceIte,reduceCtorEq,zA]
    exact hI _ ⟨_,rfl⟩
   ·obtain ⟨D,hD⟩:∃ D,MC.draw [1,2,3,4,14,15,16,17,18,149] 17 [] r5_20=D:=⟨_,rfl⟩
    unfold l5_1
    rw [hD]
    simp only [go_sem,zAa,k1,decide_true,k2,k3,k5,zAe,and_self,zB,zD,zC,reduceIte,reduceCtorEq,zA]
    refine qp n39 hF (SubL.refl _) ?_
    simp only [go_sem,zAc,qI,qL,k1,k2,k3,k5,zAe,and_self,zB,zD,zC,reduceIte,reduceCtorEq,zA]
    refine qp n40 hLg (SubL.refl _) ?_
    rw [hg]
    simp only [go_sem,zB,zD,zC,reduceIte,reduceCtorEq,zA]
    refine qp n27 hA (SubL.refl _) ?_
    simp only [go_sem,zAc,zAd,hcZ,hcR,o1,oR,zK,zL,zJ,splice,zI,zG,and_self,zW,qE,c1,c2,zB,zD,zC,reduceIte,reduceCtorEq,zA]
    subst hD
    refine zDx l lo hi k X _ _ _ _ 7 rfl _ ?_
    simp only [go_sem,k4,c1,zAa,x7,y7,y0,decide_false,decide_true,zB,zD,zC,reduceIte,reduceCtorEq,zA]
    exact hI _ ⟨_,rfl⟩
  ·rw [hg,qY] at hA
   rcases hm with rfl | rfl
   ·obtain ⟨D,hD⟩:∃ D,MC.draw [1,2,3,4,14,15,16,17,18,149] 17 [] r5_20=D:=⟨_,rfl⟩
    unfold l5_1
    rw [hD]
    simp only [go_sem,zAa,k1,decide_true,k2,k3,k5,zAe,and_self,zB,zD,zC,reduceIte,reduceCtorEq,zA]
    refine qp n39 hF (SubL.refl _) ?_
    simp only [go_sem,zAc,qI,qL,k1,k2,k3,k5,zAe,and_self,zB,zD,zC,reduceIte,reduceCtorEq,zA]
    refine qp n40 hLg (SubL.refl _) ?_
    rw [hg]
    simp only [go_sem,zB,zD,zC,reduceIte,reduceCtorEq,zA]
    refine qp n37 hRg (SubL.refl _) ?_
    simp only [go_sem,zB,zD,zC,reduceIte,reduceCtorEq,zA]
    refine qp n27 hA (SubL.refl _) ?_
    simp only [go_sem,zAc,zAd,hcZ,hcR,o1,oR,zK,zL,zJ,splice,zI,zG,and_self,zW,qE,c1,c2,zB,zD,zC,reduceIte,reduceCtorEq,zA]
    subst hD
    refine zDx l lo hi k X _ _ _ _ 2 rfl _ ?_
    simp only [go_sem,k4,c1,zAa,x2,y2,y0,decide_false,decide_true,zB,zD,zC,reduceIte,reduceCtorEq,zA]
    exact hI _ ⟨_,rfl⟩
   ·obtain ⟨D,hD⟩:∃ D,MC.draw [1,2,3,4,14,15,16,17,18,149] 17 [] r5_20=D:=⟨_,rfl⟩
    unfold l5_1
    rw [hD]
    simp only [go_sem,zAa,k1,decide_true,k2,k3,k5,zAe,and_self,zB,zD,zC,reduceIte,reduceCtorEq,zA]
    refine qp n39 hF (SubL.refl _) ?_
    simp only [go_sem,zAc,qI,qL,k1,k2,k3,k5,zAe,and_self,zB,zD,zC,reduceIte,reduceCtorEq,zA]
    refine qp n40 hLg (SubL.refl _) ?_
    rw [hg]
    simp only [go_sem,zB,zD,zC,reduceIte,reduceCtorEq,zA]
    refine qp n37 hRg (SubL.refl _) ?_
    simp only [go_sem,zB,zD,zC,reduceIte,reduceCtorEq,zA]
    refine qp n27 hA (SubL.refl _) ?_
    simp only [go_sem,zAc,zAd,hcZ,hcR,o1,oR,zK,zL,zJ,splice,zI,zG,and_self,zW,qE,c1,c2,zB,zD,zC,reduceIte,reduceCtorEq,zA]
    subst hD
    refine zDx l lo hi k X _ _ _ _ 7 rfl _ ?_
    simp only [go_sem,k4,c1,zAa,x7,y7,y0,decide_false,decide_true,zB,zD,zC,reduceIte,reduceCtorEq,zA]
    exact hI _ ⟨_,rfl⟩
 ·rw [eA] at hA
  have hg2:=hf
  rw [zU] at hg2
  obtain ⟨hg,hr⟩:=hg2
  rw [hg,qY] at hA
  obtain ⟨frm,to,long⟩:=x
  simp only at hi' hj' hc k5 g0
  obtain ⟨a,rfl⟩:∃ a:Nat,frm=a:=⟨frm.toNat,by omega⟩
  obtain ⟨b,rfl⟩:∃ b:Nat,to=b:=⟨to.toNat,by omega⟩
  have ha:a<Lv.num s:=by omega
  have hb:b<Lv.num s:=by omega
  simp only [qO] at hc
  rcases hc with ⟨hnf,eB⟩ | ⟨hlt',hjp,eB⟩
  ·rw [eB] at hF
   have hnd:=decide_eq_false hnf
   obtain ⟨D,hD⟩:∃ D,MC.draw [1,2,3,4,14,15,16,17,18,149] 17 [] r5_20=D:=⟨_,rfl⟩
   unfold l5_1
   rw [hD]
   simp only [go_sem,zAa,k1,decide_true,k2,k3,k5,zAe,and_self,zB,zD,zC,reduceIte,reduceCtorEq,zA]
   refine qp n39 hF (SubL.refl _) ?_
   simp only [go_sem,zAc,qI,qL,k1,k2,k3,k5,zAe,and_self,zB,zD,zC,reduceIte,reduceCtorEq,zA]
   refine qp n40 hLg (SubL.refl _) ?_
   rw [hg]
   simp only [go_sem,zB,zD,zC,reduceIte,reduceCtorEq,zA]
   refine qp n37 hRg (SubL.refl _) ?_
   simp only [go_sem,zB,zD,zC,reduceIte,reduceCtorEq,zA]
   refine qp n27 hA (SubL.refl _) ?_
   simp only [go_sem,zAc,zAd,hcZ,hcR,o1,oR,zK,zL,zJ,splice,zI,zG,and_self,zW,qE,c1,c2,zB,zD,zC,reduceIte,reduceCtorEq,zA]
   subst hD
   refine falls_draw1 l lo hi k X _ _ _ _ hsq ha hb hlt g0.1 g0.2 ?_
   simp only [go_sem,k4,c1,hnd,qH,x5,y5,y0,decide_false,decide_true,zB,zD,zC,reduceIte,reduceCtorEq,zA]
   exact hI _ ⟨_,rfl⟩
  ·rw [eB] at hF
   have hnd:=decide_eq_true hlt'
   have hRF:=rFalls_pc s V _ lo hi ((leg_iff hv.st).1 hg) (zEd.1 hr) hjp
   generalize fallW V ⟨a,b,long⟩ lo hi=w at hF hRF
   have yw:¬ (w≠w):=fun h=>h rfl
   obtain ⟨D,hD⟩:∃ D,MC.draw [1,2,3,4,14,15,16,17,18,149] 17 [] r5_20=D:=⟨_,rfl⟩
   unfold l5_1
   rw [hD]
   simp only [go_sem,zAa,k1,decide_true,k2,k3,k5,zAe,and_self,zB,zD,zC,reduceIte,reduceCtorEq,zA]
   refine qp n39 hF (SubL.refl _) ?_
   simp only [go_sem,zAc,qI,qL,k1,k2,k3,k5,zAe,and_self,zB,zD,zC,reduceIte,reduceCtorEq,zA]
   refine qp n40 hLg (SubL.refl _) ?_
   rw [hg]
   simp only [go_sem,zB,zD,zC,reduceIte,reduceCtorEq,zA]
   refine qp n37 hRg (SubL.refl _) ?_
   simp only [go_sem,zB,zD,zC,reduceIte,reduceCtorEq,zA]
   refine qp n27 hA (SubL.refl _) ?_
   simp only [go_sem,zAc,zAd,hcZ,hcR,o1,oR,zK,zL,zJ,splice,zI,zG,and_self,zW,qE,c1,c2,zB,zD,zC,reduceIte,reduceCtorEq,zA]
   subst hD
   refine falls_draw1 l lo hi k X _ _ _ _ hsq ha hb hlt g0.1 g0.2 ?_
   simp only [go_sem,k4,c1,k2,k3,k5,zAe,and_self,hnd,qD,y0,decide_false,decide_true,zB,zD,zC,reduceIte,reduceCtorEq,zA]
   refine qp n41 hRF (SubL.refl _) ?_
   simp only [go_sem,yw,y0,decide_false,k4,zB,zD,zC,reduceIte,reduceCtorEq,zA]
   exact hI _ ⟨_,rfl⟩
theorem falls_draw8 (s:Survey) (l:List Leg) (lo hi:Int) (k:Nat) (v9 v10:AV) (Q:AQ) {n:Nat} {V:Mat} (hsq:Sq n V) {a b:Nat} (ha:a<n) (hb:b<n)
  (hlt:k<l.length) (g0:(legsC l)[k * 3+0]? = some (.int .i64 a)) (g1:(legsC l)[k * 3+1]? = some (.int .i64 b))
  (hQ:Q .normal [(1,legsA l),(2,.int .i64 lo),(3,.int .i64 hi),(4,.ref 0 0),(9,v9),(10,v10),(11,.ref 1 0),(12,.int .i64 0),(13,.int .i64 (k:Nat)),(75,.bool (!decide (ent V a b<far)))] ⟨[some (.cells (surC s)),some (.cells (AV.cells (rA V)))],0,[]⟩) :
  WC (E 174) (.draw [1,2,3,4,9,10,11,12,13,75] 14 [] r5_8) Q [(1,legsA l),(2,.int .i64 lo),(3,.int .i64 hi),(4,.ref 0 0),(9,v9),(10,v10),(11,.ref 1 0),(12,.int .i64 0),(13,.int .i64 (k:Nat)),(56,.bool true)] ⟨[some (.cells (surC s)),some (.cells (AV.cells (rA V)))],0,[]⟩:=by
 have hcR:∀ V,AV.cells (rA V)=[wS (rM V),.slice ((rJ V).map bl) (rJ V).length .unk]:=fun V=>rfl
 have k2:0≤(k:Int)∧(k:Int)<l.length:=by omega
 have ga:=rJ_get hsq ha
 have xa:0≤(a:Int)∧(a:Int)<((rJ V).length:Int):=by rw [rJ_len hsq];omega
 have xb:0≤(b:Int)∧(b:Int)<(n:Int):=by omega
 have gb:(bools ((V.getD a []).map jo))[b]? = some (.bool (decide (ent V a b<far))):=bools_ent hsq ha hb
 rw [hcR] at hQ ⊢
 simp only [go_sem,k2,zAe,and_self,g0,g1,xa,xb,ga,gb,zAj,zB,zD,zC,reduceIte,reduceCtorEq,zA]
 exact hQ
theorem falls_loop1 (s:Survey) (l:List Leg) (hll:okL l.length) (lo hi:Int) (v9 v10:AV) (Q:AQ) {V:Mat} (hsq:Sq (Lv.num s) V) (hst:s.stations=(Lv.num s:Int)) (hok:∀ x∈l,LegOk s.stations x)
  (hQ:∀ v,Q .normal [(1,legsA l),(2,.int .i64 lo),(3,.int .i64 hi),(4,.ref 0 0),(9,v9),(10,v10),(11,.ref 1 0),(12,.int .i64 (if joinAll V l=true then 0 else 5)),(13,v),(56,.bool false)] ⟨[some (.cells (surC s)),some (.cells (AV.cells (rA V)))],0,[]⟩) :
  WC (E 174) (.loop l5_0) (blockQ 0 Q) [(1,legsA l),(2,.int .i64 lo),(3,.int .i64 hi),(4,.ref 0 0),(9,v9),(10,v10),(11,.ref 1 0),(12,.int .i64 0),(13,.int .i64 0)] ⟨[some (.cells (surC s)),some (.cells (AV.cells (rA V)))],0,[]⟩:=by
 have z2:decide ((2:Int)=2)=true:=rfl
 have z7:decide ((7:Int)=7)=true:=rfl
 have z5:decide ((5:Int)=5)=true:=rfl
 have z0:decide ((0:Int)=0)=true:=rfl
 have y0:¬ ((0:Int)≠0):=by decide
 have y2:¬ ((2:Int)≠2):=by decide
 have y7:¬ ((7:Int)≠7):=by decide
 have y5:¬ ((5:Int)≠5):=by decide
 have x2:((2:Int)≠0):=by decide
 have x7:((7:Int)≠0):=by decide
 have x5:((5:Int)≠0):=by decide
 have hcZ:AV.cells zeroR=[.nilS,.nilS]:=rfl
 have o1:AV.one .nilS=true:=rfl
 have hcR:∀ V,AV.cells (rA V)=[wS (rM V),.slice ((rJ V).map bl) (rJ V).length .unk]:=fun V=>rfl
 have oR:∀ (l:List AV) (n:Nat) (u:Tail),AV.one (.slice l n u)=true:=fun _ _ _=>rfl
 refine zAt (fun m ts' S' => ∃ k w,k≤l.length∧m=l.length - k∧ts'=[(1,legsA l),(2,.int .i64 lo),(3,.int .i64 hi),(4,.ref 0 0),(9,v9),(10,v10),(11,.ref 1 0),(12,.int .i64 w),(13,.int .i64 (k:Nat))]∧S'=⟨[some (.cells (surC s)),some (.cells (AV.cells (rA V)))],0,[]⟩∧((w=0∧joinAll V (l.take k)=true)∨(w=5∧joinAll V l=false))) l.length ⟨0,0,qN _,rfl,rfl,rfl,.inl ⟨rfl,by simp [joinAll]⟩⟩ ?_
 rintro m ts' S' ⟨k,w,hk,rfl,rfl,rfl,hw⟩
 by_cases hlt:k<l.length
 rotate_left
 ·have he:k=l.length:=by omega
  subst he
  have k1:¬ ((l.length:Int)<l.length):=by omega
  rw [yH] at hw
  have hw2:w=if joinAll V l=true then 0 else 5:=by
   rcases hw with ⟨h1,h2⟩ | ⟨h1,h2⟩
   ·rw [h1,h2];rfl
   ·rw [h1,h2];rfl
  obtain ⟨D,hD⟩:∃ D,MC.draw [1,2,3,4,9,10,11,12,13,75] 14 [] r5_8=D:=⟨_,rfl⟩
  unfold l5_0
  rw [hD]
  simp only [go_sem,zAa,k1,decide_false,zB,zD,zC,reduceIte,reduceCtorEq,zA]
  rw [hw2]
  exact hQ _
 have k1:(k:Int)<l.length:=by omega
 rcases hw with ⟨rfl,hj⟩ | ⟨rfl,hj⟩
 rotate_left
 ·obtain ⟨D,hD⟩:∃ D,MC.draw [1,2,3,4,9,10,11,12,13,75] 14 [] r5_8=D:=⟨_,rfl⟩
  unfold l5_0
  rw [hD]
  simp only [go_sem,zAa,k1,decide_true,decide_false,zB,zD,zC,reduceIte,reduceCtorEq,zA]
  have:=hQ (.int .i64 (k:Nat))
  rw [hj] at this
  exact this
 have k4:IntKind.i64.wrap ((k:Int)+1)=(k+1:Nat):=wrap64 (by unfold okL at hll;omega)
 have g0:=legs_get l k hlt
 have hx:=hok _ (zX hlt)
 have tk1:l.take (k+1)=l.take k ++ [l[k]]:=qF hlt
 have hjo:joinAll V (l.take (k+1))=(joinAll V (l.take k) && decide (ent V l[k].frm.toNat l[k].to.toNat<far)):=by rw [tk1];unfold joinAll;rw [List.all_append];simp
 have hnj:¬ ent V l[k].frm.toNat l[k].to.toNat<far→joinAll V l=false:=fun h=>by
  unfold joinAll
  rw [List.all_eq_false]
  exact ⟨l[k],zX hlt,by rw [decide_eq_true_iff];exact h⟩
 generalize l[k]=x at *
 have o1:=hx.frm
 have o2:=hx.to
 obtain ⟨frm,to,long⟩:=x
 simp only at o1 o2 g0 hjo hnj
 obtain ⟨a,rfl⟩:∃ a:Nat,frm=a:=⟨frm.toNat,by omega⟩
 obtain ⟨b,rfl⟩:∃ b:Nat,to=b:=⟨to.toNat,by omega⟩
 have ha:a<Lv.num s:=by omega
 have hb:b<Lv.num s:=by omega
 simp only [qO] at hjo hnj
 obtain ⟨D,hD⟩:∃ D,MC.draw [1,2,3,4,9,10,11,12,13,75] 14 [] r5_8=D:=⟨_,rfl⟩
 unfold l5_0
 rw [hD]
 simp only [go_sem,zAa,k1,decide_true,z0,zB,zD,zC,reduceIte,reduceCtorEq,zA]
 subst hD
 refine falls_draw8 s l lo hi k _ _ _ hsq ha hb hlt g0.1 g0.2 ?_
 by_cases hf:ent V a b<far
 ·rw [decide_eq_true hf] at hjo ⊢
  simp only [go_sem,qD,k4,zB,zD,zC,reduceIte,reduceCtorEq,zA]
  exact zAh (l.length - (k+1)) (by omega) ⟨k+1,0,hlt,rfl,rfl,rfl,.inl ⟨rfl,by rw [hjo,hj];rfl⟩⟩
 ·rw [decide_eq_false hf]
  simp only [go_sem,qH,k4,zB,zD,zC,reduceIte,reduceCtorEq,zA]
  exact zAh (l.length - (k+1)) (by omega) ⟨k+1,5,hlt,rfl,rfl,rfl,.inr ⟨rfl,hnj hf⟩⟩
theorem carries_cases (s:Survey) (l:List Leg) (lo hi:Int) :
  (∃ m:Int,(m=2∨m=7)∧raskA s (legsB s l && rangeB lo hi)=.tuple [zeroR,.int .i64 m]∧zCx s l lo hi=.tuple [.int .i64 0,.int .i64 m]) ∨
  (∃ V,Sv s∧legsB s l=true∧rangeB lo hi=true∧Lv.knownV s=some V∧raskA s (legsB s l && rangeB lo hi)=.tuple [rA V,.int .i64 0]∧zCx s l lo hi=if joinAll V l=true then .tuple [.int .i64 (carryW s V l lo hi),.int .i64 0] else .tuple [.int .i64 0,.int .i64 5]):=by
 unfold raskA zCx
 cases hs:zAn s
 ·exact .inl ⟨2,.inl rfl,rfl,rfl⟩
 cases hf:legsB s l
 ·exact .inl ⟨2,.inl rfl,rfl,rfl⟩
 cases hr:rangeB lo hi
 ·exact .inl ⟨2,.inl rfl,rfl,rfl⟩
 have hv:=zDm.1 hs
 cases hV:Lv.knownV s with
 | none=>exact .inl ⟨7,.inr rfl,rfl,rfl⟩
 | some V=>exact .inr ⟨V,hv,rfl,rfl,rfl,rfl,rfl⟩
theorem lfalls_pc (s:Survey) (hl:okL s.sights.length) (l:List Leg) (hll:okL l.length) (lo hi:Int):PC Tryz.prog 5 [surA s,legsA l,.int .i64 lo,.int .i64 hi] (.pure (.bool true)):=by
 refine PC.of_empty (AC.run (E_ok _) mix Tryz.func5 m5 rfl rfl rfl (zE rfl) ?_) (by simp [bndL,AV.bnd]) rfl
 have z2:decide ((2:Int)=2)=true:=rfl
 have z7:decide ((7:Int)=7)=true:=rfl
 have z5:decide ((5:Int)=5)=true:=rfl
 have z0:decide ((0:Int)=0)=true:=rfl
 have y0:¬ ((0:Int)≠0):=by decide
 have y2:¬ ((2:Int)≠2):=by decide
 have y7:¬ ((7:Int)≠7):=by decide
 have y5:¬ ((5:Int)≠5):=by decide
 have x2:((2:Int)≠0):=by decide
 have x7:((7:Int)≠0):=by decide
 have x5:((5:Int)≠0):=by decide
 have hcZ:AV.cells zeroR=[.nilS,.nilS]:=rfl
 have o1:AV.one .nilS=true:=rfl
 have hcR:∀ V,AV.cells (rA V)=[wS (rM V),.slice ((rJ V).map bl) (rJ V).length .unk]:=fun V=>rfl
 have oR:∀ (l:List AV) (n:Nat) (u:Tail),AV.one (.slice l n u)=true:=fun _ _ _=>rfl
 obtain ⟨D,hD⟩:∃ D,MC.draw [1,2,3,4,9,10,11,12,13,75] 14 [] r5_8=D:=⟨_,rfl⟩
 simp only [go_sem,boxA,zB,zD,zC,reduceIte,reduceCtorEq,zA]
 refine cp n23 (short_pc s) (SubL.refl _) ?_
 by_cases hsh:s.sights.length≤17
 rotate_left
 ·rw [decide_eq_false hsh]
  simp only [go_sem,zAj,qH,zB,zD,zC,reduceIte,reduceCtorEq,zA]
  refine cp n24 zBp (SubL.refl _) ?_
  simp only [go_sem,Tryz.f5,zB,zD,zC,reduceIte,reduceCtorEq,zA]
 rw [decide_eq_true hsh]
 by_cases hg8:(l.length:Int) > 8
 ·simp only [go_sem,zAj,qD,zAa,hg8,decide_true,zB,zD,zC,reduceIte,reduceCtorEq,zA]
  refine cp n24 zBp (SubL.refl _) ?_
  simp only [go_sem,Tryz.f5,zB,zD,zC,reduceIte,reduceCtorEq,zA]
 simp only [go_sem,zAj,qD,zAa,hg8,decide_false,zB,zD,zC,reduceIte,reduceCtorEq,zA]
 have hC:=Carries_pc s hl l hll lo hi
 have hA:=lasked_pc s hl (legsB s l && rangeB lo hi)
 have hLg:=Legs_pc s l hll
 have hRg:=rRange_pc lo hi
 rcases carries_cases s l lo hi with ⟨m,hm,eA,eB⟩ | ⟨V,hv,hg,hr,hV,eA,eB⟩
 ·rw [eB] at hC
  rw [eA] at hA
  cases hg:legsB s l
  ·rw [hg,qM] at hA
   rcases hm with rfl | rfl
   ·refine cp n35 hC (SubL.refl _) ?_
    simp only [go_sem,zAc,zB,zD,zC,reduceIte,reduceCtorEq,zA]
    refine qp n36 hLg (SubL.refl _) ?_
    rw [hg]
    simp only [go_sem,zB,zD,zC,reduceIte,reduceCtorEq,zA]
    refine qp n27 hA (SubL.refl _) ?_
    simp only [go_sem,zAc,zAd,hcZ,hcR,o1,oR,zK,zL,zJ,splice,zI,zG,and_self,zW,qE,zB,zD,zC,reduceIte,reduceCtorEq,zA]
    refine zCq 0 (fun _=>_) (fun _=>_) rfl rfl ?_
    intro q hq I hI
    unfold l5_0
    rw [hD]
    by_cases hpos:(0:Int)<l.length
    ·simp only [go_sem,zAa,hpos,decide_true,decide_false,x2,y2,y0,zB,zD,zC,reduceIte,reduceCtorEq,zA]
     refine zBa s hl l hll lo hi _ _ ?_
     intro X
     simp only [go_sem,zB,zD,zC,reduceIte,reduceCtorEq,zA]
     refine cp n24 zBp (SubL.refl _) ?_
     simp only [go_sem,Tryz.f5,zB,zD,zC,reduceIte,reduceCtorEq,zA]
    ·simp only [go_sem,zAa,hpos,decide_true,decide_false,x2,y2,y0,zB,zD,zC,reduceIte,reduceCtorEq,zA]
     refine zBa s hl l hll lo hi _ _ ?_
     intro X
     simp only [go_sem,zB,zD,zC,reduceIte,reduceCtorEq,zA]
     refine cp n24 zBp (SubL.refl _) ?_
     simp only [go_sem,Tryz.f5,zB,zD,zC,reduceIte,reduceCtorEq,zA]
   ·refine cp n35 hC (SubL.refl _) ?_
    simp only [go_sem,zAc,zB,zD,zC,reduceIte,reduceCtorEq,zA]
    refine qp n36 hLg (SubL.refl _) ?_
    rw [hg]
    simp only [go_sem,zB,zD,zC,reduceIte,reduceCtorEq,zA]
    refine qp n27 hA (SubL.refl _) ?_
    simp only [go_sem,zAc,zAd,hcZ,hcR,o1,oR,zK,zL,zJ,splice,zI,zG,and_self,zW,qE,zB,zD,zC,reduceIte,reduceCtorEq,zA]
    refine zCq 0 (fun _=>_) (fun _=>_) rfl rfl ?_
    intro q hq I hI
    unfold l5_0
    rw [hD]
    by_cases hpos:(0:Int)<l.length
    ·simp only [go_sem,zAa,hpos,decide_true,decide_false,x7,y7,y0,zB,zD,zC,reduceIte,reduceCtorEq,zA]
     refine zBa s hl l hll lo hi _ _ ?_
     intro X
     simp only [go_sem,zB,zD,zC,reduceIte,reduceCtorEq,zA]
     refine cp n24 zBp (SubL.refl _) ?_
     simp only [go_sem,Tryz.f5,zB,zD,zC,reduceIte,reduceCtorEq,zA]
    ·simp only [go_sem,zAa,hpos,decide_true,decide_false,x7,y7,y0,zB,zD,zC,reduceIte,reduceCtorEq,zA]
     refine zBa s hl l hll lo hi _ _ ?_
     intro X
     simp only [go_sem,zB,zD,zC,reduceIte,reduceCtorEq,zA]
     refine cp n24 zBp (SubL.refl _) ?_
     simp only [go_sem,Tryz.f5,zB,zD,zC,reduceIte,reduceCtorEq,zA]
  ·rw [hg,qY] at hA
   rcases hm with rfl | rfl
   ·refine cp n35 hC (SubL.refl _) ?_
    simp only [go_sem,zAc,zB,zD,zC,reduceIte,reduceCtorEq,zA]
    refine qp n36 hLg (SubL.refl _) ?_
    rw [hg]
    simp only [go_sem,zB,zD,zC,reduceIte,reduceCtorEq,zA]
    refine qp n37 hRg (SubL.refl _) ?_
    simp only [go_sem,zB,zD,zC,reduceIte,reduceCtorEq,zA]
    refine qp n27 hA (SubL.refl _) ?_
    simp only [go_sem,zAc,zAd,hcZ,hcR,o1,oR,zK,zL,zJ,splice,zI,zG,and_self,zW,qE,zB,zD,zC,reduceIte,reduceCtorEq,zA]
    refine zCq 0 (fun _=>_) (fun _=>_) rfl rfl ?_
    intro q hq I hI
    unfold l5_0
    rw [hD]
    by_cases hpos:(0:Int)<l.length
    ·simp only [go_sem,zAa,hpos,decide_true,decide_false,x2,y2,y0,zB,zD,zC,reduceIte,reduceCtorEq,zA]
     refine zBa s hl l hll lo hi _ _ ?_
     intro X
     simp only [go_sem,zB,zD,zC,reduceIte,reduceCtorEq,zA]
     refine cp n24 zBp (SubL.refl _) ?_
     simp only [go_sem,Tryz.f5,zB,zD,zC,reduceIte,reduceCtorEq,zA]
    ·simp only [go_sem,zAa,hpos,decide_true,decide_false,x2,y2,y0,zB,zD,zC,reduceIte,reduceCtorEq,zA]
     refine zBa s hl l hll lo hi _ _ ?_
     intro X
     simp only [go_sem,zB,zD,zC,reduceIte,reduceCtorEq,zA]
     refine cp n24 zBp (SubL.refl _) ?_
     simp only [go_sem,Tryz.f5,zB,zD,zC,reduceIte,reduceCtorEq,zA]
   ·refine cp n35 hC (SubL.refl _) ?_
    simp only [go_sem,zAc,zB,zD,zC,reduceIte,reduceCtorEq,zA]
    refine qp n36 hLg (SubL.refl _) ?_
    rw [hg]
    simp only [go_sem,zB,zD,zC,reduceIte,reduceCtorEq,zA]
    refine qp n37 hRg (SubL.refl _) ?_
    simp only [go_sem,zB,zD,zC,reduceIte,reduceCtorEq,zA]
    refine qp n27 hA (SubL.refl _) ?_
    simp only [go_sem,zAc,zAd,hcZ,hcR,o1,oR,zK,zL,zJ,splice,zI,zG,and_self,zW,qE,zB,zD,zC,reduceIte,reduceCtorEq,zA]
    refine zCq 0 (fun _=>_) (fun _=>_) rfl rfl ?_
    intro q hq I hI
    unfold l5_0
    rw [hD]
    by_cases hpos:(0:Int)<l.length
    ·simp only [go_sem,zAa,hpos,decide_true,decide_false,x7,y7,y0,zB,zD,zC,reduceIte,reduceCtorEq,zA]
     refine zBa s hl l hll lo hi _ _ ?_
     intro X
     simp only [go_sem,zB,zD,zC,reduceIte,reduceCtorEq,zA]
     refine cp n24 zBp (SubL.refl _) ?_
     simp only [go_sem,Tryz.f5,zB,zD,zC,reduceIte,reduceCtorEq,zA]
    ·simp only [go_sem,zAa,hpos,decide_true,decide_false,x7,y7,y0,zB,zD,zC,reduceIte,reduceCtorEq,zA]
     refine zBa s hl l hll lo hi _ _ ?_
     intro X
     simp only [go_sem,zB,zD,zC,reduceIte,reduceCtorEq,zA]
     refine cp n24 zBp (SubL.refl _) ?_
     simp only [go_sem,Tryz.f5,zB,zD,zC,reduceIte,reduceCtorEq,zA]
 ·rw [eA,hg,qY] at hA
  rw [eB] at hC
  have hg2:=hg
  unfold legsB at hg2
  rw [zU] at hg2
  have hlen:l.length≤6:=by have:=inB_iff.1 hg2.1;omega
  have hlg:∀ x∈l,LegOk s.stations x:=fun x hx=>(leg_iff hv.st).1 (List.all_eq_true.1 hg2.2 x hx)
  have hsq:Sq (Lv.num s) V:=zBd (ds:=[]) hV
  have hst:s.stations=(Lv.num s:Int):=by have:=hv.st;show _=((s.stations.toNat:Nat):Int);omega
  cases hj:joinAll V l
  ·rw [hj,if_neg (by decide)] at hC
   refine cp n35 hC (SubL.refl _) ?_
   simp only [go_sem,zAc,zB,zD,zC,reduceIte,reduceCtorEq,zA]
   refine qp n36 hLg (SubL.refl _) ?_
   rw [hg]
   simp only [go_sem,zB,zD,zC,reduceIte,reduceCtorEq,zA]
   refine qp n37 hRg (SubL.refl _) ?_
   simp only [go_sem,zB,zD,zC,reduceIte,reduceCtorEq,zA]
   refine qp n27 hA (SubL.refl _) ?_
   simp only [go_sem,zAc,zAd,hcZ,hcR,o1,oR,zK,zL,zJ,splice,zI,zG,and_self,zW,qE,zB,zD,zC,reduceIte,reduceCtorEq,zA]
   refine falls_loop1 s l hll lo hi _ _ _ hsq hst hlg ?_
   intro v
   rw [hj]
   simp only [go_sem,x5,y5,y0,decide_true,decide_false,zT,reduceIte,zB,zD,zC,reduceIte,reduceCtorEq,zA]
   refine zBa s hl l hll lo hi _ _ ?_
   intro X
   simp only [go_sem,zB,zD,zC,reduceIte,reduceCtorEq,zA]
   refine cp n24 zBp (SubL.refl _) ?_
   simp only [go_sem,Tryz.f5,zB,zD,zC,reduceIte,reduceCtorEq,zA]
  ·rw [hj,if_pos rfl] at hC
   have hRC:=rCarries_pc s hv hV l hlen lo hi (zEd.1 hr) hlg hj
   generalize carryW s V l lo hi=w at hC hRC
   have yw:¬ (w≠w):=fun h=>h rfl
   refine cp n35 hC (SubL.refl _) ?_
   simp only [go_sem,zAc,zB,zD,zC,reduceIte,reduceCtorEq,zA]
   refine qp n36 hLg (SubL.refl _) ?_
   rw [hg]
   simp only [go_sem,zB,zD,zC,reduceIte,reduceCtorEq,zA]
   refine qp n37 hRg (SubL.refl _) ?_
   simp only [go_sem,zB,zD,zC,reduceIte,reduceCtorEq,zA]
   refine qp n27 hA (SubL.refl _) ?_
   simp only [go_sem,zAc,zAd,hcZ,hcR,o1,oR,zK,zL,zJ,splice,zI,zG,and_self,zW,qE,zB,zD,zC,reduceIte,reduceCtorEq,zA]
   refine falls_loop1 s l hll lo hi _ _ _ hsq hst hlg ?_
   intro v
   rw [hj]
   simp only [go_sem,y0,decide_false,reduceIte,zB,zD,zC,reduceIte,reduceCtorEq,zA]
   refine cp n38 hRC (SubL.refl _) ?_
   simp only [go_sem,yw,y0,decide_false,zB,zD,zC,reduceIte,reduceCtorEq,zA]
   refine zBa s hl l hll lo hi _ _ ?_
   intro X
   simp only [go_sem,zB,zD,zC,reduceIte,reduceCtorEq,zA]
   refine cp n24 zBp (SubL.refl _) ?_
   simp only [go_sem,Tryz.f5,zB,zD,zC,reduceIte,reduceCtorEq,zA]
end Go.Av.Lx
end
