/- Part 31 of the proof. -/
import Derived.Test.YtclmbbofpaecaaaGreatDoorVi28
import Derived.Test.YtclmbbofpaecaaaGreatDoorVi29
import Derived.Test.YtclmbbofpaecaaaGreatDoorVi30
import Derived.Test.YtclmbbofpaecaaaGreatDoorVi22
import Derived.Test.YtclmbbofpaecaaaGreatDoorVi23
import Derived.Test.YtclmbbofpaecaaaGreatDoorVi21
import Derived.Test.YtclmbbofpaecaaaGreatDoorVi20
import Derived.Test.YtclmbbofpaecaaaGreatDoorRows
import Derived.ProofKit
import Derived.LaidMore
import Derived.OpenShut
import Derived.Deep.Slices
import Derived.Stop.Joined
import Derived.ChangeOld
import Derived.SizedLaws
import Derived.Test.YtclmbbofpaecaaaGreatDoorTie
import Derived.Test.YtclmbbofpaecaaaGreatDoorCards
import Derived.Lib.LaidTab
import Derived.Lib.ItoaNum
import Derived.Lay
import Derived.LaidOnce
import Derived.MakeChecks
import Derived.SevenTiedAt
set_option linter.all false
set_option linter.unusedVariables false
set_option linter.unusedSimpArgs false
set_option linter.unusedSectionVars false
open Array renaming getElem?_eq_getElem → qB
open Bool renaming and_self → zJ, and_eq_true → zU, not_true → qD, not_false → qJ
open Int renaming toNat_natCast → qQ
open List renaming getElem?_eq_getElem → zF, getD_eq_getElem?_getD → zG, set_cons_succ → zH, set_cons_zero → zI, all_cons → zK, all_nil → zM, getElem?_eq_none → zO, mem_cons_self → zP, getElem?_append_right → zR, length_cons → zW, getElem?_map → qC, length_nil → qE, cons_append → qG, nil_append → qH, getElem?_append_left → qK, getElem?_range → qO, flatMap_cons → yA, length_map → yM
open Nat renaming reduceLeDiff → zA, reduceEqDiff → zB, reduceAdd → zC, reduceBEq → zD, le_of_ble_eq_true → zE, le_refl → zN, lt_or_ge → zV
open Option renaming bind_some → yC
section
set_option maxRecDepth 100000
set_option maxHeartbeats 16000000
namespace Go.Av.Lx
open Go Go.Av Go.Av.Tb Go.Av.Fx Go.Proofs
open Go.Lv (Sight Survey Sw Sv SightOk Leg Tun Try Stp withS)
theorem ex_Ring:RingA surT=.tuple [stpsA [⟨0,false⟩,⟨1,false⟩,⟨2,false⟩,⟨3,true⟩],.int .i64 0]:=by
 unfold RingA
 rw [ex_ok,if_pos rfl,ex_poss,if_neg (by decide),ex_ring]
theorem ex_read:readA exB=.tuple [surA surX,.int .i64 0]:=by
 unfold readA
 rw [if_pos (by decide),ex_parsed]
 simp only [ex_xok,if_true]
theorem zFh:PC Tryz.prog 24 [] (.pure (.bool true)):=by
 refine PC.of_empty (AC.run (E_ok 223) mix Tryz.func24 m24 rfl rfl rfl (zE rfl) ?_) rfl rfl
 have oS:okL surS.sights.length:=by decide
 have oT:okL surT.sights.length:=by decide
 have oU:okL surU.sights.length:=by decide
 have q1:=Bounds_pc surS oS 0 2
 rw [ex_bounds] at q1
 have q2:=Heights_pc surS oS
 rw [ex_heights] at q2
 have q3:=Ring_pc surT oT
 rw [ex_Ring] at q3
 have q4:=Least_pc surT oT
 rw [ex_least] at q4
 have q5:=Falls_pc surS oS ⟨1,2,2⟩ 2 3
 rw [ex_falls] at q5
 have q6:=Carries_pc surS oS [⟨1,2,2⟩,⟨2,1,1⟩] (by decide) 0 3
 rw [ex_carries] at q6
 have q7:=Meets_pc surS oS ⟨3,0,5,3,1⟩
 rw [ex_meets] at q7
 have q8:=Drives_pc surS oS ⟨3,0,5,3,1⟩
 rw [ex_drives] at q8
 have q9:=Takes_pc surS oS 0 2 [⟨0,2,2⟩,⟨1,2,0⟩] (by decide)
 rw [ex_takes] at q9
 have q10:=Drops_pc surU oU
 rw [ex_drops] at q10
 have q11:=Blames_pc surU oU
 rw [ex_blames] at q11
 have q12:=Read_pc exB (by decide)
 rw [ex_read] at q12
 have q13:=rPrint_pc surX (small_plain (parsed_small ex_parsed) (by decide))
 rw [ex_text] at q13
 have b1:buildA T 61 [(0,.int .i64 1),(1,.int .i64 2),(2,.int .i64 2)]=some (.agg (legC ⟨1,2,2⟩)):=rfl
 have b2:buildA T 61 [(0,.int .i64 2),(1,.int .i64 1),(2,.int .i64 1)]=some (.agg (legC ⟨2,1,1⟩)):=rfl
 have b3:zAe T 54 2 [(0,.agg (legC ⟨1,2,2⟩)),(1,.agg (legC ⟨2,1,1⟩))]=some (.slice (legsC [⟨1,2,2⟩,⟨2,1,1⟩]) [(⟨1,2,2⟩:Leg),⟨2,1,1⟩].length .exact):=rfl
 have b4:buildA T 68 [(0,.int .i64 3),(1,.int .i64 0),(2,.int .i64 5),(3,.int .i64 3),(4,.int .i64 1)]=some (.agg (tunC ⟨3,0,5,3,1⟩)):=rfl
 have b5:buildA T 95 [(0,.int .i64 0),(1,.int .i64 2),(2,.int .i64 2)]=some (.agg (tryC ⟨0,2,2⟩)):=rfl
 have b6:buildA T 95 [(0,.int .i64 1),(1,.int .i64 2)]=some (.agg (tryC ⟨1,2,0⟩)):=rfl
 have b7:zAe T 76 2 [(0,.agg (tryC ⟨0,2,2⟩)),(1,.agg (tryC ⟨1,2,0⟩))]=some (.slice (triesC [⟨0,2,2⟩,⟨1,2,0⟩]) [(⟨0,2,2⟩:Try),⟨1,2,0⟩].length .exact):=rfl
 have b8:buildA T 28 [(0,.int .i64 5),(1,.int .i64 9)]=some (.agg [.int .i64 5,.int .i64 9]):=rfl
 have b9:buildA T 28 [(0,.int .i64 (-7)),(1,.int .i64 7)]=some (.agg [.int .i64 (-7),.int .i64 7]):=rfl
 have b10:buildA T 49 [(0,.int .i64 7),(1,.int .i64 4)]=some (.agg [.int .i64 7,.int .i64 4]):=rfl
 have b11:∀ n,buildA T 127 [(0,.int .i64 n)]=some (.agg (stpC ⟨n,false⟩)):=fun n=>rfl
 have b12:∀ n,buildA T 127 [(0,.int .i64 n),(1,.bool true)]=some (.agg (stpC ⟨n,true⟩)):=fun n=>rfl
 have b13:zAe T 117 4 [(0,.agg (stpC ⟨0,false⟩)),(1,.agg (stpC ⟨1,false⟩)),(2,.agg (stpC ⟨2,false⟩)),(3,.agg (stpC ⟨3,true⟩))]=some (.slice (stpsC [⟨0,false⟩,⟨1,false⟩,⟨2,false⟩,⟨3,true⟩]) [(⟨0,false⟩:Stp),⟨1,false⟩,⟨2,false⟩,⟨3,true⟩].length .exact):=rfl
 have b14:∀ a b c d:Int,zAe T 32 4 [(0,.int .i64 a),(1,.int .i64 b),(2,.int .i64 c),(3,.int .i64 d)]=some (.slice (ints [a,b,c,d]) [a,b,c,d].length .exact):=fun a b c d=>rfl
 have b15:zAe T 32 3 [(0,.int .i64 1),(1,.int .i64 2),(2,.int .i64 3)]=some (.slice (ints [1,2,3]) [(1:Int),2,3].length .exact):=rfl
 have b16:zAe T 32 1 [(0,.int .i64 1)]=some (.slice (ints [1]) [(1:Int)].length .exact):=rfl
 have n1:binA T .neq 28 (.agg [.int .i64 5,.int .i64 9]) (.agg [.int .i64 5,.int .i64 9])=some (.bool false):=rfl
 have n2:binA T .neq 28 (.agg [.int .i64 (-7),.int .i64 7]) (.agg [.int .i64 (-7),.int .i64 7])=some (.bool false):=rfl
 have n3:binA T .neq 49 (.agg [.int .i64 7,.int .i64 4]) (.agg [.int .i64 7,.int .i64 4])=some (.bool false):=rfl
 have z0:¬ ((0:Int)≠0):=by decide
 have z1:¬ ((1:Int)≠1):=by decide
 have z2:¬ ((2:Int)≠2):=by decide
 have z3:¬ ((3:Int)≠3):=by decide
 have z7:¬ ((7:Int)≠7):=by decide
 have y1:decide ((1:Int)=1)=true:=rfl
 have y2:decide ((2:Int)=2)=true:=rfl
 have z4:binA T .eql 9 (.str exB) (.str ⟨#[115,117,114,118,101,121,32,50,10,115,105,103,104,116,32,48,32,49,32,52,32,48,10,101,110,100,32,48,49,50,10]⟩)=some (.bool true):=(show binA T .eql 9 (.str exB) (.str exB)=some (.bool true) by rw [eqS,decide_eq_true rfl])
 simp only [go_sem,zB,zD,zC,reduceIte,reduceCtorEq,zA]
 refine cp n81 S_pc (SubL.refl _) ?_
 try simp only [go_sem,zB,zD,zC,reduceIte,reduceCtorEq,zA]
 refine cp n25 q1 (SubL.refl _) ?_
 simp only [go_sem,zAd,frA,zAc,AV.cells,AV.one,zK,zM,zJ,splice,zI,zH,and_self,zW,qE,zB,zD,zC,reduceIte,reduceCtorEq,zA]
 refine cp n81 S_pc (SubL.refl _) ?_
 try simp only [go_sem,zB,zD,zC,reduceIte,reduceCtorEq,zA]
 refine cp n26 q2 (SubL.refl _) ?_
 simp only [go_sem,zAd,frA,zAc,AV.cells,AV.one,zK,zM,zJ,splice,zI,zH,and_self,zW,qE,zB,zD,zC,reduceIte,reduceCtorEq,zA]
 refine cp n82 T_pc (SubL.refl _) ?_
 try simp only [go_sem,zB,zD,zC,reduceIte,reduceCtorEq,zA]
 refine cp n72 q3 (SubL.refl _) ?_
 simp only [go_sem,zAd,frA,zAc,AV.cells,AV.one,zK,zM,zJ,splice,zI,zH,and_self,zW,qE,zB,zD,zC,reduceIte,reduceCtorEq,zA]
 refine cp n82 T_pc (SubL.refl _) ?_
 try simp only [go_sem,zB,zD,zC,reduceIte,reduceCtorEq,zA]
 refine cp n32 q4 (SubL.refl _) ?_
 simp only [go_sem,zAd,frA,zAc,AV.cells,AV.one,zK,zM,zJ,splice,zI,zH,and_self,zW,qE,zB,zD,zC,reduceIte,reduceCtorEq,zA]
 refine cp n81 S_pc (SubL.refl _) ?_
 simp only [go_sem,b1,b2,b3,b4,b5,b6,b7,zB,zD,zC,reduceIte,reduceCtorEq,zA]
 refine cp n39 q5 (SubL.refl _) ?_
 simp only [go_sem,zAd,frA,zAc,AV.cells,AV.one,zK,zM,zJ,splice,zI,zH,and_self,zW,qE,zB,zD,zC,reduceIte,reduceCtorEq,zA]
 refine cp n81 S_pc (SubL.refl _) ?_
 simp only [go_sem,b1,b2,b3,b4,b5,b6,b7,zB,zD,zC,reduceIte,reduceCtorEq,zA]
 refine cp n35 q6 (SubL.cons (Sub.refl _) (SubL.cons (Sub.unk _ _ _) (SubL.refl _))) ?_
 simp only [go_sem,zAd,frA,zAc,AV.cells,AV.one,zK,zM,zJ,splice,zI,zH,and_self,zW,qE,zB,zD,zC,reduceIte,reduceCtorEq,zA]
 refine cp n81 S_pc (SubL.refl _) ?_
 simp only [go_sem,b1,b2,b3,b4,b5,b6,b7,zB,zD,zC,reduceIte,reduceCtorEq,zA]
 refine cp n42 q7 (SubL.refl _) ?_
 simp only [go_sem,zAd,frA,zAc,AV.cells,AV.one,zK,zM,zJ,splice,zI,zH,and_self,zW,qE,zB,zD,zC,reduceIte,reduceCtorEq,zA]
 refine cp n81 S_pc (SubL.refl _) ?_
 simp only [go_sem,b1,b2,b3,b4,b5,b6,b7,zB,zD,zC,reduceIte,reduceCtorEq,zA]
 refine cp n43 q8 (SubL.refl _) ?_
 simp only [go_sem,zAd,frA,zAc,AV.cells,AV.one,zK,zM,zJ,splice,zI,zH,and_self,zW,qE,zB,zD,zC,reduceIte,reduceCtorEq,zA]
 refine cp n81 S_pc (SubL.refl _) ?_
 simp only [go_sem,b1,b2,b3,b4,b5,b6,b7,zB,zD,zC,reduceIte,reduceCtorEq,zA]
 refine cp n47 q9 (SubL.cons (Sub.refl _) (SubL.cons (Sub.refl _) (SubL.cons (Sub.refl _) (SubL.cons (Sub.unk _ _ _) (SubL.refl _))))) ?_
 simp only [go_sem,zAd,frA,zAc,AV.cells,AV.one,zK,zM,zJ,splice,zI,zH,and_self,zW,qE,zB,zD,zC,reduceIte,reduceCtorEq,zA]
 refine cp n83 U_pc (SubL.refl _) ?_
 try simp only [go_sem,zB,zD,zC,reduceIte,reduceCtorEq,zA]
 refine cp n50 q10 (SubL.refl _) ?_
 simp only [go_sem,zAd,frA,zAc,AV.cells,AV.one,zK,zM,zJ,splice,zI,zH,and_self,zW,qE,zB,zD,zC,reduceIte,reduceCtorEq,zA]
 refine cp n83 U_pc (SubL.refl _) ?_
 try simp only [go_sem,zB,zD,zC,reduceIte,reduceCtorEq,zA]
 refine cp n51 q11 (SubL.refl _) ?_
 simp only [go_sem,zAd,zB,zD,zC,reduceIte,reduceCtorEq,zA]
 refine cp n60 q12 (SubL.refl _) ?_
 simp only [go_sem,zAd,z0,decide_false,zAc,AV.cells,AV.one,zK,zM,zJ,splice,zI,zH,and_self,zW,qE,b8,n1,b14,zB,zD,zC,reduceIte,reduceCtorEq,zA]
 refine cp n29 (Same_pc [0,9,5,13] [0,9,5,13] (by decide) (by decide)) (SubL.cons (Sub.refl _) (SubL.cons (Sub.unk _ _ _) (SubL.refl _))) ?_
 rw [decide_eq_true rfl]
 simp only [go_sem,zAl,qD,b14,zB,zD,zC,reduceIte,reduceCtorEq,zA]
 refine cp n29 (Same_pc [0,11,9,17] [0,11,9,17] (by decide) (by decide)) (SubL.cons (Sub.refl _) (SubL.cons (Sub.unk _ _ _) (SubL.refl _))) ?_
 rw [decide_eq_true rfl]
 simp only [go_sem,zAl,qD,b11,b12,b13,zB,zD,zC,reduceIte,reduceCtorEq,zA]
 refine cp n76 (SameSteps_pc [⟨0,false⟩,⟨1,false⟩,⟨2,false⟩,⟨3,true⟩] [⟨0,false⟩,⟨1,false⟩,⟨2,false⟩,⟨3,true⟩] (by decide) (by decide)) (SubL.cons (Sub.refl _) (SubL.cons (Sub.unk _ _ _) (SubL.refl _))) ?_
 rw [decide_eq_true rfl]
 simp only [go_sem,zAl,qD,b10,n3,b14,zB,zD,zC,reduceIte,reduceCtorEq,zA]
 refine cp n29 (Same_pc [0,47,38,73] [0,47,38,73] (by decide) (by decide)) (SubL.cons (Sub.refl _) (SubL.cons (Sub.unk _ _ _) (SubL.refl _))) ?_
 rw [decide_eq_true rfl]
 simp only [go_sem,zAl,qD,z1,z2,z3,z7,decide_false,decide_true,b9,n2,b16,zB,zD,zC,reduceIte,reduceCtorEq,zA]
 refine cp n29 (Same_pc [1] [1] (by decide) (by decide)) (SubL.cons (Sub.refl _) (SubL.cons (Sub.unk _ _ _) (SubL.refl _))) ?_
 rw [decide_eq_true rfl]
 simp only [go_sem,b15,zB,zD,zC,reduceIte,reduceCtorEq,zA]
 refine cp n29 (Same_pc [1,2,3] [1,2,3] (by decide) (by decide)) (SubL.cons (Sub.refl _) (SubL.cons (Sub.unk _ _ _) (SubL.refl _))) ?_
 rw [decide_eq_true rfl]
 simp only [go_sem,zB,zD,zC,reduceIte,reduceCtorEq,zA]
 refine cp n61 q13 (SubL.refl _) ?_
 simp only [go_sem,z4,Tryz.f24,zB,zD,zC,reduceIte,reduceCtorEq,zA]
end Go.Av.Lx
end
section
set_option maxHeartbeats 8000000
namespace Go.Av.Lx
open Go Go.Av Go.Av.Tb Go.Av.Fx Go.Proofs
open Go.Lv (Sight Survey Sw Sv SightOk errF)
theorem eqTwo {t:TypeId} (h:∀ a b c d:Int,binA T .eql t (.agg [.int .i64 a,.int .i64 b]) (.agg [.int .i64 c,.int .i64 d])=(if (a == c)=true then (if (b == d)=true then some true else some false) else some false).map AV.bool) (a b c d:Int) :
  binA T .eql t (.agg [.int .i64 a,.int .i64 b]) (.agg [.int .i64 c,.int .i64 d])=some (.bool (decide (a=c) && decide (b=d))):=by
 rw [h]
 by_cases h1:a=c
 ·subst h1
  by_cases h2:b=d
  ·subst h2;simp
  ·simp [h2]
 ·simp [h1]
theorem eqSp (a b c d:Int):binA T .eql 28 (.agg [.int .i64 a,.int .i64 b]) (.agg [.int .i64 c,.int .i64 d])=some (.bool (decide (a=c) && decide (b=d))):=eqTwo (fun _ _ _ _=>rfl) a b c d
end Go.Av.Lx
end
section
set_option maxHeartbeats 8000000
namespace Go.Av.Lx
open Go Go.Av Go.Av.Tb Go.Av.Fx Go.Proofs
open Go.Lv (Sight Survey Sw Sv SightOk possS)

end Go.Av.Lx
end
section
set_option maxHeartbeats 8000000
namespace Go.Av.Lx
open Go Go.Av Go.Av.Tb Go.Av.Fx Go.Proofs
open Go.Lv (Sight Survey Sw Sv SightOk possS)
open Go.Fw (Sq ent Bd Mat)
theorem bools_ent {n:Nat} {V:Mat} (h:Sq n V) {a b:Nat} (ha:a<n) (hb:b<n):(bools ((V.getD a []).map jo))[b]? = some (.bool (decide (ent V a b<far))):=by
 have h1:=h.getD ha
 unfold bools ent jo
 rw [List.map_map,qC,zF (by omega),zG (l:=V.getD a []),zF (by omega)]
 rfl
end Go.Av.Lx
end
section
set_option maxHeartbeats 8000000
namespace Go.Av.Lx
open Go Go.Av Go.Av.Tb Go.Av.Fx Go.Proofs
open Go.Lv (Sight Survey Sw Sv SightOk Leg LegOk RangeOk Tun TunOk Try TryOk Stp fallW meetL meetH bestAt driveF wideI)
open Go.Fw (Sq ent Bd Mat)
theorem ask_cases (s:Survey) (i j:Int) (fine:Bool) (hst:zAo s=true→fine=true→staB s i=true∧staB s j=true) :
  (∃ k:Int,(k=2∨k=7)∧raskA s fine=.tuple [zeroR,.int .i64 k] ∧ ∀ z r,betwA s i j fine z r=.tuple (z ++ [.int .i64 k])) ∨
  (∃ V,Sv s∧fine=true∧Lv.knownV s=some V∧raskA s fine=.tuple [rA V,.int .i64 0]∧Sq (Lv.num s) V∧(0≤i∧i<Lv.num s)∧(0≤j∧j<Lv.num s) ∧
   ((¬ ent V i.toNat j.toNat<far ∧ ∀ z r,betwA s i j fine z r=.tuple (z ++ [.int .i64 5]))∨(ent V i.toNat j.toNat<far∧JoinP s V i j ∧ ∀ z r,betwA s i j fine z r=.tuple (r V ++ [.int .i64 0])))):=by
 unfold raskA betwA
 cases hs:zAo s
 ·exact .inl ⟨2,.inl rfl,rfl,fun _ _=>rfl⟩
 cases hf:fine
 ·exact .inl ⟨2,.inl rfl,rfl,fun _ _=>rfl⟩
 obtain ⟨hi,hj⟩:=hst hs hf
 rw [hi,hj]
 have hv:=zDl.1 hs
 cases hV:Lv.knownV s with
 | none=>exact .inl ⟨7,.inr rfl,rfl,fun _ _=>rfl⟩
 | some V =>
  have e:s.stations=(Lv.num s:Int):=by have:=hv.st;show _=((s.stations.toNat:Nat):Int);omega
  have hi':=(zBh hv.st).1 hi
  have hj':=(zBh hv.st).1 hj
  rw [e] at hi' hj'
  refine .inr ⟨V,hv,rfl,rfl,rfl,zBf (ds:=[]) hV,hi',hj', ?_⟩
  simp only [zJ,if_true]
  by_cases hlt:ent V i.toNat j.toNat<far
  ·exact .inr ⟨hlt,joinP hv.toSw hV ((zBh hv.st).1 hi) ((zBh hv.st).1 hj) hlt,fun _ _=>if_pos hlt⟩
  ·exact .inl ⟨hlt,fun _ _=>if_neg hlt⟩
theorem link_sta {s:Survey} {a b:Int} (h:linkB s a b=true):staB s a=true∧staB s b=true:=by
 unfold linkB at h
 simp only [zU] at h
 exact ⟨h.1,h.2.1⟩
theorem lmeets_pc (s:Survey) (hl:okL s.sights.length) (x:Tun):PC Tryz.prog 6 [surA s,.agg (tunC x)] (.pure (.bool true)):=by
 refine PC.of_empty (AC.run (E_ok 112) mix Tryz.func6 m6 rfl rfl rfl (zE rfl) ?_) (by simp [bndL,AV.bnd]) rfl
 have z2:decide ((2:Int)=2)=true:=rfl
 have z7:decide ((7:Int)=7)=true:=rfl
 have z5:decide ((5:Int)=5)=true:=rfl
 have z0:decide ((0:Int)=0)=true:=rfl
 have y0:¬ ((0:Int)≠0):=by decide
 have x2:((2:Int)≠0):=by decide
 have x7:((7:Int)≠0):=by decide
 have x5:((5:Int)≠0):=by decide
 have w2:decide ((2:Int)=0)=false:=rfl
 have w7:decide ((7:Int)=0)=false:=rfl
 have b0:buildA T 28 []=some (.agg [.int .i64 0,.int .i64 0]):=rfl
 have e0:binA T .eql 28 (.agg [.int .i64 0,.int .i64 0]) (.agg [.int .i64 0,.int .i64 0])=some (.bool true):=by rw [eqSp];rfl
 have hcZ:AV.cells zeroR=[.nilS,.nilS]:=rfl
 have hc2:∀ a b:AV,AV.cells (.agg [a,b])=[a,b]:=fun _ _=>rfl
 have o1:AV.one .nilS=true:=rfl
 have oI:∀ n:Int,AV.one (.int .i64 n)=true:=fun _=>rfl
 have hcR:∀ V,AV.cells (rA V)=[wS (rM V),.slice ((rJ V).map bl) (rJ V).length .unk]:=fun V=>rfl
 have oR:∀ (l:List AV) (n:Nat) (u:Tail),AV.one (.slice l n u)=true:=fun _ _ _=>rfl
 simp only [go_sem,boxA,zB,zD,zC,reduceIte,reduceCtorEq,zA]
 refine cp n23 (short_pc s) (SubL.refl _) ?_
 by_cases hsh:s.sights.length≤17
 rotate_left
 ·rw [decide_eq_false hsh]
  simp only [go_sem,zAl,qJ,zB,zD,zC,reduceIte,reduceCtorEq,zA]
  refine cp n24 zFh (SubL.refl _) ?_
  simp only [go_sem,Tryz.f6,zB,zD,zC,reduceIte,reduceCtorEq,zA]
 rw [decide_eq_true hsh]
 have hM:=Meets_pc s hl x
 have hD:=Drives_pc s hl x
 have hA:=lasked_pc s hl (tunB s x)
 have hT:=rTunnel_pc s x
 have hst:zAo s=true→tunB s x=true→staB s x.frm=true∧staB s x.to=true:=fun _ h=>by
  unfold tunB at h
  rw [zU] at h
  exact link_sta h.1
 simp only [go_sem,zAl,qD,zB,zD,zC,reduceIte,reduceCtorEq,zA]
 unfold meetsA at hM
 unfold drivesA at hD
 rcases ask_cases s x.frm x.to (tunB s x) hst with ⟨k,hk,eA,eB⟩ | ⟨V,hv,hf,hV,eA,hsq,hi,hj,hc⟩
 ·rw [eB] at hM hD
  rw [eA] at hA
  rcases hk with rfl | rfl
  ·refine cp n42 hM (SubL.refl _) ?_
   simp only [go_sem,zAd,zAc,hc2,oI,zK,zM,zJ,splice,zI,zH,and_self,zW,qE,qG,qH,zB,zD,zC,reduceIte,reduceCtorEq,zA]
   refine cp n43 hD (SubL.refl _) ?_
   simp only [go_sem,zAd,qG,qH,zB,zD,zC,reduceIte,reduceCtorEq,zA]
   refine qp n44 hT (SubL.refl _) ?_
   simp only [go_sem,zB,zD,zC,reduceIte,reduceCtorEq,zA]
   refine qp n27 hA (SubL.refl _) ?_
   simp only [go_sem,zAd,zAc,hcZ,hcR,o1,oR,zK,zM,zJ,splice,zI,zH,and_self,zW,qE,decide_false,x2,decide_true,z2,z0,b0,e0,zB,zD,zC,reduceIte,reduceCtorEq,zA]
   refine cp n24 zFh (SubL.refl _) ?_
   simp only [go_sem,Tryz.f6,zB,zD,zC,reduceIte,reduceCtorEq,zA]
  ·refine cp n42 hM (SubL.refl _) ?_
   simp only [go_sem,zAd,zAc,hc2,oI,zK,zM,zJ,splice,zI,zH,and_self,zW,qE,qG,qH,zB,zD,zC,reduceIte,reduceCtorEq,zA]
   refine cp n43 hD (SubL.refl _) ?_
   simp only [go_sem,zAd,qG,qH,zB,zD,zC,reduceIte,reduceCtorEq,zA]
   refine qp n44 hT (SubL.refl _) ?_
   simp only [go_sem,zB,zD,zC,reduceIte,reduceCtorEq,zA]
   refine qp n27 hA (SubL.refl _) ?_
   simp only [go_sem,zAd,zAc,hcZ,hcR,o1,oR,zK,zM,zJ,splice,zI,zH,and_self,zW,qE,decide_false,x7,decide_true,z7,z0,b0,e0,zB,zD,zC,reduceIte,reduceCtorEq,zA]
   refine cp n24 zFh (SubL.refl _) ?_
   simp only [go_sem,Tryz.f6,zB,zD,zC,reduceIte,reduceCtorEq,zA]
 ·rw [eA] at hA
  have hx:TunOk s.stations x:=(tun_iff hv.st).1 hf
  obtain ⟨frm,to,long,fall,err⟩:=x
  simp only at hi hj hc
  obtain ⟨a,rfl⟩:∃ a:Nat,frm=a:=⟨frm.toNat,by omega⟩
  obtain ⟨b,rfl⟩:∃ b:Nat,to=b:=⟨to.toNat,by omega⟩
  have ha:a<Lv.num s:=by omega
  have hb:b<Lv.num s:=by omega
  have ga:=rJ_get hsq ha
  have xa:0≤(a:Int)∧(a:Int)<((rJ V).length:Int):=by rw [rJ_len hsq];omega
  have xb:0≤(b:Int)∧(b:Int)<(Lv.num s:Int):=by omega
  have gb:(bools ((V.getD a []).map jo))[b]? = some (.bool (decide (ent V a b<far))):=bools_ent hsq ha hb
  simp only [qQ] at hc
  rcases hc with ⟨hnf,eB⟩ | ⟨hlt,hjp,eB⟩
  ·rw [eB] at hM hD
   rw [decide_eq_false hnf] at gb
   refine cp n42 hM (SubL.refl _) ?_
   simp only [go_sem,zAd,zAc,hc2,oI,zK,zM,zJ,splice,zI,zH,and_self,zW,qE,qG,qH,zB,zD,zC,reduceIte,reduceCtorEq,zA]
   refine cp n43 hD (SubL.refl _) ?_
   simp only [go_sem,zAd,qG,qH,zB,zD,zC,reduceIte,reduceCtorEq,zA]
   refine qp n44 hT (SubL.refl _) ?_
   simp only [go_sem,zB,zD,zC,reduceIte,reduceCtorEq,zA]
   refine qp n27 hA (SubL.refl _) ?_
   simp only [go_sem,zAd,zAc,hcZ,hcR,o1,oR,zK,zM,zJ,splice,zI,zH,and_self,zW,qE,y0,decide_false,decide_true,xa,xb,ga,gb,zAg,zAl,qJ,z5,z0,x5,b0,e0,zB,zD,zC,reduceIte,reduceCtorEq,zA]
   refine cp n24 zFh (SubL.refl _) ?_
   simp only [go_sem,Tryz.f6,zB,zD,zC,reduceIte,reduceCtorEq,zA]
  ·rw [eB] at hM hD
   rw [decide_eq_true hlt] at gb
   have hRD:=rDrives_pc s V _ hx hjp
   have hRM:=rMeets_pc s V _ hx hjp
   generalize hme:meetA V ⟨a,b,long,fall,err⟩=me at hM hRM
   obtain ⟨m1,m2,hm⟩:∃ m1 m2:Int,me=.agg [.int .i64 m1,.int .i64 m2]:=⟨_,_,hme.symm⟩
   rw [hm] at hM hRM
   have em:binA T .eql 28 (.agg [.int .i64 m1,.int .i64 m2]) (.agg [.int .i64 m1,.int .i64 m2])=some (.bool true):=by rw [eqSp];simp
   generalize (bestAt (driveF V ⟨a,b,long,fall,err⟩) 20)=n1 at hD hRD
   generalize driveF V ⟨a,b,long,fall,err⟩ n1=n2 at hD hRD
   refine cp n42 hM (SubL.refl _) ?_
   simp only [go_sem,zAd,zAc,hc2,oI,zK,zM,zJ,splice,zI,zH,and_self,zW,qE,qG,qH,zB,zD,zC,reduceIte,reduceCtorEq,zA]
   refine cp n43 hD (SubL.refl _) ?_
   simp only [go_sem,zAd,qG,qH,zB,zD,zC,reduceIte,reduceCtorEq,zA]
   refine qp n44 hT (SubL.refl _) ?_
   simp only [go_sem,zB,zD,zC,reduceIte,reduceCtorEq,zA]
   refine qp n27 hA (SubL.refl _) ?_
   simp only [go_sem,zAd,zAc,hcZ,hcR,o1,oR,zK,zM,zJ,splice,zI,zH,and_self,zW,qE,y0,decide_false,decide_true,xa,xb,ga,gb,zAg,zAl,qD,z0,b0,e0,zB,zD,zC,reduceIte,reduceCtorEq,zA]
   refine cp n45 hRD (SubL.refl _) ?_
   simp only [go_sem,zAd,z0,decide_true,zB,zD,zC,reduceIte,reduceCtorEq,zA]
   refine qp n46 hRM (SubL.refl _) ?_
   simp only [go_sem,em,z0,decide_true,zB,zD,zC,reduceIte,reduceCtorEq,zA]
   refine cp n24 zFh (SubL.refl _) ?_
   simp only [go_sem,Tryz.f6,zB,zD,zC,reduceIte,reduceCtorEq,zA]
end Go.Av.Lx
end
section
set_option maxRecDepth 100000
namespace Go.Av.Lx
open Go.Lv (Sight Survey Leg Tun Try Stp)
open Go Go.Av Go.Av.Tb Go.Av.Fx Go.Proofs Go.ChangeShapes Go.WideShapes Go.RowKit
def cW (W:World):Cx:=
 {K:=fun b o=>W.cell? ⟨b,o,none⟩,μ:=fun _=>none,τ:=fun _=>none,X:=fun _ _=>none
  XO:=fun b=>match W.heap[b]? with
   | some (.cells _ _ _)=>none
   | o=>o
  sz:=W.heap.size,FZ:=⟨fun _ _=>false,W⟩ }
structure TabOk (W:World):Prop where
 tab:∀ i,i<20→W.cell? ⟨tabB,i,none⟩=some (tabV i)
 tsh:∃ t,W.shape? tabB=some (t,20)
theorem cW_st {W:World} (h:TabOk W):StRel (cW W) St.empty W where
 sz:=zN _
 tab:=h.tab
 tsh:=h.tsh
 fr:=Frm.refl W
 K:=fun _ _ _ e=>e
 X:=fun _ _ _ e=>by cases e
 XO:=fun b ob e=>by
  simp only [cW] at e
  split at e
  ·cases e
  ·rename_i hn
   exact ⟨e,fun cs t f he=>hn cs t f (by rw [e,he])⟩
 F:=fun _ _ e=>by cases e
 dom:=fun _ _ e=>by cases e
 tdom:=fun _ _ e=>by cases e
 blk:=fun i B e=>by simp [St.empty] at e
 inj:=fun i j Bi Bj n e=>by simp [St.empty] at e
 tok:=fun k hk=>by cases hk
 tinj:=fun k k' b lo hi lo' hi' hk=>by cases hk
 tblk:=fun k i b lo hi B hk=>by cases hk
structure Keep (W W':World):Prop where
 os:W'.os=W.os
 out:W'.output=W.output
 block:∀ k,k<W.heap.size→W'.heap[k]? = W.heap[k]?
theorem keep_of {W W':World} {c':Cx} {S':St} (hle:(cW W).le c') (h:StRel c' S' W'):Keep W W':=by
 have hfr:Go.Av.Frm W W':=by have:=h.fr;rw [hle.FZ] at this;exact this
 refine ⟨hfr.os,hfr.out,fun k hk => ?_⟩
 have hob:W.heap[k]? = some W.heap[k]:=qB hk
 rw [hob]
 cases ho:W.heap[k] with
 | cells cs t fr =>
  rw [ho] at hob
  obtain ⟨cs',e1,e2⟩:=hfr.blk k cs t fr hob
  rw [e1]
  congr 2
  apply Array.ext
  ·exact e2
  ·intro j h1 h2
   have hc:W.cell? ⟨k,j,none⟩=some cs[j]:=by
    unfold World.cell?
    simp [hob,h2]
   have:=h.K k j _ (hle.K k j _ hc)
   unfold World.cell? at this
   simp [e1,h1] at this
   exact this
 | _ =>
  rw [ho] at hob
  exact (h.XO k _ (by rw [hle.XO];simp only [cW,hob])).1
theorem Keep.keptBut {W W':World} (h:Keep W W') (may:MemPlace→Prop):W.keptBut W' may:=by
 refine ⟨h.os,h.out,fun i hi => ?_⟩
 rw [h.block i hi,qB hi]
 cases W.heap[i] with
 | cells c t fr=>exact ⟨rfl,rfl,rfl,fun _ _=>rfl⟩
 | map es clock=>exact .inr ⟨rfl,rfl⟩
 | _=>rfl
theorem Keep.same {W W':World} (h:Keep W W') {p:MemPlace} (hp:p.block<W.heap.size):W.sameAt W' p:=by
 cases p with
 | cell b o=>exact World.cell?_of_block (w:=W) (h.block b hp)
 | map b=>exact h.block b hp
theorem Keep.trod {H:Type} {enc:TypeId × Value→H} {P:Program} {t:TypeId} (hl:laidOutB P=true) (hr:P.readableRec t=true) (hrow:t<P.types.size) {W W':World} {v:Value} {d:DataW H} {ps:List MemPlace}
  (h:DataW.Trod enc P W 0 (fun _=>true) true t v d ps) (hb:Keep W W') (hlt:∀ x∈ps,x.block<W.heap.size) :
  DataW.Trod enc P W' 0 (fun b=>decide (b<W.heap.size)) true t v d ps:=
 WideElems.Trod_stays hl hr hrow h (fun x hx=>hb.same (hlt x hx)) (fun x hx=>by simpa using hlt x hx)
theorem law_calls {f:FuncId} {args:List AV} {W:World} {vs:List Value} (h:PC Tryz.prog f args (.pure (.bool true))) (ht:TabOk W) (hl:LRel (cW W) args vs) :
  Calls Tryz.prog f vs.toArray W fun e W'=>e=.returned (.bool true)∧Keep W W':=by
 refine (h (cW W) St.empty W vs (cW_st ht) hl).mono ?_
 rintro e W' ⟨x,rfl,c',hle,_,_,hst,hv⟩
 refine ⟨?_,keep_of hle hst⟩
 cases hv;rfl
theorem cells_of {W:World} {b off:Nat} {l:List AV} {n cap:Nat} (hc:n≤cap) (h:∀ j x,l[j]? = some x → ∃ v,W.cell? ⟨b,off+j,none⟩=some v∧VRel (cW W) x v):VRel (cW W) (.slice l n .unk) (.slice (some ⟨b,off,none⟩) n cap):=by
 have get:∀ j (hj:j<l.length),∃ v,W.cell? ⟨b,off+j,none⟩=some v∧VRel (cW W) l[j] v:=fun j hj=>h j _ (zF hj)
 refine .slice l n .unk b off cap (fun j=>(W.cell? ⟨b,off+j,none⟩).getD default) hc (fun j hj => ?_) (fun j x hx => ?_) (fun e=>by cases e) (fun k e=>by cases e)
 ·obtain ⟨v,h1,h2⟩:=get j hj
  show W.cell? _=some ((W.cell? _).getD default)
  rw [h1];rfl
 ·obtain ⟨v,h1,h2⟩:=h j x hx
  rw [h1];exact h2
theorem add_at (b off i:Nat):(⟨b,off,none⟩:Addr).add i=⟨b,off+i,none⟩:=add_plain b off i
theorem has_spot {W:World} {base:Nat} {t e:TypeId} {a:Addr} {len cap:Nat} (ht:Tryz.prog.underlying t=some (.slice e)) (h:Cell.okWide Tryz.prog W .any base t (.slice (some a) len cap)):a.spot=none:=by
 simp only [Cell.okWide,ht,Cell.ok] at h
 exact h.2.2.2.1
section
variable {H:Type} {enc:TypeId × Value→H} {W:World} {base:Nat} {fuel:Nat} {x:DataW H × List MemPlace}
theorem zEe {v:Value} (h:DataW.trod enc Tryz.prog W 0 (fun _=>true) true fuel 3 [v]=some x):∃ n:Int,v=.int .i64 n∧(Lit.int .i64 n).wf=true:=by
 obtain ⟨n,hcs,_,hw⟩:=DataW.trod_int Tryz.underlying3 h
 cases hcs
 exact ⟨n,rfl,hw⟩
theorem flat_get {α:Type} {f:α→List AV} {z:Nat} (hz:∀ a,(f a).length=z):∀ (l:List α) (j:Nat) (y:AV),(l.flatMap f)[j]? = some y → ∃ (i q:Nat) (hi:i<l.length),j=i * z+q∧q<z∧(f l[i])[q]? = some y
 | [],j,y,h=>by simp at h
 | c :: l,j,y,h=>by
  rw [yA] at h
  by_cases hj:j<z
  ·rw [qK (by rw [hz];exact hj)] at h
   exact ⟨0,j,by simp,by omega,hj,h⟩
  ·rw [zR (by rw [hz];omega),hz] at h
   obtain ⟨i,q,hi,e1,e2,e3⟩:=flat_get hz l _ y h
   refine ⟨i+1,q,by simpa using hi, ?_,e2,e3⟩
   rw [Nat.add_mul];omega
theorem av_rows {α:Type} (dflt:α) (f:α→List AV) {z by':Nat} (hz:∀ a,(f a).length=z) {t e:TypeId} (hu:Tryz.prog.underlying t=some (.slice e)) (hc:Tryz.prog.cellsOf e=z) (h8:Tryz.prog.bytesOf e=by') (hb:1≤by')
  (one:∀ {n:Nat} {y:DataW H × List MemPlace} {cs:List Value},DataW.trod enc Tryz.prog W 0 (fun _=>true) true n e cs=some y → ∃ a:α,LRel (cW W) (f a) cs)
  {v:Value} (h:DataW.trod enc Tryz.prog W 0 (fun _=>true) true fuel t [v]=some x) (hw:∀ n∈x.1.weights Tryz.prog t,n≤reachBytes) (hok:Cell.okWide Tryz.prog W .any base t v):∃ l:List α,VRel (cW W) (.slice (l.flatMap f) l.length .unk) v∧okL l.length:=by
 rcases Go.Deep.open_slice hu h with ⟨hcs,_⟩ | ⟨a,len,cap,m,n,D,Pl,hcs,_,hl,hm,hmm,hxx,hx⟩
 ·cases hcs
  exact ⟨[],.sliceNil .unk (fun k e=>by cases e),Nat.zero_lt_succ _⟩
 ·cases hcs
  have hsp:=has_spot hu hok
  obtain ⟨b,off,spot⟩:=a
  simp only at hsp
  subst hsp
  have hmc:m=cap:=by simpa using hmm
  rw [hc] at hx
  have each:∀ i,i<len → ∃ c:α,∀ (q:Nat) (y:AV),(f c)[q]? = some y → ∃ u,W.cell? ⟨b,off+(i * z+q),none⟩=some u∧VRel (cW W) y u:=by
   intro i hi
   obtain ⟨cs',h1,h2⟩:=hx i (by omega)
   obtain ⟨c,hr⟩:=one h2
   obtain ⟨_,hcl,hcell⟩:=World.cells?_some h1
   refine ⟨c,fun q y hy => ?_⟩
   obtain ⟨u,hu',hru⟩:=hr.get hy
   have hq:q<cs'.length:=by
    rcases zV q cs'.length with h' | h'
    ·exact h'
    ·rw [zO h'] at hu';cases hu'
   have hcq:=hcell q (by omega)
   rw [add_at,add_at,Nat.add_assoc] at hcq
   refine ⟨u, ?_,hru⟩
   rw [hcq]
   exact hu'
  obtain ⟨F,hF⟩:∃ F:Nat→α,∀ i,i<len → ∀ (q:Nat) (y:AV),(f (F i))[q]? = some y → ∃ u,W.cell? ⟨b,off+(i * z+q),none⟩=some u∧VRel (cW W) y u:=
   ⟨fun i=>if hi:i<len then (each i hi).choose else dflt,fun i hi=>by
    show ∀ (q:Nat) (y:AV),(f (if hi:i<len then (each i hi).choose else dflt))[q]? = some y→_
    rw [dif_pos hi];exact (each i hi).choose_spec⟩
  have hlen:((List.range len).map F).length=len:=by simp
  have hsize:len<9223372036854775807:=by
   subst hxx
   have:=hw ((((List.range len).map D).length+((List.range (m - len)).map fun j=>D (len+j)).length) * by') (by
    simp only [DataW.weights,hu,h8]
    exact zP)
   rw [yM,List.length_range] at this
   have h3:len * 1≤(len+((List.range (m - len)).map fun j=>D (len+j)).length) * by':=Nat.mul_le_mul (by omega) hb
   unfold reachBytes at this
   omega
  refine ⟨(List.range len).map F, ?_,by rw [hlen];exact hsize⟩
  rw [hlen]
  refine cells_of hl fun j y hy => ?_
  obtain ⟨i,q,hi,rfl,_,e3⟩:=flat_get hz _ j y hy
  rw [hlen] at hi
  have e4:((List.range len).map F)[i]=F i:=by simp
  rw [e4] at e3
  exact hF i hi q y e3
theorem av_sight {n:Nat} {y:DataW H × List MemPlace} {cs:List Value} (h:DataW.trod enc Tryz.prog W 0 (fun _=>true) true n 85 cs=some y):∃ a:Sight,LRel (cW W) (sgtC a) cs:=by
 obtain ⟨xs,n,_,_,hl,hlen,hf⟩:=DataW.trod_struct Tryz.underlying85 h
 have hc:Tryz.prog.cellsOf 85=4:=by kernel_rfl
 have hc3:Tryz.prog.cellsOf 3=1:=by kernel_rfl
 have hc4:Tryz.prog.cellsOf 4=1:=by kernel_rfl
 rw [hc] at hl
 match cs,hl with
 | [a0,a1,a2,a3],_ =>
  match xs,hlen with
  | [y0,y1,y2,y3],_ =>
   have h0:DataW.trod enc Tryz.prog W 0 (fun _=>true) true n 3 (([a0,a1,a2,a3].drop 0).take (Tryz.prog.cellsOf 3))=some y0:=hf 0 _ rfl
   rw [hc3] at h0
   have h1:DataW.trod enc Tryz.prog W 0 (fun _=>true) true n 3 (([a0,a1,a2,a3].drop 1).take (Tryz.prog.cellsOf 3))=some y1:=hf 1 _ rfl
   rw [hc3] at h1
   have h2:DataW.trod enc Tryz.prog W 0 (fun _=>true) true n 3 (([a0,a1,a2,a3].drop 2).take (Tryz.prog.cellsOf 3))=some y2:=hf 2 _ rfl
   rw [hc3] at h2
   have h3:DataW.trod enc Tryz.prog W 0 (fun _=>true) true n 3 (([a0,a1,a2,a3].drop 3).take (Tryz.prog.cellsOf 3))=some y3:=hf 3 _ rfl
   rw [hc3] at h3
   obtain ⟨p0,rfl,_⟩:=zEe h0
   obtain ⟨p1,rfl,_⟩:=zEe h1
   obtain ⟨p2,rfl,_⟩:=zEe h2
   obtain ⟨p3,rfl,_⟩:=zEe h3
   exact ⟨⟨p0,p1,p2,p3⟩,(LRel.cons (.int _ _) (LRel.cons (.int _ _) (LRel.cons (.int _ _) (LRel.cons (.int _ _) (LRel.nil _)))))⟩
theorem av_tun {n:Nat} {y:DataW H × List MemPlace} {cs:List Value} (h:DataW.trod enc Tryz.prog W 0 (fun _=>true) true n 68 cs=some y):∃ a:Tun,LRel (cW W) (tunC a) cs:=by
 obtain ⟨xs,n,_,_,hl,hlen,hf⟩:=DataW.trod_struct Tryz.underlying68 h
 have hc:Tryz.prog.cellsOf 68=5:=by kernel_rfl
 have hc3:Tryz.prog.cellsOf 3=1:=by kernel_rfl
 have hc4:Tryz.prog.cellsOf 4=1:=by kernel_rfl
 rw [hc] at hl
 match cs,hl with
 | [a0,a1,a2,a3,a4],_ =>
  match xs,hlen with
  | [y0,y1,y2,y3,y4],_ =>
   have h0:DataW.trod enc Tryz.prog W 0 (fun _=>true) true n 3 (([a0,a1,a2,a3,a4].drop 0).take (Tryz.prog.cellsOf 3))=some y0:=hf 0 _ rfl
   rw [hc3] at h0
   have h1:DataW.trod enc Tryz.prog W 0 (fun _=>true) true n 3 (([a0,a1,a2,a3,a4].drop 1).take (Tryz.prog.cellsOf 3))=some y1:=hf 1 _ rfl
   rw [hc3] at h1
   have h2:DataW.trod enc Tryz.prog W 0 (fun _=>true) true n 3 (([a0,a1,a2,a3,a4].drop 2).take (Tryz.prog.cellsOf 3))=some y2:=hf 2 _ rfl
   rw [hc3] at h2
   have h3:DataW.trod enc Tryz.prog W 0 (fun _=>true) true n 3 (([a0,a1,a2,a3,a4].drop 3).take (Tryz.prog.cellsOf 3))=some y3:=hf 3 _ rfl
   rw [hc3] at h3
   have h4:DataW.trod enc Tryz.prog W 0 (fun _=>true) true n 3 (([a0,a1,a2,a3,a4].drop 4).take (Tryz.prog.cellsOf 3))=some y4:=hf 4 _ rfl
   rw [hc3] at h4
   obtain ⟨p0,rfl,_⟩:=zEe h0
   obtain ⟨p1,rfl,_⟩:=zEe h1
   obtain ⟨p2,rfl,_⟩:=zEe h2
   obtain ⟨p3,rfl,_⟩:=zEe h3
   obtain ⟨p4,rfl,_⟩:=zEe h4
   exact ⟨⟨p0,p1,p2,p3,p4⟩,(LRel.cons (.int _ _) (LRel.cons (.int _ _) (LRel.cons (.int _ _) (LRel.cons (.int _ _) (LRel.cons (.int _ _) (LRel.nil _))))))⟩
end
section
variable {H:Type} {enc:TypeId × Value→H} {W:World} {base:Nat}
theorem av_tunA {v:Value} {d:DataW H} {ps:List MemPlace} (h:DataW.Trod enc Tryz.prog W 0 (fun _=>true) true 68 v d ps) (hw:∀ n∈d.weights Tryz.prog 68,n≤reachBytes) (hok:Value.okWide Tryz.prog W .any base 68 v) :
  ∃ c:Tun,VRel (cW W) (.agg (tunC c)) v∧True:=by
 obtain ⟨fuel,h⟩:=h
 simp only [Value.okWide,Tryz.underlying68] at hok
 obtain ⟨cs,rfl,hsz,_⟩:=hok
 obtain ⟨c,hc⟩:=av_tun h
 exact ⟨c,VRel.mk_agg hc,trivial⟩
theorem av_survey {v:Value} {d:DataW H} {ps:List MemPlace} (h:DataW.Trod enc Tryz.prog W 0 (fun _=>true) true 24 v d ps) (hw:∀ n∈d.weights Tryz.prog 24,n≤reachBytes) (hok:Value.okWide Tryz.prog W .any base 24 v) :
  ∃ s:Survey,VRel (cW W) (surA s) v∧okL s.sights.length:=by
 obtain ⟨fuel,h⟩:=h
 simp only [Value.okWide,Tryz.underlying24] at hok
 obtain ⟨cs,rfl,hsz,ts,hts,_,hrow⟩:=hok
 have hc:Tryz.prog.cellsOf 24=2:=by kernel_rfl
 rw [hc] at hsz
 obtain ⟨c0,c1,rfl⟩:∃ c0 c1,cs=#[c0,c1]:=by
  obtain ⟨l⟩:=cs
  match l,hsz with
  | [c0,c1],_=>exact ⟨c0,c1,rfl⟩
 have hts':Go.Program.cellTypes Tryz.prog Tryz.prog.depth 24=some [3,22]:=by kernel_rfl
 rw [hts'] at hts
 cases hts
 have k1:Cell.okWide Tryz.prog W .any base 22 c1:=by
  obtain ⟨u,e,hu⟩:=hrow 1 c1 rfl
  cases e;exact hu
 obtain ⟨xs,n,_,hd,hl,hlen,hf⟩:=DataW.trod_struct Tryz.underlying24 h
 have hc3:Tryz.prog.cellsOf 3=1:=by kernel_rfl
 have hc22:Tryz.prog.cellsOf 22=1:=by kernel_rfl
 match xs,hlen with
 | [y0,y1],_ =>
  have h0:DataW.trod enc Tryz.prog W 0 (fun _=>true) true n 3 (([c0,c1].drop 0).take (Tryz.prog.cellsOf 3))=some y0:=hf 0 _ rfl
  have h1:DataW.trod enc Tryz.prog W 0 (fun _=>true) true n 22 (([c0,c1].drop 1).take (Tryz.prog.cellsOf 22))=some y1:=hf 1 _ rfl
  rw [hc3] at h0
  rw [hc22] at h1
  cases hd
  have hw':∀ (j:Nat) (t:TypeId) (d:DataW H),[3,22][j]? = some t→[y0.1,y1.1][j]? = some d → ∀ n∈d.weights Tryz.prog t,n≤reachBytes:=fun j t d ht hd n hn=>by
   refine hw n ?_
   simp only [DataW.weights,Tryz.underlying24]
   exact DataW.weights_mem_each (ts:=[3,22]) ht hd n hn
  obtain ⟨p,rfl,_⟩:=zEe h0
  obtain ⟨g,hg,og⟩:=av_rows (z:=4) (by':=32) (⟨0,0,0,0⟩:Sight) sgtC (fun _=>rfl) Tryz.underlying22 (by kernel_rfl) (by kernel_rfl) (by decide) (fun h=>av_sight h) h1 (hw' 1 _ _ rfl rfl) k1
  refine ⟨⟨p,g⟩,VRel.mk_agg ?_,og⟩
  exact LRel.cons (.int _ _) (LRel.cons hg (LRel.nil _))
end
end Go.Av.Lx
end
section
namespace Go.Proofs.YtclmbbofpaecaaaGreatDoor
open Go Go.Av Go.ChangeShapes Go.WideShapes Go.ChangeAt Go.RowKit
set_option maxRecDepth 100000
theorem own:ownKnob Tryz.prog.godebug=none:=by kernel_rfl
theorem laidOut:laidOutB Tryz.prog=true:=by kernel_rfl
def tabs:List (String × DataW Unit):=[("math/bits.deBruijn32tab", Rows.laid_math_bits_deBruijn32tab),("math/bits.deBruijn64tab", Rows.laid_math_bits_deBruijn64tab),("internal/strconv.uint64pow10", Rows.laid_internal_strconv_uint64pow10),("unicode/utf8.acceptRanges", Rows.laid_unicode_utf8_acceptRanges),("unicode/utf8.first", Rows.laid_unicode_utf8_first)]
theorem pow_data:(Rows.laid_internal_strconv_uint64pow10:DataW Unit)=Lib.tabData .u64 Lib.pow10Tab:=by kernel_rfl
theorem pow_name:Tryz.prog.globalNamed "internal/strconv.uint64pow10" = some 0:=by kernel_rfl
theorem pow_type:(Tryz.prog.globals[0]?).map (·.type)=some 266:=by kernel_rfl
theorem tab_ok {W:World} (h:laidMetH Tryz.prog tabs W):Go.Av.Lx.TabOk W:=by
 rw [MakeChecks.laidMetH_plain _ _ _ (by kernel_rfl)] at h
 obtain ⟨ps,⟨_,_,_,_,_,_,_,_,_,_,⟨_,_,_,_,_,_,_,_,_,_,⟨g,t,cs,fuel,p,q,hg,ht,hv,hd,_,_⟩,_⟩,_⟩,_,_⟩:=h
 obtain rfl:=Option.some.inj (pow_name.symm.trans hg)
 obtain rfl:=Option.some.inj (pow_type.symm.trans ht)
 rw [pow_data] at hd
 have hcs:=Lib.cells_of_tab (P:=Tryz.prog) (t:=266) (e:=245) (n:=20) (k:=.u64) (by kernel_rfl) (by kernel_rfl) (by kernel_rfl) (by kernel_rfl) hd
 have hlen:Lib.pow10Tab.length=20:=by simp [Lib.pow10Tab]
 have hTab:Lib.TabIs Tryz.prog W "internal/strconv.uint64pow10" .u64 Lib.pow10Tab:=by
  unfold Lib.TabIs
  rw [hv,← hcs]
 refine ⟨fun i hi => ?_, ?_⟩
 ·have:=hTab.cell pow_name i (by rw [hlen];exact hi)
  rw [show (Lib.pow10Tab.getD i 0:Int)=((10 ^ i:Nat):Int) by
   unfold Lib.pow10Tab
   rw [zG,qC,qO hi];rfl] at this
  exact this
 ·unfold World.var? at hv
  rw [pow_name,yC] at hv
  split at hv
  ·rename_i cs' t' fr e
   cases hv
   refine ⟨t', ?_⟩
   unfold World.shape?
   show (match W.heap[0]? with
    | some (.cells c elem _)=>some (elem,c.size)
    | _=>none)=_
   rw [e]
   have:cs.size=20:=by
    have:=congrArg List.length hcs
    simpa [hlen] using this
   simp [this]
  ·cases hv
def initS:String := "harness 6d35de1e401f8de53127ac5c61a8cef0ec1bad88697796d15747f2a67ee9c756 cut at quinaria/quinarialaw01.LevelBounds quinaria/quinarialaw01.LevelErrors quinaria/quinarialaw01.LevelFalls quinaria/quinarialaw01.LevelMeets quinaria/quinarialaw01.LevelTakes quinaria/quinarialaw01.LevelDrops quinaria/quinarialaw01.LevelMore quinaria/quinarialaw01.LevelEven quinaria/quinarialaw01.LevelNarrow quinaria/quinarialaw01.LevelPrints quinaria/quinarialaw01.LevelReads quinaria/quinarialaw01.LevelSpoilt quinaria/quinarialaw01.LevelLowest quinaria/quinarialaw01.LevelSurely quinaria/quinarialaw01.LevelHeads quinaria/quinarialaw01.LevelTrue quinaria/quinarialaw01.LevelRings quinaria/quinarialaw01.LevelFits quinaria/quinarialaw01.LevelFewest quinaria/quinarialaw01.LevelClosed"
def initL:List Char:=[.ofNat 104,.ofNat 97,.ofNat 114,.ofNat 110,.ofNat 101,.ofNat 115,.ofNat 115,.ofNat 32,.ofNat 54,.ofNat 100,.ofNat 51,.ofNat 53,.ofNat 100,.ofNat 101,.ofNat 49,.ofNat 101,.ofNat 52,.ofNat 48,.ofNat 49,.ofNat 102,.ofNat 56,.ofNat 100,.ofNat 101,.ofNat 53,.ofNat 51,.ofNat 49,.ofNat 50,.ofNat 55,.ofNat 97,.ofNat 99,.ofNat 53,.ofNat 99,.ofNat 54,.ofNat 49,.ofNat 97,.ofNat 56,.ofNat 99,.ofNat 101,.ofNat 102,.ofNat 48,.ofNat 101,.ofNat 99,.ofNat 49,.ofNat 98,.ofNat 97,.ofNat 100,.ofNat 56,.ofNat 56,.ofNat 54,.ofNat 57,.ofNat 55,.ofNat 55,.ofNat 57,.ofNat 54,.ofNat 100,.ofNat 49,.ofNat 53,.ofNat 55,.ofNat 52,.ofNat 55,.ofNat 102,.ofNat 50,.ofNat 97,.ofNat 54,.ofNat 55,.ofNat 101,.ofNat 101,.ofNat 57,.ofNat 99,.ofNat 55,.ofNat 53,.ofNat 54,.ofNat 32,.ofNat 99,.ofNat 117,.ofNat 116,.ofNat 32,.ofNat 97,.ofNat 116,.ofNat 32,.ofNat 113,.ofNat 117,.ofNat 105,.ofNat 110,.ofNat 97,.ofNat 114,.ofNat 105,.ofNat 97,.ofNat 47,.ofNat 113,.ofNat 117,.ofNat 105,.ofNat 110,.ofNat 97,.ofNat 114,.ofNat 105,.ofNat 97,.ofNat 108,.ofNat 97,.ofNat 119,.ofNat 48,.ofNat 49,.ofNat 46,.ofNat 76,.ofNat 101,.ofNat 118,.ofNat 101,.ofNat 108,.ofNat 66,.ofNat 111,.ofNat 117,.ofNat 110,.ofNat 100,.ofNat 115,.ofNat 32,.ofNat 113,.ofNat 117,.ofNat 105,.ofNat 110,.ofNat 97,.ofNat 114,.ofNat 105,.ofNat 97,.ofNat 47,.ofNat 113,.ofNat 117,.ofNat 105,.ofNat 110,.ofNat 97,.ofNat 114,.ofNat 105,.ofNat 97,.ofNat 108,.ofNat 97,.ofNat 119,.ofNat 48,.ofNat 49,.ofNat 46,.ofNat 76,.ofNat 101,.ofNat 118,.ofNat 101,.ofNat 108,.ofNat 69,.ofNat 114,.ofNat 114,.ofNat 111,.ofNat 114,.ofNat 115,.ofNat 32,.ofNat 113,.ofNat 117,.ofNat 105,.ofNat 110,.ofNat 97,.ofNat 114,.ofNat 105,.ofNat 97,.ofNat 47,.ofNat 113,.ofNat 117,.ofNat 105,.ofNat 110,.ofNat 97,.ofNat 114,.ofNat 105,.ofNat 97,.ofNat 108,.ofNat 97,.ofNat 119,.ofNat 48,.ofNat 49,.ofNat 46,.ofNat 76,.ofNat 101,.ofNat 118,.ofNat 101,.ofNat 108,.ofNat 70,.ofNat 97,.ofNat 108,.ofNat 108,.ofNat 115,.ofNat 32,.ofNat 113,.ofNat 117,.ofNat 105,.ofNat 110,.ofNat 97,.ofNat 114,.ofNat 105,.ofNat 97,.ofNat 47,.ofNat 113,.ofNat 117,.ofNat 105,.ofNat 110,.ofNat 97,.ofNat 114,.ofNat 105,.ofNat 97,.ofNat 108,.ofNat 97,.ofNat 119,.ofNat 48,.ofNat 49,.ofNat 46,.ofNat 76,.ofNat 101,.ofNat 118,.ofNat 101,.ofNat 108,.ofNat 77,.ofNat 101,.ofNat 101,.ofNat 116,.ofNat 115,.ofNat 32,.ofNat 113,.ofNat 117,.ofNat 105,.ofNat 110,.ofNat 97,.ofNat 114,.ofNat 105,.ofNat 97,.ofNat 47,.ofNat 113,.ofNat 117,.ofNat 105,.ofNat 110,.ofNat 97,.ofNat 114,.ofNat 105,.ofNat 97,.ofNat 108,.ofNat 97,.ofNat 119,.ofNat 48,.ofNat 49,.ofNat 46,.ofNat 76,.ofNat 101,.ofNat 118,.ofNat 101,.ofNat 108,.ofNat 84,.ofNat 97,.ofNat 107,.ofNat 101,.ofNat 115,.ofNat 32,.ofNat 113,.ofNat 117,.ofNat 105,.ofNat 110,.ofNat 97,.ofNat 114,.ofNat 105,.ofNat 97,.ofNat 47,.ofNat 113,.ofNat 117,.ofNat 105,.ofNat 110,.ofNat 97,.ofNat 114,.ofNat 105,.ofNat 97,.ofNat 108,.ofNat 97,.ofNat 119,.ofNat 48,.ofNat 49,.ofNat 46,.ofNat 76,.ofNat 101,.ofNat 118,.ofNat 101,.ofNat 108,.ofNat 68,.ofNat 114,.ofNat 111,.ofNat 112,.ofNat 115,.ofNat 32,.ofNat 113,.ofNat 117,.ofNat 105,.ofNat 110,.ofNat 97,.ofNat 114,.ofNat 105,.ofNat 97,.ofNat 47,.ofNat 113,.ofNat 117,.ofNat 105,.ofNat 110,.ofNat 97,.ofNat 114,.ofNat 105,.ofNat 97,.ofNat 108,.ofNat 97,.ofNat 119,.ofNat 48,.ofNat 49,.ofNat 46,.ofNat 76,.ofNat 101,.ofNat 118,.ofNat 101,.ofNat 108,.ofNat 77,.ofNat 111,.ofNat 114,.ofNat 101,.ofNat 32,.ofNat 113,.ofNat 117,.ofNat 105,.ofNat 110,.ofNat 97,.ofNat 114,.ofNat 105,.ofNat 97,.ofNat 47,.ofNat 113,.ofNat 117,.ofNat 105,.ofNat 110,.ofNat 97,.ofNat 114,.ofNat 105,.ofNat 97,.ofNat 108,.ofNat 97,.ofNat 119,.ofNat 48,.ofNat 49,.ofNat 46,.ofNat 76,.ofNat 101,.ofNat 118,.ofNat 101,.ofNat 108,.ofNat 69,.ofNat 118,.ofNat 101,.ofNat 110,.ofNat 32,.ofNat 113,.ofNat 117,.ofNat 105,.ofNat 110,.ofNat 97,.ofNat 114,.ofNat 105,.ofNat 97,.ofNat 47,.ofNat 113,.ofNat 117,.ofNat 105,.ofNat 110,.ofNat 97,.ofNat 114,.ofNat 105,.ofNat 97,.ofNat 108,.ofNat 97,.ofNat 119,.ofNat 48,.ofNat 49,.ofNat 46,.ofNat 76,.ofNat 101,.ofNat 118,.ofNat 101,.ofNat 108,.ofNat 78,.ofNat 97,.ofNat 114,.ofNat 114,.ofNat 111,.ofNat 119,.ofNat 32,.ofNat 113,.ofNat 117,.ofNat 105,.ofNat 110,.ofNat 97,.ofNat 114,.ofNat 105,.ofNat 97,.ofNat 47,.ofNat 113,.ofNat 117,.ofNat 105,.ofNat 110,.ofNat 97,.ofNat 114,.ofNat 105,.ofNat 97,.ofNat 108,.ofNat 97,.ofNat 119,.ofNat 48,.ofNat 49,.ofNat 46,.ofNat 76,.ofNat 101,.ofNat 118,.ofNat 101,.ofNat 108,.ofNat 80,.ofNat 114,.ofNat 105,.ofNat 110,.ofNat 116,.ofNat 115,.ofNat 32,.ofNat 113,.ofNat 117,.ofNat 105,.ofNat 110,.ofNat 97,.ofNat 114,.ofNat 105,.ofNat 97,.ofNat 47,.ofNat 113,.ofNat 117,.ofNat 105,.ofNat 110,.ofNat 97,.ofNat 114,.ofNat 105,.ofNat 97,.ofNat 108,.ofNat 97,.ofNat 119,.ofNat 48,.ofNat 49,.ofNat 46,.ofNat 76,.ofNat 101,.ofNat 118,.ofNat 101,.ofNat 108,.ofNat 82,.ofNat 101,.ofNat 97,.ofNat 100,.ofNat 115,.ofNat 32,.ofNat 113,.ofNat 117,.ofNat 105,.ofNat 110,.ofNat 97,.ofNat 114,.ofNat 105,.ofNat 97,.ofNat 47,.ofNat 113,.ofNat 117,.ofNat 105,.ofNat 110,.ofNat 97,.ofNat 114,.ofNat 105,.ofNat 97,.ofNat 108,.ofNat 97,.ofNat 119,.ofNat 48,.ofNat 49,.ofNat 46,.ofNat 76,.ofNat 101,.ofNat 118,.ofNat 101,.ofNat 108,.ofNat 83,.ofNat 112,.ofNat 111,.ofNat 105,.ofNat 108,.ofNat 116,.ofNat 32,.ofNat 113,.ofNat 117,.ofNat 105,.ofNat 110,.ofNat 97,.ofNat 114,.ofNat 105,.ofNat 97,.ofNat 47,.ofNat 113,.ofNat 117,.ofNat 105,.ofNat 110,.ofNat 97,.ofNat 114,.ofNat 105,.ofNat 97,.ofNat 108,.ofNat 97,.ofNat 119,.ofNat 48,.ofNat 49,.ofNat 46,.ofNat 76,.ofNat 101,.ofNat 118,.ofNat 101,.ofNat 108,.ofNat 76,.ofNat 111,.ofNat 119,.ofNat 101,.ofNat 115,.ofNat 116,.ofNat 32,.ofNat 113,.ofNat 117,.ofNat 105,.ofNat 110,.ofNat 97,.ofNat 114,.ofNat 105,.ofNat 97,.ofNat 47,.ofNat 113,.ofNat 117,.ofNat 105,.ofNat 110,.ofNat 97,.ofNat 114,.ofNat 105,.ofNat 97,.ofNat 108,.ofNat 97,.ofNat 119,.ofNat 48,.ofNat 49,.ofNat 46,.ofNat 76,.ofNat 101,.ofNat 118,.ofNat 101,.ofNat 108,.ofNat 83,.ofNat 117,.ofNat 114,.ofNat 101,.ofNat 108,.ofNat 121,.ofNat 32,.ofNat 113,.ofNat 117,.ofNat 105,.ofNat 110,.ofNat 97,.ofNat 114,.ofNat 105,.ofNat 97,.ofNat 47,.ofNat 113,.ofNat 117,.ofNat 105,.ofNat 110,.ofNat 97,.ofNat 114,.ofNat 105,.ofNat 97,.ofNat 108,.ofNat 97,.ofNat 119,.ofNat 48,.ofNat 49,.ofNat 46,.ofNat 76,.ofNat 101,.ofNat 118,.ofNat 101,.ofNat 108,.ofNat 72,.ofNat 101,.ofNat 97,.ofNat 100,.ofNat 115,.ofNat 32,.ofNat 113,.ofNat 117,.ofNat 105,.ofNat 110,.ofNat 97,.ofNat 114,.ofNat 105,.ofNat 97,.ofNat 47,.ofNat 113,.ofNat 117,.ofNat 105,.ofNat 110,.ofNat 97,.ofNat 114,.ofNat 105,.ofNat 97,.ofNat 108,.ofNat 97,.ofNat 119,.ofNat 48,.ofNat 49,.ofNat 46,.ofNat 76,.ofNat 101,.ofNat 118,.ofNat 101,.ofNat 108,.ofNat 84,.ofNat 114,.ofNat 117,.ofNat 101,.ofNat 32,.ofNat 113,.ofNat 117,.ofNat 105,.ofNat 110,.ofNat 97,.ofNat 114,.ofNat 105,.ofNat 97,.ofNat 47,.ofNat 113,.ofNat 117,.ofNat 105,.ofNat 110,.ofNat 97,.ofNat 114,.ofNat 105,.ofNat 97,.ofNat 108,.ofNat 97,.ofNat 119,.ofNat 48,.ofNat 49,.ofNat 46,.ofNat 76,.ofNat 101,.ofNat 118,.ofNat 101,.ofNat 108,.ofNat 82,.ofNat 105,.ofNat 110,.ofNat 103,.ofNat 115,.ofNat 32,.ofNat 113,.ofNat 117,.ofNat 105,.ofNat 110,.ofNat 97,.ofNat 114,.ofNat 105,.ofNat 97,.ofNat 47,.ofNat 113,.ofNat 117,.ofNat 105,.ofNat 110,.ofNat 97,.ofNat 114,.ofNat 105,.ofNat 97,.ofNat 108,.ofNat 97,.ofNat 119,.ofNat 48,.ofNat 49,.ofNat 46,.ofNat 76,.ofNat 101,.ofNat 118,.ofNat 101,.ofNat 108,.ofNat 70,.ofNat 105,.ofNat 116,.ofNat 115,.ofNat 32,.ofNat 113,.ofNat 117,.ofNat 105,.ofNat 110,.ofNat 97,.ofNat 114,.ofNat 105,.ofNat 97,.ofNat 47,.ofNat 113,.ofNat 117,.ofNat 105,.ofNat 110,.ofNat 97,.ofNat 114,.ofNat 105,.ofNat 97,.ofNat 108,.ofNat 97,.ofNat 119,.ofNat 48,.ofNat 49,.ofNat 46,.ofNat 76,.ofNat 101,.ofNat 118,.ofNat 101,.ofNat 108,.ofNat 70,.ofNat 101,.ofNat 119,.ofNat 101,.ofNat 115,.ofNat 116,.ofNat 32,.ofNat 113,.ofNat 117,.ofNat 105,.ofNat 110,.ofNat 97,.ofNat 114,.ofNat 105,.ofNat 97,.ofNat 47,.ofNat 113,.ofNat 117,.ofNat 105,.ofNat 110,.ofNat 97,.ofNat 114,.ofNat 105,.ofNat 97,.ofNat 108,.ofNat 97,.ofNat 119,.ofNat 48,.ofNat 49,.ofNat 46,.ofNat 76,.ofNat 101,.ofNat 118,.ofNat 101,.ofNat 108,.ofNat 67,.ofNat 108,.ofNat 111,.ofNat 115,.ofNat 101,.ofNat 100]
theorem init_eq:Tryz.prog.initOrder=initS:=by kernel_rfl
theorem init_lit:initS=String.ofList initL:=by kernel_rfl
theorem init_list:Tryz.prog.initOrder.toList=initL:=by rw [init_eq,init_lit,String.toList_ofList]
def initW:List (List Char):=(behindMainWord (wordsSigns initL)).tail
theorem words_eq:behindMainWord (wordsSigns initL) = "cut".toList :: initW:=by kernel_rfl
theorem words_of:behindMainWord (wordsSigns Tryz.prog.initOrder.toList) = "cut".toList :: initW:=by rw [init_list,words_eq]
theorem strip_cut (W:List (List Char)):stripLifts liftWords ("cut".toList :: W)=([], "cut".toList :: W):=by
 have h:(liftWords.all fun o => !("cut".toList == o.toList))=true:=by decide
 have key:∀ l:List String,(l.all fun o => !("cut".toList == o.toList))=true→stripLifts l ("cut".toList :: W)=([], "cut".toList :: W):=by
  intro l
  induction l with
  | nil=>intro _;rfl
  | cons o l ih =>
   intro h
   rw [zK,zU,Bool.not_eq_true'] at h
   unfold stripLifts
   rw [h.1,if_neg (by decide),ih h.2]
 exact key _ h
theorem head_of {P:Program} {W:List (List Char)} (h:behindMainWord (wordsSigns P.initOrder.toList) = "cut".toList :: W):P.headLifts=[]:=by
 unfold Program.headLifts
 rw [h,strip_cut]
 simp
theorem enter_of {P:Program} {W:List (List Char)} (h:behindMainWord (wordsSigns P.initOrder.toList) = "cut".toList :: W) (h1:P.laysLater=false) (h2:P.bearsReflect=false) (h3:P.doorFits []=true):P.mayEnter=true:=by
 unfold Program.mayEnter
 rw [h]
 simp only []
 rw [strip_cut,h1,h2,h3]
 simp
theorem lifts_of {P:Program} {W:List (List Char)} (h:behindMainWord (wordsSigns P.initOrder.toList) = "cut".toList :: W):P.liftsFinal=false:=by
 unfold Program.liftsFinal
 rw [h,head_of h]
 simp
theorem make_of {P:Program} {W:List (List Char)} (h:behindMainWord (wordsSigns P.initOrder.toList) = "cut".toList :: W):P.make=some .cut:=by
 unfold Program.make
 rw [h]
 simp
theorem enter_eq:Tryz.prog.mayEnter=true:=enter_of words_of (by kernel_rfl) (by kernel_rfl) (by kernel_rfl)
theorem lifts_eq:Tryz.prog.liftsFinal=false:=lifts_of words_of
theorem make_eq:Tryz.prog.make=some .cut:=make_of words_of
theorem rowed_eq:mapsRowed Tryz.prog=true:=by kernel_rfl
theorem heard_eq:Tryz.prog.stopsHeard=true:=by kernel_rfl
end Go.Proofs.YtclmbbofpaecaaaGreatDoor
end
