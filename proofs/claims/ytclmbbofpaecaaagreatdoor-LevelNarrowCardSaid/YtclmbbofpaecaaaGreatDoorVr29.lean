/- Part 29 of the proof. -/
import Derived.Test.YtclmbbofpaecaaaGreatDoorVr26
import Derived.Test.YtclmbbofpaecaaaGreatDoorVr27
import Derived.Test.YtclmbbofpaecaaaGreatDoorVr28
import Derived.Test.YtclmbbofpaecaaaGreatDoorVr21
import Derived.Test.YtclmbbofpaecaaaGreatDoorVr22
import Derived.Test.YtclmbbofpaecaaaGreatDoorVr19
import Derived.Test.YtclmbbofpaecaaaGreatDoorVr20
import Derived.Test.YtclmbbofpaecaaaGreatDoorVr24
set_option linter.all false
set_option linter.unusedVariables false
set_option linter.unusedSimpArgs false
set_option linter.unusedSectionVars false
open Bool renaming and_self → zJ, and_eq_true → zT, not_true → zV, not_false → qD, not_eq_true' → yO
open Int renaming toNat_natCast → qG
open List renaming getElem?_eq_getElem → zF, getD_eq_getElem?_getD → zG, set_cons_succ → zH, set_cons_zero → zI, all_cons → zL, all_nil → zN, length_cons → zW, getElem_mem → qA, length_nil → qF, getElem?_map → qK, mem_singleton → yQ
open Nat renaming reduceLeDiff → zA, reduceEqDiff → zB, reduceAdd → zC, reduceBEq → zD, le_of_ble_eq_true → zE
open Option renaming map_some → zX, bind_some → qR
section
set_option maxRecDepth 100000
set_option maxHeartbeats 16000000
namespace Go.Av.Lx
open Go Go.Av Go.Av.Tb Go.Av.Fx Go.Proofs
open Go.Lv (Sight Survey Sw Sv SightOk Leg Tun Try Stp withS)
theorem ex_Ring:RingA surT=.tuple [stpsA [⟨0,false⟩,⟨1,false⟩,⟨2,false⟩,⟨3,true⟩],.int .i64 0]:=by
 unfold RingA
 rw [ex_ok,if_pos rfl,ex_poss,if_neg (by decide),ex_ring]
theorem ex_read:readA exB=.tuple [surA surX,.int .i64 0]:=by
 unfold readA
 rw [if_pos (by decide),ex_parsed]
 simp only [ex_xok,if_true]
theorem zBe:PC Tryz.prog 24 [] (.pure (.bool true)):=by
 refine PC.of_empty (AC.run (E_ok 223) mix Tryz.func24 m24 rfl rfl rfl (zE rfl) ?_) rfl rfl
 have oS:okL surS.sights.length:=by decide
 have oT:okL surT.sights.length:=by decide
 have oU:okL surU.sights.length:=by decide
 have q1:=Bounds_pc surS oS 0 2
 rw [ex_bounds] at q1
 have q2:=Heights_pc surS oS
 rw [ex_heights] at q2
 have q3:=Ring_pc surT oT
 rw [ex_Ring] at q3
 have q4:=Least_pc surT oT
 rw [ex_least] at q4
 have q5:=Falls_pc surS oS ⟨1,2,2⟩ 2 3
 rw [ex_falls] at q5
 have q6:=Carries_pc surS oS [⟨1,2,2⟩,⟨2,1,1⟩] (by decide) 0 3
 rw [ex_carries] at q6
 have q7:=Meets_pc surS oS ⟨3,0,5,3,1⟩
 rw [ex_meets] at q7
 have q8:=Drives_pc surS oS ⟨3,0,5,3,1⟩
 rw [ex_drives] at q8
 have q9:=Takes_pc surS oS 0 2 [⟨0,2,2⟩,⟨1,2,0⟩] (by decide)
 rw [ex_takes] at q9
 have q10:=Drops_pc surU oU
 rw [ex_drops] at q10
 have q11:=Blames_pc surU oU
 rw [ex_blames] at q11
 have q12:=Read_pc exB (by decide)
 rw [ex_read] at q12
 have q13:=rPrint_pc surX (small_plain (parsed_small ex_parsed) (by decide))
 rw [ex_text] at q13
 have b1:buildA T 61 [(0,.int .i64 1),(1,.int .i64 2),(2,.int .i64 2)]=some (.agg (legC ⟨1,2,2⟩)):=rfl
 have b2:buildA T 61 [(0,.int .i64 2),(1,.int .i64 1),(2,.int .i64 1)]=some (.agg (legC ⟨2,1,1⟩)):=rfl
 have b3:zAe T 54 2 [(0,.agg (legC ⟨1,2,2⟩)),(1,.agg (legC ⟨2,1,1⟩))]=some (.slice (legsC [⟨1,2,2⟩,⟨2,1,1⟩]) [(⟨1,2,2⟩:Leg),⟨2,1,1⟩].length .exact):=rfl
 have b4:buildA T 68 [(0,.int .i64 3),(1,.int .i64 0),(2,.int .i64 5),(3,.int .i64 3),(4,.int .i64 1)]=some (.agg (tunC ⟨3,0,5,3,1⟩)):=rfl
 have b5:buildA T 95 [(0,.int .i64 0),(1,.int .i64 2),(2,.int .i64 2)]=some (.agg (tryC ⟨0,2,2⟩)):=rfl
 have b6:buildA T 95 [(0,.int .i64 1),(1,.int .i64 2)]=some (.agg (tryC ⟨1,2,0⟩)):=rfl
 have b7:zAe T 76 2 [(0,.agg (tryC ⟨0,2,2⟩)),(1,.agg (tryC ⟨1,2,0⟩))]=some (.slice (triesC [⟨0,2,2⟩,⟨1,2,0⟩]) [(⟨0,2,2⟩:Try),⟨1,2,0⟩].length .exact):=rfl
 have b8:buildA T 28 [(0,.int .i64 5),(1,.int .i64 9)]=some (.agg [.int .i64 5,.int .i64 9]):=rfl
 have b9:buildA T 28 [(0,.int .i64 (-7)),(1,.int .i64 7)]=some (.agg [.int .i64 (-7),.int .i64 7]):=rfl
 have b10:buildA T 49 [(0,.int .i64 7),(1,.int .i64 4)]=some (.agg [.int .i64 7,.int .i64 4]):=rfl
 have b11:∀ n,buildA T 127 [(0,.int .i64 n)]=some (.agg (stpC ⟨n,false⟩)):=fun n=>rfl
 have b12:∀ n,buildA T 127 [(0,.int .i64 n),(1,.bool true)]=some (.agg (stpC ⟨n,true⟩)):=fun n=>rfl
 have b13:zAe T 117 4 [(0,.agg (stpC ⟨0,false⟩)),(1,.agg (stpC ⟨1,false⟩)),(2,.agg (stpC ⟨2,false⟩)),(3,.agg (stpC ⟨3,true⟩))]=some (.slice (stpsC [⟨0,false⟩,⟨1,false⟩,⟨2,false⟩,⟨3,true⟩]) [(⟨0,false⟩:Stp),⟨1,false⟩,⟨2,false⟩,⟨3,true⟩].length .exact):=rfl
 have b14:∀ a b c d:Int,zAe T 32 4 [(0,.int .i64 a),(1,.int .i64 b),(2,.int .i64 c),(3,.int .i64 d)]=some (.slice (ints [a,b,c,d]) [a,b,c,d].length .exact):=fun a b c d=>rfl
 have b15:zAe T 32 3 [(0,.int .i64 1),(1,.int .i64 2),(2,.int .i64 3)]=some (.slice (ints [1,2,3]) [(1:Int),2,3].length .exact):=rfl
 have b16:zAe T 32 1 [(0,.int .i64 1)]=some (.slice (ints [1]) [(1:Int)].length .exact):=rfl
 have n1:binA T .neq 28 (.agg [.int .i64 5,.int .i64 9]) (.agg [.int .i64 5,.int .i64 9])=some (.bool false):=rfl
 have n2:binA T .neq 28 (.agg [.int .i64 (-7),.int .i64 7]) (.agg [.int .i64 (-7),.int .i64 7])=some (.bool false):=rfl
 have n3:binA T .neq 49 (.agg [.int .i64 7,.int .i64 4]) (.agg [.int .i64 7,.int .i64 4])=some (.bool false):=rfl
 have z0:¬ ((0:Int)≠0):=by decide
 have z1:¬ ((1:Int)≠1):=by decide
 have z2:¬ ((2:Int)≠2):=by decide
 have z3:¬ ((3:Int)≠3):=by decide
 have z7:¬ ((7:Int)≠7):=by decide
 have y1:decide ((1:Int)=1)=true:=rfl
 have y2:decide ((2:Int)=2)=true:=rfl
 have z4:binA T .eql 9 (.str exB) (.str ⟨#[115,117,114,118,101,121,32,50,10,115,105,103,104,116,32,48,32,49,32,52,32,48,10,101,110,100,32,48,49,50,10]⟩)=some (.bool true):=(show binA T .eql 9 (.str exB) (.str exB)=some (.bool true) by rw [eqS,decide_eq_true rfl])
 simp only [go_sem,zB,zD,zC,reduceIte,reduceCtorEq,zA]
 refine cp n81 S_pc (SubL.refl _) ?_
 try simp only [go_sem,zB,zD,zC,reduceIte,reduceCtorEq,zA]
 refine cp n25 q1 (SubL.refl _) ?_
 simp only [go_sem,zAc,frA,zAd,AV.cells,AV.one,zL,zN,zJ,splice,zI,zH,and_self,zW,qF,zB,zD,zC,reduceIte,reduceCtorEq,zA]
 refine cp n81 S_pc (SubL.refl _) ?_
 try simp only [go_sem,zB,zD,zC,reduceIte,reduceCtorEq,zA]
 refine cp n26 q2 (SubL.refl _) ?_
 simp only [go_sem,zAc,frA,zAd,AV.cells,AV.one,zL,zN,zJ,splice,zI,zH,and_self,zW,qF,zB,zD,zC,reduceIte,reduceCtorEq,zA]
 refine cp n82 T_pc (SubL.refl _) ?_
 try simp only [go_sem,zB,zD,zC,reduceIte,reduceCtorEq,zA]
 refine cp n72 q3 (SubL.refl _) ?_
 simp only [go_sem,zAc,frA,zAd,AV.cells,AV.one,zL,zN,zJ,splice,zI,zH,and_self,zW,qF,zB,zD,zC,reduceIte,reduceCtorEq,zA]
 refine cp n82 T_pc (SubL.refl _) ?_
 try simp only [go_sem,zB,zD,zC,reduceIte,reduceCtorEq,zA]
 refine cp n32 q4 (SubL.refl _) ?_
 simp only [go_sem,zAc,frA,zAd,AV.cells,AV.one,zL,zN,zJ,splice,zI,zH,and_self,zW,qF,zB,zD,zC,reduceIte,reduceCtorEq,zA]
 refine cp n81 S_pc (SubL.refl _) ?_
 simp only [go_sem,b1,b2,b3,b4,b5,b6,b7,zB,zD,zC,reduceIte,reduceCtorEq,zA]
 refine cp n39 q5 (SubL.refl _) ?_
 simp only [go_sem,zAc,frA,zAd,AV.cells,AV.one,zL,zN,zJ,splice,zI,zH,and_self,zW,qF,zB,zD,zC,reduceIte,reduceCtorEq,zA]
 refine cp n81 S_pc (SubL.refl _) ?_
 simp only [go_sem,b1,b2,b3,b4,b5,b6,b7,zB,zD,zC,reduceIte,reduceCtorEq,zA]
 refine cp n35 q6 (SubL.cons (Sub.refl _) (SubL.cons (Sub.unk _ _ _) (SubL.refl _))) ?_
 simp only [go_sem,zAc,frA,zAd,AV.cells,AV.one,zL,zN,zJ,splice,zI,zH,and_self,zW,qF,zB,zD,zC,reduceIte,reduceCtorEq,zA]
 refine cp n81 S_pc (SubL.refl _) ?_
 simp only [go_sem,b1,b2,b3,b4,b5,b6,b7,zB,zD,zC,reduceIte,reduceCtorEq,zA]
 refine cp n42 q7 (SubL.refl _) ?_
 simp only [go_sem,zAc,frA,zAd,AV.cells,AV.one,zL,zN,zJ,splice,zI,zH,and_self,zW,qF,zB,zD,zC,reduceIte,reduceCtorEq,zA]
 refine cp n81 S_pc (SubL.refl _) ?_
 simp only [go_sem,b1,b2,b3,b4,b5,b6,b7,zB,zD,zC,reduceIte,reduceCtorEq,zA]
 refine cp n43 q8 (SubL.refl _) ?_
 simp only [go_sem,zAc,frA,zAd,AV.cells,AV.one,zL,zN,zJ,splice,zI,zH,and_self,zW,qF,zB,zD,zC,reduceIte,reduceCtorEq,zA]
 refine cp n81 S_pc (SubL.refl _) ?_
 simp only [go_sem,b1,b2,b3,b4,b5,b6,b7,zB,zD,zC,reduceIte,reduceCtorEq,zA]
 refine cp n47 q9 (SubL.cons (Sub.refl _) (SubL.cons (Sub.refl _) (SubL.cons (Sub.refl _) (SubL.cons (Sub.unk _ _ _) (SubL.refl _))))) ?_
 simp only [go_sem,zAc,frA,zAd,AV.cells,AV.one,zL,zN,zJ,splice,zI,zH,and_self,zW,qF,zB,zD,zC,reduceIte,reduceCtorEq,zA]
 refine cp n83 U_pc (SubL.refl _) ?_
 try simp only [go_sem,zB,zD,zC,reduceIte,reduceCtorEq,zA]
 refine cp n50 q10 (SubL.refl _) ?_
 simp only [go_sem,zAc,frA,zAd,AV.cells,AV.one,zL,zN,zJ,splice,zI,zH,and_self,zW,qF,zB,zD,zC,reduceIte,reduceCtorEq,zA]
 refine cp n83 U_pc (SubL.refl _) ?_
 try simp only [go_sem,zB,zD,zC,reduceIte,reduceCtorEq,zA]
 refine cp n51 q11 (SubL.refl _) ?_
 simp only [go_sem,zAc,zB,zD,zC,reduceIte,reduceCtorEq,zA]
 refine cp n60 q12 (SubL.refl _) ?_
 simp only [go_sem,zAc,z0,decide_false,zAd,AV.cells,AV.one,zL,zN,zJ,splice,zI,zH,and_self,zW,qF,b8,n1,b14,zB,zD,zC,reduceIte,reduceCtorEq,zA]
 refine cp n29 (Same_pc [0,9,5,13] [0,9,5,13] (by decide) (by decide)) (SubL.cons (Sub.refl _) (SubL.cons (Sub.unk _ _ _) (SubL.refl _))) ?_
 rw [decide_eq_true rfl]
 simp only [go_sem,zAh,zV,b14,zB,zD,zC,reduceIte,reduceCtorEq,zA]
 refine cp n29 (Same_pc [0,11,9,17] [0,11,9,17] (by decide) (by decide)) (SubL.cons (Sub.refl _) (SubL.cons (Sub.unk _ _ _) (SubL.refl _))) ?_
 rw [decide_eq_true rfl]
 simp only [go_sem,zAh,zV,b11,b12,b13,zB,zD,zC,reduceIte,reduceCtorEq,zA]
 refine cp n76 (SameSteps_pc [⟨0,false⟩,⟨1,false⟩,⟨2,false⟩,⟨3,true⟩] [⟨0,false⟩,⟨1,false⟩,⟨2,false⟩,⟨3,true⟩] (by decide) (by decide)) (SubL.cons (Sub.refl _) (SubL.cons (Sub.unk _ _ _) (SubL.refl _))) ?_
 rw [decide_eq_true rfl]
 simp only [go_sem,zAh,zV,b10,n3,b14,zB,zD,zC,reduceIte,reduceCtorEq,zA]
 refine cp n29 (Same_pc [0,47,38,73] [0,47,38,73] (by decide) (by decide)) (SubL.cons (Sub.refl _) (SubL.cons (Sub.unk _ _ _) (SubL.refl _))) ?_
 rw [decide_eq_true rfl]
 simp only [go_sem,zAh,zV,z1,z2,z3,z7,decide_false,decide_true,b9,n2,b16,zB,zD,zC,reduceIte,reduceCtorEq,zA]
 refine cp n29 (Same_pc [1] [1] (by decide) (by decide)) (SubL.cons (Sub.refl _) (SubL.cons (Sub.unk _ _ _) (SubL.refl _))) ?_
 rw [decide_eq_true rfl]
 simp only [go_sem,b15,zB,zD,zC,reduceIte,reduceCtorEq,zA]
 refine cp n29 (Same_pc [1,2,3] [1,2,3] (by decide) (by decide)) (SubL.cons (Sub.refl _) (SubL.cons (Sub.unk _ _ _) (SubL.refl _))) ?_
 rw [decide_eq_true rfl]
 simp only [go_sem,zB,zD,zC,reduceIte,reduceCtorEq,zA]
 refine cp n61 q13 (SubL.refl _) ?_
 simp only [go_sem,z4,Tryz.f24,zB,zD,zC,reduceIte,reduceCtorEq,zA]
end Go.Av.Lx
end
section
set_option maxHeartbeats 8000000
namespace Go.Av.Lx
open Go Go.Av Go.Av.Tb Go.Av.Fx Go.Proofs
open Go.Lv (Sight Survey Sw Sv SightOk errF)

end Go.Av.Lx
end
section
set_option maxHeartbeats 8000000
namespace Go.Av.Lx
open Go Go.Av Go.Av.Tb Go.Av.Fx Go.Proofs
open Go.Lv (Sight Survey Sw Sv SightOk possS)

end Go.Av.Lx
end
section
set_option maxHeartbeats 8000000
namespace Go.Av.Lx
open Go Go.Av Go.Av.Tb Go.Av.Fx Go.Proofs
open Go.Lv (Sight Survey Sw Sv SightOk possS)
open Go.Fw (Sq ent Bd Mat)

end Go.Av.Lx
end
section
set_option maxHeartbeats 8000000
namespace Go.Av.Lx
open Go Go.Av Go.Av.Tb Go.Av.Fx Go.Proofs
open Go.Lv (Sight Survey Sw Sv SightOk Leg LegOk RangeOk Tun TunOk Try TryOk Stp fallW meetL meetH bestAt driveF wideI)
open Go.Fw (Sq ent Bd Mat)

set_option maxHeartbeats 8000000
theorem zFb {s:Survey} (h:2≤s.stations∧s.stations≤8) {l:List Try}:triesB s l=true↔(1≤l.length∧l.length≤4) ∧ ∀ x∈l,TryOk s.stations x:=by
  unfold triesB
  rw [zT,inB_iff]
  constructor
  · rintro ⟨h1,h2⟩
    refine ⟨by omega,fun x hx=>(try_iff h).1 ?_⟩
    cases hb:badTry s x
    · rfl
    · rw [yO,List.any_eq_false] at h2
      exact absurd hb (h2 x hx)
  · rintro ⟨h1,h2⟩
    refine ⟨by omega, ?_⟩
    rw [yO,List.any_eq_false]
    intro x hx hb
    rw [(try_iff h).2 (h2 x hx)] at hb
    cases hb
end Go.Av.Lx
end
section
set_option maxHeartbeats 8000000
namespace Go.Av.Lx
open Go Go.Av Go.Av.Tb Go.Av.Fx Go.Proofs
open Go.Lv (Sight Survey Sw Sv SightOk Leg LegOk RangeOk Tun TunOk Try TryOk Stp fallW carryW)
open Go.Fw (Sq ent Bd Mat)

end Go.Av.Lx
end
section
set_option maxHeartbeats 8000000
namespace Go.Av.Lx
open Go Go.Av Go.Av.Tb Go.Av.Fx Go.Proofs
open Go.Lv (Sight Survey Sw Sv SightOk bas)
open Go.Fw (Sq ent Bd Mat)
theorem ints_get {l:List Int} {i:Nat} (h:i<l.length):(ints l)[i]? = some (.int .i64 (l.getD i 0)):=by
 unfold ints
 rw [qK,zG,zF h]
 rfl
end Go.Av.Lx
end
section
set_option maxHeartbeats 8000000
namespace Go.Av.Lx
open Go Go.Av Go.Av.Tb Go.Av.Fx Go.Proofs
open Go.Lv (Sight Survey Sw Sv SightOk Leg LegOk RangeOk Tun TunOk Try TryOk Stp fallW carryW)
open Go.Fw (Sq ent Bd Mat)

end Go.Av.Lx
end
section
set_option maxHeartbeats 8000000
namespace Go.Av.Lx
open Go Go.Av Go.Av.Tb Go.Av.Fx Go.Proofs
open Go.Lv (Sight Survey Sw Sv SightOk withS possS)
open Go.Fw (Sq ent Bd Mat)
theorem with_sv {s:Survey} (h:Sv s) {x:Sight} (hx:SightOk s.stations x) (hm:s.sights.length<14):Sv (withS s x):=⟨Lv.with_sw h.toSw hx,by unfold withS;simp;omega⟩
theorem boundsA_eq (s:Survey) (hv:Sv s) (i j:Int) (hi:0≤i∧i<s.stations) (hj:0≤j∧j<s.stations):boundsA s i j=(match Lv.knownV s with
  | some V=>if ent V i.toNat j.toNat<far then .tuple [spanA V i.toNat j.toNat,.int .i64 0] else .tuple [.agg [.int .i64 0,.int .i64 0],.int .i64 5]
  | none=>.tuple [.agg [.int .i64 0,.int .i64 0],.int .i64 7]):=by
 unfold boundsA
 rw [zCc.2 hv,(zAw hv.st).2 hi,(zAw hv.st).2 hj]
 cases Lv.knownV s <;> rfl
theorem span_eq {s:Survey} (h:Sw s) {V:Mat} (hV:Lv.knownV s=some V) {i j:Nat} (hi:i<Lv.num s) (hj:j<Lv.num s) (hf:ent V j i<far):spanA V i j=.agg [.int .i64 (-ent V j i),.int .i64 (ent V i j)]:=by
 have b:=Lv.known_bd h hV hj hi hf
 unfold spanA
 rw [wrap64 (by omega),show 0 - ent V j i = -ent V j i by omega]
end Go.Av.Lx
end
section
set_option maxHeartbeats 8000000
namespace Go.Av.Lx
open Go Go.Av Go.Av.Tb Go.Av.Fx Go.Proofs
open Go.Lv (Sight Survey Sw Sv SightOk withS possS Try TryOk worstW bestAt tried)
open Go.Fw (Sq ent Bd Mat)
theorem slice_try (l:List Try) (o:Nat) (ho:o<l.length):sliceA T 76 (triesA l) (some (.int .i64 (o:Nat))) (some (.int .i64 ((o:Int)+1))) none=some (triesA [l[o]]):=by
 have e:∀ (cs:List AV) (n:Nat) (x y:AV),sliceA T 76 (.slice cs n .unk) (some x) (some y) none=(if cs.length=n * 3 then (bnd (some y) n n).bind fun h=>(bnd (some x) 0 h).map fun l=>.slice ((cs.drop (l * 3)).take ((h - l) * 3)) (h - l) .unk else none):=fun _ _ _ _=>rfl
 rw [e,if_pos (by rw [zDt])]
 have b1:bnd (some (.int .i64 ((o:Int)+1))) l.length l.length=some (o+1):=by
  unfold bnd
  simp only []
  rw [if_pos (by omega)]
  congr 1
 have b2:bnd (some (.int .i64 (o:Nat))) 0 (o+1)=some o:=by
  unfold bnd
  simp only []
  rw [if_pos (by omega)]
  congr 1
 rw [b1]
 simp only [qR]
 rw [b2]
 simp only [zX]
 rw [show o+1 - o=1 by omega,Nat.one_mul,zEu l o ho]
 show some (AV.slice (tryC l[o]) 1 .unk)=some (AV.slice ([l[o]].flatMap tryC) 1 .unk)
 simp
theorem narrow_t12 (s:Survey) (hl:okL s.sights.length) (hv:Sv s) {V:Mat} (hV:Lv.knownV s=some V) (a b:Nat) (ha:a<Lv.num s) (hb:b<Lv.num s) (hf:ent V a b<far) (l:List Try) (hll:1≤l.length∧l.length≤4) (hok:∀ x∈l,TryOk s.stations x) (hm:s.sights.length<14) (rise:Int) (hr:-1000≤rise∧rise≤1000) (at':Nat) (hat:at'<l.length) (v:AV) (Q:AQ) (hQ:∀ X,Q .ret [(12,.bool true)] ⟨X,0,[]⟩) :
  WC (E 236) (.seq (.draw [1,2,14,16,21] 9 [] r11_12) (.seq (.region [1,2,14,16,21,22,23] r11_13) (.seq (.seq (.region [1,2,14,16,21,22,197] r11_14) (.cond (.tmp 197) (.seq (.region [12] r11_15) .ret) .skip)) (.seq (.seq (.region [1,2,14,16,21,199] r11_16) (.cond (.tmp 199) (.seq (.region [12] r11_17) .ret) .skip)) (.seq (.region [14,16,24,25] r11_18) (.seq (.region [12] r11_19) .ret)))))) Q [(1,.int .i64 (a:Nat)),(2,.int .i64 (b:Nat)),(3,triesA l),(4,.int .i64 rise),(6,.ref 0 0),(13,.int .i64 (at':Nat)),(14,.int .i64 (worstW V l[at'] a b)),(16,.ref 1 0),(182,v)] ⟨[some (.cells (surC s)),some (.cells [.int .i64 (-ent V b a),.int .i64 (ent V a b)])],0,[]⟩:=by
 have hc2:∀ a b:AV,AV.cells (.agg [a,b])=[a,b]:=fun _ _=>rfl
 have oI:∀ n:Int,AV.one (.int .i64 n)=true:=fun _=>rfl
 have oS:∀ (l:List AV) (n:Nat) (u:Tail),AV.one (.slice l n u)=true:=fun _ _ _=>rfl
 have z0:decide ((0:Int)=0)=true:=rfl
 have y0:¬ ((0:Int)≠0):=by decide
 have hst:s.stations=(Lv.num s:Int):=by have:=hv.st;show _=((s.stations.toNat:Nat):Int);omega
 have hxo:=hok _ (qA hat)
 have k2:0≤(at':Int)∧(at':Int)<l.length:=by omega
 have k3:at' * 3+3≤(triesC l).length:=by rw [zDt];omega
 have k5:=zEu l at' hat
 generalize l[at']=x at *
 have hTr:=Tried_pc x rise
 have hW:=With_pc s (by omega) (tried x rise)
 have hsv:=with_sv hv (Lv.tried_ok hxo hr) hm
 have hP:=Possible_pc (withS s (tried x rise)) (by have:=hsv.many;unfold okL;omega)
 have eP:possA (withS s (tried x rise))=.tuple [.bool (possS (withS s (tried x rise))),.int .i64 0]:=by unfold possA;rw [if_pos (zCc.2 hsv)]
 rw [eP] at hP
 have hB:=Bounds_pc (withS s (tried x rise)) (by have:=hsv.many;unfold okL;omega) a b
 have est:(withS s (tried x rise)).stations=s.stations:=rfl
 rw [boundsA_eq _ hsv _ _ (by rw [est];omega) (by rw [est];omega)] at hB
 simp only [qG] at hB
 obtain ⟨D,hD⟩:∃ D,MC.draw [1,2,14,16,21] 9 [] r11_12=D:=⟨_,rfl⟩
 have hd12:∀ Q':AQ,Q' .normal [(1,.int .i64 (a:Nat)),(2,.int .i64 (b:Nat)),(14,.int .i64 (worstW V x a b)),(16,.ref 1 0),(21,.ref 2 0)] ⟨[some (.cells (surC s)),some (.cells [.int .i64 (-ent V b a),.int .i64 (ent V a b)]),some (.cells (surC (withS s (tried x rise))))],0,[]⟩→WC (E 236) D Q' [(1,.int .i64 (a:Nat)),(2,.int .i64 (b:Nat)),(3,triesA l),(4,.int .i64 rise),(6,.ref 0 0),(13,.int .i64 (at':Nat)),(14,.int .i64 (worstW V x a b)),(16,.ref 1 0),(182,v)] ⟨[some (.cells (surC s)),some (.cells [.int .i64 (-ent V b a),.int .i64 (ent V a b)])],0,[]⟩:=fun Q' h=>by
  subst hD
  simp only [go_sem,k2,k3,k5,zAg,and_self,zB,zD,zC,reduceIte,reduceCtorEq,zA]
  refine qp n58 hTr (SubL.refl _) ?_
  simp only [go_sem,zB,zD,zC,reduceIte,reduceCtorEq,zA]
  refine qp n55 hW (SubL.refl _) ?_
  simp only [go_sem,zAd,hc2,oI,oS,zL,zN,zJ,splice,zI,zH,and_self,zW,qF,zB,zD,zC,reduceIte,reduceCtorEq,zA]
  exact h
 have f2:=Lv.known_sym hv.toSw hV ha hb hf
 rw [hD]
 cases hp:possS (withS s (tried x rise))
 ·rw [hp] at hP
  generalize withS s (tried x rise)=s' at *
  simp only [go_sem,zB,zD,zC,reduceIte,reduceCtorEq,zA]
  refine hd12 _ ?_
  simp only [go_sem,zB,zD,zC,reduceIte,reduceCtorEq,zA]
  refine cp n57 hP (SubL.refl _) ?_
  simp only [go_sem,zAc,y0,decide_false,zAh,qD,zB,zD,zC,reduceIte,reduceCtorEq,zA]
  refine cp n24 zBe (SubL.refl _) ?_
  simp only [go_sem,zB,zD,zC,reduceIte,reduceCtorEq,zA]
  exact hQ _
 ·rw [hp] at hP
  obtain ⟨V',hV'⟩:∃ V',Lv.knownV (withS s (tried x rise))=some V':=Option.isSome_iff_exists.1 hp
  have hxs:=Lv.tried_ok hxo hr
  obtain ⟨g1,g2⟩:=Lv.with_less hv.toSw hxs hV hV' ha hb hf
  obtain ⟨g3,g4⟩:=Lv.with_less hv.toSw hxs hV hV' hb ha f2
  have hle:=Lv.narrow_le hv.toSw hxo hV hr hV' ha hb hf
  rw [hV'] at hB
  simp only [] at hB
  have g1':ent V' a b<far:=g1
  rw [if_pos g1',span_eq (Lv.with_sw hv.toSw hxs) hV' (i:=a) (j:=b) ha hb g3] at hB
  have bd1:=Lv.known_bd (Lv.with_sw hv.toSw hxs) hV' (i:=a) (j:=b) ha hb g1
  have bd2:=Lv.known_bd (Lv.with_sw hv.toSw hxs) hV' (i:=b) (j:=a) hb ha g3
  generalize worstW V x a b=n at *
  generalize ent V' a b=h' at *
  generalize ent V' b a=l' at *
  generalize ent V a b=hi at *
  generalize ent V b a=lo at *
  have c1:-l' ≥ -lo:=by omega
  have c2:h'≤hi:=g2
  have w:IntKind.i64.wrap (h' - -l')=h'+l':=by rw [wrap64 (by omega)];omega
  have c3:h'+l'≤n:=hle
  generalize withS s (tried x rise)=s' at *
  simp only [go_sem,zB,zD,zC,reduceIte,reduceCtorEq,zA]
  refine hd12 _ ?_
  simp only [go_sem,zB,zD,zC,reduceIte,reduceCtorEq,zA]
  refine cp n57 hP (SubL.refl _) ?_
  simp only [go_sem,zAc,y0,decide_false,zAh,zV,zB,zD,zC,reduceIte,reduceCtorEq,zA]
  refine cp n25 hB (SubL.refl _) ?_
  simp only [go_sem,zAc,zAd,hc2,oI,oS,zL,zN,zJ,splice,zI,zH,and_self,zW,qF,z0,decide_true,c1,c2,w,c3,zB,zD,zC,reduceIte,reduceCtorEq,zA]
  refine cp n24 zBe (SubL.refl _) ?_
  simp only [go_sem,zB,zD,zC,reduceIte,reduceCtorEq,zA]
  exact hQ _
theorem takes_joined (s:Survey) (hl:okL s.sights.length) (hv:Sv s) {V:Mat} (hV:Lv.knownV s=some V) (a b:Nat) (ha:a<Lv.num s) (hb:b<Lv.num s) (hf:ent V a b<far) (l:List Try) (hll:1≤l.length∧l.length≤4) (hok:∀ x∈l,TryOk s.stations x):takesA s a b l=.tuple [.int .i64 (bestAt (tryW V l a b) (l.length - 1):Nat),.int .i64 (tryW V l a b (bestAt (tryW V l a b) (l.length - 1))),.int .i64 0]:=by
 have hst:s.stations=(Lv.num s:Int):=by have:=hv.st;show _=((s.stations.toNat:Nat):Int);omega
 unfold takesA betwA
 rw [zCc.2 hv,(zFb hv.st).2 ⟨hll,hok⟩,(zAw hv.st).2 (by omega),(zAw hv.st).2 (by omega),hV]
 simp only [zJ,if_true,qG]
 rw [if_pos hf]
 rfl
set_option maxRecDepth 10000 in
theorem narrow_t9 (s:Survey) (hl:okL s.sights.length) (hv:Sv s) {V:Mat} (hV:Lv.knownV s=some V) (a b:Nat) (ha:a<Lv.num s) (hb:b<Lv.num s) (hf:ent V a b<far) (l:List Try) (hll:1≤l.length∧l.length≤4) (hok:∀ x∈l,TryOk s.stations x) (hm:s.sights.length<14) (rise:Int) (hr:-1000≤rise∧rise≤1000) (o:Nat) (ho:o<l.length) (v:AV) (Q:AQ) (hQ:∀ X,Q .ret [(12,.bool true)] ⟨X,0,[]⟩) :
  WC (E 236) (.seq (.draw [1,2,3,4,5,6,13,14,16,18,19,20] 15 [] r11_9) (.seq (.seq (.region [1,2,3,4,6,13,14,16,182] r11_10) (.cond (.tmp 182) (.seq (.region [12] r11_11) .ret) .skip)) (.seq (.draw [1,2,14,16,21] 9 [] r11_12) (.seq (.region [1,2,14,16,21,22,23] r11_13) (.seq (.seq (.region [1,2,14,16,21,22,197] r11_14) (.cond (.tmp 197) (.seq (.region [12] r11_15) .ret) .skip)) (.seq (.seq (.region [1,2,14,16,21,199] r11_16) (.cond (.tmp 199) (.seq (.region [12] r11_17) .ret) .skip)) (.seq (.region [14,16,24,25] r11_18) (.seq (.region [12] r11_19) .ret)))))))) Q [(1,.int .i64 (a:Nat)),(2,.int .i64 (b:Nat)),(3,triesA l),(4,.int .i64 rise),(5,.int .i64 (o:Nat)),(6,.ref 0 0),(13,.int .i64 (bestAt (tryW V l a b) (l.length - 1):Nat)),(14,.int .i64 (tryW V l a b (bestAt (tryW V l a b) (l.length - 1)))),(16,.ref 1 0),(114,v)] ⟨[some (.cells (surC s)),some (.cells [.int .i64 (-ent V b a),.int .i64 (ent V a b)])],0,[]⟩:=by
 have y0:¬ ((0:Int)≠0):=by decide
 obtain ⟨TT,hT⟩:∃ TT,MC.seq (.draw [1,2,14,16,21] 9 [] r11_12) (.seq (.region [1,2,14,16,21,22,23] r11_13) (.seq (.seq (.region [1,2,14,16,21,22,197] r11_14) (.cond (.tmp 197) (.seq (.region [12] r11_15) .ret) .skip)) (.seq (.seq (.region [1,2,14,16,21,199] r11_16) (.cond (.tmp 199) (.seq (.region [12] r11_17) .ret) .skip)) (.seq (.region [14,16,24,25] r11_18) (.seq (.region [12] r11_19) .ret)))))=TT:=⟨_,rfl⟩
 rw [hT]
 have f2:=Lv.known_sym hv.toSw hV ha hb hf
 have bd1:=Lv.known_bd hv.toSw hV ha hb hf
 have bd2:=Lv.known_bd hv.toSw hV hb ha f2
 have hbest:=Lv.best_ok (tryW V l a b) (l.length - 1)
 have hbo:=hbest.2 o (by omega)
 generalize hat:bestAt (tryW V l a b) (l.length - 1)=at' at *
 have hatl:at'<l.length:=by have:=hbest.1;omega
 have et:∀ k (h:k<l.length),tryW V l a b k=worstW V l[k] a b:=fun k h=>by unfold tryW;rw [zG,zF h];rfl
 have hSl:=slice_try l o ho
 have hT1:=Takes_pc s hl a b [l[o]] (by unfold okL;simp)
 have e1:=takes_joined s hl hv hV a b ha hb hf [l[o]] (by simp) (fun x hx=>by rw [yQ] at hx;subst hx;exact hok _ (qA ho))
 have e2:bestAt (tryW V [l[o]] a b) ([l[o]].length - 1)=0:=rfl
 have e3:tryW V [l[o]] a b 0=worstW V l[o] a b:=rfl
 rw [e1,e2,e3] at hT1
 have ht:=narrow_t12 s hl hv hV a b ha hb hf l hll hok hm rise hr at' hatl
 have hw1:=Lv.worstW_le hv.toSw (x:=l[at']) hV ha hb hf
 have hw0:=Lv.worst_pos hv.toSw (x:=l[at']) hV ha hb hf
 rw [et at' hatl]
 rw [et at' hatl,et o ho] at hbo
 generalize worstW V l[o] a b=m at *
 generalize worstW V l[at'] a b=n at *
 generalize ent V a b=hi at *
 generalize ent V b a=lo at *
 have w1:IntKind.i64.wrap ((o:Int)+1)=(o:Int)+1:=wrap64 (by omega)
 have w2:IntKind.i64.wrap (hi - -lo)=hi+lo:=by rw [wrap64 (by omega)];omega
 have c1:¬ ((at':Int)<0):=by omega
 have c2:¬ ((at':Int) ≥ l.length):=by omega
 have c3:¬ (m<n):=by omega
 have c4:¬ (-lo < -100000):=by omega
 have c5:¬ (hi > 100000):=by omega
 have c6:¬ (n<0):=by omega
 have c7:¬ (n > hi+lo):=by omega
 have z00:((0:Nat):Int)=0:=rfl
 by_cases hmn:m=n
 ·have d1:decide (m=n)=true:=decide_eq_true hmn
  have c8:¬ ((o:Int)<at'):=fun h=>by have:=hbo.2 (by omega);omega
  simp only [go_sem,w1,hSl,zB,zD,zC,reduceIte,reduceCtorEq,zA]
  refine qp n47 hT1 (SubL.refl _) ?_
  simp only [go_sem,zAc,zAa,z00,y0,c1,c2,c3,c4,c5,c6,w2,c7,d1,c8,decide_true,decide_false,zB,zD,zC,reduceIte,reduceCtorEq,zA]
  subst hT
  exact ht _ _ hQ
 ·have d1:decide (m=n)=false:=decide_eq_false hmn
  simp only [go_sem,w1,hSl,zB,zD,zC,reduceIte,reduceCtorEq,zA]
  refine qp n47 hT1 (SubL.refl _) ?_
  simp only [go_sem,zAc,zAa,z00,y0,c1,c2,c3,c4,c5,c6,w2,c7,d1,decide_true,decide_false,zB,zD,zC,reduceIte,reduceCtorEq,zA]
  subst hT
  exact ht _ _ hQ
theorem narrow_t3 (s:Survey) (hl:okL s.sights.length) (hv:Sv s) (a b:Nat) (ha:a<Lv.num s) (hb:b<Lv.num s) (l:List Try) (hll:1≤l.length∧l.length≤4) (hok:∀ x∈l,TryOk s.stations x) (hm:s.sights.length<14) (rise:Int) (hr:-1000≤rise∧rise≤1000) (o:Nat) (ho:o<l.length) (Q:AQ) (hQ:∀ X,Q .ret [(12,.bool true)] ⟨X,0,[]⟩) :
  WC (E 236) (.seq (.region [1,2,3,4,5,6,13,14,15] r11_3) (.seq (.region [1,2,3,4,5,6,13,14,15,16,17] r11_4) (.seq (.seq (.region [1,2,3,4,5,6,13,14,15,16,112] r11_5) (.cond (.tmp 112) (.seq (.region [12] r11_6) .ret) .skip)) (.seq (.seq (.region [1,2,3,4,5,6,13,14,16,114] r11_7) (.cond (.tmp 114) (.seq (.region [12] r11_8) .ret) .skip)) (.seq (.draw [1,2,3,4,5,6,13,14,16,18,19,20] 15 [] r11_9) (.seq (.seq (.region [1,2,3,4,6,13,14,16,182] r11_10) (.cond (.tmp 182) (.seq (.region [12] r11_11) .ret) .skip)) (.seq (.draw [1,2,14,16,21] 9 [] r11_12) (.seq (.region [1,2,14,16,21,22,23] r11_13) (.seq (.seq (.region [1,2,14,16,21,22,197] r11_14) (.cond (.tmp 197) (.seq (.region [12] r11_15) .ret) .skip)) (.seq (.seq (.region [1,2,14,16,21,199] r11_16) (.cond (.tmp 199) (.seq (.region [12] r11_17) .ret) .skip)) (.seq (.region [14,16,24,25] r11_18) (.seq (.region [12] r11_19) .ret)))))))))))) Q [(1,.int .i64 (a:Nat)),(2,.int .i64 (b:Nat)),(3,triesA l),(4,.int .i64 rise),(5,.int .i64 (o:Nat)),(6,.ref 0 0),(80,.bool false)] ⟨[some (.cells (surC s))],0,[]⟩:=by
 have z2:decide ((2:Int)=2)=true:=rfl
 have z7:decide ((7:Int)=7)=true:=rfl
 have z5:decide ((5:Int)=5)=true:=rfl
 have z0:decide ((0:Int)=0)=true:=rfl
 have y0:¬ ((0:Int)≠0):=by decide
 have y2:¬ ((2:Int)≠2):=by decide
 have y7:¬ ((7:Int)≠7):=by decide
 have y5:¬ ((5:Int)≠5):=by decide
 have x2:((2:Int)≠0):=by decide
 have x7:((7:Int)≠0):=by decide
 have x5:((5:Int)≠0):=by decide
 have hcZ:AV.cells zeroR=[.nilS,.nilS]:=rfl
 have o1:AV.one .nilS=true:=rfl
 have hcR:∀ V,AV.cells (rA V)=[wS (rM V),.slice ((rJ V).map bl) (rJ V).length .unk]:=fun V=>rfl
 have oR:∀ (l:List AV) (n:Nat) (u:Tail),AV.one (.slice l n u)=true:=fun _ _ _=>rfl
 have hc2:∀ a b:AV,AV.cells (.agg [a,b])=[a,b]:=fun _ _=>rfl
 have oI:∀ n:Int,AV.one (.int .i64 n)=true:=fun _=>rfl
 have oS:∀ (l:List AV) (n:Nat) (u:Tail),AV.one (.slice l n u)=true:=fun _ _ _=>rfl
 obtain ⟨TT,hT⟩:∃ TT,MC.seq (.draw [1,2,3,4,5,6,13,14,16,18,19,20] 15 [] r11_9) (.seq (.seq (.region [1,2,3,4,6,13,14,16,182] r11_10) (.cond (.tmp 182) (.seq (.region [12] r11_11) .ret) .skip)) (.seq (.draw [1,2,14,16,21] 9 [] r11_12) (.seq (.region [1,2,14,16,21,22,23] r11_13) (.seq (.seq (.region [1,2,14,16,21,22,197] r11_14) (.cond (.tmp 197) (.seq (.region [12] r11_15) .ret) .skip)) (.seq (.seq (.region [1,2,14,16,21,199] r11_16) (.cond (.tmp 199) (.seq (.region [12] r11_17) .ret) .skip)) (.seq (.region [14,16,24,25] r11_18) (.seq (.region [12] r11_19) .ret)))))))=TT:=⟨_,rfl⟩
 rw [hT]
 have hst:s.stations=(Lv.num s:Int):=by have:=hv.st;show _=((s.stations.toNat:Nat):Int);omega
 have hT3:=Takes_pc s hl a b l (by unfold okL;omega)
 have hB:=Bounds_pc s hl a b
 rw [boundsA_eq s hv _ _ (by omega) (by omega)] at hB
 simp only [qG] at hB
 have u57:decide ((5:Int)≠7)=true:=rfl
 cases hV:Lv.knownV s with
 | none =>
  simp only [hV] at hB
  have eT:takesA s a b l=.tuple [.int .i64 0,.int .i64 0,.int .i64 7]:=by
   unfold takesA betwA
   rw [zCc.2 hv,(zFb hv.st).2 ⟨hll,hok⟩,(zAw hv.st).2 (by omega),(zAw hv.st).2 (by omega),hV]
   rfl
  rw [eT] at hT3
  simp only [go_sem,zB,zD,zC,reduceIte,reduceCtorEq,zA]
  refine cp n47 hT3 (SubL.refl _) ?_
  simp only [go_sem,zAc,zB,zD,zC,reduceIte,reduceCtorEq,zA]
  refine cp n25 hB (SubL.refl _) ?_
  simp only [go_sem,zAc,zAd,hc2,oI,oS,zL,zN,zJ,splice,zI,zH,and_self,zW,qF,x7,y7,y0,decide_true,decide_false,zB,zD,zC,reduceIte,reduceCtorEq,zA]
  refine cp n24 zBe (SubL.refl _) ?_
  simp only [go_sem,zB,zD,zC,reduceIte,reduceCtorEq,zA]
  exact hQ _
 | some V =>
  simp only [hV] at hB
  by_cases hf:ent V a b<far
  ·rw [if_pos hf,span_eq hv.toSw hV ha hb (Lv.known_sym hv.toSw hV ha hb hf)] at hB
   rw [takes_joined s hl hv hV a b ha hb hf l hll hok] at hT3
   have ht:=narrow_t9 s hl hv hV a b ha hb hf l hll hok hm rise hr o ho
   generalize -ent V b a=p1 at *
   generalize ent V a b=p2 at *
   generalize tryW V l a b (bestAt (tryW V l a b) (l.length - 1))=p3 at *
   generalize bestAt (tryW V l a b) (l.length - 1)=p4 at *
   simp only [go_sem,zB,zD,zC,reduceIte,reduceCtorEq,zA]
   refine cp n47 hT3 (SubL.refl _) ?_
   simp only [go_sem,zAc,zB,zD,zC,reduceIte,reduceCtorEq,zA]
   refine cp n25 hB (SubL.refl _) ?_
   simp only [go_sem,zAc,zAd,hc2,oI,oS,zL,zN,zJ,splice,zI,zH,and_self,zW,qF,y0,decide_false,zB,zD,zC,reduceIte,reduceCtorEq,zA]
   subst hT
   exact ht _ _ hQ
  ·rw [if_neg hf] at hB
   have eT:takesA s a b l=.tuple [.int .i64 0,.int .i64 0,.int .i64 5]:=by
    unfold takesA betwA
    rw [zCc.2 hv,(zFb hv.st).2 ⟨hll,hok⟩,(zAw hv.st).2 (by omega),(zAw hv.st).2 (by omega),hV]
    simp only [zJ,if_true,qG]
    rw [if_neg hf]
    rfl
   rw [eT] at hT3
   simp only [go_sem,zB,zD,zC,reduceIte,reduceCtorEq,zA]
   refine cp n47 hT3 (SubL.refl _) ?_
   simp only [go_sem,zAc,zB,zD,zC,reduceIte,reduceCtorEq,zA]
   refine cp n25 hB (SubL.refl _) ?_
   simp only [go_sem,zAc,zAd,hc2,oI,oS,zL,zN,zJ,splice,zI,zH,and_self,zW,qF,x5,y5,u57,y0,decide_true,decide_false,zB,zD,zC,reduceIte,reduceCtorEq,zA]
   refine cp n24 zBe (SubL.refl _) ?_
   simp only [go_sem,zB,zD,zC,reduceIte,reduceCtorEq,zA]
   exact hQ _
set_option maxRecDepth 10000 in
theorem lnarrow_pc (s:Survey) (hl:okL s.sights.length) (i j:Int) (l:List Try) (hll:okL l.length) (rise other:Int):PC Tryz.prog 11 [surA s,.int .i64 i,.int .i64 j,triesA l,.int .i64 rise,.int .i64 other] (.pure (.bool true)):=by
 refine PC.of_empty (AC.run (E_ok _) mix Tryz.func11 m11 rfl rfl rfl (zE rfl) ?_) (by simp [bndL,AV.bnd]) rfl
 obtain ⟨TL,hTL⟩:∃ TL,MC.seq (.region [1,2,3,4,5,6,13,14,15] r11_3) (.seq (.region [1,2,3,4,5,6,13,14,15,16,17] r11_4) (.seq (.seq (.region [1,2,3,4,5,6,13,14,15,16,112] r11_5) (.cond (.tmp 112) (.seq (.region [12] r11_6) .ret) .skip)) (.seq (.seq (.region [1,2,3,4,5,6,13,14,16,114] r11_7) (.cond (.tmp 114) (.seq (.region [12] r11_8) .ret) .skip)) (.seq (.draw [1,2,3,4,5,6,13,14,16,18,19,20] 15 [] r11_9) (.seq (.seq (.region [1,2,3,4,6,13,14,16,182] r11_10) (.cond (.tmp 182) (.seq (.region [12] r11_11) .ret) .skip)) (.seq (.draw [1,2,14,16,21] 9 [] r11_12) (.seq (.region [1,2,14,16,21,22,23] r11_13) (.seq (.seq (.region [1,2,14,16,21,22,197] r11_14) (.cond (.tmp 197) (.seq (.region [12] r11_15) .ret) .skip)) (.seq (.seq (.region [1,2,14,16,21,199] r11_16) (.cond (.tmp 199) (.seq (.region [12] r11_17) .ret) .skip)) (.seq (.region [14,16,24,25] r11_18) (.seq (.region [12] r11_19) .ret)))))))))))=TL:=⟨_,rfl⟩
 unfold c11
 rw [hTL]
 simp only [go_sem,boxA,zB,zD,zC,reduceIte,reduceCtorEq,zA]
 refine cp n23 (short_pc s) (SubL.refl _) ?_
 by_cases hsh:s.sights.length≤17
 rotate_left
 ·rw [decide_eq_false hsh]
  simp only [go_sem,zAh,qD,zB,zD,zC,reduceIte,reduceCtorEq,zA]
  refine cp n24 zBe (SubL.refl _) ?_
  simp only [go_sem,Tryz.f11,zB,zD,zC,reduceIte,reduceCtorEq,zA]
 rw [decide_eq_true hsh]
 by_cases hg6:(l.length:Int) > 6
 ·simp only [go_sem,zAh,zV,zAa,hg6,decide_true,decide_false,zB,zD,zC,reduceIte,reduceCtorEq,zA]
  refine cp n24 zBe (SubL.refl _) ?_
  simp only [go_sem,Tryz.f11,zB,zD,zC,reduceIte,reduceCtorEq,zA]
 simp only [go_sem,zAh,zV,zAa,hg6,decide_false,zB,zD,zC,reduceIte,reduceCtorEq,zA]
 refine cp n33 (rSurvey_pc s hl) (SubL.refl _) ?_
 cases hv:zAp s
 ·simp only [go_sem,zAh,qD,zB,zD,zC,reduceIte,reduceCtorEq,zA]
  refine cp n24 zBe (SubL.refl _) ?_
  simp only [go_sem,Tryz.f11,zB,zD,zC,reduceIte,reduceCtorEq,zA]
 simp only [go_sem,zAh,zV,zB,zD,zC,reduceIte,reduceCtorEq,zA]
 refine cp n30 (zBw s i) (SubL.refl _) ?_
 cases hi:staB s i
 ·simp only [go_sem,zAh,qD,zB,zD,zC,reduceIte,reduceCtorEq,zA]
  refine cp n24 zBe (SubL.refl _) ?_
  simp only [go_sem,Tryz.f11,zB,zD,zC,reduceIte,reduceCtorEq,zA]
 simp only [go_sem,zAh,zV,zB,zD,zC,reduceIte,reduceCtorEq,zA]
 refine cp n30 (zBw s j) (SubL.refl _) ?_
 cases hj:staB s j
 ·simp only [go_sem,zAh,qD,zB,zD,zC,reduceIte,reduceCtorEq,zA]
  refine cp n24 zBe (SubL.refl _) ?_
  simp only [go_sem,Tryz.f11,zB,zD,zC,reduceIte,reduceCtorEq,zA]
 simp only [go_sem,zAh,zV,zB,zD,zC,reduceIte,reduceCtorEq,zA]
 refine cp n48 (Tries_pc s l hll) (SubL.refl _) ?_
 cases htr:triesB s l
 ·simp only [go_sem,zAh,qD,zB,zD,zC,reduceIte,reduceCtorEq,zA]
  refine cp n24 zBe (SubL.refl _) ?_
  simp only [go_sem,Tryz.f11,zB,zD,zC,reduceIte,reduceCtorEq,zA]
 by_cases a1:(s.sights.length:Int) ≥ 14
 ·simp only [go_sem,zAh,zV,zAa,a1,decide_true,zB,zD,zC,reduceIte,reduceCtorEq,zA]
  refine cp n24 zBe (SubL.refl _) ?_
  simp only [go_sem,Tryz.f11,zB,zD,zC,reduceIte,reduceCtorEq,zA]
 by_cases a2:rise < -1000
 ·simp only [go_sem,zAh,zV,zAa,a1,a2,decide_true,decide_false,zB,zD,zC,reduceIte,reduceCtorEq,zA]
  refine cp n24 zBe (SubL.refl _) ?_
  simp only [go_sem,Tryz.f11,zB,zD,zC,reduceIte,reduceCtorEq,zA]
 by_cases a3:rise > 1000
 ·simp only [go_sem,zAh,zV,zAa,a1,a2,a3,decide_true,decide_false,zB,zD,zC,reduceIte,reduceCtorEq,zA]
  refine cp n24 zBe (SubL.refl _) ?_
  simp only [go_sem,Tryz.f11,zB,zD,zC,reduceIte,reduceCtorEq,zA]
 by_cases a4:other<0
 ·simp only [go_sem,zAh,zV,zAa,a1,a2,a3,a4,decide_true,decide_false,zB,zD,zC,reduceIte,reduceCtorEq,zA]
  refine cp n24 zBe (SubL.refl _) ?_
  simp only [go_sem,Tryz.f11,zB,zD,zC,reduceIte,reduceCtorEq,zA]
 by_cases a5:other ≥ l.length
 ·simp only [go_sem,zAh,zV,zAa,a1,a2,a3,a4,a5,decide_true,decide_false,zB,zD,zC,reduceIte,reduceCtorEq,zA]
  refine cp n24 zBe (SubL.refl _) ?_
  simp only [go_sem,Tryz.f11,zB,zD,zC,reduceIte,reduceCtorEq,zA]
 simp only [go_sem,zAh,zV,zAa,a1,a2,a3,a4,a5,decide_true,decide_false,zB,zD,zC,reduceIte,reduceCtorEq,zA]
 subst hTL
 have hsv:=zCc.1 hv
 have hst:s.stations=(Lv.num s:Int):=by have:=hsv.st;show _=((s.stations.toNat:Nat):Int);omega
 have hi':=(zAw hsv.st).1 hi
 have hj':=(zAw hsv.st).1 hj
 obtain ⟨hlen,hok⟩:=(zFb hsv.st).1 htr
 obtain ⟨a,rfl⟩:∃ a:Nat,i=a:=⟨i.toNat,by omega⟩
 obtain ⟨b,rfl⟩:∃ b:Nat,j=b:=⟨j.toNat,by omega⟩
 obtain ⟨o,rfl⟩:∃ o:Nat,other=o:=⟨other.toNat,by omega⟩
 refine narrow_t3 s hl hsv a b (by omega) (by omega) l hlen hok (by omega) rise (by omega) o (by omega) _ ?_
 intro X
 simp only [go_sem,Tryz.f11,zB,zD,zC,reduceIte,reduceCtorEq,zA]
end Go.Av.Lx
end
