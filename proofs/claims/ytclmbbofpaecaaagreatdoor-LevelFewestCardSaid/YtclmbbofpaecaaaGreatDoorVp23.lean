/- Part 23 of the proof. -/
import Derived.Test.YtclmbbofpaecaaaGreatDoorVp22
import Derived.Test.YtclmbbofpaecaaaGreatDoorVp14
import Derived.Shelf.Strings.OnBuilder
import Derived.Shelf.LaysM
import Derived.Shelf.Strconv.Itoa3
import Derived.Shelf.Strings.Split
import Derived.Test.YtclmbbofpaecaaaGreatDoorProg
import Derived.Test.YtclmbbofpaecaaaGreatDoorVp10
import Derived.Test.YtclmbbofpaecaaaGreatDoorVp19
import Derived.Lib.ItoaLen
set_option linter.all false
set_option linter.unusedVariables false
set_option linter.unusedSimpArgs false
set_option linter.unusedSectionVars false
open Array renaming getElem?_eq_getElem → qA, getElem?_eq_none → qP, getElem?_append_left → yS
open Bool renaming and_self → zJ, and_eq_true → zR, not_true → zV, not_false → qD, false_and → qG, true_and → yA
open ByteArray renaming size_append → qI
open Int renaming le_refl → yB, mul_nonneg → yG
open List renaming getElem?_eq_getElem → zF, getD_eq_getElem?_getD → zG, set_cons_succ → zH, set_cons_zero → zI, all_cons → zL, getElem?_eq_none → zM, all_nil → zO, mem_cons_self → zP, mem_cons_of_mem → zS, getElem_mem → zX, length_cons → qB, take_succ_eq_append_getElem → qF, getElem?_map → qK, append_assoc → qN, map_append → qR, take_length → qZ, cons_append → yE, nil_append → yF, mem_singleton → yH, length_take → yL, range_succ → yN, map_cons → yV
open Nat renaming reduceLeDiff → zA, reduceEqDiff → zB, reduceAdd → zC, reduceBEq → zD, le_of_ble_eq_true → zE, le_refl → zN, lt_or_ge → zU, zero_le → qH, not_lt_zero → qO
open Option renaming map_some → zW
open Option.some renaming injEq → yW
section
set_option maxHeartbeats 2000000
namespace Go.Av.Lx
open Go Go.Av Go.Av.Tb Go.Av.Fx Go.Proofs
open Go.Lv (Sight Survey Sw Sv SightOk Stp bgS enS stpD chainB closedB ringB stepB)
open Go.Fw (Sq ent Bd Mat)
theorem mapGet {S:St} {i:Nat} {ks:List Int} (h:S.heap[i]? = some (some (.map (metA ks)))) (n:Int):lookupA T S 181 (.map i) (.int .i64 n) false=some (.bool (ks.contains n)):=by
 have d1:descOf T 181=some (.map 3 4):=rfl
 have d2:descOf T 3=some (.int .i64):=rfl
 have d3:T 4=some ti4:=rfl
 have d4:aggD ti4.desc=false:=rfl
 simp only [lookupA,d1,d2,d3,h,isKey,d4,and_self,if_true]
 cases hc:ks.contains n
 ·rw [((zEw n ks 0).1 hc)];rfl
 ·obtain ⟨j,h1,h2⟩:=(zEw n ks 0).2 hc
  rw [h1];rfl
def badStp (s:Survey) (x:Stp):Bool:=!inB x.sight 0 (s.sights.length - 1)
theorem badStp_iff {s:Survey} {x:Stp}:badStp s x=false↔InS s x:=by
 unfold badStp
 rw [Bool.not_eq_false',inB_iff]
 exact ⟨fun ⟨a,b⟩=>⟨a,by omega⟩,fun ⟨a,b⟩=>⟨a,by omega⟩⟩
theorem isRing1_pc (s:Survey) (hl:okL s.sights.length) (x:Stp):PC Tryz.prog 134 [.agg (stpC x),.eptr (surC s) 0] (.pure (.bool (badStp s x))):=by
 refine PC.of_empty (AC.run (E_ok _) mix Tryz.func134 m134 rfl rfl rfl (zE rfl) ?_) (by simp [bndL,AV.bnd]) rfl
 have w:IntKind.i64.wrap ((s.sights.length:Int) - 1)=(s.sights.length:Int) - 1:=wrap64 (by unfold okL at hl;omega)
 unfold badStp
 simp only [go_sem,boxA,zAa,w,zB,zD,zC,reduceIte,reduceCtorEq,zA]
 refine cp n100 (in_pc _ _ _) (SubL.refl _) ?_
 rw [show (decide (x.sight ≥ 0) && decide (x.sight≤(s.sights.length:Int) - 1))=inB x.sight 0 (s.sights.length - 1) from rfl]
 simp only [go_sem,zAh,Tryz.f134,zB,zD,zC,reduceIte,reduceCtorEq,zA]
def RingTo (s:Survey) (l:List Stp) (k:Nat):Prop:=∀ i,i<k→bgS s (l.getD ((i+1) % l.length) stpD)=enS s (l.getD i stpD) ∧ ∀ j,j<i→enS s (l.getD j stpD)≠enS s (l.getD i stpD)
theorem ringTo_iff {s:Survey} {l:List Stp} (h:1<l.length):RingTo s l l.length↔closedB s l=true:=by
 unfold closedB
 rw [zR,zR,decide_eq_true_iff,decide_eq_true_iff,chainB_iff]
 constructor
 ·intro hr
  refine ⟨h,fun i hi=>⟨?_,(hr i hi).2⟩, ?_⟩
  ·rcases Nat.eq_zero_or_pos i with h0 | h0
   ·exact .inl h0
   ·have:=(hr (i - 1) (by omega)).1
    rw [show (i - 1+1) % l.length=i by rw [show i - 1+1=i by omega];exact Nat.mod_eq_of_lt hi] at this
    exact .inr this
  ·have:=(hr (l.length - 1) (by omega)).1
   rw [show (l.length - 1+1) % l.length=0 by rw [show l.length - 1+1=l.length by omega];exact Nat.mod_self _] at this
   exact this
 ·rintro ⟨_,hc,he⟩ i hi
  refine ⟨?_,(hc i hi).2⟩
  by_cases e:i+1=l.length
  ·rw [e,Nat.mod_self,show i=l.length - 1 by omega];exact he
  ·rw [Nat.mod_eq_of_lt (by omega:i+1<l.length)]
   rcases (hc (i+1) (by omega)).1 with h0 | h0
   ·omega
   ·exact h0
theorem up_bd {s:Survey} (h:Sw s) {x:Stp} (hx:InS s x):-1050≤upSt s x∧upSt s x≤1050:=(h.bd _ (Lv.step_mem hx)).2.2.2
theorem tot_bd {s:Survey} (h:Sw s):∀ {l:List Stp},Lv.StepsIn s l → -1050 * (l.length:Int)≤Wk.tot (stepB s) l∧Wk.tot (stepB s) l≤1050 * l.length
 | [],_=>by show -1050 * ((0:Nat):Int)≤0∧(0:Int)≤1050 * ((0:Nat):Int);omega
 | x :: l,hl=>by
  have h1:=tot_bd h (l:=l) fun y hy=>hl y (zS _ hy)
  have h2:=up_bd h (hl x zP)
  unfold upSt at h2
  show -1050 * ((l.length+1:Nat):Int)≤(stepB s x).m+Wk.tot (stepB s) l∧(stepB s x).m+Wk.tot (stepB s) l≤1050 * ((l.length+1:Nat):Int)
  omega
def isRingA (s:Survey) (l:List Stp):AV:=if (zAo s && (decide (l.length≤8) && !l.any (badStp s)))=true then .tuple [.bool (ringB s l),.int .i64 0] else .tuple [.bool false,.int .i64 2]
theorem isRingA_bnd (s:Survey) (l:List Stp):(isRingA s l).bnd 0 0=true:=by
 unfold isRingA;split <;> rfl
theorem IsRing_pc (s:Survey) (hl:okL s.sights.length) (l:List Stp) (hll:okL l.length):PC Tryz.prog 71 [surA s,stpsA l] (.pure (isRingA s l)):=by
 refine PC.of_empty (AC.run (E_ok _) mix Tryz.func71 m71 rfl rfl rfl (zE rfl) ?_) (by simp [bndL,AV.bnd]) (isRingA_bnd s l)
 unfold isRingA
 simp only [go_sem,boxA,zB,zD,zC,reduceIte,reduceCtorEq,zA]
 refine cp n89 (zBg s hl) (SubL.refl _) ?_
 cases hs:zAo s
 ·simp only [go_sem,zAh,qD,qG,Tryz.f71,zB,zD,zC,reduceIte,reduceCtorEq,zA]
 have hv:=zBr.1 hs
 by_cases h8:l.length≤8
 rotate_left
 ·have h8':(l.length:Int) > 8:=by omega
  rw [decide_eq_false h8,qG,Bool.and_false]
  simp only [go_sem,zAh,zV,zAa,h8',decide_true,Tryz.f71,zB,zD,zC,reduceIte,reduceCtorEq,zA]
 have h8':¬ (l.length:Int) > 8:=by omega
 rw [decide_eq_true h8,yA,yA]
 have hC:=containsFuncP_pc l hll 134 n134 [.eptr (surC s) 0] (by simp [bndL,AV.bnd]) (badStp s) (fun x _=>isRing1_pc s hl x)
 simp only [go_sem,zAh,zV,zAa,h8',decide_false,zB,zD,zC,reduceIte,reduceCtorEq,zA]
 refine cl n133 hC (LntL.cons (.same _ (by simp [AV.bnd])) (LntL.cons (Lnt.func1 (.ptr 0 0 _ rfl (by simp [bndL,AV.bnd]))) (LntL.nil _))) rfl ?_
 cases hb:l.any (badStp s)
 rotate_left
 ·simp only [go_sem,zV,Tryz.f71,zB,zD,zC,reduceIte,reduceCtorEq,zA]
 have hin:Lv.StepsIn s l:=fun x hx=>badStp_iff.1 (by
  have:=List.any_eq_false.1 hb x hx
  simpa using this)
 rw [qD,if_pos rfl]
 have hbd:=fun k=>tot_bd hv.toSw (l:=l.take k) fun y hy=>hin y (List.mem_of_mem_take hy)
 simp only [go_sem,zEp,zAa,zB,zD,zC,reduceIte,reduceCtorEq,zA]
 refine zAt (fun m ts' S' => ∃ k X,k≤l.length∧m=l.length - k∧RingTo s l k∧ts'=[(1,stpsA l),(2,.ref 0 0),(6,.int .i64 (Wk.tot (stepB s) (l.take k))),(7,.map 1),(26,stpsA l),(27,.int .i64 l.length),(28,.int .i64 (k:Nat))]∧S'=⟨[some (.cells (surC s)),some (.map (metA ((l.take k).map (enS s))))] ++ X,0,[]⟩) l.length ⟨0,[],qH _,rfl,fun i hi=>absurd hi (qO _),rfl,rfl⟩ ?_
 rintro m ts' S' ⟨k,X,hk,rfl,hR,rfl,rfl⟩
 have c1:=fun q=>zAg X q
 have c2:=fun x B=>zAs X x B
 have c3:=fun a q=>zAg (X ++ [a]) q
 have c4:=fun a x B=>zAs (X ++ [a]) x B
 simp only [qN,yE,yF] at c3 c4
 by_cases hkl:k<l.length
 rotate_left
 ·have k1:¬ (k:Int)<l.length:=by omega
  have ek:k=l.length:=by omega
  subst ek
  rw [qZ]
  by_cases h2:2≤l.length
  ·have h2':(l.length:Int) ≥ 2:=by omega
   have hcl:=(ringTo_iff (by omega)).1 hR
   simp only [go_sem,l71_0,k1,decide_false,zAa,h2',decide_true,Tryz.f71,zB,zD,zC,reduceIte,reduceCtorEq,zA]
   unfold ringB
   rw [hcl,yA]
   all_goals rfl
  ·have h2':¬ (l.length:Int) ≥ 2:=by omega
   have hcl:closedB s l=false:=by
    unfold closedB;rw [decide_eq_false (by omega),qG]
   simp only [go_sem,l71_0,k1,decide_false,zAa,h2',Tryz.f71,zB,zD,zC,reduceIte,reduceCtorEq,zA]
   unfold ringB
   rw [hcl,qG]
 have k1:(k:Int)<l.length:=by omega
 have k2:0≤(k:Int)∧(k:Int)<l.length:=by omega
 have k3:k * 2+2≤(stpsC l).length:=by rw [zCo];omega
 have k4:IntKind.i64.wrap ((k:Int)+1)=(k+1:Nat):=wrap64 (by omega)
 have k5:=zDp l k hkl
 have hx:=hin _ (zX hkl)
 have htk:l.take (k+1)=l.take k ++ [l[k]]:=qF hkl
 have htot:Wk.tot (stepB s) (l.take (k+1))=Wk.tot (stepB s) (l.take k)+upSt s l[k]:=by
  rw [htk,Wk.tot_app]
  show _+((stepB s l[k]).m+0)=_
  rw [Int.add_zero];rfl
 have hb1:=hbd (k+1)
 rw [yL] at hb1
 have ws:IntKind.i64.wrap (Wk.tot (stepB s) (l.take k)+upSt s l[k])=Wk.tot (stepB s) (l.take (k+1)):=by rw [← htot];exact wrap64 (by omega)
 have hmod:(k+1) % l.length<l.length:=Nat.mod_lt _ (by omega)
 have hr:intOp .rem .i64 ((k+1:Nat):Int) (l.length:Int)=some (.int .i64 ((k+1) % l.length:Nat)):=rem_nat (by omega)
 have n2:0≤(((k+1) % l.length:Nat):Int)∧(((k+1) % l.length:Nat):Int)<l.length:=by omega
 have n3:(k+1) % l.length * 2+2≤(stpsC l).length:=by rw [zCo];omega
 have n5:=zDp l ((k+1) % l.length) hmod
 have hxn:=hin _ (zX hmod)
 have e1:=zEf hkl
 have e2:=zEf hmod
 have hget:∀ Y,lookupA T ⟨some (.cells (surC s)) :: some (.map (metA ((l.take k).map (enS s)))) :: Y,0,[]⟩ 181 (.map 1) (.int .i64 (enS s l[k])) false=some (.bool (((l.take k).map (enS s)).contains (enS s l[k]))):=fun Y=>mapGet rfl _
 have hput:∀ Y,zAw T ⟨some (.cells (surC s)) :: some (.map (metA ((l.take k).map (enS s)))) :: Y,0,[]⟩ 181 (.map 1) (.int .i64 (enS s l[k])) (.bool true)=some (.write 1 (.map (metA (addK ((l.take k).map (enS s)) (enS s l[k])))) .undef):=fun Y=>mapUpd rfl _
 have hfail:¬ RingTo s l (k+1)→ringB s l=false:=fun hn=>by
  unfold ringB
  by_cases h2:1<l.length
  ·cases hc:closedB s l with
   | false=>rfl
   | true=>exact absurd (fun i hi=>(ringTo_iff h2).2 hc i (by omega)) hn
  ·have hcl:closedB s l=false:=by
    unfold closedB;rw [decide_eq_false (by omega),qG]
   rw [hcl,qG]
 simp only [surC] at hget hput
 simp only [go_sem,l71_0,k1,decide_true,k2,k3,k5,zAf,and_self,c1,c2,zAd,AV.cells,AV.one,zL,zO,zJ,splice,zI,zH,zB,zD,zC,reduceIte,reduceCtorEq,zA]
 refine cp n135 (rises_pc s hv.toSw l[k] hx) (SubL.refl _) ?_
 simp only [go_sem,c1,ws,zB,zD,zC,reduceIte,reduceCtorEq,zA]
 refine cp n136 (ends_pc s l[k] hx) (SubL.refl _) ?_
 simp only [go_sem,k4,zAa,hr,n2,n3,n5,zAf,and_self,c1,c2,c3,c4,zAd,AV.cells,AV.one,zL,zO,zJ,splice,zI,zH,zB,zD,zC,reduceIte,reduceCtorEq,zA]
 refine cp n137 (zFe s l[(k+1) % l.length] hxn) (SubL.refl _) ?_
 by_cases hne:bgS s l[(k+1) % l.length]=enS s l[k]
 rotate_left
 ·have hd:=decide_eq_true hne
  simp only [go_sem,hd,Tryz.f71,zB,zD,zC,reduceIte,reduceCtorEq,zA]
  rw [hfail fun hh=>hne (by have:=(hh k (by omega)).1;rw [e1,e2] at this;exact this)]
 have hd:decide (bgS s l[(k+1) % l.length]≠enS s l[k])=false:=decide_eq_false fun h=>h hne
 cases hc:((l.take k).map (enS s)).contains (enS s l[k])
 rotate_left
 ·rw [hc] at hget
  simp only [go_sem,hd,hget,Tryz.f71,zB,zD,zC,reduceIte,reduceCtorEq,zA]
  rw [hfail fun hh=>by
   rw [List.contains_iff_mem,List.mem_map] at hc
   obtain ⟨y,hy,ey⟩:=hc
   obtain ⟨j,hj,rfl⟩:=List.mem_iff_getElem.1 hy
   rw [yL] at hj
   rw [List.getElem_take] at ey
   have:=(hh k (by omega)).2 j (by omega)
   rw [e1,zEf (by omega:j<l.length)] at this
   exact this ey]
 rw [hc] at hget
 have hadd:addK ((l.take k).map (enS s)) (enS s l[k])=(l.take (k+1)).map (enS s):=by
  unfold addK
  rw [hc,if_neg (by decide),htk,qR];rfl
 rw [hadd] at hput
 simp only [go_sem,hd,hget,hput,zAd,k4,zB,zD,zC,reduceIte,reduceCtorEq,zA]
 refine zAi (l.length - (k+1)) (by omega) ⟨k+1,_,hkl,rfl,fun i hi => ?_,rfl,rfl⟩
 by_cases ei:i=k
 ·subst ei
  refine ⟨by rw [e1,e2];exact hne,fun j hj ee => ?_⟩
  rw [e1,zEf (by omega:j<l.length)] at ee
  have:((l.take i).map (enS s)).contains (enS s l[i])=true:=by
   rw [List.contains_iff_mem,List.mem_map]
   refine ⟨l[j], ?_,ee⟩
   rw [List.mem_iff_getElem]
   exact ⟨j,by rw [yL];omega,by rw [List.getElem_take]⟩
  rw [hc] at this;cases this
 ·exact hR i (by omega)
end Go.Av.Lx
end
section
set_option maxHeartbeats 2000000
namespace Go.Av.Lx
open Go Go.Av Go.Av.Tb Go.Av.Fx Go.Proofs
open Go.Lv (Sight Survey Sw Sv SightOk Stp bgS enS riseS stpD chainB closedB ringB ringA ringR stepB stpAt firstI shortR)
open Go.Fw (Sq ent Bd Mat)
theorem stps_cell (l:List Stp) (k j:Nat) (h:k<l.length) (hj:j<2):(stpsC l)[k * 2+j]? = (stpC l[k])[j]?:=by
 rw [← zDp l k h,List.getElem?_take_of_lt hj,List.getElem?_drop]
def zBy (s:Survey) (l:List Stp):Bool:=decide (l.length≤8) && !l.any (badStp s)
theorem Steps_pc (s:Survey) (hl:okL s.sights.length) (l:List Stp) (hll:okL l.length):PC Tryz.prog 73 [surA s,stpsA l] (.pure (.bool (zBy s l))):=by
 refine PC.of_empty (AC.run (E_ok _) mix Tryz.func73 m73 rfl rfl rfl (zE rfl) ?_) (by simp [bndL,AV.bnd]) rfl
 have w:IntKind.i64.wrap ((s.sights.length:Int) - 1)=(s.sights.length:Int) - 1:=wrap64 (by unfold okL at hl;omega)
 simp only [go_sem,boxA,zB,zD,zC,reduceIte,reduceCtorEq,zA]
 refine zBd l.length (fun k => ∀ i (h1:i<k) (h2:i<l.length),badStp s l[i]=false) (fun k=>[(1,stpsA l),(2,.ref 0 0),(5,.int .i64 (k:Nat))]) (fun _=>⟨[some (.cells (surC s))],0,[]⟩) (fun i hi=>absurd hi (qO _)) rfl rfl ?_
 intro k hk hP I hI
 by_cases hlt:k<l.length
 ·have h1:(k:Int)<l.length:=by omega
  have h4:IntKind.i64.wrap ((k:Int)+1)=(k+1:Nat):=wrap64 (by unfold okL at hll;omega)
  have k2:0≤(k:Int)∧(k:Int)<l.length:=by omega
  have g0:(stpsC l)[k * 2+0]? = some (.int .i64 l[k].sight):=stps_cell l k 0 hlt (by decide)
  have hbs:badStp s l[k] = !inB l[k].sight 0 (s.sights.length - 1):=rfl
  simp only [go_sem,l73_0,zAa,h1,decide_true,k2,zAf,and_self,g0,w,zB,zD,zC,reduceIte,reduceCtorEq,zA]
  refine cp n88 (rin_pc _ _ _) (SubL.refl _) ?_
  rw [← Bool.not_not (inB l[k].sight 0 (s.sights.length - 1)),← hbs]
  cases hb:badStp s l[k]
  ·simp only [go_sem,zAh,qD,zV,h4,zB,zD,zC,reduceIte,reduceCtorEq,zA]
   refine hI hlt fun i h1 h2 => ?_
   by_cases ei:i=k
   ·subst ei;exact hb
   ·exact hP i (by omega) h2
  ·have hno:zBy s l=false:=by
    unfold zBy
    rw [show l.any (badStp s)=true from List.any_eq_true.2 ⟨l[k],zX hlt,hb⟩];simp
   simp only [go_sem,zAh,qD,zV,Tryz.f73,zB,zD,zC,reduceIte,reduceCtorEq,zA]
   rw [hno]
 ·have h1:¬ (k:Int)<l.length:=by omega
  have hany:l.any (badStp s)=false:=List.any_eq_false.2 fun x hx=>by
   obtain ⟨i,hi,rfl⟩:=List.mem_iff_getElem.1 hx
   rw [hP i (by omega) hi];decide
  have hd:decide ((l.length:Int)≤8)=decide (l.length≤8):=decide_eq_decide.2 (by omega)
  simp only [go_sem,l73_0,zAa,h1,decide_false,hd,Tryz.f73,zB,zD,zC,reduceIte,reduceCtorEq,zA]
  unfold zBy
  rw [hany,qD,Bool.and_true]
end Go.Av.Lx
end
section
set_option maxHeartbeats 2000000
namespace Go.Av.Lx
open Go Go.Av Go.Av.Tb Go.Av.Fx Go.Proofs
open Go.Lv (Sight Survey Sw Sv SightOk Stp ringB ringA ringR firstI shortR)
open Go.Fw (Sq ent Bd Mat)

end Go.Av.Lx
end
section
namespace Go.Proofs
open Go.Shelf
def Tryz.lays156_ren:Go.Shelf.Ren:=⟨fun | 156=>163 | 165=>181 | 166=>182 | 169=>183 | 240=>191 | 241=>192 | 276=>201 | 277=>202 | n=>n,fun | 31=>171 | 9=>9 | 3=>3 | 4=>4 | 0=>0 | 20=>20 | 72=>232 | 76=>236 | 70=>230 | 37=>106 | 75=>235 | 127=>250 | 164=>259 | 5=>5 | 80=>238 | n=>n,fun | n=>n⟩
theorem Tryz.lays156:Go.Proofs.Lays.n156 Tryz.prog Tryz.lays156_ren:={
 mixed:=by kernel_rfl
 f156:=Tryz.func163.trans (congrArg some (by kernel_rfl))
 f165:=Tryz.func181.trans (congrArg some (by kernel_rfl))
 f166:=Tryz.func182.trans (congrArg some (by kernel_rfl))
 f169:=Tryz.func183.trans (congrArg some (by kernel_rfl))
 f240:=Tryz.func191.trans (congrArg some (by kernel_rfl))
 f241:=Tryz.func192.trans (congrArg some (by kernel_rfl))
 f276:=Tryz.func201.trans (congrArg some (by kernel_rfl))
 f277:=Tryz.func202.trans (congrArg some (by kernel_rfl))
 t0:=Tryz.underlying0
 a0:=Tryz.isAgg0
 z0:=Tryz.sizeOf0
 v0:=Tryz.zeroValue0
 t3:=Tryz.underlying3
 a3:=Tryz.isAgg3
 z3:=Tryz.sizeOf3
 v3:=Tryz.zeroValue3
 t4:=Tryz.underlying4
 a4:=Tryz.isAgg4
 z4:=Tryz.sizeOf4
 v4:=Tryz.zeroValue4
 t9:=Tryz.underlying9
 a9:=Tryz.isAgg9
 z9:=Tryz.sizeOf9
 v9:=Tryz.zeroValue9
 t20:=Tryz.underlying20
 a20:=Tryz.isAgg20
 z20:=Tryz.sizeOf20
 v20:=Tryz.zeroValue20
 t31:=Tryz.underlying171
 a31:=Tryz.isAgg171
 z31:=Tryz.sizeOf171
 v31:=Tryz.zeroValue171
 t37:=Tryz.underlying106
 a37:=Tryz.isAgg106
 z37:=Tryz.sizeOf106
 v37:=Tryz.zeroValue106
 t70:=Tryz.underlying230
 a70:=Tryz.isAgg230
 z70:=Tryz.sizeOf230
 v70:=Tryz.zeroValue230
 t72:=Tryz.underlying232
 a72:=Tryz.isAgg232
 z72:=Tryz.sizeOf232
 v72:=Tryz.zeroValue232
 t75:=Tryz.underlying235
 a75:=Tryz.isAgg235
 z75:=Tryz.sizeOf235
 v75:=Tryz.zeroValue235
 t76:=Tryz.underlying236
 a76:=Tryz.isAgg236
 z76:=Tryz.sizeOf236
 v76:=Tryz.zeroValue236
 t127:=Tryz.underlying250
 a127:=Tryz.isAgg250
 z127:=Tryz.sizeOf250
 v127:=Tryz.zeroValue250
 t164:=Tryz.underlying259
 a164:=Tryz.isAgg259
 z164:=Tryz.sizeOf259
 v164:=Tryz.zeroValue259 }
theorem Tryz.Builder_Extra_156:Builder.Extra Tryz.prog Tryz.lays156_ren:={
 sizeBuilder:=by kernel_rfl
 liesBuilder:=by kernel_rfl
 t5:=Tryz.underlying5
 a5:=Tryz.isAgg5
 z5:=Tryz.sizeOf5
 v5:=Tryz.zeroValue5
 infoByte:=by kernel_rfl
 cellsByte:=by kernel_rfl
 sizeByte:=by kernel_rfl
 neB5:=by decide }
open Go.RowKit in
theorem Tryz.strings_Join_none (a:Option Addr) (c:Nat) (sep:ByteArray) (w:World) :
  Calls Tryz.prog 163 #[.slice a 0 c,.string sep] w fun e w'=>e=.returned (.string ⟨#[]⟩)∧w'=w:=Any.strings_Join_none Tryz.lays156 Tryz.Builder_Extra_156 a c sep w
open Go.RowKit in
theorem Tryz.strings_Join (bk o c:Nat) (xs:List ByteArray) (sep:ByteArray) (w:World) (hcells:∀ (j:Nat) x,xs[j]? = some x→w.cell? ⟨bk,o+j,none⟩=some (.string x)) (hbk:bk<w.heap.size) (hN:xs.length≤140737488355328) (hcap:xs.length≤c) (hlen:(Lib.join (xs.map (·.data.toList)) sep.data.toList).length≤140737488355328) :
  Calls Tryz.prog 163 #[.slice (some ⟨bk,o,none⟩) xs.length c,.string sep] w fun e w'=>e=.returned (.string ⟨(Lib.join (xs.map (·.data.toList)) sep.data.toList).toArray⟩)∧Below w.heap.size w w':=Any.strings_Join Tryz.lays156 Tryz.Builder_Extra_156 bk o c xs sep w hcells hbk hN hcap hlen
def Tryz.laysM171_ren:Go.Shelf.Ren:=⟨fun | 171=>162 | 243=>180 | 246=>190 | 283=>197 | 284=>198 | 285=>199 | 286=>200 | 129=>209 | 317=>208 | 318=>210 | 319=>211 | 320=>212 | 337=>219 | 338=>220 | n=>n,fun | 3=>3 | 9=>9 | 2=>2 | 4=>4 | 171=>254 | 0=>0 | 53=>245 | 37=>106 | 5=>5 | 173=>257 | 212=>266 | 51=>242 | 20=>20 | 213=>267 | 46=>222 | 232=>276 | 233=>277 | n=>n,fun | 17=>0 | 18=>4 | 19=>5 | n=>n⟩
theorem Tryz.laysM171:Go.Proofs.LaysM.n171 Tryz.prog Tryz.laysM171_ren:={
 mixed:=by kernel_rfl
 f129:=Tryz.func209.trans (congrArg some (by kernel_rfl))
 f171:=Tryz.func162.trans (congrArg some (by kernel_rfl))
 f243:=Tryz.func180.trans (congrArg some (by kernel_rfl))
 f246:=Tryz.func190.trans (congrArg some (by kernel_rfl))
 f283:=Tryz.func197.trans (congrArg some (by kernel_rfl))
 f284:=Tryz.func198.trans (congrArg some (by kernel_rfl))
 f285:=Tryz.func199.trans (congrArg some (by kernel_rfl))
 f286:=Tryz.func200.trans (congrArg some (by kernel_rfl))
 f317:=Tryz.func208.trans (congrArg some (by kernel_rfl))
 f318:=Tryz.func210.trans (congrArg some (by kernel_rfl))
 f319:=Tryz.func211.trans (congrArg some (by kernel_rfl))
 f320:=Tryz.func212.trans (congrArg some (by kernel_rfl))
 f337:=Tryz.func219.trans (congrArg some (by kernel_rfl))
 f338:=Tryz.func220.trans (congrArg some (by kernel_rfl))
 t0:=Tryz.underlying0
 a0:=Tryz.isAgg0
 z0:=Tryz.sizeOf0
 v0:=Tryz.zeroValue0
 t2:=Tryz.underlying2
 a2:=Tryz.isAgg2
 z2:=Tryz.sizeOf2
 v2:=Tryz.zeroValue2
 t3:=Tryz.underlying3
 a3:=Tryz.isAgg3
 z3:=Tryz.sizeOf3
 v3:=Tryz.zeroValue3
 t4:=Tryz.underlying4
 a4:=Tryz.isAgg4
 z4:=Tryz.sizeOf4
 v4:=Tryz.zeroValue4
 t5:=Tryz.underlying5
 a5:=Tryz.isAgg5
 z5:=Tryz.sizeOf5
 v5:=Tryz.zeroValue5
 t9:=Tryz.underlying9
 a9:=Tryz.isAgg9
 z9:=Tryz.sizeOf9
 v9:=Tryz.zeroValue9
 t20:=Tryz.underlying20
 a20:=Tryz.isAgg20
 z20:=Tryz.sizeOf20
 v20:=Tryz.zeroValue20
 t37:=Tryz.underlying106
 a37:=Tryz.isAgg106
 z37:=Tryz.sizeOf106
 v37:=Tryz.zeroValue106
 t46:=Tryz.underlying222
 a46:=Tryz.isAgg222
 z46:=Tryz.sizeOf222
 v46:=Tryz.zeroValue222
 t51:=Tryz.underlying242
 a51:=Tryz.isAgg242
 z51:=Tryz.sizeOf242
 v51:=Tryz.zeroValue242
 t53:=Tryz.underlying245
 a53:=Tryz.isAgg245
 z53:=Tryz.sizeOf245
 v53:=Tryz.zeroValue245
 t171:=Tryz.underlying254
 a171:=Tryz.isAgg254
 z171:=Tryz.sizeOf254
 v171:=Tryz.zeroValue254
 t173:=Tryz.underlying257
 a173:=Tryz.isAgg257
 z173:=Tryz.sizeOf257
 v173:=Tryz.zeroValue257
 t212:=Tryz.underlying266
 a212:=Tryz.isAgg266
 z212:=Tryz.sizeOf266
 v212:=Tryz.zeroValue266
 t213:=Tryz.underlying267
 a213:=Tryz.isAgg267
 z213:=Tryz.sizeOf267
 t232:=Tryz.underlying276
 a232:=Tryz.isAgg276
 z232:=Tryz.sizeOf276
 v232:=Tryz.zeroValue276
 t233:=Tryz.underlying277
 a233:=Tryz.isAgg277
 z233:=Tryz.sizeOf277
 v233:=Tryz.zeroValue277
 g17:=by kernel_rfl
 g18:=by kernel_rfl
 g19:=by kernel_rfl
 i0:=by kernel_rfl
 i2:=by kernel_rfl
 i3:=by kernel_rfl
 i4:=by kernel_rfl
 i5:=by kernel_rfl
 i9:=by kernel_rfl
 i20:=by kernel_rfl
 i37:=by kernel_rfl
 i46:=by kernel_rfl
 i51:=by kernel_rfl
 i53:=by kernel_rfl
 i171:=by kernel_rfl
 i173:=by kernel_rfl
 i212:=by kernel_rfl
 i232:=by kernel_rfl
 i233:=by kernel_rfl
 m17:=by kernel_rfl
 m18:=by kernel_rfl
 m19:=by kernel_rfl }
open Go.RowKit Go.Sort Go.Lib in
theorem Tryz.strconv_Itoa (n:Int) (h0:-9223372036854775808≤n) (h1:n≤9223372036854775807) (w:World) (htab:Lib.TabIs Tryz.prog w "internal/strconv.uint64pow10" .u64 Lib.pow10Tab) :
  Calls Tryz.prog 162 #[.int .i64 n] w fun e w'=>e=.returned (.string ⟨(Lib.itoa n).toArray⟩) ∧ ∃ k os,w'=grow (w.drewN k) os:=Any.strconv_Itoa Tryz.laysM171 n h0 h1 w htab
def Tryz.lays143_ren:Go.Shelf.Ren:=⟨fun | 143=>195 | 219=>206 | 217=>214 | 225=>215 | 224=>216 | 267=>217 | 266=>221 | 314=>222 | n=>n,fun | 9=>9 | 3=>3 | 4=>4 | 5=>5 | 46=>222 | 146=>243 | 51=>242 | n=>n,fun | 1=>1 | n=>n⟩
theorem Tryz.lays143:Go.Proofs.Lays.n143 Tryz.prog Tryz.lays143_ren:={
 mixed:=by kernel_rfl
 f143:=Tryz.func195.trans (congrArg some (by kernel_rfl))
 f217:=Tryz.func214.trans (congrArg some (by kernel_rfl))
 f219:=Tryz.func206.trans (congrArg some (by kernel_rfl))
 f224:=Tryz.func216.trans (congrArg some (by kernel_rfl))
 f225:=Tryz.func215.trans (congrArg some (by kernel_rfl))
 f266:=Tryz.func221.trans (congrArg some (by kernel_rfl))
 f267:=Tryz.func217.trans (congrArg some (by kernel_rfl))
 f314:=Tryz.func222.trans (congrArg some (by kernel_rfl))
 t3:=Tryz.underlying3
 a3:=Tryz.isAgg3
 z3:=Tryz.sizeOf3
 v3:=Tryz.zeroValue3
 t4:=Tryz.underlying4
 a4:=Tryz.isAgg4
 z4:=Tryz.sizeOf4
 v4:=Tryz.zeroValue4
 t5:=Tryz.underlying5
 a5:=Tryz.isAgg5
 z5:=Tryz.sizeOf5
 v5:=Tryz.zeroValue5
 t9:=Tryz.underlying9
 a9:=Tryz.isAgg9
 z9:=Tryz.sizeOf9
 v9:=Tryz.zeroValue9
 t46:=Tryz.underlying222
 a46:=Tryz.isAgg222
 z46:=Tryz.sizeOf222
 v46:=Tryz.zeroValue222
 t51:=Tryz.underlying242
 a51:=Tryz.isAgg242
 z51:=Tryz.sizeOf242
 v51:=Tryz.zeroValue242
 t146:=Tryz.underlying243
 a146:=Tryz.isAgg243
 z146:=Tryz.sizeOf243
 v146:=Tryz.zeroValue243
 g1:=by kernel_rfl }
open Go.RowKit Go.Lib in
theorem Tryz.strings_Index_one (s:ByteArray) (c:UInt8) (w:World) :
  Calls Tryz.prog 195 #[.string s,.string ⟨#[c]⟩] w fun e w'=>e=.returned (.int .i64 (Lib.indexByte s.data.toList c))∧w'=w:=Any.strings_Index_one Tryz.lays143 s c w
def Tryz.lays138_ren:Go.Shelf.Ren:=⟨fun | 138=>194 | 195=>203 | 218=>205 | 143=>195 | 219=>206 | 217=>214 | 225=>215 | 224=>216 | 267=>217 | 266=>221 | 314=>222 | n=>n,fun | 9=>9 | 3=>3 | 4=>4 | 5=>5 | 0=>0 | 46=>222 | 146=>243 | 51=>242 | n=>n,fun | 1=>1 | n=>n⟩
theorem Tryz.lays138:Go.Proofs.Lays.n138 Tryz.prog Tryz.lays138_ren:={
 mixed:=by kernel_rfl
 f138:=Tryz.func194.trans (congrArg some (by kernel_rfl))
 f143:=Tryz.func195.trans (congrArg some (by kernel_rfl))
 f195:=Tryz.func203.trans (congrArg some (by kernel_rfl))
 f217:=Tryz.func214.trans (congrArg some (by kernel_rfl))
 f218:=Tryz.func205.trans (congrArg some (by kernel_rfl))
 f219:=Tryz.func206.trans (congrArg some (by kernel_rfl))
 f224:=Tryz.func216.trans (congrArg some (by kernel_rfl))
 f225:=Tryz.func215.trans (congrArg some (by kernel_rfl))
 f266:=Tryz.func221.trans (congrArg some (by kernel_rfl))
 f267:=Tryz.func217.trans (congrArg some (by kernel_rfl))
 f314:=Tryz.func222.trans (congrArg some (by kernel_rfl))
 t0:=Tryz.underlying0
 a0:=Tryz.isAgg0
 z0:=Tryz.sizeOf0
 v0:=Tryz.zeroValue0
 t3:=Tryz.underlying3
 a3:=Tryz.isAgg3
 z3:=Tryz.sizeOf3
 v3:=Tryz.zeroValue3
 t4:=Tryz.underlying4
 a4:=Tryz.isAgg4
 z4:=Tryz.sizeOf4
 v4:=Tryz.zeroValue4
 t5:=Tryz.underlying5
 a5:=Tryz.isAgg5
 z5:=Tryz.sizeOf5
 v5:=Tryz.zeroValue5
 t9:=Tryz.underlying9
 a9:=Tryz.isAgg9
 z9:=Tryz.sizeOf9
 v9:=Tryz.zeroValue9
 t46:=Tryz.underlying222
 a46:=Tryz.isAgg222
 z46:=Tryz.sizeOf222
 v46:=Tryz.zeroValue222
 t51:=Tryz.underlying242
 a51:=Tryz.isAgg242
 z51:=Tryz.sizeOf242
 v51:=Tryz.zeroValue242
 t146:=Tryz.underlying243
 a146:=Tryz.isAgg243
 z146:=Tryz.sizeOf243
 v146:=Tryz.zeroValue243
 g1:=by kernel_rfl }
open Go.RowKit Go.Lib in
theorem Tryz.strings_Count_one (s:ByteArray) (c:UInt8) (w:World) :
  Calls Tryz.prog 194 #[.string s,.string ⟨#[c]⟩] w fun e w'=>e=.returned (.int .i64 (Lib.countByte s.data.toList c))∧w'=w:=Any.strings_Count_one Tryz.lays138 s c w
def Tryz.lays221_ren:Go.Shelf.Ren:=⟨fun | 221=>184 | 268=>193 | 138=>194 | 143=>195 | 195=>203 | 197=>204 | 218=>205 | 219=>206 | 260=>213 | 217=>214 | 225=>215 | 224=>216 | 267=>217 | 266=>221 | 314=>222 | n=>n,fun | 9=>9 | 3=>3 | 31=>171 | 4=>4 | 0=>0 | 105=>262 | 21=>21 | 5=>5 | 46=>222 | 119=>271 | 139=>274 | 138=>273 | 146=>243 | 51=>242 | n=>n,fun | 1=>1 | 3=>2 | 4=>3 | n=>n⟩
theorem Tryz.lays221:Go.Proofs.Lays.n221 Tryz.prog Tryz.lays221_ren:={
 mixed:=by kernel_rfl
 f138:=Tryz.func194.trans (congrArg some (by kernel_rfl))
 f143:=Tryz.func195.trans (congrArg some (by kernel_rfl))
 f195:=Tryz.func203.trans (congrArg some (by kernel_rfl))
 f197:=Tryz.func204.trans (congrArg some (by kernel_rfl))
 f217:=Tryz.func214.trans (congrArg some (by kernel_rfl))
 f218:=Tryz.func205.trans (congrArg some (by kernel_rfl))
 f219:=Tryz.func206.trans (congrArg some (by kernel_rfl))
 f221:=Tryz.func184.trans (congrArg some (by kernel_rfl))
 f224:=Tryz.func216.trans (congrArg some (by kernel_rfl))
 f225:=Tryz.func215.trans (congrArg some (by kernel_rfl))
 f260:=Tryz.func213.trans (congrArg some (by kernel_rfl))
 f266:=Tryz.func221.trans (congrArg some (by kernel_rfl))
 f267:=Tryz.func217.trans (congrArg some (by kernel_rfl))
 f268:=Tryz.func193.trans (congrArg some (by kernel_rfl))
 f314:=Tryz.func222.trans (congrArg some (by kernel_rfl))
 t0:=Tryz.underlying0
 a0:=Tryz.isAgg0
 z0:=Tryz.sizeOf0
 v0:=Tryz.zeroValue0
 t3:=Tryz.underlying3
 a3:=Tryz.isAgg3
 z3:=Tryz.sizeOf3
 v3:=Tryz.zeroValue3
 t4:=Tryz.underlying4
 a4:=Tryz.isAgg4
 z4:=Tryz.sizeOf4
 v4:=Tryz.zeroValue4
 t5:=Tryz.underlying5
 a5:=Tryz.isAgg5
 z5:=Tryz.sizeOf5
 v5:=Tryz.zeroValue5
 t9:=Tryz.underlying9
 a9:=Tryz.isAgg9
 z9:=Tryz.sizeOf9
 v9:=Tryz.zeroValue9
 t21:=Tryz.underlying21
 a21:=Tryz.isAgg21
 z21:=Tryz.sizeOf21
 v21:=Tryz.zeroValue21
 t31:=Tryz.underlying171
 a31:=Tryz.isAgg171
 z31:=Tryz.sizeOf171
 v31:=Tryz.zeroValue171
 t46:=Tryz.underlying222
 a46:=Tryz.isAgg222
 z46:=Tryz.sizeOf222
 v46:=Tryz.zeroValue222
 t51:=Tryz.underlying242
 a51:=Tryz.isAgg242
 z51:=Tryz.sizeOf242
 v51:=Tryz.zeroValue242
 t105:=Tryz.underlying262
 a105:=Tryz.isAgg262
 z105:=Tryz.sizeOf262
 v105:=Tryz.zeroValue262
 t119:=Tryz.underlying271
 a119:=Tryz.isAgg271
 z119:=Tryz.sizeOf271
 t138:=Tryz.underlying273
 a138:=Tryz.isAgg273
 z138:=Tryz.sizeOf273
 v138:=Tryz.zeroValue273
 t139:=Tryz.underlying274
 a139:=Tryz.isAgg274
 z139:=Tryz.sizeOf274
 v139:=Tryz.zeroValue274
 t146:=Tryz.underlying243
 a146:=Tryz.isAgg243
 z146:=Tryz.sizeOf243
 v146:=Tryz.zeroValue243
 g1:=by kernel_rfl
 g3:=by kernel_rfl
 g4:=by kernel_rfl }
end Go.Proofs
end
section
namespace Go.Av
open Go Go.Proofs Go.RowKit Go.Sort
theorem Chg.below {w w':World} (h:Below w.heap.size w w'):Chg w w' (fun _ _=>False) (fun _=>False):=by
  have cell:∀ b o v,w.cell? ⟨b,o,none⟩=some v→w'.cell? ⟨b,o,none⟩=some v:=fun b o v e=>by
    have hb:=zAl e
    unfold World.cell? at e ⊢
    rw [h.block b hb];exact e
  refine ⟨fun b o v e _=>cell b o v e,fun b o v e=>⟨v,cell b o v e⟩,fun b o hb => ?_,fun b ob e _ _ => ?_,h.size,fun b x e => ?_,⟨h.os,h.output,fun b cs t fr e=>⟨cs,by rw [h.block b (Array.getElem?_eq_some_iff.1 e).1];exact e,rfl⟩⟩⟩
  · unfold World.frozen?;rw [h.block b hb]
  · rw [h.block b (Array.getElem?_eq_some_iff.1 e).1];exact e
  · have hb:b<w.heap.size:=by
      rcases zU b w.heap.size with h' | h'
      · exact h'
      · unfold World.shape? at e;rw [qP h'] at e;cases e
    unfold World.shape? at e ⊢
    rw [h.block b hb];exact e
theorem StRel.below {c:Cx} {S:St} {w w':World} (h:StRel c S w) (hb:Below w.heap.size w w'):StRel c S w':=
  h.chg (Chg.below hb) (fun _ _ e=>e.elim) (fun _ e=>e.elim) (fun _ _ _ _ _=>⟨fun _ _ e=>e,fun _ e=>e⟩)
theorem StRel.grow {c:Cx} {S:St} {w:World} (h:StRel c S w) (k:Nat) (os:Array Obj):StRel c S (grow (w.drewN k) os):=by
  have h0:(w.drewN k).heap=w.heap:=rfl
  have hb:∀ b,b<w.heap.size→(Go.Sort.grow (w.drewN k) os).heap[b]? = w.heap[b]?:=fun b hb=>by
    show (w.heap ++ os)[b]? = _
    exact yS hb
  have cell:∀ b o v,w.cell? ⟨b,o,none⟩=some v→(Go.Sort.grow (w.drewN k) os).cell? ⟨b,o,none⟩=some v:=fun b o v e=>by
    have hl:=zAl e
    unfold World.cell? at e ⊢
    rw [hb b hl];exact e
  refine h.chg (R:=fun _ _=>False) (RO:=fun _=>False) ⟨fun b o v e _=>cell b o v e,fun b o v e=>⟨v,cell b o v e⟩,fun b o hl => ?_,fun b ob e _ _ => ?_, ?_,fun b x e => ?_,⟨rfl,rfl,fun b cs t fr e=>⟨cs,by rw [hb b (Array.getElem?_eq_some_iff.1 e).1];exact e,rfl⟩⟩⟩ (fun _ _ e=>e.elim) (fun _ e=>e.elim) (fun _ _ _ _ _=>⟨fun _ _ e=>e,fun _ e=>e⟩)
  · unfold World.frozen?;rw [hb b hl]
  · rw [hb b (Array.getElem?_eq_some_iff.1 e).1];exact e
  · show w.heap.size≤(w.heap ++ os).size
    simp
  · have hl:b<w.heap.size:=by
      rcases zU b w.heap.size with h' | h'
      · exact h'
      · unfold World.shape? at e;rw [qP h'] at e;cases e
    unfold World.shape? at e ⊢
    rw [hb b hl];exact e
theorem StRel.tabIs {c:Cx} {S:St} {w:World} (h:StRel c S w):Lib.TabIs Tryz.prog w "internal/strconv.uint64pow10" .u64 Lib.pow10Tab:=by
  have hg:Tryz.prog.globalNamed "internal/strconv.uint64pow10" = some tabB:=by kernel_rfl
  obtain ⟨t,ht⟩:=h.tsh
  unfold Lib.TabIs World.var?
  rw [hg]
  unfold World.shape? at ht
  show (match w.heap[tabB]? with | some (.cells cs _ _)=>some cs | _=>none)=_
  cases hw:w.heap[tabB]? with
  | none=>rw [hw] at ht;cases ht
  | some ob =>
    rw [hw] at ht
    cases ob <;> simp at ht ⊢
    rename_i cs e f
    obtain ⟨_,hs⟩:=ht
    apply Array.ext
    · simp [hs,Lib.pow10Tab]
    · intro i h1 h2
      have hi:i<20:=hs ▸ h1
      have hk:=h.K _ _ _ (h.tab i hi)
      unfold World.cell? at hk
      simp only [hw] at hk
      simp at hk
      rw [qA h1] at hk
      simp only [yW] at hk
      rw [hk]
      simp [tabV,Lib.pow10Tab]
theorem VRel.of_str {c:Cx} {s:ByteArray} {x:Value} (h:VRel c (.str s) x):x=.string s:=by cases h;rfl
theorem VRel.of_int {c:Cx} {k:IntKind} {n:Int} {x:Value} (h:VRel c (.int k n) x):x=.int k n:=by cases h;rfl
theorem LRel.one {c:Cx} {x:AV} {vs:List Value} (h:LRel c [x] vs):∃ v,vs=[v]∧VRel c x v:=by
  obtain ⟨v,vs',rfl,h1,h2⟩:=h.tail
  cases vs' with
  | nil=>exact ⟨v,rfl,h1⟩
  | cons a b=>simp [LRel] at h2
theorem LRel.two {c:Cx} {x y:AV} {vs:List Value} (h:LRel c [x,y] vs):∃ u v,vs=[u,v]∧VRel c x u∧VRel c y v:=by
  obtain ⟨u,vs',rfl,h1,h2⟩:=h.tail
  obtain ⟨v,rfl,h3⟩:=h2.one
  exact ⟨u,v,rfl,h1,h3⟩
theorem LRel.four {c:Cx} {a b x y:AV} {vs:List Value} (h:LRel c [a,b,x,y] vs):∃ t s u v,vs=[t,s,u,v]∧VRel c a t∧VRel c b s∧VRel c x u∧VRel c y v:=by
  obtain ⟨t,vs',rfl,h1,h2⟩:=h.tail
  obtain ⟨s,vs'',rfl,h3,h4⟩:=h2.tail
  obtain ⟨u,v,rfl,h5,h6⟩:=h4.two
  exact ⟨t,s,u,v,rfl,h1,h3,h5,h6⟩
def itoaB (n:Int):ByteArray:=⟨(Lib.itoa n).toArray⟩
theorem Itoa_pc (n:Int) (h0:-9223372036854775808≤n) (h1:n≤9223372036854775807):PC Tryz.prog 162 [.int .i64 n] (.pure (.str (itoaB n))):=by
  intro c S w vs hs hl
  obtain ⟨v,rfl,hv⟩:=hl.one
  cases hv.of_int
  refine (Tryz.strconv_Itoa n h0 h1 w hs.tabIs).mono ?_
  rintro e w' ⟨rfl,k,os,rfl⟩
  exact ⟨_,rfl,c,Cx.le.refl c,rfl,rfl,hs.grow k os,.str _⟩
def joinB (xs:List ByteArray) (sep:ByteArray):ByteArray:=⟨(Lib.join (xs.map (·.data.toList)) sep.data.toList).toArray⟩
theorem Join_pc (xs:List ByteArray) (sep:ByteArray) (t:Tail) (hN:xs.length≤140737488355328) (hlen:(Lib.join (xs.map (·.data.toList)) sep.data.toList).length≤140737488355328) :
    PC Tryz.prog 163 [.slice (xs.map AV.str) xs.length t,.str sep] (.pure (.str (joinB xs sep))):=by
  intro c S w vs hs hl
  obtain ⟨u,v,rfl,hu,hv⟩:=hl.two
  cases hv.of_str
  generalize hL:xs.map AV.str=L at hu
  generalize hn:xs.length=n at hu hN
  cases hu with
  | sliceNil _ ht =>
    have:xs=[]:=List.eq_nil_of_length_eq_zero hn
    subst this
    refine (Tryz.strings_Join_none none 0 sep w).mono ?_
    rintro e w' ⟨rfl,rfl⟩
    exact ⟨_,rfl,Post.same hs (.str _)⟩
  | slice _ _ _ b off cap us hc hk hr he ht =>
    subst hL
    by_cases h0:xs=[]
    · subst h0
      cases hn
      refine (Tryz.strings_Join_none _ _ sep w).mono ?_
      rintro e w' ⟨rfl,rfl⟩
      exact ⟨_,rfl,Post.same hs (.str _)⟩
    have hcells:∀ (j:Nat) x,xs[j]? = some x→w.cell? ⟨b,off+j,none⟩=some (.string x):=by
      intro j x hx
      have hj:j<xs.length:=by
        rcases zU j xs.length with h' | h'
        · exact h'
        · rw [zM h'] at hx;cases hx
      have h1:=hr j (.str x) (by rw [qK,hx];rfl)
      have h2:=h1.of_str
      have h3:=hs.K _ _ _ (hk j (by simpa using hj))
      rw [h2] at h3;exact h3
    have hpos:0<xs.length:=List.length_pos_iff.2 h0
    have hb:b<w.heap.size:=zAl (hcells 0 xs[0] (zF hpos))
    subst hn
    refine (Tryz.strings_Join b off cap xs sep w hcells hb hN hc hlen).mono ?_
    rintro e w' ⟨rfl,hw⟩
    exact ⟨_,rfl,c,Cx.le.refl c,rfl,rfl,hs.below hw,.str _⟩
def splitL (s:ByteArray) (c:UInt8):List ByteArray:=Lib.splitB ⟨#[c]⟩ 0 (Lib.countB s ⟨#[c]⟩) s
theorem genSplit_pc (s:ByteArray) (b:UInt8) (hs:s.size<4294967281):PC Tryz.prog 184 [.str s,.str ⟨#[b]⟩,.int .i64 0,.int .i64 (-1)] (.pure (.slice ((splitL s b).map AV.str) (splitL s b).length .exact)):=by
  intro c S w vs hst hl
  obtain ⟨v1,v2,v3,v4,rfl,h1,h2,h3,h4⟩:=hl.four
  cases h1.of_str;cases h2.of_str;cases h3.of_int;cases h4.of_int
  have hle:=Lib.countB_le ⟨#[b]⟩ (zN 1) s.size s (zN _)
  have hlen:=Lib.splitB_all ⟨#[b]⟩ (zN 1) 0 _ s rfl
  have c1:=Any.strings_genSplit_core Tryz.lays221 (by kernel_rfl) s ⟨#[b]⟩ 0 (-1) (Lib.countB s ⟨#[b]⟩+1) w hs (zN 1) (qH _)
    (fun x cc hx=>by
      have h:=Tryz.strings_Index_one x b (w.alloc (.cells cc 9))
      rw [← Lib.index_one] at h
      exact h)
    (by have h:=Tryz.strings_Count_one s b w
        unfold Lib.countByte at h
        rw [← Lib.count_one] at h
        exact h) (by decide) (by decide) (by rw [if_pos (by decide)];omega)
  rw [Nat.add_sub_cancel,hlen] at c1
  refine Calls.mono c1 ?_
  rintro e w' ⟨rfl,rfl⟩
  refine ⟨_,rfl, ?_⟩
  have e2:Lib.cellsOf (Lib.splitB ⟨#[b]⟩ 0 (Lib.countB s ⟨#[b]⟩) s) (Lib.countB s ⟨#[b]⟩+1)=((splitL s b).map Value.string).toArray:=by rw [← hlen];exact Lib.cellsOf_full _
  rw [e2]
  have hln:Lib.countB s ⟨#[b]⟩+1=(splitL s b).length:=hlen.symm
  rw [hln]
  exact Post.newImm hst (l:=(splitL s b).map AV.str) (arr:=((splitL s b).map Value.string).toArray) 9 ⟨by simp,fun j x v e1 e2=>by
    simp only [qK] at e1 e2
    cases hj:(splitL s b)[j]? with
    | none=>rw [hj] at e1;cases e1
    | some y=>rw [hj] at e1 e2;cases e1;cases e2;exact .str _⟩ _
end Go.Av
end
section
namespace Go.Av.Lx
open Go Go.Av Go.Proofs
open Go.Lv (Sight Survey Sw Sv SightOk)
def i64 (n:Int):Prop:=-9223372036854775808≤n∧n≤9223372036854775807
def sp:ByteArray:=⟨#[32]⟩
def lf:ByteArray:=⟨#[10]⟩
def wordB (k:Nat):ByteArray:=[⟨#[115,117,114,118,101,121]⟩,⟨#[115,105,103,104,116]⟩].getD k ByteArray.empty
def rowN (o:ByteArray) (ns:List Int):ByteArray:=ns.foldl (fun o n=>o ++ (sp ++ itoaB n)) o
def rowB (k:Nat) (ns:List Int):ByteArray:=rowN (wordB k) ns
theorem zBa {n:Int} (h:i64 n):(itoaB n).size≤21:=by
 have:=Lib.itoa_length_le n h.1 h.2
 simpa [itoaB,ByteArray.size] using this
theorem zFg:∀ (ns:List Int) (o:ByteArray),(∀ n∈ns,i64 n)→(rowN o ns).size≤o.size+22 * ns.length
 | [],o,_=>zN _
 | n :: ns,o,h=>by
  have h1:=zFg ns (o ++ (sp ++ itoaB n)) fun m hm=>h m (zS _ hm)
  have h2:=zBa (h n zP)
  have h3:(o ++ (sp ++ itoaB n)).size=o.size+(1+(itoaB n).size):=by rw [qI,qI];rfl
  show (rowN (o ++ (sp ++ itoaB n)) ns).size≤_
  simp only [qB];omega
theorem rowN_take (o:ByteArray) (ns:List Int) (k:Nat) (h:k<ns.length):rowN o (ns.take (k+1))=rowN o (ns.take k) ++ (sp ++ itoaB ns[k]):=by
 unfold rowN
 rw [List.take_add_one,zF h,List.foldl_append]
 rfl
theorem wordB_size (k:Nat):(wordB k).size≤6:=by
 match k with
 | 0=>decide
 | 1=>decide
 | k+2=>simp [wordB]
def nsS (x:Sight):List Int:=[x.frm,x.to,x.rise,x.off]
def rowsL (s:Survey):List ByteArray:=rowB 0 [s.stations] :: s.sights.map fun x=>rowB 1 (nsS x)
def rs (r:ByteArray):Nat→Int
 | 0=>0
 | k+1=>rs r k+(((r[k]?).getD 0).toNat:Int) * (k+1:Nat)
def ck (rows:List ByteArray):Nat→Int
 | 0=>0
 | i+1=>ck rows i+rs (rows.getD i ByteArray.empty) (rows.getD i ByteArray.empty).size * (i+1:Nat)
def endW:ByteArray:=⟨#[101,110,100,32]⟩
def endB (c:Int):ByteArray:=((endW ++ itoaB (c.tdiv 100)) ++ itoaB ((c.tdiv 10).tmod 10)) ++ itoaB (c.tmod 10)
def ckL (s:Survey):Int:=(ck (rowsL s) (rowsL s).length).tmod 149
def textB (s:Survey):ByteArray:=joinB (rowsL s ++ [endB (ckL s)]) lf ++ lf
theorem rs_bd (r:ByteArray):∀ k,0≤rs r k∧rs r k≤255 * (k * k:Nat)
 | 0=>⟨yB _,by simp [rs]⟩
 | k+1=>by
  have ih:=rs_bd r k
  have hb:((r[k]?).getD 0).toNat≤255:=Nat.le_of_lt_succ (UInt8.toNat_lt _)
  have h1:((r[k]?).getD 0).toNat * (k+1)≤255 * (k+1):=Nat.mul_le_mul_right _ hb
  have h2:rs r (k+1)=rs r k+((((r[k]?).getD 0).toNat * (k+1):Nat):Int):=by simp [rs]
  have h3:(k+1) * (k+1)=k * k+2 * k+1:=by rw [Nat.add_mul,Nat.mul_add];omega
  rw [h2,h3];omega
theorem rs_bd100 (r:ByteArray) {k:Nat} (h:k≤100):0≤rs r k∧rs r k≤2550000:=by
 have h1:=rs_bd r k
 have h2:k * k≤100 * 100:=Nat.mul_le_mul h h
 omega
theorem ck_bd {R:List ByteArray} (h:∀ r∈R,r.size≤100):∀ i,i≤3000→0≤ck R i∧ck R i≤7650000000 * i
 | 0,_=>⟨yB _,by simp [ck]⟩
 | i+1,hi=>by
  have ih:=ck_bd h i (by omega)
  have hs:(R.getD i ByteArray.empty).size≤100:=by
   rw [zG]
   cases e:R[i]? with
   | none=>exact qH _
   | some r=>exact h r (List.mem_of_getElem? e)
  have h1:=rs_bd100 (R.getD i ByteArray.empty) hs
  have h2:0≤rs (R.getD i ByteArray.empty) (R.getD i ByteArray.empty).size * (i+1:Nat):=yG h1.1 (by omega)
  have h3:rs (R.getD i ByteArray.empty) (R.getD i ByteArray.empty).size * (i+1:Nat)≤2550000 * (3000:Int):=Int.mul_le_mul h1.2 (by omega) (by omega) (by omega)
  show 0≤ck R i+_∧ck R i+_≤_
  omega
def isD (b:UInt8):Bool:=48≤b.toNat && b.toNat≤57
def decP (x:ByteArray):Nat→Int
 | 0=>0
 | k+1=>10 * decP x k+((x.get! k).toNat - 48)
def digs (x:ByteArray) (k:Nat):Bool:=(List.range k).all fun j=>isD (x.get! j)
def negW (w:ByteArray):Bool:=decide (0<w.size) && decide ((w.get! 0).toNat=45)
def bodyW (w:ByteArray):ByteArray:=if negW w=true then w.extract 1 w.size else w
def valW (w:ByteArray):Int:=if negW w=true then -decP (bodyW w) (bodyW w).size else decP (bodyW w) (bodyW w).size
def okW (w:ByteArray):Bool:=decide ((bodyW w).size≠0) && decide ((bodyW w).size≤4) && digs (bodyW w) (bodyW w).size && decide (itoaB (valW w)=w)
def toldB (row:ByteArray) (kind many:Nat):Option (List Int):=
 if (splitL row 32).length=many+1∧(splitL row 32).head? = some (wordB kind)∧(splitL row 32).tail.all okW=true then some ((splitL row 32).tail.map valW) else none
def sgtN (ns:List Int):Sight:=⟨ns.getD 0 0,ns.getD 1 0,ns.getD 2 0,ns.getD 3 0⟩
def foldT (l:List Sight):List ByteArray→Option (List Sight)
 | []=>some l
 | r :: rs=>(toldB r 1 4).bind fun ns=>foldT (l ++ [sgtN ns]) rs
def parsedB (s:ByteArray):Option Survey:=
 if 3≤(splitL s 10).length then
  (toldB ((splitL s 10).headD ByteArray.empty) 0 1).bind fun ns =>
   (foldT [] ((splitL s 10).tail.take ((splitL s 10).length - 3))).bind fun l =>
    if textB ⟨ns.getD 0 0,l⟩=s then some ⟨ns.getD 0 0,l⟩ else none
 else none
theorem decP_pow {x:ByteArray}:∀ {j:Nat},digs x j=true→0≤decP x j∧decP x j<(10 ^ j:Nat)
 | 0,_=>by simp [decP]
 | j+1,h=>by
  unfold digs at h
  rw [yN,List.all_append,zR] at h
  have ih:=decP_pow (x:=x) (j:=j) h.1
  have hd:48≤(x.get! j).toNat∧(x.get! j).toNat≤57:=by simpa [isD] using h.2
  show 0≤10 * decP x j+(((x.get! j).toNat:Int) - 48)∧10 * decP x j+(((x.get! j).toNat:Int) - 48)<(10 ^ (j+1):Nat)
  rw [Nat.pow_succ]
  omega
theorem decP_bd {x:ByteArray} {j:Nat} (h:digs x j=true) (hj:j≤4):0≤decP x j∧decP x j≤9999:=by
 have h1:=decP_pow h
 have h2:10 ^ j≤10 ^ 4:=Nat.pow_le_pow_right (by decide) hj
 omega
theorem ba_ext {a b:ByteArray} (h:a.data.toList=b.data.toList):a=b:=by
 cases a;cases b
 simp only [ByteArray.mk.injEq]
 exact Array.toList_inj.1 h
theorem zCv (a b:ByteArray):(a ++ b).data.toList=a.data.toList ++ b.data.toList:=by simp [ByteArray.data_append]
def catB (R:List ByteArray):Nat→ByteArray
 | 0=>ByteArray.empty
 | i+1=>catB R i ++ R.getD i ByteArray.empty ++ lf
theorem join_snoc (sep x:List UInt8):∀ (R:List (List UInt8)) (a:List UInt8),a ++ Lib.joinTail sep (R ++ [x])=((a :: R).map (· ++ sep)).flatten ++ x
 | [],a=>by simp [Lib.joinTail]
 | b :: R,a=>by
  have ih:=join_snoc sep x R b
  have e:Lib.joinTail sep (b :: R ++ [x])=sep ++ (b ++ Lib.joinTail sep (R ++ [x])):=by simp [Lib.joinTail]
  rw [e,ih]
  simp
theorem getD_at' {α:Type} {l:List α} {k:Nat} (d:α) (h:k<l.length):l.getD k d=l[k]:=by rw [zG,zF h];rfl
theorem catB_list (R:List ByteArray):∀ k,k≤R.length→(catB R k).data.toList=((R.take k).map fun r=>r.data.toList ++ lf.data.toList).flatten
 | 0,_=>rfl
 | k+1,h=>by
  have ih:=catB_list R k (by omega)
  have h':k<R.length:=by omega
  rw [qF h',qR,List.flatten_append,← ih]
  show (catB R k ++ R.getD k ByteArray.empty ++ lf).data.toList=_
  rw [zCv,zCv,getD_at' _ h']
  simp
theorem join_cat (R:List ByteArray) (x:ByteArray):joinB (R ++ [x]) lf ++ lf=catB R R.length ++ x ++ lf:=by
 apply ba_ext
 rw [zCv,zCv,zCv,catB_list R R.length (zN _),qZ]
 congr 1
 unfold joinB
 cases R with
 | nil=>simp [Lib.join_one]
 | cons a R =>
  rw [yE,yV,Lib.join_cons,qR]
  have:=join_snoc lf.data.toList x.data.toList (R.map (·.data.toList)) a.data.toList
  simp only [yV,List.map_nil,List.map_map] at this ⊢
  exact this
def smI (n:Int):Prop:=-9999≤n∧n≤9999
end Go.Av.Lx
end
section
set_option maxHeartbeats 2000000
namespace Go.Av.Lx
open Go Go.Av Go.Av.Tb Go.Av.Fx Go.Proofs
open Go.Lv (Sight Survey Sw Sv SightOk)
theorem addS {a b:ByteArray} (h:a.size+b.size≤4611686018427387904):binA T .add 9 (.str a) (.str b)=some (.str (a ++ b)):=by
 show (if a.size+b.size≤4611686018427387904 then some (AV.str (a ++ b)) else none)=_
 rw [if_pos h]
@[go_sem] theorem tas_ii (v:AV):zAx T (.iface 3 v) 3 true=some (.tuple [v,.bool true]):=rfl
@[go_sem] theorem tas_si (v:AV):zAx T (.iface 85 v) 3 true=some (.tuple [.int .i64 0,.bool false]):=rfl
@[go_sem] theorem tas_ss (v:AV):zAx T (.iface 85 v) 85 true=some (.tuple [v,.bool true]):=rfl
@[go_sem] theorem bs_int4 (a b c d:Int):zAe T 32 4 [(0,.int .i64 a),(1,.int .i64 b),(2,.int .i64 c),(3,.int .i64 d)]=some (.slice [.int .i64 a,.int .i64 b,.int .i64 c,.int .i64 d] 4 .exact):=rfl
theorem words_pc:PC Tryz.prog 179 [] (.pure (.agg [.str (wordB 0),.str (wordB 1)])):=by
 refine PC.of_empty (AC.run (E_ok _) mix Tryz.func179 m179 rfl rfl rfl (zE rfl) ?_) rfl rfl
 have hb:buildA T 228 [(0,AV.str ⟨#[115,117,114,118,101,121]⟩),(1,AV.str ⟨#[115,105,103,104,116]⟩)]=some (.agg [.str (wordB 0),.str (wordB 1)]):=by rfl
 simp only [go_sem,hb,zAd,AV.cells,AV.one,zL,zO,zJ,splice,zI,zH,and_self,Tryz.f179,zB,zD,zC,reduceIte,reduceCtorEq,zA]
 all_goals rfl
theorem row_loop (kk:Nat) (ns:List Int) (hn:ns.length≤4) (h:∀ n∈ns,i64 n) (H:List (Option Blk)) (Q:AQ)
  (hQ:Q (.exit 1) [(7,.str (rowB kk ns)),(31,.slice (ints ns) ns.length .exact),(32,.int .i64 ns.length),(33,.int .i64 ns.length),(34,.bool false)] ⟨H,0,[]⟩) :
  WC (E 44) (.loop l161_0) Q [(7,.str (wordB kk)),(31,.slice (ints ns) ns.length .exact),(32,.int .i64 ns.length),(33,.int .i64 0)] ⟨H,0,[]⟩:=by
 refine zCq ns.length (fun k=>[(7,.str (rowN (wordB kk) (ns.take k))),(31,.slice (ints ns) ns.length .exact),(32,.int .i64 ns.length),(33,.int .i64 k)]) (fun _=>⟨H,0,[]⟩) rfl rfl ?_
 intro k hk I hI
 by_cases h':k<ns.length
 ·have h1:(k:Int)<ns.length:=by omega
  have h2:0≤(k:Int)∧(k:Int)<ns.length:=by omega
  have h3:ns[k]? = some ns[k]:=zF h'
  have h4:IntKind.i64.wrap ((k:Int)+1)=(k+1:Nat):=wrap64 (by omega)
  have hm:=h _ (zX h')
  have h5:=zBa hm
  have h6:=zFg (ns.take k) (wordB kk) fun m hm=>h m (List.mem_of_mem_take hm)
  have h7:=wordB_size kk
  have h8:(ns.take k).length≤4:=by simp;omega
  have h9:sp.size+(itoaB ns[k]).size≤4611686018427387904:=by show 1+_≤_;omega
  have h10:(rowN (wordB kk) (ns.take k)).size+(sp ++ itoaB ns[k]).size≤4611686018427387904:=by rw [qI];show _+(1+_)≤_;omega
  simp only [go_sem,l161_0,zAa,h1,decide_true,h2,ints_get,h3,zAf,zW,zB,zD,zC,reduceIte,reduceCtorEq,zA]
  refine cp n162 (Itoa_pc _ hm.1 hm.2) (SubL.refl _) ?_
  have h11:binA T .add 9 (.str ⟨#[32]⟩) (.str (itoaB ns[k]))=some (.str (sp ++ itoaB ns[k])):=addS h9
  have h12:=addS h10
  simp only [go_sem,h11,h12,h4,zB,zD,zC,reduceIte,reduceCtorEq,zA]
  have:=hI h'
  rw [rowN_take _ _ _ h'] at this
  exact this
 ·have h1:¬ (k:Int)<ns.length:=by omega
  have e:k=ns.length:=by omega
  subst e
  simp only [go_sem,l161_0,zAa,h1,decide_false,qZ,zB,zD,zC,reduceIte,reduceCtorEq,zA]
  exact hQ
theorem rowI_pc (n:Int) (h:i64 n):PC Tryz.prog 161 [.iface 3 (.int .i64 n)] (.pure (.str (rowB 0 [n]))):=by
 refine PC.of_empty (AC.run (E_ok _) mix Tryz.func161 m161 rfl rfl rfl (zE rfl) ?_) (by simp [bndL,AV.bnd]) rfl
 have hi:indexA T 228 (.agg [.str (wordB 0),.str (wordB 1)]) (.int .i64 0)=some (.str (wordB 0)):=rfl
 simp only [go_sem,zAc,zB,zD,zC,reduceIte,reduceCtorEq,zA]
 refine cp n179 words_pc (SubL.refl _) ?_
 simp only [go_sem,hi,zAa,zB,zD,zC,reduceIte,reduceCtorEq,zA]
 refine row_loop 0 [n] (zE rfl) (fun m hm=>by rw [yH] at hm;subst hm;exact h) _ _ ?_
 simp only [go_sem,Tryz.f161,zB,zD,zC,reduceIte,reduceCtorEq,zA]
theorem rowS_pc (x:Sight) (h:∀ n∈nsS x,i64 n):PC Tryz.prog 161 [.iface 85 (.agg (sgtC x))] (.pure (.str (rowB 1 (nsS x)))):=by
 refine PC.of_empty (AC.run (E_ok _) mix Tryz.func161 m161 rfl rfl rfl (zE rfl) ?_) (by simp [bndL,AV.bnd]) rfl
 have hi:indexA T 228 (.agg [.str (wordB 0),.str (wordB 1)]) (.int .i64 1)=some (.str (wordB 1)):=rfl
 simp only [go_sem,zAc,zAd,AV.cells,AV.one,zL,zO,zJ,splice,zI,zH,and_self,zB,zD,zC,reduceIte,reduceCtorEq,zA]
 refine cp n179 words_pc (SubL.refl _) ?_
 simp only [go_sem,hi,zAa,zB,zD,zC,reduceIte,reduceCtorEq,zA]
 refine row_loop 1 (nsS x) (zN _) h _ _ ?_
 simp only [go_sem,Tryz.f161,zB,zD,zC,reduceIte,reduceCtorEq,zA]
end Go.Av.Lx
end
