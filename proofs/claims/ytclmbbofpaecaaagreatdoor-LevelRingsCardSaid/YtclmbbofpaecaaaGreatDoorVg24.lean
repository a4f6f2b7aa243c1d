/- Part 24 of the proof. -/
import Derived.Test.YtclmbbofpaecaaaGreatDoorVg23
import Derived.Test.YtclmbbofpaecaaaGreatDoorVg14
import Derived.Shelf.Strings.OnBuilder
import Derived.Shelf.LaysM
import Derived.Shelf.Strconv.Itoa3
import Derived.Shelf.Strings.Split
import Derived.Test.YtclmbbofpaecaaaGreatDoorProg
import Derived.Test.YtclmbbofpaecaaaGreatDoorVg10
set_option linter.all false
set_option linter.unusedVariables false
set_option linter.unusedSimpArgs false
set_option linter.unusedSectionVars false
open Array renaming getElem?_eq_getElem → qC, getElem?_eq_none → qT
open Bool renaming and_self → zJ, and_eq_true → zU, not_true → zY, not_false → qD, false_and → qJ, true_and → yF
open List renaming getElem?_eq_getElem → zF, set_cons_succ → zH, set_cons_zero → zI, all_cons → zK, all_nil → zM, getElem?_eq_none → zO, mem_cons_self → zP, mem_cons_of_mem → zQ, getElem_mem → zT, getElem?_map → qF, append_assoc → qG, take_succ_eq_append_getElem → qH, length_nil → qI, nil_append → qL, cons_append → qP, map_append → qX, take_length → yH, length_take → yO
open Nat renaming reduceLeDiff → zA, reduceEqDiff → zB, reduceAdd → zC, reduceBEq → zD, le_of_ble_eq_true → zE, le_refl → zN, lt_or_ge → zW, zero_le → qM, not_lt_zero → qS
open Option.some renaming injEq → xA
section
set_option maxHeartbeats 2000000
namespace Go.Av.Lx
open Go Go.Av Go.Av.Tb Go.Av.Fx Go.Proofs
open Go.Lv (Sight Survey Sw Sv SightOk Stp bgS enS stpD chainB closedB ringB stepB)
open Go.Fw (Sq ent Bd Mat)
theorem mapGet {S:St} {i:Nat} {ks:List Int} (h:S.heap[i]? = some (some (.map (metA ks)))) (n:Int):lookupA T S 181 (.map i) (.int .i64 n) false=some (.bool (ks.contains n)):=by
 have d1:descOf T 181=some (.map 3 4):=rfl
 have d2:descOf T 3=some (.int .i64):=rfl
 have d3:T 4=some ti4:=rfl
 have d4:aggD ti4.desc=false:=rfl
 simp only [lookupA,d1,d2,d3,h,isKey,d4,and_self,if_true]
 cases hc:ks.contains n
 ·rw [((zFe n ks 0).1 hc)];rfl
 ·obtain ⟨j,h1,h2⟩:=(zFe n ks 0).2 hc
  rw [h1];rfl
def badStp (s:Survey) (x:Stp):Bool:=!inB x.sight 0 (s.sights.length - 1)
theorem badStp_iff {s:Survey} {x:Stp}:badStp s x=false↔InS s x:=by
 unfold badStp
 rw [Bool.not_eq_false',inB_iff]
 exact ⟨fun ⟨a,b⟩=>⟨a,by omega⟩,fun ⟨a,b⟩=>⟨a,by omega⟩⟩
theorem isRing1_pc (s:Survey) (hl:okL s.sights.length) (x:Stp):PC Tryz.prog 134 [.agg (stpC x),.eptr (surC s) 0] (.pure (.bool (badStp s x))):=by
 refine PC.of_empty (AC.run (E_ok _) mix Tryz.func134 m134 rfl rfl rfl (zE rfl) ?_) (by simp [bndL,AV.bnd]) rfl
 have w:IntKind.i64.wrap ((s.sights.length:Int) - 1)=(s.sights.length:Int) - 1:=wrap64 (by unfold okL at hl;omega)
 unfold badStp
 simp only [go_sem,boxA,zAa,w,zB,zD,zC,reduceIte,reduceCtorEq,zA]
 refine cp n100 (in_pc _ _ _) (SubL.refl _) ?_
 rw [show (decide (x.sight ≥ 0) && decide (x.sight≤(s.sights.length:Int) - 1))=inB x.sight 0 (s.sights.length - 1) from rfl]
 simp only [go_sem,zAj,Tryz.f134,zB,zD,zC,reduceIte,reduceCtorEq,zA]
def RingTo (s:Survey) (l:List Stp) (k:Nat):Prop:=∀ i,i<k→bgS s (l.getD ((i+1) % l.length) stpD)=enS s (l.getD i stpD) ∧ ∀ j,j<i→enS s (l.getD j stpD)≠enS s (l.getD i stpD)
theorem ringTo_iff {s:Survey} {l:List Stp} (h:1<l.length):RingTo s l l.length↔closedB s l=true:=by
 unfold closedB
 rw [zU,zU,decide_eq_true_iff,decide_eq_true_iff,zEl]
 constructor
 ·intro hr
  refine ⟨h,fun i hi=>⟨?_,(hr i hi).2⟩, ?_⟩
  ·rcases Nat.eq_zero_or_pos i with h0 | h0
   ·exact .inl h0
   ·have:=(hr (i - 1) (by omega)).1
    rw [show (i - 1+1) % l.length=i by rw [show i - 1+1=i by omega];exact Nat.mod_eq_of_lt hi] at this
    exact .inr this
  ·have:=(hr (l.length - 1) (by omega)).1
   rw [show (l.length - 1+1) % l.length=0 by rw [show l.length - 1+1=l.length by omega];exact Nat.mod_self _] at this
   exact this
 ·rintro ⟨_,hc,he⟩ i hi
  refine ⟨?_,(hc i hi).2⟩
  by_cases e:i+1=l.length
  ·rw [e,Nat.mod_self,show i=l.length - 1 by omega];exact he
  ·rw [Nat.mod_eq_of_lt (by omega:i+1<l.length)]
   rcases (hc (i+1) (by omega)).1 with h0 | h0
   ·omega
   ·exact h0
theorem up_bd {s:Survey} (h:Sw s) {x:Stp} (hx:InS s x):-1050≤upSt s x∧upSt s x≤1050:=(h.bd _ (Lv.step_mem hx)).2.2.2
theorem tot_bd {s:Survey} (h:Sw s):∀ {l:List Stp},Lv.StepsIn s l → -1050 * (l.length:Int)≤Wk.tot (stepB s) l∧Wk.tot (stepB s) l≤1050 * l.length
 | [],_=>by show -1050 * ((0:Nat):Int)≤0∧(0:Int)≤1050 * ((0:Nat):Int);omega
 | x :: l,hl=>by
  have h1:=tot_bd h (l:=l) fun y hy=>hl y (zQ _ hy)
  have h2:=up_bd h (hl x zP)
  unfold upSt at h2
  show -1050 * ((l.length+1:Nat):Int)≤(stepB s x).m+Wk.tot (stepB s) l∧(stepB s x).m+Wk.tot (stepB s) l≤1050 * ((l.length+1:Nat):Int)
  omega
def isRingA (s:Survey) (l:List Stp):AV:=if (zAp s && (decide (l.length≤8) && !l.any (badStp s)))=true then .tuple [.bool (ringB s l),.int .i64 0] else .tuple [.bool false,.int .i64 2]
theorem isRingA_bnd (s:Survey) (l:List Stp):(isRingA s l).bnd 0 0=true:=by
 unfold isRingA;split <;> rfl
theorem IsRing_pc (s:Survey) (hl:okL s.sights.length) (l:List Stp) (hll:okL l.length):PC Tryz.prog 71 [surA s,stpsA l] (.pure (isRingA s l)):=by
 refine PC.of_empty (AC.run (E_ok _) mix Tryz.func71 m71 rfl rfl rfl (zE rfl) ?_) (by simp [bndL,AV.bnd]) (isRingA_bnd s l)
 unfold isRingA
 simp only [go_sem,boxA,zB,zD,zC,reduceIte,reduceCtorEq,zA]
 refine cp n89 (zBs s hl) (SubL.refl _) ?_
 cases hs:zAp s
 ·simp only [go_sem,zAj,qD,qJ,Tryz.f71,zB,zD,zC,reduceIte,reduceCtorEq,zA]
 have hv:=zDs.1 hs
 by_cases h8:l.length≤8
 rotate_left
 ·have h8':(l.length:Int) > 8:=by omega
  rw [decide_eq_false h8,qJ,Bool.and_false]
  simp only [go_sem,zAj,zY,zAa,h8',decide_true,Tryz.f71,zB,zD,zC,reduceIte,reduceCtorEq,zA]
 have h8':¬ (l.length:Int) > 8:=by omega
 rw [decide_eq_true h8,yF,yF]
 have hC:=containsFuncP_pc l hll 134 n134 [.eptr (surC s) 0] (by simp [bndL,AV.bnd]) (badStp s) (fun x _=>isRing1_pc s hl x)
 simp only [go_sem,zAj,zY,zAa,h8',decide_false,zB,zD,zC,reduceIte,reduceCtorEq,zA]
 refine cl n133 hC (LntL.cons (.same _ (by simp [AV.bnd])) (LntL.cons (Lnt.func1 (.ptr 0 0 _ rfl (by simp [bndL,AV.bnd]))) (LntL.nil _))) rfl ?_
 cases hb:l.any (badStp s)
 rotate_left
 ·simp only [go_sem,zY,Tryz.f71,zB,zD,zC,reduceIte,reduceCtorEq,zA]
 have hin:Lv.StepsIn s l:=fun x hx=>badStp_iff.1 (by
  have:=List.any_eq_false.1 hb x hx
  simpa using this)
 rw [qD,if_pos rfl]
 have hbd:=fun k=>tot_bd hv.toSw (l:=l.take k) fun y hy=>hin y (List.mem_of_mem_take hy)
 simp only [go_sem,zEy,zAa,zB,zD,zC,reduceIte,reduceCtorEq,zA]
 refine zAt (fun m ts' S' => ∃ k X,k≤l.length∧m=l.length - k∧RingTo s l k∧ts'=[(1,stpsA l),(2,.ref 0 0),(6,.int .i64 (Wk.tot (stepB s) (l.take k))),(7,.map 1),(26,stpsA l),(27,.int .i64 l.length),(28,.int .i64 (k:Nat))]∧S'=⟨[some (.cells (surC s)),some (.map (metA ((l.take k).map (enS s))))] ++ X,0,[]⟩) l.length ⟨0,[],qM _,rfl,fun i hi=>absurd hi (qS _),rfl,rfl⟩ ?_
 rintro m ts' S' ⟨k,X,hk,rfl,hR,rfl,rfl⟩
 have c1:=fun q=>zAg X q
 have c2:=fun x B=>zAs X x B
 have c3:=fun a q=>zAg (X ++ [a]) q
 have c4:=fun a x B=>zAs (X ++ [a]) x B
 simp only [qG,qP,qL] at c3 c4
 by_cases hkl:k<l.length
 rotate_left
 ·have k1:¬ (k:Int)<l.length:=by omega
  have ek:k=l.length:=by omega
  subst ek
  rw [yH]
  by_cases h2:2≤l.length
  ·have h2':(l.length:Int) ≥ 2:=by omega
   have hcl:=(ringTo_iff (by omega)).1 hR
   simp only [go_sem,l71_0,k1,decide_false,zAa,h2',decide_true,Tryz.f71,zB,zD,zC,reduceIte,reduceCtorEq,zA]
   unfold ringB
   rw [hcl,yF]
   all_goals rfl
  ·have h2':¬ (l.length:Int) ≥ 2:=by omega
   have hcl:closedB s l=false:=by
    unfold closedB;rw [decide_eq_false (by omega),qJ]
   simp only [go_sem,l71_0,k1,decide_false,zAa,h2',Tryz.f71,zB,zD,zC,reduceIte,reduceCtorEq,zA]
   unfold ringB
   rw [hcl,qJ]
 have k1:(k:Int)<l.length:=by omega
 have k2:0≤(k:Int)∧(k:Int)<l.length:=by omega
 have k3:k * 2+2≤(stpsC l).length:=by rw [zAv];omega
 have k4:IntKind.i64.wrap ((k:Int)+1)=(k+1:Nat):=wrap64 (by omega)
 have k5:=zBt l k hkl
 have hx:=hin _ (zT hkl)
 have htk:l.take (k+1)=l.take k ++ [l[k]]:=qH hkl
 have htot:Wk.tot (stepB s) (l.take (k+1))=Wk.tot (stepB s) (l.take k)+upSt s l[k]:=by
  rw [htk,Wk.tot_app]
  show _+((stepB s l[k]).m+0)=_
  rw [Int.add_zero];rfl
 have hb1:=hbd (k+1)
 rw [yO] at hb1
 have ws:IntKind.i64.wrap (Wk.tot (stepB s) (l.take k)+upSt s l[k])=Wk.tot (stepB s) (l.take (k+1)):=by rw [← htot];exact wrap64 (by omega)
 have hmod:(k+1) % l.length<l.length:=Nat.mod_lt _ (by omega)
 have hr:intOp .rem .i64 ((k+1:Nat):Int) (l.length:Int)=some (.int .i64 ((k+1) % l.length:Nat)):=rem_nat (by omega)
 have n2:0≤(((k+1) % l.length:Nat):Int)∧(((k+1) % l.length:Nat):Int)<l.length:=by omega
 have n3:(k+1) % l.length * 2+2≤(stpsC l).length:=by rw [zAv];omega
 have n5:=zBt l ((k+1) % l.length) hmod
 have hxn:=hin _ (zT hmod)
 have e1:=zBq hkl
 have e2:=zBq hmod
 have hget:∀ Y,lookupA T ⟨some (.cells (surC s)) :: some (.map (metA ((l.take k).map (enS s)))) :: Y,0,[]⟩ 181 (.map 1) (.int .i64 (enS s l[k])) false=some (.bool (((l.take k).map (enS s)).contains (enS s l[k]))):=fun Y=>mapGet rfl _
 have hput:∀ Y,zAx T ⟨some (.cells (surC s)) :: some (.map (metA ((l.take k).map (enS s)))) :: Y,0,[]⟩ 181 (.map 1) (.int .i64 (enS s l[k])) (.bool true)=some (.write 1 (.map (metA (addK ((l.take k).map (enS s)) (enS s l[k])))) .undef):=fun Y=>mapUpd rfl _
 have hfail:¬ RingTo s l (k+1)→ringB s l=false:=fun hn=>by
  unfold ringB
  by_cases h2:1<l.length
  ·cases hc:closedB s l with
   | false=>rfl
   | true=>exact absurd (fun i hi=>(ringTo_iff h2).2 hc i (by omega)) hn
  ·have hcl:closedB s l=false:=by
    unfold closedB;rw [decide_eq_false (by omega),qJ]
   rw [hcl,qJ]
 simp only [surC] at hget hput
 simp only [go_sem,l71_0,k1,decide_true,k2,k3,k5,zAe,and_self,c1,c2,zAd,AV.cells,AV.one,zK,zM,zJ,splice,zI,zH,zB,zD,zC,reduceIte,reduceCtorEq,zA]
 refine cp n135 (rises_pc s hv.toSw l[k] hx) (SubL.refl _) ?_
 simp only [go_sem,c1,ws,zB,zD,zC,reduceIte,reduceCtorEq,zA]
 refine cp n136 (ends_pc s l[k] hx) (SubL.refl _) ?_
 simp only [go_sem,k4,zAa,hr,n2,n3,n5,zAe,and_self,c1,c2,c3,c4,zAd,AV.cells,AV.one,zK,zM,zJ,splice,zI,zH,zB,zD,zC,reduceIte,reduceCtorEq,zA]
 refine cp n137 (zFr s l[(k+1) % l.length] hxn) (SubL.refl _) ?_
 by_cases hne:bgS s l[(k+1) % l.length]=enS s l[k]
 rotate_left
 ·have hd:=decide_eq_true hne
  simp only [go_sem,hd,Tryz.f71,zB,zD,zC,reduceIte,reduceCtorEq,zA]
  rw [hfail fun hh=>hne (by have:=(hh k (by omega)).1;rw [e1,e2] at this;exact this)]
 have hd:decide (bgS s l[(k+1) % l.length]≠enS s l[k])=false:=decide_eq_false fun h=>h hne
 cases hc:((l.take k).map (enS s)).contains (enS s l[k])
 rotate_left
 ·rw [hc] at hget
  simp only [go_sem,hd,hget,Tryz.f71,zB,zD,zC,reduceIte,reduceCtorEq,zA]
  rw [hfail fun hh=>by
   rw [List.contains_iff_mem,List.mem_map] at hc
   obtain ⟨y,hy,ey⟩:=hc
   obtain ⟨j,hj,rfl⟩:=List.mem_iff_getElem.1 hy
   rw [yO] at hj
   rw [List.getElem_take] at ey
   have:=(hh k (by omega)).2 j (by omega)
   rw [e1,zBq (by omega:j<l.length)] at this
   exact this ey]
 rw [hc] at hget
 have hadd:addK ((l.take k).map (enS s)) (enS s l[k])=(l.take (k+1)).map (enS s):=by
  unfold addK
  rw [hc,if_neg (by decide),htk,qX];rfl
 rw [hadd] at hput
 simp only [go_sem,hd,hget,hput,zAd,k4,zB,zD,zC,reduceIte,reduceCtorEq,zA]
 refine zAh (l.length - (k+1)) (by omega) ⟨k+1,_,hkl,rfl,fun i hi => ?_,rfl,rfl⟩
 by_cases ei:i=k
 ·subst ei
  refine ⟨by rw [e1,e2];exact hne,fun j hj ee => ?_⟩
  rw [e1,zBq (by omega:j<l.length)] at ee
  have:((l.take i).map (enS s)).contains (enS s l[i])=true:=by
   rw [List.contains_iff_mem,List.mem_map]
   refine ⟨l[j], ?_,ee⟩
   rw [List.mem_iff_getElem]
   exact ⟨j,by rw [yO];omega,by rw [List.getElem_take]⟩
  rw [hc] at this;cases this
 ·exact hR i (by omega)
end Go.Av.Lx
end
section
set_option maxHeartbeats 2000000
namespace Go.Av.Lx
open Go Go.Av Go.Av.Tb Go.Av.Fx Go.Proofs
open Go.Lv (Sight Survey Sw Sv SightOk Stp bgS enS riseS stpD chainB closedB ringB ringA ringR stepB stpAt firstI shortR)
open Go.Fw (Sq ent Bd Mat)
theorem stps_cell (l:List Stp) (k j:Nat) (h:k<l.length) (hj:j<2):(stpsC l)[k * 2+j]? = (stpC l[k])[j]?:=by
 rw [← zBt l k h,List.getElem?_take_of_lt hj,List.getElem?_drop]
def zEm (s:Survey) (l:List Stp):Bool:=decide (l.length≤8) && !l.any (badStp s)
theorem Steps_pc (s:Survey) (hl:okL s.sights.length) (l:List Stp) (hll:okL l.length):PC Tryz.prog 73 [surA s,stpsA l] (.pure (.bool (zEm s l))):=by
 refine PC.of_empty (AC.run (E_ok _) mix Tryz.func73 m73 rfl rfl rfl (zE rfl) ?_) (by simp [bndL,AV.bnd]) rfl
 have w:IntKind.i64.wrap ((s.sights.length:Int) - 1)=(s.sights.length:Int) - 1:=wrap64 (by unfold okL at hl;omega)
 simp only [go_sem,boxA,zB,zD,zC,reduceIte,reduceCtorEq,zA]
 refine zBb l.length (fun k => ∀ i (h1:i<k) (h2:i<l.length),badStp s l[i]=false) (fun k=>[(1,stpsA l),(2,.ref 0 0),(5,.int .i64 (k:Nat))]) (fun _=>⟨[some (.cells (surC s))],0,[]⟩) (fun i hi=>absurd hi (qS _)) rfl rfl ?_
 intro k hk hP I hI
 by_cases hlt:k<l.length
 ·have h1:(k:Int)<l.length:=by omega
  have h4:IntKind.i64.wrap ((k:Int)+1)=(k+1:Nat):=wrap64 (by unfold okL at hll;omega)
  have k2:0≤(k:Int)∧(k:Int)<l.length:=by omega
  have g0:(stpsC l)[k * 2+0]? = some (.int .i64 l[k].sight):=stps_cell l k 0 hlt (by decide)
  have hbs:badStp s l[k] = !inB l[k].sight 0 (s.sights.length - 1):=rfl
  simp only [go_sem,l73_0,zAa,h1,decide_true,k2,zAe,and_self,g0,w,zB,zD,zC,reduceIte,reduceCtorEq,zA]
  refine cp n88 (rin_pc _ _ _) (SubL.refl _) ?_
  rw [← Bool.not_not (inB l[k].sight 0 (s.sights.length - 1)),← hbs]
  cases hb:badStp s l[k]
  ·simp only [go_sem,zAj,qD,zY,h4,zB,zD,zC,reduceIte,reduceCtorEq,zA]
   refine hI hlt fun i h1 h2 => ?_
   by_cases ei:i=k
   ·subst ei;exact hb
   ·exact hP i (by omega) h2
  ·have hno:zEm s l=false:=by
    unfold zEm
    rw [show l.any (badStp s)=true from List.any_eq_true.2 ⟨l[k],zT hlt,hb⟩];simp
   simp only [go_sem,zAj,qD,zY,Tryz.f73,zB,zD,zC,reduceIte,reduceCtorEq,zA]
   rw [hno]
 ·have h1:¬ (k:Int)<l.length:=by omega
  have hany:l.any (badStp s)=false:=List.any_eq_false.2 fun x hx=>by
   obtain ⟨i,hi,rfl⟩:=List.mem_iff_getElem.1 hx
   rw [hP i (by omega) hi];decide
  have hd:decide ((l.length:Int)≤8)=decide (l.length≤8):=decide_eq_decide.2 (by omega)
  simp only [go_sem,l73_0,zAa,h1,decide_false,hd,Tryz.f73,zB,zD,zC,reduceIte,reduceCtorEq,zA]
  unfold zEm
  rw [hany,qD,Bool.and_true]
theorem isRing_draw (s:Survey) (hs:Sw s) (l:List Stp) (k:Nat) (hk:k<l.length) (hx:InS s l[k]) (sum:Int) (hsum:-1000000≤sum∧sum≤1000000) (Q:AQ) (hQ:Q .normal [(1,stpsA l),(2,.ref 0 0),(5,.int .i64 (sum+upSt s l[k])),(6,.int .i64 (k:Nat))] ⟨[some (.cells (surC s))],0,[]⟩) :
  WC (E 39) (.draw [1,2,5,6] 18 [] r74_5) Q [(1,stpsA l),(2,.ref 0 0),(5,.int .i64 sum),(6,.int .i64 (k:Nat)),(10,.bool true)] ⟨[some (.cells (surC s))],0,[]⟩:=by
 have k2:0≤(k:Int)∧(k:Int)<l.length:=by omega
 have k3:k * 2+2≤(stpsC l).length:=by rw [zAv];omega
 have k5:=zBt l k hk
 have g0:(stpsC l)[k * 2+0]? = some (.int .i64 l[k].sight):=stps_cell l k 0 hk (by decide)
 have hrp:=rise_pc s hs l[k] hx
 generalize l[k]=x at *
 obtain ⟨i,b⟩:=x
 obtain ⟨q,rfl⟩:∃ q:Nat,i=q:=⟨i.toNat,by have:=hx.1;simp only at this;omega⟩
 have h2:(q:Int)<s.sights.length:=hx.2
 have hq:q<s.sights.length:=by omega
 have q2:0≤(q:Int)∧(q:Int)<s.sights.length:=by omega
 have g3:(sgts s.sights)[q * 4+3]? = some (.int .i64 s.sights[q].off):=zDn s.sights q 3 hq (by decide)
 have hso:=hs.sights _ (zT hq)
 have b1:=hso.rise;have b2:=hso.off
 have hup:upSt s ⟨q,b⟩=riseS s ⟨q,b⟩+s.sights[q].off:=by
  unfold upSt Lv.stepB Lv.stepG riseS
  rw [zDo hq]
  unfold Lv.upS Lv.downS
  cases b
  ·rfl
  ·show s.sights[q].off - s.sights[q].rise = -s.sights[q].rise+s.sights[q].off
   omega
 have hr:-1000≤riseS s ⟨q,b⟩∧riseS s ⟨q,b⟩≤1000:=by
  unfold riseS
  rw [zDo hq]
  cases b
  ·exact b1
  ·show -1000 ≤ -s.sights[q].rise ∧ -s.sights[q].rise≤1000
   omega
 have w1:IntKind.i64.wrap (sum+riseS s ⟨q,b⟩)=sum+riseS s ⟨q,b⟩:=wrap64 (by omega)
 have w2:IntKind.i64.wrap (sum+riseS s ⟨q,b⟩+s.sights[q].off)=sum+upSt s ⟨q,b⟩:=by rw [hup,← Int.add_assoc];exact wrap64 (by omega)
 simp only [go_sem,k2,k3,k5,zAe,and_self,zB,zD,zC,reduceIte,reduceCtorEq,zA]
 refine qp n139 hrp (SubL.refl _) ?_
 simp only [go_sem,w1,k2,zAe,and_self,g0,q2,g3,w2,zB,zD,zC,reduceIte,reduceCtorEq,zA]
 exact hQ
theorem rIsRing_pc (s:Survey) (hs:Sw s) (l:List Stp) (hll:l.length≤100) (hin:Lv.StepsIn s l):PC Tryz.prog 74 [surA s,stpsA l] (.pure (.bool (ringB s l))):=by
 refine PC.of_empty (AC.run (E_ok _) mix Tryz.func74 m74 rfl rfl rfl (zE rfl) ?_) (by simp [bndL,AV.bnd]) rfl
 have hbd:=fun k=>tot_bd hs (l:=l.take k) fun y hy=>hin y (List.mem_of_mem_take hy)
 simp only [go_sem,boxA,zB,zD,zC,reduceIte,reduceCtorEq,zA]
 refine zDv l.length (fun k=>[(1,stpsA l),(2,.ref 0 0),(5,.int .i64 (Wk.tot (stepB s) (l.take k))),(6,.int .i64 (k:Nat))]) (fun _=>⟨[some (.cells (surC s))],0,[]⟩) rfl rfl ?_
 intro k hk I hI
 obtain ⟨D,hD⟩:∃ D,MC.draw [1,2,5,6] 18 [] r74_5=D:=⟨_,rfl⟩
 unfold l74_0
 rw [hD]
 by_cases hlt:k<l.length
 ·have h1:(k:Int)<l.length:=by omega
  have h4:IntKind.i64.wrap ((k:Int)+1)=(k+1:Nat):=wrap64 (by omega)
  have hb:=hbd k
  rw [yO] at hb
  have htot:Wk.tot (stepB s) (l.take (k+1))=Wk.tot (stepB s) (l.take k)+upSt s l[k]:=by
   rw [qH hlt,Wk.tot_app]
   show _+((stepB s l[k]).m+0)=_
   rw [Int.add_zero];rfl
  have hI:=hI hlt
  rw [htot] at hI
  simp only [go_sem,zAa,h1,decide_true,zB,zD,zC,reduceIte,reduceCtorEq,zA]
  subst hD
  refine isRing_draw s hs l k hlt (hin _ (zT hlt)) _ (by omega) _ ?_
  simp only [go_sem,h4,zB,zD,zC,reduceIte,reduceCtorEq,zA]
  exact hI
 ·have h1:¬ (k:Int)<l.length:=by omega
  have ek:k=l.length:=by omega
  subst ek
  rw [yH]
  simp only [go_sem,zAa,h1,decide_false,zB,zD,zC,reduceIte,reduceCtorEq,zA]
  refine cp n140 (closed_pc s l hll hin) (SubL.refl _) ?_
  unfold ringB
  cases hc:closedB s l
  ·simp only [go_sem,qJ,Tryz.f74,zB,zD,zC,reduceIte,reduceCtorEq,zA]
  ·simp only [go_sem,yF,Tryz.f74,zB,zD,zC,reduceIte,reduceCtorEq,zA]
theorem own_sr0p {l:List Stp} (hl:l.length≤100) {b:St} {tx:Tail} {nt:Nat} {toks:List Nat} {H:List (Option Blk)} {K:AV→St→Prop} {hK:Hold K}
  (next:∀ V' nt' toks',nt≤nt'→Own (stpsC l) l.length V' nt' toks'→K V' ⟨H,nt',toks'⟩):sr K hK (appendA T b 117 .nilS (.slice (stpsC l) l.length tx)) ⟨H,nt,toks⟩:=by
 rcases Nat.eq_zero_or_pos l.length with h | h
 ·have e:l=[]:=List.length_eq_zero_iff.1 h
  subst e
  rw [show stpsC []=[] from rfl,qI,app_stp0,sr_pure]
  exact next _ _ _ (zN _) (Own.nil _ _)
 ·refine zDt (l:=[]) (n:=0) rowSteps (Own.nil _ _) rfl (zAv l) (by omega) (stps_one l) (by omega) fun V' toks' g => ?_
  have:=g.own
  rw [qL,Nat.zero_add] at this
  exact next _ _ _ (by omega) this
def rringA (s:Survey) (m:Nat) (now:List Stp):AV:=match m with
 | 0=>.tuple [stpsA now,.bool (ringB s now)]
 | m+1=>match ringR s (m+1) now with
  | some r=>.tuple [stpsA r,.bool true]
  | none=>.tuple [stpsA [],.bool false]
theorem rringA_bnd (s:Survey) (m:Nat) (now:List Stp):(rringA s m now).bnd 0 0=true:=by
 unfold rringA
 split
 ·simp [bndL,AV.bnd]
 ·split <;> simp [bndL,AV.bnd]
theorem rringA_is (s:Survey) (m:Nat) (now:List Stp):∃ x:List Stp,rringA s m now=.tuple [stpsA x,.bool (ringR s m now).isSome] ∧ ∀ r,ringR s m now=some r→x=r:=by
 unfold rringA
 cases m with
 | zero =>
  refine ⟨now, ?_,fun r hr => ?_⟩
  ·unfold ringR
   cases ringB s now <;> rfl
  ·unfold ringR at hr
   split at hr
   ·cases hr;rfl
   ·cases hr
 | succ m =>
  cases hd:ringR s (m+1) now with
  | some r=>exact ⟨r,by simp only [hd];rfl,fun r' h=>by cases h;rfl⟩
  | none=>exact ⟨[],by simp only [hd];rfl,fun r' h=>by cases h⟩
theorem rring_pc (s:Survey) (hs:Sw s) (hm:s.sights.length≤100) (long:Nat) (hlong:long≤50):∀ (m:Nat) (now:List Stp),now.length+m=long→Lv.StepsIn s now →
  PC Tryz.prog 141 [surA s,stpsA now,.int .i64 long] (.pure (rringA s m now))
 | 0,now,hl,hin=>by
  refine PC.of_empty (AC.run (E_ok _) mix Tryz.func141 m141 rfl rfl rfl (zE rfl) ?_) (by simp [bndL,AV.bnd]) (rringA_bnd _ _ _)
  have h1:(now.length:Int)=long:=by omega
  simp only [go_sem,boxA,zAa,h1,decide_true,zB,zD,zC,reduceIte,reduceCtorEq,zA]
  refine cp n74 (rIsRing_pc s hs now (by omega) hin) (SubL.refl _) ?_
  simp only [go_sem,Tryz.f141,zB,zD,zC,reduceIte,reduceCtorEq,zA]
  all_goals rfl
 | m+1,now,hl,hin=>by
  refine PC.of_frz (AC.run (E_ok _) mix Tryz.func141 m141 rfl rfl rfl (zE rfl) ?_) (by simp [bndL,AV.bnd]) (rringA_bnd _ _ _)
  have h1:¬ ((now.length:Int)=long):=by omega
  have ih:∀ k:Nat,k<2 * s.sights.length→PC Tryz.prog 141 [surA s,stpsA (now ++ [stpAt k]),.int .i64 long] (.pure (rringA s m (now ++ [stpAt k]))):=fun k hk =>
   rring_pc s hs hm long hlong m (now ++ [stpAt k]) (by simp;omega) (fun y hy=>by
    rcases List.mem_append.1 hy with hy | hy
    ·exact hin y hy
    ·rw [List.mem_singleton.1 hy];exact Lv.stpAt_in hk)
  obtain ⟨F,hF⟩:∃ F:Nat→Option (List Stp),F=fun i=>if chainB s (now ++ [stpAt i])=true then ringR s m (now ++ [stpAt i]) else none:=⟨_,rfl⟩
  have hA:rringA s (m+1) now=match firstI F 0 (2 * s.sights.length) with
   | some r=>.tuple [stpsA r,.bool true]
   | none=>.tuple [stpsA [],.bool false]:=by rw [hF];rfl
  rw [hA]
  have wM:IntKind.i64.wrap (2 * (s.sights.length:Int))=(2 * s.sights.length:Nat):=by rw [show 2 * (s.sights.length:Int)=((2 * s.sights.length:Nat):Int) by omega];exact wrap64 (by omega)
  simp only [go_sem,boxA,zAa,h1,decide_false,zB,zD,zC,reduceIte,reduceCtorEq,zA]
  refine zAt (fun q ts' S' => ∃ k nt tk,k≤2 * s.sights.length∧q=2 * s.sights.length - k∧firstI F 0 (2 * s.sights.length)=firstI F k (2 * s.sights.length - k)∧ts'=[(1,stpsA now),(2,.int .i64 long),(3,.ref 0 0),(8,.int .i64 (k:Nat))]∧S'=⟨[some (.cells (surC s))],nt,tk⟩) (2 * s.sights.length) ⟨0,0,[],qM _,rfl,rfl,rfl,rfl⟩ ?_
  rintro q ts' S' ⟨k,nt,tk,hk,rfl,hP,rfl,rfl⟩
  by_cases hlt:k<2 * s.sights.length
  rotate_left
  ·have k1:¬ (k:Int)<(2 * s.sights.length:Nat):=by omega
   rw [show 2 * s.sights.length - k=0 by omega] at hP
   rw [hP]
   simp only [go_sem,l141_0,zAa,wM,k1,decide_false,Tryz.f141,zB,zD,zC,reduceIte,reduceCtorEq,zA]
   exact ⟨_,rfl,Frz.two .nil (.same _)⟩
  have k1:(k:Int)<(2 * s.sights.length:Nat):=by omega
  have h4:IntKind.i64.wrap ((k:Int)+1)=(k+1:Nat):=wrap64 (by omega)
  obtain ⟨r,hr⟩:∃ r,2 * s.sights.length - k=r+1:=⟨2 * s.sights.length - k - 1,by omega⟩
  rw [hr,zBk] at hP
  have hx:InS s (stpAt k):=Lv.stpAt_in hlt
  have hq:intOp .quo .i64 (k:Int) 2=some (.int .i64 (k / 2:Nat)):=quo_nat (y:=2) (by decide) (by omega)
  have hrm:intOp .rem .i64 (k:Int) 2=some (.int .i64 (k % 2:Nat)):=rem_nat (y:=2) (by decide)
  have hb:decide (((k % 2:Nat):Int)=1)=decide (k % 2=1):=decide_eq_decide.2 (by omega)
  have ex:stpAt k=⟨(k / 2:Nat),decide (k % 2=1)⟩:=rfl
  have hC:=ih k hlt
  have eF:F k=if chainB s (now ++ [stpAt k])=true then ringR s m (now ++ [stpAt k]) else none:=by rw [hF]
  obtain ⟨x',ex',hx'⟩:=rringA_is s m (now ++ [stpAt k])
  rw [ex'] at hC
  have hin2:Lv.StepsIn s (now ++ [stpAt k]):=fun y hy=>by
   rcases List.mem_append.1 hy with hy | hy
   ·exact hin y hy
   ·rw [List.mem_singleton.1 hy];exact hx
  have es:=stps_snoc now (stpAt k)
  have hl2:(now ++ [stpAt k]).length=now.length+1:=by simp
  generalize hl2':now ++ [stpAt k]=l2 at *
  generalize stpAt k=x at *
  obtain ⟨xi,xb⟩:=x
  injection ex with ex1 ex2
  simp only [go_sem,l141_0,zAa,wM,k1,decide_true,zB,zD,zC,reduceIte,reduceCtorEq,zA]
  refine own_sr0p (l:=now) (by omega) fun V1 nt1 tk1 _ o1 => ?_
  simp only [go_sem,hq,hrm,hb,zAa,zB,zD,zC,reduceIte,reduceCtorEq,zA]
  rw [← ex1,← ex2]
  refine zDt (lx:=[.int .i64 xi,.bool xb]) rowSteps o1 (zAv now) rfl (by decide) rfl (by omega) fun V2 tk2 g => ?_
  have go:=g.own
  rw [es,← hl2] at go
  have hsub:=go.sub
  simp only [go_sem,zB,zD,zC,reduceIte,reduceCtorEq,zA]
  refine cp n152 (chain_pc s l2 (by omega) hin2) (SubL.cons (Sub.refl _) (SubL.cons hsub (SubL.refl _))) ?_
  cases hch:chainB s l2
  ·rw [hch,if_neg (by decide)] at eF
   rw [eF] at hP
   simp only [go_sem,h4,zB,zD,zC,reduceIte,reduceCtorEq,zA]
   exact zAh (2 * s.sights.length - (k+1)) (by omega) ⟨k+1,nt1+1,tk2,hlt,rfl,by rw [hP,show 2 * s.sights.length - (k+1)=r by omega],rfl,rfl⟩
  ·rw [hch,if_pos rfl] at eF
   rw [eF] at hP
   simp only [go_sem,zB,zD,zC,reduceIte,reduceCtorEq,zA]
   refine cp n141 hC (SubL.cons (Sub.refl _) (SubL.cons hsub (SubL.refl _))) ?_
   cases hrr:ringR s m l2 with
   | none =>
    rw [hrr] at hP
    simp only [go_sem,zAc,Option.isSome_none,h4,zB,zD,zC,reduceIte,reduceCtorEq,zA]
    exact zAh (2 * s.sights.length - (k+1)) (by omega) ⟨k+1,nt1+1,tk2,hlt,rfl,by rw [hP,show 2 * s.sights.length - (k+1)=r by omega],rfl,rfl⟩
   | some rr =>
    rw [hrr] at hP
    rw [hx' rr hrr,hP]
    simp only [go_sem,zAc,Option.isSome_some,Tryz.f141,zB,zD,zC,reduceIte,reduceCtorEq,zA]
    exact ⟨_,rfl,.same _⟩
end Go.Av.Lx
end
section
set_option maxHeartbeats 2000000
namespace Go.Av.Lx
open Go Go.Av Go.Av.Tb Go.Av.Fx Go.Proofs
open Go.Lv (Sight Survey Sw Sv SightOk Stp ringB ringA ringR firstI shortR)
open Go.Fw (Sq ent Bd Mat)
def rRingA (s:Survey):AV:=match shortR s with
 | some r=>.tuple [stpsA r,.bool true]
 | none=>.tuple [stpsA [],.bool false]
theorem rRingA_bnd (s:Survey):(rRingA s).bnd 0 0=true:=by
 unfold rRingA
 split <;> simp [bndL,AV.bnd]
theorem rringA_one (s:Survey) (m:Nat):rringA s (m+1) []=.tuple [stpsA ((ringR s (m+1) []).getD []),.bool (ringR s (m+1) []).isSome]:=by
 show (match ringR s (m+1) [] with
  | some r=>AV.tuple [stpsA r,.bool true]
  | none=>AV.tuple [stpsA [],.bool false])=_
 cases ringR s (m+1) [] <;> rfl
theorem rRing_pc (s:Survey) (hv:Sv s):PC Tryz.prog 75 [surA s] (.pure (rRingA s)):=by
 refine PC.of_frz (AC.run (E_ok _) mix Tryz.func75 m75 rfl rfl rfl (zE rfl) ?_) (by simp [bndL,AV.bnd]) (rRingA_bnd s)
 have hm:=hv.many
 have hst:s.stations=(Lv.num s:Int):=by have:=hv.st;show _=((s.stations.toNat:Nat):Int);omega
 have h8:=hv.toSw.num8
 have h2:2≤Lv.num s:=by have:=hv.st;show 2≤s.stations.toNat;omega
 obtain ⟨G,hG⟩:∃ G:Nat→Option (List Stp),G=fun long=>ringA s long []:=⟨_,rfl⟩
 have hS:shortR s=firstI G 2 (Lv.num s - 1):=by rw [hG];rfl
 have hD:∀ k:Nat,k≤40→PC Tryz.prog 141 [surA s,stpsA [],.int .i64 (2+k:Nat)] (.pure (.tuple [stpsA ((G (2+k)).getD []),.bool (G (2+k)).isSome])):=fun k hk=>by
  have:=rring_pc s hv.toSw (by omega) (2+k) (by omega) (2+k) [] (by simp) (fun x hx=>by cases hx)
  have e1:G (2+k)=ringR s (2+k) []:=by rw [hG];exact (Lv.ringR_eq s _ _).symm
  have e2:=rringA_one s (1+k)
  rw [show 1+k+1=2+k by omega] at e2
  rw [e1,← e2]
  exact this
 unfold rRingA
 rw [hS]
 clear hS hG
 generalize hWW:firstI G 2 (Lv.num s - 1)=W
 simp only [go_sem,boxA,zB,zD,zC,reduceIte,reduceCtorEq,zA]
 refine zBb (Lv.num s - 1) (fun k=>W=firstI G (2+k) (Lv.num s - 1 - k)) (fun k=>[(1,.ref 0 0),(4,.int .i64 (2+k:Nat))]) (fun _=>⟨[some (.cells (surC s))],0,[]⟩) hWW.symm rfl rfl ?_
 clear hWW
 intro k hk hP I hI
 by_cases g:k<Lv.num s - 1
 ·have h1:((2+k:Nat):Int)≤s.stations:=by omega
  have h4:IntKind.i64.wrap (((2+k:Nat):Int)+1)=(2+(k+1):Nat):=wrap64 (by omega)
  have hI:=hI g
  rw [show Lv.num s - 1 - k=(Lv.num s - 1 - (k+1))+1 by omega,zBk] at hP
  have hC:=hD k (by omega)
  simp only [go_sem,l75_0,zAa,h1,decide_true,zB,zD,zC,reduceIte,reduceCtorEq,zA]
  refine cp n141 hC (SubL.cons (Sub.refl _) (SubL.cons Sub.nil (SubL.cons (Sub.refl _) (SubL.refl [])))) ?_
  cases hr:G (2+k) with
  | none =>
   rw [hr] at hP
   simp only [go_sem,zAc,Option.isSome_none,h4,zB,zD,zC,reduceIte,reduceCtorEq,zA]
   exact hI (by rw [hP];rfl)
  | some r =>
   rw [hr] at hP
   subst hP
   simp only [go_sem,zAc,Option.isSome_some,Tryz.f75,zB,zD,zC,reduceIte,reduceCtorEq,zA]
   exact ⟨_,rfl,.same _⟩
 ·have h1:¬ ((2+k:Nat):Int)≤s.stations:=by omega
  have ek:Lv.num s - 1 - k=0:=by omega
  rw [ek] at hP
  subst hP
  simp only [go_sem,l75_0,zAa,h1,decide_false,Tryz.f75,zB,zD,zC,reduceIte,reduceCtorEq,zA]
  exact ⟨_,rfl,Frz.two .nil (.same _)⟩
end Go.Av.Lx
end
section
namespace Go.Proofs
open Go.Shelf
def Tryz.lays156_ren:Go.Shelf.Ren:=⟨fun | 156=>163 | 165=>181 | 166=>182 | 169=>183 | 240=>191 | 241=>192 | 276=>201 | 277=>202 | n=>n,fun | 31=>171 | 9=>9 | 3=>3 | 4=>4 | 0=>0 | 20=>20 | 72=>232 | 76=>236 | 70=>230 | 37=>106 | 75=>235 | 127=>250 | 164=>259 | 5=>5 | 80=>238 | n=>n,fun | n=>n⟩
theorem Tryz.lays156:Go.Proofs.Lays.n156 Tryz.prog Tryz.lays156_ren:={
 mixed:=by kernel_rfl
 f156:=Tryz.func163.trans (congrArg some (by kernel_rfl))
 f165:=Tryz.func181.trans (congrArg some (by kernel_rfl))
 f166:=Tryz.func182.trans (congrArg some (by kernel_rfl))
 f169:=Tryz.func183.trans (congrArg some (by kernel_rfl))
 f240:=Tryz.func191.trans (congrArg some (by kernel_rfl))
 f241:=Tryz.func192.trans (congrArg some (by kernel_rfl))
 f276:=Tryz.func201.trans (congrArg some (by kernel_rfl))
 f277:=Tryz.func202.trans (congrArg some (by kernel_rfl))
 t0:=Tryz.underlying0
 a0:=Tryz.isAgg0
 z0:=Tryz.sizeOf0
 v0:=Tryz.zeroValue0
 t3:=Tryz.underlying3
 a3:=Tryz.isAgg3
 z3:=Tryz.sizeOf3
 v3:=Tryz.zeroValue3
 t4:=Tryz.underlying4
 a4:=Tryz.isAgg4
 z4:=Tryz.sizeOf4
 v4:=Tryz.zeroValue4
 t9:=Tryz.underlying9
 a9:=Tryz.isAgg9
 z9:=Tryz.sizeOf9
 v9:=Tryz.zeroValue9
 t20:=Tryz.underlying20
 a20:=Tryz.isAgg20
 z20:=Tryz.sizeOf20
 v20:=Tryz.zeroValue20
 t31:=Tryz.underlying171
 a31:=Tryz.isAgg171
 z31:=Tryz.sizeOf171
 v31:=Tryz.zeroValue171
 t37:=Tryz.underlying106
 a37:=Tryz.isAgg106
 z37:=Tryz.sizeOf106
 v37:=Tryz.zeroValue106
 t70:=Tryz.underlying230
 a70:=Tryz.isAgg230
 z70:=Tryz.sizeOf230
 v70:=Tryz.zeroValue230
 t72:=Tryz.underlying232
 a72:=Tryz.isAgg232
 z72:=Tryz.sizeOf232
 v72:=Tryz.zeroValue232
 t75:=Tryz.underlying235
 a75:=Tryz.isAgg235
 z75:=Tryz.sizeOf235
 v75:=Tryz.zeroValue235
 t76:=Tryz.underlying236
 a76:=Tryz.isAgg236
 z76:=Tryz.sizeOf236
 v76:=Tryz.zeroValue236
 t127:=Tryz.underlying250
 a127:=Tryz.isAgg250
 z127:=Tryz.sizeOf250
 v127:=Tryz.zeroValue250
 t164:=Tryz.underlying259
 a164:=Tryz.isAgg259
 z164:=Tryz.sizeOf259
 v164:=Tryz.zeroValue259 }
theorem Tryz.Builder_Extra_156:Builder.Extra Tryz.prog Tryz.lays156_ren:={
 sizeBuilder:=by kernel_rfl
 liesBuilder:=by kernel_rfl
 t5:=Tryz.underlying5
 a5:=Tryz.isAgg5
 z5:=Tryz.sizeOf5
 v5:=Tryz.zeroValue5
 infoByte:=by kernel_rfl
 cellsByte:=by kernel_rfl
 sizeByte:=by kernel_rfl
 neB5:=by decide }
open Go.RowKit in
theorem Tryz.strings_Join_none (a:Option Addr) (c:Nat) (sep:ByteArray) (w:World) :
  Calls Tryz.prog 163 #[.slice a 0 c,.string sep] w fun e w'=>e=.returned (.string ⟨#[]⟩)∧w'=w:=Any.strings_Join_none Tryz.lays156 Tryz.Builder_Extra_156 a c sep w
open Go.RowKit in
theorem Tryz.strings_Join (bk o c:Nat) (xs:List ByteArray) (sep:ByteArray) (w:World) (hcells:∀ (j:Nat) x,xs[j]? = some x→w.cell? ⟨bk,o+j,none⟩=some (.string x)) (hbk:bk<w.heap.size) (hN:xs.length≤140737488355328) (hcap:xs.length≤c) (hlen:(Lib.join (xs.map (·.data.toList)) sep.data.toList).length≤140737488355328) :
  Calls Tryz.prog 163 #[.slice (some ⟨bk,o,none⟩) xs.length c,.string sep] w fun e w'=>e=.returned (.string ⟨(Lib.join (xs.map (·.data.toList)) sep.data.toList).toArray⟩)∧Below w.heap.size w w':=Any.strings_Join Tryz.lays156 Tryz.Builder_Extra_156 bk o c xs sep w hcells hbk hN hcap hlen
def Tryz.laysM171_ren:Go.Shelf.Ren:=⟨fun | 171=>162 | 243=>180 | 246=>190 | 283=>197 | 284=>198 | 285=>199 | 286=>200 | 129=>209 | 317=>208 | 318=>210 | 319=>211 | 320=>212 | 337=>219 | 338=>220 | n=>n,fun | 3=>3 | 9=>9 | 2=>2 | 4=>4 | 171=>254 | 0=>0 | 53=>245 | 37=>106 | 5=>5 | 173=>257 | 212=>266 | 51=>242 | 20=>20 | 213=>267 | 46=>222 | 232=>276 | 233=>277 | n=>n,fun | 17=>0 | 18=>4 | 19=>5 | n=>n⟩
theorem Tryz.laysM171:Go.Proofs.LaysM.n171 Tryz.prog Tryz.laysM171_ren:={
 mixed:=by kernel_rfl
 f129:=Tryz.func209.trans (congrArg some (by kernel_rfl))
 f171:=Tryz.func162.trans (congrArg some (by kernel_rfl))
 f243:=Tryz.func180.trans (congrArg some (by kernel_rfl))
 f246:=Tryz.func190.trans (congrArg some (by kernel_rfl))
 f283:=Tryz.func197.trans (congrArg some (by kernel_rfl))
 f284:=Tryz.func198.trans (congrArg some (by kernel_rfl))
 f285:=Tryz.func199.trans (congrArg some (by kernel_rfl))
 f286:=Tryz.func200.trans (congrArg some (by kernel_rfl))
 f317:=Tryz.func208.trans (congrArg some (by kernel_rfl))
 f318:=Tryz.func210.trans (congrArg some (by kernel_rfl))
 f319:=Tryz.func211.trans (congrArg some (by kernel_rfl))
 f320:=Tryz.func212.trans (congrArg some (by kernel_rfl))
 f337:=Tryz.func219.trans (congrArg some (by kernel_rfl))
 f338:=Tryz.func220.trans (congrArg some (by kernel_rfl))
 t0:=Tryz.underlying0
 a0:=Tryz.isAgg0
 z0:=Tryz.sizeOf0
 v0:=Tryz.zeroValue0
 t2:=Tryz.underlying2
 a2:=Tryz.isAgg2
 z2:=Tryz.sizeOf2
 v2:=Tryz.zeroValue2
 t3:=Tryz.underlying3
 a3:=Tryz.isAgg3
 z3:=Tryz.sizeOf3
 v3:=Tryz.zeroValue3
 t4:=Tryz.underlying4
 a4:=Tryz.isAgg4
 z4:=Tryz.sizeOf4
 v4:=Tryz.zeroValue4
 t5:=Tryz.underlying5
 a5:=Tryz.isAgg5
 z5:=Tryz.sizeOf5
 v5:=Tryz.zeroValue5
 t9:=Tryz.underlying9
 a9:=Tryz.isAgg9
 z9:=Tryz.sizeOf9
 v9:=Tryz.zeroValue9
 t20:=Tryz.underlying20
 a20:=Tryz.isAgg20
 z20:=Tryz.sizeOf20
 v20:=Tryz.zeroValue20
 t37:=Tryz.underlying106
 a37:=Tryz.isAgg106
 z37:=Tryz.sizeOf106
 v37:=Tryz.zeroValue106
 t46:=Tryz.underlying222
 a46:=Tryz.isAgg222
 z46:=Tryz.sizeOf222
 v46:=Tryz.zeroValue222
 t51:=Tryz.underlying242
 a51:=Tryz.isAgg242
 z51:=Tryz.sizeOf242
 v51:=Tryz.zeroValue242
 t53:=Tryz.underlying245
 a53:=Tryz.isAgg245
 z53:=Tryz.sizeOf245
 v53:=Tryz.zeroValue245
 t171:=Tryz.underlying254
 a171:=Tryz.isAgg254
 z171:=Tryz.sizeOf254
 v171:=Tryz.zeroValue254
 t173:=Tryz.underlying257
 a173:=Tryz.isAgg257
 z173:=Tryz.sizeOf257
 v173:=Tryz.zeroValue257
 t212:=Tryz.underlying266
 a212:=Tryz.isAgg266
 z212:=Tryz.sizeOf266
 v212:=Tryz.zeroValue266
 t213:=Tryz.underlying267
 a213:=Tryz.isAgg267
 z213:=Tryz.sizeOf267
 t232:=Tryz.underlying276
 a232:=Tryz.isAgg276
 z232:=Tryz.sizeOf276
 v232:=Tryz.zeroValue276
 t233:=Tryz.underlying277
 a233:=Tryz.isAgg277
 z233:=Tryz.sizeOf277
 v233:=Tryz.zeroValue277
 g17:=by kernel_rfl
 g18:=by kernel_rfl
 g19:=by kernel_rfl
 i0:=by kernel_rfl
 i2:=by kernel_rfl
 i3:=by kernel_rfl
 i4:=by kernel_rfl
 i5:=by kernel_rfl
 i9:=by kernel_rfl
 i20:=by kernel_rfl
 i37:=by kernel_rfl
 i46:=by kernel_rfl
 i51:=by kernel_rfl
 i53:=by kernel_rfl
 i171:=by kernel_rfl
 i173:=by kernel_rfl
 i212:=by kernel_rfl
 i232:=by kernel_rfl
 i233:=by kernel_rfl
 m17:=by kernel_rfl
 m18:=by kernel_rfl
 m19:=by kernel_rfl }
open Go.RowKit Go.Sort Go.Lib in
theorem Tryz.strconv_Itoa (n:Int) (h0:-9223372036854775808≤n) (h1:n≤9223372036854775807) (w:World) (htab:Lib.TabIs Tryz.prog w "internal/strconv.uint64pow10" .u64 Lib.pow10Tab) :
  Calls Tryz.prog 162 #[.int .i64 n] w fun e w'=>e=.returned (.string ⟨(Lib.itoa n).toArray⟩) ∧ ∃ k os,w'=grow (w.drewN k) os:=Any.strconv_Itoa Tryz.laysM171 n h0 h1 w htab
def Tryz.lays143_ren:Go.Shelf.Ren:=⟨fun | 143=>195 | 219=>206 | 217=>214 | 225=>215 | 224=>216 | 267=>217 | 266=>221 | 314=>222 | n=>n,fun | 9=>9 | 3=>3 | 4=>4 | 5=>5 | 46=>222 | 146=>243 | 51=>242 | n=>n,fun | 1=>1 | n=>n⟩
theorem Tryz.lays143:Go.Proofs.Lays.n143 Tryz.prog Tryz.lays143_ren:={
 mixed:=by kernel_rfl
 f143:=Tryz.func195.trans (congrArg some (by kernel_rfl))
 f217:=Tryz.func214.trans (congrArg some (by kernel_rfl))
 f219:=Tryz.func206.trans (congrArg some (by kernel_rfl))
 f224:=Tryz.func216.trans (congrArg some (by kernel_rfl))
 f225:=Tryz.func215.trans (congrArg some (by kernel_rfl))
 f266:=Tryz.func221.trans (congrArg some (by kernel_rfl))
 f267:=Tryz.func217.trans (congrArg some (by kernel_rfl))
 f314:=Tryz.func222.trans (congrArg some (by kernel_rfl))
 t3:=Tryz.underlying3
 a3:=Tryz.isAgg3
 z3:=Tryz.sizeOf3
 v3:=Tryz.zeroValue3
 t4:=Tryz.underlying4
 a4:=Tryz.isAgg4
 z4:=Tryz.sizeOf4
 v4:=Tryz.zeroValue4
 t5:=Tryz.underlying5
 a5:=Tryz.isAgg5
 z5:=Tryz.sizeOf5
 v5:=Tryz.zeroValue5
 t9:=Tryz.underlying9
 a9:=Tryz.isAgg9
 z9:=Tryz.sizeOf9
 v9:=Tryz.zeroValue9
 t46:=Tryz.underlying222
 a46:=Tryz.isAgg222
 z46:=Tryz.sizeOf222
 v46:=Tryz.zeroValue222
 t51:=Tryz.underlying242
 a51:=Tryz.isAgg242
 z51:=Tryz.sizeOf242
 v51:=Tryz.zeroValue242
 t146:=Tryz.underlying243
 a146:=Tryz.isAgg243
 z146:=Tryz.sizeOf243
 v146:=Tryz.zeroValue243
 g1:=by kernel_rfl }
open Go.RowKit Go.Lib in
theorem Tryz.strings_Index_one (s:ByteArray) (c:UInt8) (w:World) :
  Calls Tryz.prog 195 #[.string s,.string ⟨#[c]⟩] w fun e w'=>e=.returned (.int .i64 (Lib.indexByte s.data.toList c))∧w'=w:=Any.strings_Index_one Tryz.lays143 s c w
def Tryz.lays138_ren:Go.Shelf.Ren:=⟨fun | 138=>194 | 195=>203 | 218=>205 | 143=>195 | 219=>206 | 217=>214 | 225=>215 | 224=>216 | 267=>217 | 266=>221 | 314=>222 | n=>n,fun | 9=>9 | 3=>3 | 4=>4 | 5=>5 | 0=>0 | 46=>222 | 146=>243 | 51=>242 | n=>n,fun | 1=>1 | n=>n⟩
theorem Tryz.lays138:Go.Proofs.Lays.n138 Tryz.prog Tryz.lays138_ren:={
 mixed:=by kernel_rfl
 f138:=Tryz.func194.trans (congrArg some (by kernel_rfl))
 f143:=Tryz.func195.trans (congrArg some (by kernel_rfl))
 f195:=Tryz.func203.trans (congrArg some (by kernel_rfl))
 f217:=Tryz.func214.trans (congrArg some (by kernel_rfl))
 f218:=Tryz.func205.trans (congrArg some (by kernel_rfl))
 f219:=Tryz.func206.trans (congrArg some (by kernel_rfl))
 f224:=Tryz.func216.trans (congrArg some (by kernel_rfl))
 f225:=Tryz.func215.trans (congrArg some (by kernel_rfl))
 f266:=Tryz.func221.trans (congrArg some (by kernel_rfl))
 f267:=Tryz.func217.trans (congrArg some (by kernel_rfl))
 f314:=Tryz.func222.trans (congrArg some (by kernel_rfl))
 t0:=Tryz.underlying0
 a0:=Tryz.isAgg0
 z0:=Tryz.sizeOf0
 v0:=Tryz.zeroValue0
 t3:=Tryz.underlying3
 a3:=Tryz.isAgg3
 z3:=Tryz.sizeOf3
 v3:=Tryz.zeroValue3
 t4:=Tryz.underlying4
 a4:=Tryz.isAgg4
 z4:=Tryz.sizeOf4
 v4:=Tryz.zeroValue4
 t5:=Tryz.underlying5
 a5:=Tryz.isAgg5
 z5:=Tryz.sizeOf5
 v5:=Tryz.zeroValue5
 t9:=Tryz.underlying9
 a9:=Tryz.isAgg9
 z9:=Tryz.sizeOf9
 v9:=Tryz.zeroValue9
 t46:=Tryz.underlying222
 a46:=Tryz.isAgg222
 z46:=Tryz.sizeOf222
 v46:=Tryz.zeroValue222
 t51:=Tryz.underlying242
 a51:=Tryz.isAgg242
 z51:=Tryz.sizeOf242
 v51:=Tryz.zeroValue242
 t146:=Tryz.underlying243
 a146:=Tryz.isAgg243
 z146:=Tryz.sizeOf243
 v146:=Tryz.zeroValue243
 g1:=by kernel_rfl }
open Go.RowKit Go.Lib in
theorem Tryz.strings_Count_one (s:ByteArray) (c:UInt8) (w:World) :
  Calls Tryz.prog 194 #[.string s,.string ⟨#[c]⟩] w fun e w'=>e=.returned (.int .i64 (Lib.countByte s.data.toList c))∧w'=w:=Any.strings_Count_one Tryz.lays138 s c w
def Tryz.lays221_ren:Go.Shelf.Ren:=⟨fun | 221=>184 | 268=>193 | 138=>194 | 143=>195 | 195=>203 | 197=>204 | 218=>205 | 219=>206 | 260=>213 | 217=>214 | 225=>215 | 224=>216 | 267=>217 | 266=>221 | 314=>222 | n=>n,fun | 9=>9 | 3=>3 | 31=>171 | 4=>4 | 0=>0 | 105=>262 | 21=>21 | 5=>5 | 46=>222 | 119=>271 | 139=>274 | 138=>273 | 146=>243 | 51=>242 | n=>n,fun | 1=>1 | 3=>2 | 4=>3 | n=>n⟩
theorem Tryz.lays221:Go.Proofs.Lays.n221 Tryz.prog Tryz.lays221_ren:={
 mixed:=by kernel_rfl
 f138:=Tryz.func194.trans (congrArg some (by kernel_rfl))
 f143:=Tryz.func195.trans (congrArg some (by kernel_rfl))
 f195:=Tryz.func203.trans (congrArg some (by kernel_rfl))
 f197:=Tryz.func204.trans (congrArg some (by kernel_rfl))
 f217:=Tryz.func214.trans (congrArg some (by kernel_rfl))
 f218:=Tryz.func205.trans (congrArg some (by kernel_rfl))
 f219:=Tryz.func206.trans (congrArg some (by kernel_rfl))
 f221:=Tryz.func184.trans (congrArg some (by kernel_rfl))
 f224:=Tryz.func216.trans (congrArg some (by kernel_rfl))
 f225:=Tryz.func215.trans (congrArg some (by kernel_rfl))
 f260:=Tryz.func213.trans (congrArg some (by kernel_rfl))
 f266:=Tryz.func221.trans (congrArg some (by kernel_rfl))
 f267:=Tryz.func217.trans (congrArg some (by kernel_rfl))
 f268:=Tryz.func193.trans (congrArg some (by kernel_rfl))
 f314:=Tryz.func222.trans (congrArg some (by kernel_rfl))
 t0:=Tryz.underlying0
 a0:=Tryz.isAgg0
 z0:=Tryz.sizeOf0
 v0:=Tryz.zeroValue0
 t3:=Tryz.underlying3
 a3:=Tryz.isAgg3
 z3:=Tryz.sizeOf3
 v3:=Tryz.zeroValue3
 t4:=Tryz.underlying4
 a4:=Tryz.isAgg4
 z4:=Tryz.sizeOf4
 v4:=Tryz.zeroValue4
 t5:=Tryz.underlying5
 a5:=Tryz.isAgg5
 z5:=Tryz.sizeOf5
 v5:=Tryz.zeroValue5
 t9:=Tryz.underlying9
 a9:=Tryz.isAgg9
 z9:=Tryz.sizeOf9
 v9:=Tryz.zeroValue9
 t21:=Tryz.underlying21
 a21:=Tryz.isAgg21
 z21:=Tryz.sizeOf21
 v21:=Tryz.zeroValue21
 t31:=Tryz.underlying171
 a31:=Tryz.isAgg171
 z31:=Tryz.sizeOf171
 v31:=Tryz.zeroValue171
 t46:=Tryz.underlying222
 a46:=Tryz.isAgg222
 z46:=Tryz.sizeOf222
 v46:=Tryz.zeroValue222
 t51:=Tryz.underlying242
 a51:=Tryz.isAgg242
 z51:=Tryz.sizeOf242
 v51:=Tryz.zeroValue242
 t105:=Tryz.underlying262
 a105:=Tryz.isAgg262
 z105:=Tryz.sizeOf262
 v105:=Tryz.zeroValue262
 t119:=Tryz.underlying271
 a119:=Tryz.isAgg271
 z119:=Tryz.sizeOf271
 t138:=Tryz.underlying273
 a138:=Tryz.isAgg273
 z138:=Tryz.sizeOf273
 v138:=Tryz.zeroValue273
 t139:=Tryz.underlying274
 a139:=Tryz.isAgg274
 z139:=Tryz.sizeOf274
 v139:=Tryz.zeroValue274
 t146:=Tryz.underlying243
 a146:=Tryz.isAgg243
 z146:=Tryz.sizeOf243
 v146:=Tryz.zeroValue243
 g1:=by kernel_rfl
 g3:=by kernel_rfl
 g4:=by kernel_rfl }
end Go.Proofs
end
section
namespace Go.Av
open Go Go.Proofs Go.RowKit Go.Sort
theorem Chg.below {w w':World} (h:Below w.heap.size w w'):Chg w w' (fun _ _=>False) (fun _=>False):=by
  have cell:∀ b o v,w.cell? ⟨b,o,none⟩=some v→w'.cell? ⟨b,o,none⟩=some v:=fun b o v e=>by
    have hb:=zAm e
    unfold World.cell? at e ⊢
    rw [h.block b hb];exact e
  refine ⟨fun b o v e _=>cell b o v e,fun b o v e=>⟨v,cell b o v e⟩,fun b o hb => ?_,fun b ob e _ _ => ?_,h.size,fun b x e => ?_,⟨h.os,h.output,fun b cs t fr e=>⟨cs,by rw [h.block b (Array.getElem?_eq_some_iff.1 e).1];exact e,rfl⟩⟩⟩
  · unfold World.frozen?;rw [h.block b hb]
  · rw [h.block b (Array.getElem?_eq_some_iff.1 e).1];exact e
  · have hb:b<w.heap.size:=by
      rcases zW b w.heap.size with h' | h'
      · exact h'
      · unfold World.shape? at e;rw [qT h'] at e;cases e
    unfold World.shape? at e ⊢
    rw [h.block b hb];exact e
theorem StRel.below {c:Cx} {S:St} {w w':World} (h:StRel c S w) (hb:Below w.heap.size w w'):StRel c S w':=
  h.chg (Chg.below hb) (fun _ _ e=>e.elim) (fun _ e=>e.elim) (fun _ _ _ _ _=>⟨fun _ _ e=>e,fun _ e=>e⟩)
theorem StRel.grow {c:Cx} {S:St} {w:World} (h:StRel c S w) (k:Nat) (os:Array Obj):StRel c S (grow (w.drewN k) os):=by
  have h0:(w.drewN k).heap=w.heap:=rfl
  have hb:∀ b,b<w.heap.size→(Go.Sort.grow (w.drewN k) os).heap[b]? = w.heap[b]?:=fun b hb=>by
    show (w.heap ++ os)[b]? = _
    exact Array.getElem?_append_left hb
  have cell:∀ b o v,w.cell? ⟨b,o,none⟩=some v→(Go.Sort.grow (w.drewN k) os).cell? ⟨b,o,none⟩=some v:=fun b o v e=>by
    have hl:=zAm e
    unfold World.cell? at e ⊢
    rw [hb b hl];exact e
  refine h.chg (R:=fun _ _=>False) (RO:=fun _=>False) ⟨fun b o v e _=>cell b o v e,fun b o v e=>⟨v,cell b o v e⟩,fun b o hl => ?_,fun b ob e _ _ => ?_, ?_,fun b x e => ?_,⟨rfl,rfl,fun b cs t fr e=>⟨cs,by rw [hb b (Array.getElem?_eq_some_iff.1 e).1];exact e,rfl⟩⟩⟩ (fun _ _ e=>e.elim) (fun _ e=>e.elim) (fun _ _ _ _ _=>⟨fun _ _ e=>e,fun _ e=>e⟩)
  · unfold World.frozen?;rw [hb b hl]
  · rw [hb b (Array.getElem?_eq_some_iff.1 e).1];exact e
  · show w.heap.size≤(w.heap ++ os).size
    simp
  · have hl:b<w.heap.size:=by
      rcases zW b w.heap.size with h' | h'
      · exact h'
      · unfold World.shape? at e;rw [qT h'] at e;cases e
    unfold World.shape? at e ⊢
    rw [hb b hl];exact e
theorem StRel.tabIs {c:Cx} {S:St} {w:World} (h:StRel c S w):Lib.TabIs Tryz.prog w "internal/strconv.uint64pow10" .u64 Lib.pow10Tab:=by
  have hg:Tryz.prog.globalNamed "internal/strconv.uint64pow10" = some tabB:=by kernel_rfl
  obtain ⟨t,ht⟩:=h.tsh
  unfold Lib.TabIs World.var?
  rw [hg]
  unfold World.shape? at ht
  show (match w.heap[tabB]? with | some (.cells cs _ _)=>some cs | _=>none)=_
  cases hw:w.heap[tabB]? with
  | none=>rw [hw] at ht;cases ht
  | some ob =>
    rw [hw] at ht
    cases ob <;> simp at ht ⊢
    rename_i cs e f
    obtain ⟨_,hs⟩:=ht
    apply Array.ext
    · simp [hs,Lib.pow10Tab]
    · intro i h1 h2
      have hi:i<20:=hs ▸ h1
      have hk:=h.K _ _ _ (h.tab i hi)
      unfold World.cell? at hk
      simp only [hw] at hk
      simp at hk
      rw [qC h1] at hk
      simp only [xA] at hk
      rw [hk]
      simp [tabV,Lib.pow10Tab]
theorem VRel.of_str {c:Cx} {s:ByteArray} {x:Value} (h:VRel c (.str s) x):x=.string s:=by cases h;rfl
theorem VRel.of_int {c:Cx} {k:IntKind} {n:Int} {x:Value} (h:VRel c (.int k n) x):x=.int k n:=by cases h;rfl
theorem LRel.one {c:Cx} {x:AV} {vs:List Value} (h:LRel c [x] vs):∃ v,vs=[v]∧VRel c x v:=by
  obtain ⟨v,vs',rfl,h1,h2⟩:=h.tail
  cases vs' with
  | nil=>exact ⟨v,rfl,h1⟩
  | cons a b=>simp [LRel] at h2
theorem LRel.two {c:Cx} {x y:AV} {vs:List Value} (h:LRel c [x,y] vs):∃ u v,vs=[u,v]∧VRel c x u∧VRel c y v:=by
  obtain ⟨u,vs',rfl,h1,h2⟩:=h.tail
  obtain ⟨v,rfl,h3⟩:=h2.one
  exact ⟨u,v,rfl,h1,h3⟩
theorem LRel.four {c:Cx} {a b x y:AV} {vs:List Value} (h:LRel c [a,b,x,y] vs):∃ t s u v,vs=[t,s,u,v]∧VRel c a t∧VRel c b s∧VRel c x u∧VRel c y v:=by
  obtain ⟨t,vs',rfl,h1,h2⟩:=h.tail
  obtain ⟨s,vs'',rfl,h3,h4⟩:=h2.tail
  obtain ⟨u,v,rfl,h5,h6⟩:=h4.two
  exact ⟨t,s,u,v,rfl,h1,h3,h5,h6⟩
def itoaB (n:Int):ByteArray:=⟨(Lib.itoa n).toArray⟩
theorem Itoa_pc (n:Int) (h0:-9223372036854775808≤n) (h1:n≤9223372036854775807):PC Tryz.prog 162 [.int .i64 n] (.pure (.str (itoaB n))):=by
  intro c S w vs hs hl
  obtain ⟨v,rfl,hv⟩:=hl.one
  cases hv.of_int
  refine (Tryz.strconv_Itoa n h0 h1 w hs.tabIs).mono ?_
  rintro e w' ⟨rfl,k,os,rfl⟩
  exact ⟨_,rfl,c,Cx.le.refl c,rfl,rfl,hs.grow k os,.str _⟩
def joinB (xs:List ByteArray) (sep:ByteArray):ByteArray:=⟨(Lib.join (xs.map (·.data.toList)) sep.data.toList).toArray⟩
theorem Join_pc (xs:List ByteArray) (sep:ByteArray) (t:Tail) (hN:xs.length≤140737488355328) (hlen:(Lib.join (xs.map (·.data.toList)) sep.data.toList).length≤140737488355328) :
    PC Tryz.prog 163 [.slice (xs.map AV.str) xs.length t,.str sep] (.pure (.str (joinB xs sep))):=by
  intro c S w vs hs hl
  obtain ⟨u,v,rfl,hu,hv⟩:=hl.two
  cases hv.of_str
  generalize hL:xs.map AV.str=L at hu
  generalize hn:xs.length=n at hu hN
  cases hu with
  | sliceNil _ ht =>
    have:xs=[]:=List.eq_nil_of_length_eq_zero hn
    subst this
    refine (Tryz.strings_Join_none none 0 sep w).mono ?_
    rintro e w' ⟨rfl,rfl⟩
    exact ⟨_,rfl,Post.same hs (.str _)⟩
  | slice _ _ _ b off cap us hc hk hr he ht =>
    subst hL
    by_cases h0:xs=[]
    · subst h0
      cases hn
      refine (Tryz.strings_Join_none _ _ sep w).mono ?_
      rintro e w' ⟨rfl,rfl⟩
      exact ⟨_,rfl,Post.same hs (.str _)⟩
    have hcells:∀ (j:Nat) x,xs[j]? = some x→w.cell? ⟨b,off+j,none⟩=some (.string x):=by
      intro j x hx
      have hj:j<xs.length:=by
        rcases zW j xs.length with h' | h'
        · exact h'
        · rw [zO h'] at hx;cases hx
      have h1:=hr j (.str x) (by rw [qF,hx];rfl)
      have h2:=h1.of_str
      have h3:=hs.K _ _ _ (hk j (by simpa using hj))
      rw [h2] at h3;exact h3
    have hpos:0<xs.length:=List.length_pos_iff.2 h0
    have hb:b<w.heap.size:=zAm (hcells 0 xs[0] (zF hpos))
    subst hn
    refine (Tryz.strings_Join b off cap xs sep w hcells hb hN hc hlen).mono ?_
    rintro e w' ⟨rfl,hw⟩
    exact ⟨_,rfl,c,Cx.le.refl c,rfl,rfl,hs.below hw,.str _⟩
def splitL (s:ByteArray) (c:UInt8):List ByteArray:=Lib.splitB ⟨#[c]⟩ 0 (Lib.countB s ⟨#[c]⟩) s
theorem genSplit_pc (s:ByteArray) (b:UInt8) (hs:s.size<4294967281):PC Tryz.prog 184 [.str s,.str ⟨#[b]⟩,.int .i64 0,.int .i64 (-1)] (.pure (.slice ((splitL s b).map AV.str) (splitL s b).length .exact)):=by
  intro c S w vs hst hl
  obtain ⟨v1,v2,v3,v4,rfl,h1,h2,h3,h4⟩:=hl.four
  cases h1.of_str;cases h2.of_str;cases h3.of_int;cases h4.of_int
  have hle:=Lib.countB_le ⟨#[b]⟩ (zN 1) s.size s (zN _)
  have hlen:=Lib.splitB_all ⟨#[b]⟩ (zN 1) 0 _ s rfl
  have c1:=Any.strings_genSplit_core Tryz.lays221 (by kernel_rfl) s ⟨#[b]⟩ 0 (-1) (Lib.countB s ⟨#[b]⟩+1) w hs (zN 1) (qM _)
    (fun x cc hx=>by
      have h:=Tryz.strings_Index_one x b (w.alloc (.cells cc 9))
      rw [← Lib.index_one] at h
      exact h)
    (by have h:=Tryz.strings_Count_one s b w
        unfold Lib.countByte at h
        rw [← Lib.count_one] at h
        exact h) (by decide) (by decide) (by rw [if_pos (by decide)];omega)
  rw [Nat.add_sub_cancel,hlen] at c1
  refine Calls.mono c1 ?_
  rintro e w' ⟨rfl,rfl⟩
  refine ⟨_,rfl, ?_⟩
  have e2:Lib.cellsOf (Lib.splitB ⟨#[b]⟩ 0 (Lib.countB s ⟨#[b]⟩) s) (Lib.countB s ⟨#[b]⟩+1)=((splitL s b).map Value.string).toArray:=by rw [← hlen];exact Lib.cellsOf_full _
  rw [e2]
  have hln:Lib.countB s ⟨#[b]⟩+1=(splitL s b).length:=hlen.symm
  rw [hln]
  exact Post.newImm hst (l:=(splitL s b).map AV.str) (arr:=((splitL s b).map Value.string).toArray) 9 ⟨by simp,fun j x v e1 e2=>by
    simp only [qF] at e1 e2
    cases hj:(splitL s b)[j]? with
    | none=>rw [hj] at e1;cases e1
    | some y=>rw [hj] at e1 e2;cases e1;cases e2;exact .str _⟩ _
end Go.Av
end
