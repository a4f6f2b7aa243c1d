/- Part 24 of the proof. -/
import Derived.Test.YtclmbbofpaecaaaGreatDoorVb23
set_option linter.all false
set_option linter.unusedVariables false
set_option linter.unusedSimpArgs false
set_option linter.unusedSectionVars false
open Bool renaming and_self → zJ, and_eq_true → zT, false_and → qR, true_and → yL, not_eq_true' → yY
open Int renaming toNat_natCast → qQ, le_refl → qW
open List renaming getElem?_eq_getElem → zF, getD_eq_getElem?_getD → zG, set_cons_succ → zH, set_cons_zero → zI, all_cons → zK, all_nil → zM, getElem_mem → zV, length_append → zX, length_nil → qG, nil_append → qS, range_succ → qY, not_mem_nil → yA, all_eq_true → yI, mem_cons → yJ
open Nat renaming reduceLeDiff → zA, reduceEqDiff → zB, reduceAdd → zC, reduceBEq → zD, le_of_ble_eq_true → zE, le_refl → zN, zero_le → qH, not_lt_zero → qT
section
set_option maxHeartbeats 2000000
namespace Go.Av.Lx
open Go Go.Av Go.Av.Tb Go.Av.Fx Go.Proofs
open Go.Lv (Sight Survey Sw Sv SightOk Stp bgS enS riseS stpD chainB closedB sightAt flip)
open Go.Fw (Sq ent Bd Mat)
theorem un_neg (n:Int):unA .neg (.int .i64 n)=some (.int .i64 (IntKind.i64.wrap (0 - n))):=rfl
@[go_sem] theorem bd_stp (a:Int) (b:Bool):buildA T 127 [(0,.int .i64 a),(1,.bool b)]=some (.agg [.int .i64 a,.bool b]):=rfl
theorem zEd (l:List Sight) (k j:Nat) (h:k<l.length) (hj:j<4):(sgts l)[k * 4+j]? = (sgtC l[k])[j]?:=by
 rw [← zCi l k h,List.getElem?_take_of_lt hj,List.getElem?_drop]
theorem zFq {s:Survey} {k:Nat} (h:k<s.sights.length):sightAt s k=s.sights[k]:=by
 unfold sightAt
 rw [qQ,zG,zF h];rfl
abbrev InS (s:Survey) (x:Stp):Prop:=0≤x.sight∧x.sight<s.sights.length
theorem zEe (s:Survey) (x:Stp) (hx:InS s x):PC Tryz.prog 154 [surA s,.agg (stpC x)] (.pure (.int .i64 (bgS s x))):=by
 refine PC.of_empty (AC.run (E_ok _) mix Tryz.func154 m154 rfl rfl rfl (zE rfl) ?_) (by simp [bndL,AV.bnd]) rfl
 obtain ⟨i,b⟩:=x
 obtain ⟨k,rfl⟩:∃ k:Nat,i=k:=⟨i.toNat,by have:=hx.1;simp only at this;omega⟩
 have h2:(k:Int)<s.sights.length:=hx.2
 have hk:k<s.sights.length:=by omega
 have k2:0≤(k:Int)∧(k:Int)<s.sights.length:=by omega
 have g0:(sgts s.sights)[k * 4+0]? = some (.int .i64 s.sights[k].frm):=zEd s.sights k 0 hk (by decide)
 have g1:(sgts s.sights)[k * 4+1]? = some (.int .i64 s.sights[k].to):=zEd s.sights k 1 hk (by decide)
 unfold bgS
 rw [zFq hk]
 cases b
 ·simp only [go_sem,boxA,k2,zAd,and_self,g0,Tryz.f154,zB,zD,zC,reduceIte,reduceCtorEq,zA]
  all_goals rfl
 ·simp only [go_sem,boxA,k2,zAd,and_self,g1,Tryz.f154,zB,zD,zC,reduceIte,reduceCtorEq,zA]
  all_goals rfl
theorem enS_flip (s:Survey) (i:Int) (b:Bool):bgS s ⟨i,!b⟩=enS s ⟨i,b⟩:=by unfold bgS enS;cases b <;> rfl
theorem zEf (s:Survey) (x:Stp) (hx:InS s x):PC Tryz.prog 153 [surA s,.agg (stpC x)] (.pure (.int .i64 (enS s x))):=by
 refine PC.of_empty (AC.run (E_ok _) mix Tryz.func153 m153 rfl rfl rfl (zE rfl) ?_) (by simp [bndL,AV.bnd]) rfl
 obtain ⟨i,b⟩:=x
 have h:=zEe s ⟨i,!b⟩ hx
 rw [enS_flip] at h
 simp only [go_sem,boxA,zAm,zB,zD,zC,reduceIte,reduceCtorEq,zA]
 refine cp n154 h (SubL.refl _) ?_
 simp only [go_sem,Tryz.f153,zB,zD,zC,reduceIte,reduceCtorEq,zA]
 all_goals rfl
theorem rise_pc (s:Survey) (hs:Sw s) (x:Stp) (hx:InS s x):PC Tryz.prog 139 [surA s,.agg (stpC x)] (.pure (.int .i64 (riseS s x))):=by
 refine PC.of_empty (AC.run (E_ok _) mix Tryz.func139 m139 rfl rfl rfl (zE rfl) ?_) (by simp [bndL,AV.bnd]) rfl
 obtain ⟨i,b⟩:=x
 obtain ⟨k,rfl⟩:∃ k:Nat,i=k:=⟨i.toNat,by have:=hx.1;simp only at this;omega⟩
 have h2:(k:Int)<s.sights.length:=hx.2
 have hk:k<s.sights.length:=by omega
 have k2:0≤(k:Int)∧(k:Int)<s.sights.length:=by omega
 have g0:(sgts s.sights)[k * 4+2]? = some (.int .i64 s.sights[k].rise):=zEd s.sights k 2 hk (by decide)
 have hb:=(hs.sights _ (zV hk)).rise
 have w:IntKind.i64.wrap (0 - s.sights[k].rise) = -s.sights[k].rise:=by rw [Int.zero_sub];exact wrap64 (by omega)
 unfold riseS
 rw [zFq hk]
 cases b
 ·simp only [go_sem,boxA,k2,zAd,and_self,g0,Tryz.f139,zB,zD,zC,reduceIte,reduceCtorEq,zA]
  all_goals rfl
 ·simp only [go_sem,boxA,k2,zAd,and_self,g0,un_neg,w,Tryz.f139,zB,zD,zC,reduceIte,reduceCtorEq,zA]
  all_goals rfl
theorem begins_pc (s:Survey) (x:Stp) (hx:InS s x):PC Tryz.prog 137 [surA s,.agg (stpC x)] (.pure (.int .i64 (bgS s x))):=by
 refine PC.of_empty (AC.run (E_ok _) mix Tryz.func137 m137 rfl rfl rfl (zE rfl) ?_) (by simp [bndL,AV.bnd]) rfl
 obtain ⟨i,b⟩:=x
 obtain ⟨k,rfl⟩:∃ k:Nat,i=k:=⟨i.toNat,by have:=hx.1;simp only at this;omega⟩
 have h2:(k:Int)<s.sights.length:=hx.2
 have hk:k<s.sights.length:=by omega
 have k2:0≤(k:Int)∧(k:Int)<s.sights.length:=by omega
 have g0:(sgts s.sights)[k * 4+0]? = some (.int .i64 s.sights[k].frm):=zEd s.sights k 0 hk (by decide)
 have g1:(sgts s.sights)[k * 4+1]? = some (.int .i64 s.sights[k].to):=zEd s.sights k 1 hk (by decide)
 unfold bgS
 rw [zFq hk]
 cases b
 ·simp only [go_sem,boxA,k2,zAd,and_self,g0,Tryz.f137,zB,zD,zC,reduceIte,reduceCtorEq,zA]
  all_goals rfl
 ·simp only [go_sem,boxA,k2,zAd,and_self,g1,Tryz.f137,zB,zD,zC,reduceIte,reduceCtorEq,zA]
  all_goals rfl
theorem ends_pc (s:Survey) (x:Stp) (hx:InS s x):PC Tryz.prog 136 [surA s,.agg (stpC x)] (.pure (.int .i64 (enS s x))):=by
 refine PC.of_empty (AC.run (E_ok _) mix Tryz.func136 m136 rfl rfl rfl (zE rfl) ?_) (by simp [bndL,AV.bnd]) rfl
 obtain ⟨i,b⟩:=x
 have h:=begins_pc s ⟨i,!b⟩ hx
 rw [enS_flip] at h
 simp only [go_sem,boxA,zAm,zAc,AV.cells,AV.one,zK,zM,zJ,splice,zI,zH,and_self,zB,zD,zC,reduceIte,reduceCtorEq,zA]
 refine cp n137 h (SubL.refl _) ?_
 simp only [go_sem,Tryz.f136,zB,zD,zC,reduceIte,reduceCtorEq,zA]
 all_goals rfl
def upSt (s:Survey) (x:Stp):Int:=(Lv.stepB s x).m
theorem rises_pc (s:Survey) (hs:Sw s) (x:Stp) (hx:InS s x):PC Tryz.prog 135 [surA s,.agg (stpC x)] (.pure (.int .i64 (upSt s x))):=by
 refine PC.of_empty (AC.run (E_ok _) mix Tryz.func135 m135 rfl rfl rfl (zE rfl) ?_) (by simp [bndL,AV.bnd]) rfl
 obtain ⟨i,b⟩:=x
 obtain ⟨k,rfl⟩:∃ k:Nat,i=k:=⟨i.toNat,by have:=hx.1;simp only at this;omega⟩
 have h2:(k:Int)<s.sights.length:=hx.2
 have hk:k<s.sights.length:=by omega
 have k2:0≤(k:Int)∧(k:Int)<s.sights.length:=by omega
 have k3:k * 4+4≤(sgts s.sights).length:=by rw [zBf];omega
 have k5:=zCi s.sights k hk
 have hso:=hs.sights _ (zV hk)
 have hb:=hso.rise
 have hb2:=hso.off
 have w1:IntKind.i64.wrap (s.sights[k].rise+s.sights[k].off)=s.sights[k].rise+s.sights[k].off:=wrap64 (by omega)
 have w2:IntKind.i64.wrap (s.sights[k].off - s.sights[k].rise)=s.sights[k].off - s.sights[k].rise:=wrap64 (by omega)
 have hB:=zDy s.sights[k]
 have z0:(0:Int)≤0∧(0:Int)<((2:Nat):Int):=by decide
 have z1:(0:Int)≤1∧(1:Int)<((2:Nat):Int):=by decide
 unfold upSt Lv.stepB Lv.stepG
 rw [zFq hk]
 unfold Lv.upS Lv.downS
 unfold sB bnds at hB
 rw [w1,w2] at hB
 generalize s.sights[k]=y at *
 simp only [go_sem,boxA,k2,k3,k5,zAd,and_self,zB,zD,zC,reduceIte,reduceCtorEq,zA]
 have hB':PC Tryz.prog 91 [.agg (sgtC y)] (.pure (.slice [.int .i64 y.frm,.int .i64 y.to,.int .i64 (y.rise+y.off),.int .i64 y.to,.int .i64 y.frm,.int .i64 (y.off - y.rise)] 2 .exact)):=hB
 refine cp n91 hB' (SubL.refl _) ?_
 cases b
 ·simp only [go_sem,z0,Int.toNat_zero,Nat.zero_mul,Tryz.f135,zB,zD,zC,reduceIte,reduceCtorEq,zA]
  all_goals rfl
 ·simp only [go_sem,z1,Int.toNat_one,Nat.one_mul,Tryz.f135,zB,zD,zC,reduceIte,reduceCtorEq,zA]
  all_goals rfl
theorem chainB_iff {s:Survey} {l:List Stp}:chainB s l=true ↔ ∀ i,i<l.length→(i=0∨bgS s (l.getD i stpD)=enS s (l.getD (i - 1) stpD)) ∧ ∀ k,k<i→enS s (l.getD k stpD)≠enS s (l.getD i stpD):=by
 unfold chainB
 simp only [yI,List.mem_range,zT,Bool.or_eq_true,decide_eq_true_eq,yY,decide_eq_false_iff_not]
theorem zCm {l:List Stp} {k:Nat} (h:k<l.length):l.getD k stpD=l[k]:=by rw [zG,zF h];rfl
theorem chain_pc (s:Survey) (l:List Stp) (hl:l.length≤100) (hin:Lv.StepsIn s l):PC Tryz.prog 152 [surA s,stpsA l] (.pure (.bool (chainB s l))):=by
 refine PC.of_empty (AC.run (E_ok _) mix Tryz.func152 m152 rfl rfl rfl (zE rfl) ?_) (by simp [bndL,AV.bnd]) rfl
 simp only [go_sem,boxA,zB,zD,zC,reduceIte,reduceCtorEq,zA]
 refine zBg l.length (fun i => ∀ j,j<i→(j=0∨bgS s (l.getD j stpD)=enS s (l.getD (j - 1) stpD)) ∧ ∀ k,k<j→enS s (l.getD k stpD)≠enS s (l.getD j stpD)) (fun k=>[(1,stpsA l),(2,.ref 0 0),(5,.int .i64 (k:Nat))]) (fun _=>⟨[some (.cells (surC s))],0,[]⟩) (fun i hi=>absurd hi (qT _)) rfl rfl ?_
 intro i hi hP I hI
 by_cases hlt:i<l.length
 rotate_left
 ·have h1:¬ (i:Int)<l.length:=by omega
  have hc:chainB s l=true:=chainB_iff.2 fun j hj=>hP j (by omega)
  simp only [go_sem,l152_0,zAa,h1,decide_false,Tryz.f152,zB,zD,zC,reduceIte,reduceCtorEq,zA]
  rw [hc]
 have h1:(i:Int)<l.length:=by omega
 have x1:0≤(i:Int)∧(i:Int)<l.length:=by omega
 have h4:IntKind.i64.wrap ((i:Int)+1)=(i+1:Nat):=wrap64 (by omega)
 have k1:i * 2+2≤(stpsC l).length:=by rw [zBb];omega
 have g1:=zCq l i hlt
 have e1:=zCm hlt
 have hini:=hin _ (zV hlt)
 have hfail:¬ (i=0∨bgS s (l.getD i stpD)=enS s (l.getD (i - 1) stpD))→chainB s l=false:=fun h=>by
  cases hc:chainB s l with
  | false=>rfl
  | true=>exact absurd (chainB_iff.1 hc i hlt).1 h
 rcases (show i=0∨(0<i∧bgS s (l.getD i stpD)=enS s (l.getD (i - 1) stpD))∨(0<i ∧ ¬ bgS s (l.getD i stpD)=enS s (l.getD (i - 1) stpD)) by
  by_cases e:bgS s (l.getD i stpD)=enS s (l.getD (i - 1) stpD)
  ·rcases Nat.eq_zero_or_pos i with h | h
   ·exact .inl h
   ·exact .inr (.inl ⟨h,e⟩)
  ·rcases Nat.eq_zero_or_pos i with h | h
   ·exact .inl h
   ·exact .inr (.inr ⟨h,e⟩)) with h0 | ⟨h0,he⟩ | ⟨h0,he⟩
 rotate_left 2
 ·have hd0:(i:Int) > 0:=by omega
  have w:IntKind.i64.wrap ((i:Int) - 1)=(i - 1:Nat):=by rw [show (i:Int) - 1=((i - 1:Nat):Int) by omega];exact wrap64 (by omega)
  have x2:0≤((i - 1:Nat):Int)∧((i - 1:Nat):Int)<l.length:=by omega
  have hlt2:i - 1<l.length:=by omega
  have k2:(i - 1) * 2+2≤(stpsC l).length:=by rw [zBb];omega
  have g2:=zCq l (i - 1) hlt2
  have e2:=zCm hlt2
  have hd:decide (bgS s l[i]≠enS s l[i - 1])=true:=decide_eq_true (by rw [e1,e2] at he;exact he)
  simp only [go_sem,l152_0,zAa,h1,hd0,decide_true,x1,k1,g1,zAd,and_self,zB,zD,zC,reduceIte,reduceCtorEq,zA]
  refine qp n154 (zEe s l[i] hini) (SubL.refl _) ?_
  simp only [go_sem,w,x2,k2,g2,zAd,and_self,zB,zD,zC,reduceIte,reduceCtorEq,zA]
  refine cp n153 (zEf s l[i - 1] (hin _ (zV hlt2))) (SubL.refl _) ?_
  simp only [go_sem,hd,Tryz.f152,zB,zD,zC,reduceIte,reduceCtorEq,zA]
  rw [hfail (by omega)]
 have hd0:¬ (i:Int) > 0:=by omega
 have hcnd:i=0∨bgS s (l.getD i stpD)=enS s (l.getD (i - 1) stpD):=.inl h0
 simp only [go_sem,l152_0,zAa,h1,hd0,decide_true,decide_false,zB,zD,zC,reduceIte,reduceCtorEq,zA]
 rotate_left
 have hd0:(i:Int) > 0:=by omega
 have hcnd:i=0∨bgS s (l.getD i stpD)=enS s (l.getD (i - 1) stpD):=.inr he
 have w:IntKind.i64.wrap ((i:Int) - 1)=(i - 1:Nat):=by rw [show (i:Int) - 1=((i - 1:Nat):Int) by omega];exact wrap64 (by omega)
 have x2:0≤((i - 1:Nat):Int)∧((i - 1:Nat):Int)<l.length:=by omega
 have hlt2:i - 1<l.length:=by omega
 have k2:(i - 1) * 2+2≤(stpsC l).length:=by rw [zBb];omega
 have g2:=zCq l (i - 1) hlt2
 have e2:=zCm hlt2
 have hd:decide (bgS s l[i]≠enS s l[i - 1])=false:=decide_eq_false (by rw [e1,e2] at he;exact fun h=>h he)
 simp only [go_sem,l152_0,zAa,h1,hd0,decide_true,x1,k1,g1,zAd,and_self,zB,zD,zC,reduceIte,reduceCtorEq,zA]
 refine qp n154 (zEe s l[i] hini) (SubL.refl _) ?_
 simp only [go_sem,w,x2,k2,g2,zAd,and_self,zB,zD,zC,reduceIte,reduceCtorEq,zA]
 refine cp n153 (zEf s l[i - 1] (hin _ (zV hlt2))) (SubL.refl _) ?_
 simp only [go_sem,hd,zB,zD,zC,reduceIte,reduceCtorEq,zA]
 all_goals
  refine zBg i (fun k => ∀ j,j<k→enS s (l.getD j stpD)≠enS s (l.getD i stpD)) (fun k=>[(1,stpsA l),(2,.ref 0 0),(5,.int .i64 (i:Nat)),(6,.int .i64 (k:Nat))]) (fun _=>⟨[some (.cells (surC s))],0,[]⟩) (fun j hj=>absurd hj (qT _)) rfl rfl ?_
  intro k hk hP2 I2 hI2
  by_cases hkl:k<i
  ·have z1:(k:Int)<(i:Nat):=by omega
   have z4:IntKind.i64.wrap ((k:Int)+1)=(k+1:Nat):=wrap64 (by omega)
   have hkl2:k<l.length:=by omega
   have z2:0≤(k:Int)∧(k:Int)<l.length:=by omega
   have z3:k * 2+2≤(stpsC l).length:=by rw [zBb];omega
   have z5:=zCq l k hkl2
   have e3:=zCm hkl2
   by_cases ee:enS s l[k]=enS s l[i]
   ·have hc:chainB s l=false:=by
     cases hc:chainB s l with
     | false=>rfl
     | true=>exact absurd (by rw [e3,e1];exact ee) ((chainB_iff.1 hc i hlt).2 k hkl)
    simp only [go_sem,l152_1,z1,decide_true,z2,z3,z5,zAd,and_self,zB,zD,zC,reduceIte,reduceCtorEq,zA]
    refine qp n153 (zEf s l[k] (hin _ (zV hkl2))) (SubL.refl _) ?_
    simp only [go_sem,x1,k1,g1,zAd,and_self,zB,zD,zC,reduceIte,reduceCtorEq,zA]
    refine cp n153 (zEf s l[i] hini) (SubL.refl _) ?_
    have hd:=decide_eq_true ee
    simp only [go_sem,hd,Tryz.f152,zB,zD,zC,reduceIte,reduceCtorEq,zA]
    rw [hc]
   ·have hd:=decide_eq_false ee
    simp only [go_sem,l152_1,z1,decide_true,z2,z3,z5,zAd,and_self,zB,zD,zC,reduceIte,reduceCtorEq,zA]
    refine qp n153 (zEf s l[k] (hin _ (zV hkl2))) (SubL.refl _) ?_
    simp only [go_sem,x1,k1,g1,zAd,and_self,zB,zD,zC,reduceIte,reduceCtorEq,zA]
    refine cp n153 (zEf s l[i] hini) (SubL.refl _) ?_
    simp only [go_sem,hd,z4,zB,zD,zC,reduceIte,reduceCtorEq,zA]
    refine hI2 hkl fun j hj => ?_
    by_cases ej:j=k
    ·subst ej;rw [e3,e1];exact ee
    ·exact hP2 j (by omega)
  ·have z1:¬ (k:Int)<(i:Nat):=by omega
   have ek:k=i:=by omega
   subst ek
   simp only [go_sem,l152_1,z1,decide_false,h4,zB,zD,zC,reduceIte,reduceCtorEq,zA]
   refine hI hlt fun j hj => ?_
   by_cases ej:j=k
   ·subst ej;exact ⟨hcnd,hP2⟩
   ·exact hP j (by omega)
set_option maxHeartbeats 2000000
theorem closed_draw (s:Survey) (l:List Stp) (hl:l.length≤100) (hin:Lv.StepsIn s l) (Q:AQ) (h:Q .normal [(4,.bool (closedB s l))] ⟨[some (.cells (surC s))],0,[]⟩):WC (E 29) (.draw [4] 21 [] r140_1) Q [(1,stpsA l),(2,.ref 0 0)] ⟨[some (.cells (surC s))],0,[]⟩:=by
 revert h
 unfold closedB
 by_cases h2:l.length > 1
 ·have hd:(l.length:Int) > 1:=by omega
  rw [decide_eq_true h2,yL]
  intro h
  simp only [go_sem,boxA,zAa,hd,decide_true,zB,zD,zC,reduceIte,reduceCtorEq,zA]
  refine qp n152 (chain_pc s l hl hin) (SubL.refl _) ?_
  cases hc:chainB s l
  ·rw [hc] at h
   simp only [go_sem,qR,zB,zD,zC,reduceIte,reduceCtorEq,zA]
   exact h
  have hz:0<l.length:=by omega
  have hlast:l.length - 1<l.length:=by omega
  have x1:(0:Int)≤0∧(0:Int)<l.length:=by omega
  have x2:0≤((l.length - 1:Nat):Int)∧((l.length - 1:Nat):Int)<l.length:=by omega
  have k1:2≤(stpsC l).length:=by rw [zBb];omega
  have k2:(l.length - 1) * 2+2≤(stpsC l).length:=by rw [zBb];omega
  have g1:(stpsC l).take 2=stpC l[0]:=zCq l 0 hz
  have g2:=zCq l (l.length - 1) hlast
  have w:IntKind.i64.wrap ((l.length:Int) - 1)=(l.length - 1:Nat):=by rw [show (l.length:Int) - 1=((l.length - 1:Nat):Int) by omega];exact wrap64 (by omega)
  rw [hc,zCm hz,zCm hlast,yL] at h
  simp only [go_sem,x1,Int.toNat_zero,Nat.zero_mul,k1,g1,zAd,and_self,zB,zD,zC,reduceIte,reduceCtorEq,zA]
  refine qp n154 (zEe s l[0] (hin _ (zV hz))) (SubL.refl _) ?_
  simp only [go_sem,zAa,w,x2,k2,g2,zAd,and_self,zB,zD,zC,reduceIte,reduceCtorEq,zA]
  refine cp n153 (zEf s l[l.length - 1] (hin _ (zV hlast))) (SubL.refl _) ?_
  simp only [go_sem,zB,zD,zC,reduceIte,reduceCtorEq,zA]
  exact h
 ·have hd:¬ (l.length:Int) > 1:=by omega
  rw [decide_eq_false h2,qR]
  intro h
  simp only [go_sem,boxA,zAa,hd,decide_false,zB,zD,zC,reduceIte,reduceCtorEq,zA]
  exact h
theorem closed_all (s:Survey) (l:List Stp) (C:MC) (Q:AQ) (h:WC (E 29) C Q [(1,stpsA l),(2,.ref 0 0)] ⟨[some (.cells (surC s))],0,[]⟩):WC (E 29) (.seq (.region [1,2] r140_0) C) Q (argTS 0 [surA s,stpsA l]) St.empty:=by
 simp only [go_sem,boxA,zB,zD,zC,reduceIte,reduceCtorEq,zA]
 exact h
theorem closed_pc (s:Survey) (l:List Stp) (hl:l.length≤100) (hin:Lv.StepsIn s l):PC Tryz.prog 140 [surA s,stpsA l] (.pure (.bool (closedB s l))):=by
 refine PC.of_empty (AC.run (E_ok _) mix Tryz.func140 m140 rfl rfl rfl (zE rfl) ?_) (by simp [bndL,AV.bnd]) rfl
 refine closed_all s l _ _ ?_
 rw [wc_seq]
 refine closed_draw s l hl hin _ ?_
 simp only [go_sem,Tryz.f140,zB,zD,zC,reduceIte,reduceCtorEq,zA]
end Go.Av.Lx
end
section
set_option maxHeartbeats 2000000
namespace Go.Av.Lx
open Go Go.Av Go.Av.Tb Go.Av.Fx Go.Proofs
open Go.Lv (Sight Survey Sw Sv SightOk Stp bgS enS riseS riseL stpD chainB closedB stpAt goesB greater worstF FrQ redF)
open Go.Fw (Sq ent Bd Mat)
@[go_sem] theorem bs_stp (a:Int) (b:Bool):zAf T 117 1 [(0,.agg [.int .i64 a,.bool b])]=some (.slice [.int .i64 a,.bool b] 1 .exact):=rfl
theorem app_stp0 (S:St) (tx:Tail):appendA T S 117 .nilS (.slice [] 0 tx)=some (.pure .nilS):=rfl
theorem stps_one (l:List Stp):(stpsC l).all AV.one=true:=cat_one (f:=stpC) (fun _=>rfl) l
theorem stps_snoc (l:List Stp) (x:Stp):stpsC l ++ [.int .i64 x.sight,.bool x.back]=stpsC (l ++ [x]):=cat_snoc (f:=stpC) l x
theorem own_sq0 {l:List Stp} (hl:l.length≤100) {b:St} {tx:Tail} {nt:Nat} {toks:List Nat} {H:List (Option Blk)} {K:AV→St→Prop} {hK:Hold K}
  (next:∀ V' nt' toks',nt≤nt'→Own (stpsC l) l.length V' nt' toks'→K V' ⟨H,nt',toks'⟩):sq K hK (appendA T b 117 .nilS (.slice (stpsC l) l.length tx)) ⟨H,nt,toks⟩:=by
 rcases Nat.eq_zero_or_pos l.length with h | h
 ·have e:l=[]:=List.length_eq_zero_iff.1 h
  subst e
  rw [show stpsC []=[] from rfl,qG,app_stp0,sq_pure]
  exact next _ _ _ (zN _) (Own.nil _ _)
 ·refine own_sq (l:=[]) (n:=0) rowSteps (Own.nil _ _) rfl (zBb l) (by omega) (stps_one l) (by omega) fun V' toks' g => ?_
  have:=g.own
  rw [qS,Nat.zero_add] at this
  exact next _ _ _ (by omega) this
theorem fr_mul {s:Survey} (h:Sw s) {o:Int × Int} (ho:FrQ s o) {v n:Int} (hv:-8000≤v∧v≤8000) (hn:1≤n∧n≤8):IntKind.i64.wrap (v * o.2)=v * o.2∧IntKind.i64.wrap (o.1 * n)=o.1 * n:=by
 have h8:=h.num8
 have h1:=ho.den;have h2:=ho.num0
 have a:=mul_bd hv (show 1≤o.2∧o.2≤8 by omega)
 have b:=mul_bd (show -8000≤o.1∧o.1≤8000 by omega) hn
 exact ⟨wrap64 (by omega),wrap64 (by omega)⟩
theorem worst_body (s:Survey) (h:Sw s) (hm:s.sights.length≤100) (now:List Stp) (than:Int × Int) (hin:Lv.StepsIn s now) (ht:FrQ s than) (hlen:now.length≤Lv.num s) (G:Int × Int→Nat→Int × Int)
  (hG:now.length<Lv.num s → ∀ k o,k<2 * s.sights.length→FrQ s o→FrQ s (G o k)∧(goesB s now (stpAt k)=true→PC Tryz.prog 97 [surA s,stpsA (now ++ [stpAt k]),.int .i64 (riseL s (now ++ [stpAt k])),frA o] (.pure (frA (G o k))))∧(goesB s now (stpAt k)=false→G o k=o)) :
  PC Tryz.prog 97 [surA s,stpsA now,.int .i64 (riseL s now),frA than] (.pure (frA (if closedB s now=true then greater than (riseL s now) now.length else if now.length<Lv.num s then (List.range (2 * s.sights.length)).foldl G than else than))):=by
 refine PC.of_empty (AC.run (E_ok _) mix Tryz.func97 m97 rfl rfl rfl (zE rfl) ?_) (by simp [bndL,AV.bnd]) rfl
 have h8:=h.num8
 have hst:s.stations=(Lv.num s:Int):=by have:=h.st;show _=((s.stations.toNat:Nat):Int);omega
 obtain ⟨n,hn⟩:∃ n,n=Lv.num s:=⟨_,rfl⟩
 rw [← hn] at hlen hG h8 hst ⊢
 have hrb:=Lv.rise_bd h hin
 have hl100:now.length≤100:=by omega
 obtain ⟨sum,hsum⟩:∃ sum,riseL s now=sum:=⟨_,rfl⟩
 obtain ⟨p,q⟩:=than
 rw [hsum] at hrb ⊢
 simp only [go_sem,boxA,zB,zD,zC,reduceIte,reduceCtorEq,zA]
 refine cp n140 (closed_pc s now hl100 hin) (SubL.refl _) ?_
 cases hc:closedB s now
 rotate_left
 ·have hlg:now.length > 1:=by
   unfold closedB at hc
   rw [zT,decide_eq_true_iff] at hc
   exact hc.1
  obtain ⟨w1,w2⟩:=fr_mul h ht (v:=sum) (n:=now.length) (by omega) (by omega)
  simp only at w1 w2
  rw [if_pos rfl]
  unfold greater
  by_cases hd:sum * q > p * now.length
  ·rw [if_pos hd]
   simp only [go_sem,zAa,w1,w2,hd,decide_true,zAc,AV.cells,AV.one,zK,zM,zJ,splice,zI,zH,and_self,Tryz.f97,zB,zD,zC,reduceIte,reduceCtorEq,zA]
   all_goals rfl
  ·rw [if_neg hd]
   simp only [go_sem,zAa,w1,w2,hd,decide_false,zAc,AV.cells,AV.one,zK,zM,zJ,splice,zI,zH,and_self,Tryz.f97,zB,zD,zC,reduceIte,reduceCtorEq,zA]
   all_goals rfl
 rw [if_neg (by decide)]
 obtain ⟨cur,hcur⟩:∃ cur:Nat→Int × Int,cur=fun k=>(List.range k).foldl G (p,q):=⟨_,rfl⟩
 have cur0:cur 0=(p,q):=by rw [hcur];rfl
 have cur1:∀ k,cur (k+1)=G (cur k) k:=fun k=>by rw [hcur];simp only [qY,List.foldl_append,List.foldl_cons,List.foldl_nil]
 have wM:IntKind.i64.wrap (2 * (s.sights.length:Int))=(2 * s.sights.length:Nat):=by rw [show 2 * (s.sights.length:Int)=((2 * s.sights.length:Nat):Int) by omega];exact wrap64 (by omega)
 simp only [go_sem,zB,zD,zC,reduceIte,reduceCtorEq,zA]
 refine zAt (fun m ts' S' => ∃ k X nt tk,k≤2 * s.sights.length∧m=2 * s.sights.length - k∧(k=0∨now.length<n)∧FrQ s (cur k)∧ts'=[(1,stpsA now),(2,.int .i64 sum),(4,.ref 0 0),(8,.ref 2 0),(9,.ref 3 0),(11,.int .i64 (k:Nat))]∧S'=⟨[some (.cells (surC s)),some (.cells [.int .i64 p,.int .i64 q]),some (.cells [.int .i64 0,.int .i64 0]),some (.cells [.int .i64 (cur k).1,.int .i64 (cur k).2])] ++ X,nt,tk⟩) (2 * s.sights.length) ⟨0,[],0,[],qH _,rfl,.inl rfl,by rw [cur0];exact ht,rfl,by rw [cur0];rfl⟩ ?_
 rintro m ts' S' ⟨k,X,nt,tk,hk,rfl,hkn,hfr,rfl,rfl⟩
 by_cases hlt:k<2 * s.sights.length
 rotate_left
 ·have k1:¬ (k:Int)<(2 * s.sights.length:Nat):=by omega
  have e:k=2 * s.sights.length:=by omega
  have hres:(if now.length<n then (List.range (2 * s.sights.length)).foldl G (p,q) else (p,q))=cur k:=by
   rcases hkn with rfl | g
   ·rw [cur0];rw [← e];split <;> rfl
   ·rw [if_pos g,hcur,e]
  rw [hres]
  simp only [go_sem,l97_0,zAa,wM,k1,decide_false,zAc,AV.cells,AV.one,zK,zM,zJ,splice,zI,zH,and_self,Tryz.f97,zB,zD,zC,reduceIte,reduceCtorEq,zA]
  all_goals rfl
 have k1:(k:Int)<(2 * s.sights.length:Nat):=by omega
 by_cases hnl:now.length<n
 rotate_left
 ·have k2:¬ (now.length:Int)<s.stations:=by omega
  rw [if_neg hnl]
  have e0:k=0:=by omega
  subst e0
  rw [cur0]
  simp only [go_sem,l97_0,zAa,wM,k1,decide_true,k2,decide_false,zAc,AV.cells,AV.one,zK,zM,zJ,splice,zI,zH,and_self,Tryz.f97,zB,zD,zC,reduceIte,reduceCtorEq,zA]
  all_goals rfl
 have k2:(now.length:Int)<s.stations:=by omega
 obtain ⟨g1,g2,g3⟩:=hG hnl k (cur k) hlt hfr
 rw [← cur1] at g1 g2 g3
 have hx:InS s (stpAt k):=Lv.stpAt_in hlt
 have hq:intOp .quo .i64 (k:Int) 2=some (.int .i64 (k / 2:Nat)):=quo_nat (y:=2) (by decide) (by omega)
 have hr:intOp .rem .i64 (k:Int) 2=some (.int .i64 (k % 2:Nat)):=rem_nat (y:=2) (by decide)
 have hb:decide (((k % 2:Nat):Int)=1)=decide (k % 2=1):=decide_eq_decide.2 (by omega)
 have h4:IntKind.i64.wrap ((k:Int)+1)=(k+1:Nat):=wrap64 (by omega)
 have ex:stpAt k=⟨(k / 2:Nat),decide (k % 2=1)⟩:=rfl
 have hrs:=Lv.rise_snoc s now (stpAt k)
 have c1:=fun l=>zAg X l
 have c2:=fun x B=>zAs X x B
 generalize stpAt k=x at *
 obtain ⟨xi,xb⟩:=x
 injection ex with ex1 ex2
 rw [hsum] at hrs
 have hriseb:IntKind.i64.wrap (sum+riseS s ⟨xi,xb⟩)=riseL s (now ++ [⟨xi,xb⟩]):=by
  rw [← hrs]
  have hin2:Lv.StepsIn s (now ++ [⟨xi,xb⟩]):=fun y hy=>by
   rcases List.mem_append.1 hy with hy | hy
   ·exact hin y hy
   ·rw [List.mem_singleton.1 hy];exact hx
  have:=Lv.rise_bd h hin2
  rw [zX,List.length_singleton] at this
  exact wrap64 (by omega)
 have hin2:Lv.StepsIn s (now ++ [⟨xi,xb⟩]):=fun y hy=>by
  rcases List.mem_append.1 hy with hy | hy
  ·exact hin y hy
  ·rw [List.mem_singleton.1 hy];exact hx
 simp only [go_sem,l97_0,zAa,wM,k1,decide_true,k2,hq,hr,hb,zB,zD,zC,reduceIte,reduceCtorEq,zA]
 rw [← ex1,← ex2]
 simp only [go_sem,c1,c2,zAc,AV.cells,AV.one,zK,zM,zJ,splice,zI,zH,and_self,zB,zD,zC,reduceIte,reduceCtorEq,zA]
 refine own_sq0 hl100 fun V1 nt1 tk1 _ o1 => ?_
 simp only [go_sem,c1,zAa,zB,zD,zC,reduceIte,reduceCtorEq,zA]
 refine zDr (lx:=[.int .i64 xi,.bool xb]) rowSteps o1 (zBb now) rfl (by decide) rfl (by omega) fun V2 tk2 g => ?_
 have gt:=g.tok
 have go:=g.own
 have es:=stps_snoc now ⟨xi,xb⟩
 rw [show stpsC now ++ [AV.int .i64 xi,AV.bool xb]=stpsC (now ++ [⟨xi,xb⟩]) from es] at gt go
 have hl2:(now ++ [(⟨xi,xb⟩:Stp)]).length=now.length+1:=by simp
 rw [← hl2] at gt go
 have hsub:=go.sub
 obtain ⟨l2,hl2'⟩:∃ l2,now ++ [(⟨xi,xb⟩:Stp)]=l2:=⟨_,rfl⟩
 have hgb:goesB s now ⟨xi,xb⟩=(chainB s l2 && decide (enS s ⟨xi,xb⟩ ≥ bgS s (l2.getD 0 stpD))):=by unfold goesB;rw [hl2']
 rw [hl2'] at gt go hsub hl2 hriseb hin2 g2 hrs
 have hz:0<l2.length:=by omega
 rw [zCm hz] at hgb
 have x1:(0:Int)≤0∧(0:Int)<(l2.length:Nat):=by omega
 have y1:2≤(stpsC l2).length:=by rw [zBb];omega
 have y2:(stpsC l2).take 2=stpC l2[0]:=zCq l2 0 hz
 have hin0:=hin2 _ (zV hz)
 subst gt
 clear hl2' g es
 simp only [go_sem,zB,zD,zC,reduceIte,reduceCtorEq,zA]
 refine qp n152 (chain_pc s l2 (by omega) hin2) (SubL.cons (Sub.refl _) (SubL.cons hsub (SubL.refl _))) ?_
 cases hch:chainB s l2
 ·rw [hch,qR] at hgb
  have e:=g3 hgb
  simp only [go_sem,h4,zB,zD,zC,reduceIte,reduceCtorEq,zA]
  refine zAh (2 * s.sights.length - (k+1)) (by omega) ⟨k+1,X ++ [some (.cells [.int .i64 xi,.bool xb])],nt1+1,tk2,hlt,rfl,.inr hnl,g1,rfl, ?_⟩
  rw [e]
 rw [hch,yL] at hgb
 simp only [go_sem,c1,zB,zD,zC,reduceIte,reduceCtorEq,zA]
 refine qp n153 (zEf s ⟨xi,xb⟩ hx) (SubL.refl _) ?_
 simp only [go_sem,x1,Int.toNat_zero,Nat.zero_mul,y1,y2,zAd,and_self,zB,zD,zC,reduceIte,reduceCtorEq,zA]
 refine cp n154 (zEe s l2[0] hin0) (SubL.refl _) ?_
 by_cases hd:enS s ⟨xi,xb⟩ ≥ bgS s l2[0]
 rotate_left
 ·rw [decide_eq_false hd] at hgb
  have e:=g3 hgb
  simp only [go_sem,hd,decide_false,h4,zB,zD,zC,reduceIte,reduceCtorEq,zA]
  refine zAh (2 * s.sights.length - (k+1)) (by omega) ⟨k+1,X ++ [some (.cells [.int .i64 xi,.bool xb])],nt1+1,tk2,hlt,rfl,.inr hnl,g1,rfl, ?_⟩
  rw [e]
 rw [decide_eq_true hd] at hgb
 simp only [go_sem,hd,decide_true,c1,zB,zD,zC,reduceIte,reduceCtorEq,zA]
 refine qp n139 (rise_pc s h ⟨xi,xb⟩ hx) (SubL.refl _) ?_
 simp only [go_sem,hriseb,zB,zD,zC,reduceIte,reduceCtorEq,zA]
 refine cp n97 (g2 hgb) (SubL.cons (Sub.refl _) (SubL.cons hsub (SubL.refl _))) ?_
 simp only [go_sem,h4,zAc,AV.cells,AV.one,zK,zM,zJ,splice,zI,zH,and_self,zB,zD,zC,reduceIte,reduceCtorEq,zA]
 exact zAh (2 * s.sights.length - (k+1)) (by omega) ⟨k+1,X ++ [some (.cells [.int .i64 xi,.bool xb])],nt1+1,tk2,hlt,rfl,.inr hnl,g1,rfl,rfl⟩
theorem worst_pc (s:Survey) (h:Sw s) (hm:s.sights.length≤100):∀ (f:Nat) (now:List Stp) (than:Int × Int),now.length+f=Lv.num s→Lv.StepsIn s now→FrQ s than →
  PC Tryz.prog 97 [surA s,stpsA now,.int .i64 (riseL s now),frA than] (.pure (frA (worstF s f now (riseL s now) than))):=by
 intro f
 induction f with
 | zero =>
  intro now than hf hin ht
  have:=worst_body s h hm now than hin ht (by omega) (fun o _=>o) (fun hlt=>absurd hlt (by omega))
  rw [if_neg (by omega:¬ now.length<Lv.num s)] at this
  unfold worstF
  exact this
 | succ f ih =>
  intro now than hf hin ht
  have:=worst_body s h hm now than hin ht (by omega) (fun o i=>if goesB s now (stpAt i)=true then worstF s f (now ++ [stpAt i]) (riseL s now+riseS s (stpAt i)) o else o) (fun hlt k o hk ho=>by
   have hin2:Lv.StepsIn s (now ++ [stpAt k]):=fun y hy=>by
    rcases List.mem_append.1 hy with hy | hy
    ·exact hin y hy
    ·rw [List.mem_singleton.1 hy];exact Lv.stpAt_in hk
   have hp:=ih (now ++ [stpAt k]) o (by simp;omega) hin2 ho
   have hq:=(Lv.worst_ok h f (now ++ [stpAt k]) o hin2 ho).1
   refine ⟨?_,fun hg => ?_,fun hg => ?_⟩
   ·show FrQ s (if _ then _ else _)
    rw [← Lv.rise_snoc]
    split
    ·exact hq
    ·exact ho
   ·show PC _ _ _ (.pure (frA (if _ then _ else _)))
    rw [if_pos hg,← Lv.rise_snoc]
    exact hp
   ·show (if _ then _ else _)=_
    rw [if_neg (by rw [hg];decide)])
  rw [if_pos (by omega:now.length<Lv.num s)] at this
  unfold worstF
  exact this
end Go.Av.Lx
end
section
set_option maxHeartbeats 2000000
namespace Go.Av.Lx
open Go Go.Av Go.Av.Tb Go.Av.Fx Go.Proofs
open Go.Lv (Sight Survey Sw Sv SightOk Stp errF evenB redF RedP worstF FrQ)
open Go.Fw (Sq ent Bd Mat)
theorem rAll_pc {n:Nat} {by' off:Int} {l:List Sight} (h:AllOk n by' off l) (hl:l.length≤100) {V:Mat} (hV:Lv.clo n (allB by' off l)=some V):PC Tryz.prog 99 [.int .i64 n,.slice (sgts l) l.length .unk,.int .i64 by',.int .i64 off] (.pure (.tuple [rA V,.bool true])):=by
 have hsq:Sq n V:=(Lv.clo_shape h.oks hV).sq
 have hbA:=rA_bnd 0 0 V
 refine PC.of_frz (all_ac h hl [] 0 [] _ (fun h0=>by rw [hV] at h0;cases h0) ?_) (by simp [bndL,AV.bnd]) (by show bndL 0 0 [rA V,.bool true]=true;simp only [bndL,hbA];rfl)
 intro V' hV' A C t1 t2 nt tk h2 hN
 rw [hV] at hV';cases hV'
 refine ⟨_,rfl,Frz.two ?_ (.same _)⟩
 rw [qS]
 exact rG_frz hsq (by simp [h2]) t1 t2
theorem frq_red {s:Survey} (h:Sw s) {o:Int × Int} (ho:FrQ s o):∃ a b:Nat,o=((a:Int),(b:Int))∧0<b∧a≤8000∧b≤8∧redF o=(((a / Nat.gcd a b:Nat):Int),((b / Nat.gcd a b:Nat):Int))∧0<Nat.gcd a b:=by
 have h8:=h.num8
 have h1:=ho.den;have h2:=ho.num0
 obtain ⟨x,y⟩:=o
 simp only at h1 h2
 refine ⟨x.toNat,y.toNat, ?_,by omega,by omega,by omega,rfl,Nat.gcd_pos_of_pos_right _ (by omega)⟩
 rw [Int.toNat_of_nonneg h2.1,Int.toNat_of_nonneg (by omega)]
theorem rLeast_pc (s:Survey) (h:Sw s) (hl:s.sights.length≤100):PC Tryz.prog 34 [surA s] (.pure (.tuple [frA (errF s),sl (evenL s)])):=by
 refine PC.of_frz (AC.run (E_ok _) mix Tryz.func34 m34 rfl rfl rfl (zE rfl) ?_) (by simp [bndL,AV.bnd]) (by simp [bndL,AV.bnd])
 have hst:s.stations=(Lv.num s:Int):=by have:=h.st;show _=((s.stations.toNat:Nat):Int);omega
 have h8:=h.num8
 have hn1:1≤Lv.num s:=by have:=h.st;show 1≤s.stations.toNat;omega
 have start:FrQ s (0,1):=⟨⟨by show (0:Int)<1;decide,by show (1:Int)≤((Lv.num s:Nat):Int);omega⟩,⟨qW _,by show (0:Int)≤1000 * 1;decide⟩,.inl rfl⟩
 have hw:=worst_pc s h hl (Lv.num s) [] (0,1) (by simp) (fun x hx=>by cases hx) start
 have hq:=(Lv.worst_err h).2
 have hre:redF (worstF s (Lv.num s) [] 0 (0,1))=errF s:=(Lv.least_worst h).symm
 have hV:=evenV_eq h
 have hrp:=Lv.err_ok h
 have hbd:=Lv.err_bd h hrp
 have e0:Lv.riseL s []=0:=rfl
 rw [e0] at hw
 obtain ⟨a,b,ho,hb0,ha,hb8,hr,hg⟩:=frq_red h hq
 rw [ho] at hw hre
 rw [ho,hre] at hr
 have hgc:=gcd_pc a b
 have hga:Nat.gcd a b≤b:=Nat.le_of_dvd hb0 (Nat.gcd_dvd_right a b)
 have q1:=quo_nat (x:=a) hg (by omega)
 have q2:=quo_nat (x:=b) hg (by omega)
 have hok:AllOk (Lv.num s) (errF s).2 (errF s).1 s.sights:=⟨⟨hn1,h8⟩,fun x hx=>by rw [← hst];exact h.sights x hx,hbd.1,by omega⟩
 have hall:Lv.clo (Lv.num s) (allB (errF s).2 (errF s).1 s.sights)=some (evenV s):=by rw [all_even s _ hbd.2.1];exact hV
 have hap:=rAll_pc hok hl hall
 have hcl:=Lv.clo_clos h8 (Lv.even_oks h hbd.1 hbd.2) hV
 have hsq:Sq (Lv.num s) (evenV s):=(Lv.clo_shape (Lv.even_oks h hbd.1 hbd.2) hV).sq
 have hH:=rHeights_pc hsq (by omega) (fun j hj=>by rw [hcl.diag j hj];decide) fun i j hi hj hf=>hcl.sym (Lv.even_both s _ _) hi hj hf
 rw [← hst] at hap
 generalize errF s=o at *
 obtain ⟨p,q⟩:=o
 injection hr with hr1 hr2
 simp only [go_sem,boxA,zB,zD,zC,reduceIte,reduceCtorEq,zA]
 refine cp n97 hw (SubL.cons (Sub.refl _) (SubL.cons Sub.nil (SubL.refl _))) ?_
 simp only [go_sem,zAc,AV.cells,AV.one,zK,zM,zJ,splice,zI,zH,and_self,zB,zD,zC,reduceIte,reduceCtorEq,zA]
 refine cp n98 hgc (SubL.refl _) ?_
 simp only [go_sem,q1,q2,zAc,AV.cells,AV.one,zK,zM,zJ,splice,zI,zH,and_self,zB,zD,zC,reduceIte,reduceCtorEq,zA]
 rw [← hr1,← hr2]
 refine cp n99 hap (SubL.refl _) ?_
 unfold rA
 simp only [go_sem,zAe,zAc,AV.cells,AV.one,zK,zM,zJ,splice,zI,zH,and_self,zB,zD,zC,reduceIte,reduceCtorEq,zA]
 refine cp n28 hH (SubL.refl _) ?_
 unfold rheightsA
 simp only [go_sem,zAe,zAc,AV.cells,AV.one,zK,zM,zJ,splice,zI,zH,and_self,Tryz.f34,zB,zD,zC,reduceIte,reduceCtorEq,zA]
 exact ⟨_,rfl,.same _⟩
end Go.Av.Lx
end
section
set_option maxHeartbeats 2000000
namespace Go.Av.Lx
open Go Go.Av Go.Av.Tb Go.Av.Fx Go.Proofs
open Go.Lv (Sight Survey Sw Sv SightOk Try TryOk sum2 sum3 withL allowsB tried riseAt worstAt worstW)
open Go.Fw (Sq ent Bd Mat)
abbrev Sm (a:Int):Prop:=a<far → -1000000≤a∧a≤1000000
theorem sum2_eq {a b:Int} (ha:Sm a) (hb:Sm b):sumF 0 [a,b]=sum2 a b:=by
 have ef:far=1099511627776:=rfl
 have ef2:Lv.far=1099511627776:=rfl
 unfold sumF sumF sumF sum2
 by_cases h1:a ≥ far
 ·rw [if_pos h1,if_pos (.inl h1)];rfl
 have k1:=ha (by omega)
 have w1:IntKind.i64.wrap (0+a)=a:=by rw [Int.zero_add];exact wrap64 (by omega)
 rw [if_neg h1,w1]
 by_cases h2:b ≥ far
 ·rw [if_pos h2,if_pos (.inr h2)];rfl
 have k2:=hb (by omega)
 rw [if_neg h2,if_neg (by omega)]
 exact wrap64 (by omega)
theorem sum3_eq {a b c:Int} (ha:Sm a) (hb:Sm b) (hc:Sm c):sumF 0 [a,b,c]=sum3 a b c:=by
 have ef:far=1099511627776:=rfl
 have ef2:Lv.far=1099511627776:=rfl
 unfold sumF sumF sumF sumF sum3
 by_cases h1:a ≥ far
 ·rw [if_pos h1,if_pos (.inl h1)];rfl
 have k1:=ha (by omega)
 have w1:IntKind.i64.wrap (0+a)=a:=by rw [Int.zero_add];exact wrap64 (by omega)
 rw [if_neg h1,w1]
 by_cases h2:b ≥ far
 ·rw [if_pos h2,if_pos (.inr (.inl h2))];rfl
 have k2:=hb (by omega)
 have w2:IntKind.i64.wrap (a+b)=a+b:=wrap64 (by omega)
 rw [if_neg h2,w2]
 by_cases h3:c ≥ far
 ·rw [if_pos h3,if_pos (.inr (.inr h3))];rfl
 have k3:=hc (by omega)
 rw [if_neg h3,if_neg (by omega)]
 exact wrap64 (by omega)
theorem sm_ent {s:Survey} (h:Sw s) {V:Mat} (hV:Lv.knownV s=some V) {i j:Nat} (hi:i<Lv.num s) (hj:j<Lv.num s):Sm (ent V i j):=fun hf=>by
 have:=Lv.known_bd h hV hi hj hf
 omega
@[go_sem] theorem bs_int2 (a b:Int):zAf T 32 2 [(0,.int .i64 a),(1,.int .i64 b)]=some (.slice [.int .i64 a,.int .i64 b] 2 .exact):=rfl
@[go_sem] theorem bs_int3 (a b c:Int):zAf T 32 3 [(0,.int .i64 a),(1,.int .i64 b),(2,.int .i64 c)]=some (.slice [.int .i64 a,.int .i64 b,.int .i64 c] 3 .exact):=rfl
structure BoS (n:Nat) (x:Bound):Prop where
 a:0≤x.a∧x.a<n
 b:0≤x.b∧x.b<n
 most:-1000000≤x.most∧x.most≤1000000
theorem allows1_pc (s:Survey) (h:Sw s) {V:Mat} (hV:Lv.knownV s=some V) (x:Bound) (hx:BoS (Lv.num s) x):PC Tryz.prog 177 [.agg (bndC x),.eptr (kvC s (wS V)) 0] (.pure (.bool (decide (sum2 (ent V x.b.toNat x.a.toNat) x.most<0)))):=by
 refine PC.of_empty (AC.run (E_ok _) mix Tryz.func177 m177 rfl rfl rfl (zE rfl) ?_) (by simp [bndL,AV.bnd]) rfl
 have hsq:Sq (Lv.num s) V:=zBm (ds:=[]) hV
 obtain ⟨a,b,m⟩:=x
 have h1:=hx.a;have h2:=hx.b;have h3:=hx.most
 simp only at h1 h2 h3
 obtain ⟨a,rfl⟩:∃ a':Nat,a=a':=⟨a.toNat,by omega⟩
 obtain ⟨b,rfl⟩:∃ b':Nat,b=b':=⟨b.toNat,by omega⟩
 have ha:a<Lv.num s:=by omega
 have hb:b<Lv.num s:=by omega
 have hs:=sum2_eq (sm_ent h hV hb ha) (fun _=>h3)
 simp only [qQ]
 have hf:=Lv.sum2 (ent V b a) m
 have ga:=zDh hsq hb
 have gl:=hsq.getD hb
 have e:=zAz hsq hb ha
 have xa:0≤(b:Int)∧(b:Int)<(V.length:Int):=by have:=hsq.1;omega
 have xb:0≤(a:Int)∧(a:Int)<(Lv.num s:Int):=by omega
 have hsum:=sum_pc' [ent V b a,m] (by show 2<9223372036854775807;decide)
 rw [hs] at hsum
 simp only [go_sem,boxA,xa,xb,ga,gl,e,zAd,and_self,zB,zD,zC,reduceIte,reduceCtorEq,zA]
 refine cp n151 hsum (SubL.cons (Sub.unk _ 2 .exact) (SubL.refl [])) ?_
 simp only [go_sem,Tryz.f177,zB,zD,zC,reduceIte,reduceCtorEq,zA]
theorem sB_two {n:Int} {y:Sight} (hy:SightOk n y):sB y=[⟨y.frm,y.to,y.rise+y.off⟩,⟨y.to,y.frm,y.off - y.rise⟩]:=by
 have h1:=hy.rise;have h2:=hy.off
 have w1:IntKind.i64.wrap (y.rise+y.off)=y.rise+y.off:=wrap64 (by omega)
 have w2:IntKind.i64.wrap (y.off - y.rise)=y.off - y.rise:=wrap64 (by omega)
 simp only [sB,w1,w2]
theorem sB_bos {s:Survey} (h:Sw s) {y:Sight} (hy:SightOk s.stations y):∀ x∈sB y,BoS (Lv.num s) x:=by
 have hst:s.stations=(Lv.num s:Int):=by have:=h.st;show _=((s.stations.toNat:Nat):Int);omega
 have h1:=hy.rise;have h2:=hy.off;have h3:=hy.frm;have h4:=hy.to
 rw [sB_two hy]
 intro x hx
 simp only [yJ,yA,or_false] at hx
 rcases hx with rfl | rfl
 ·exact ⟨by show 0≤y.frm∧y.frm<_;omega,by show 0≤y.to∧y.to<_;omega,by show -1000000≤y.rise+y.off∧y.rise+y.off≤_;omega⟩
 ·exact ⟨by show 0≤y.to∧y.to<_;omega,by show 0≤y.frm∧y.frm<_;omega,by show -1000000≤y.off - y.rise∧y.off - y.rise≤_;omega⟩
theorem allows_pc (s:Survey) (h:Sw s) {V:Mat} (hV:Lv.knownV s=some V) (y:Sight) (hy:SightOk s.stations y):PC Tryz.prog 158 [kA s V,.agg (sgtC y)] (.pure (.bool (allowsB V y))):=by
 refine PC.of_empty (AC.run (E_ok _) mix Tryz.func158 m158 rfl rfl rfl (zE rfl) ?_) (by simp [bndL,AV.bnd]) rfl
 have hC:=containsFuncB_pc (sB y) (by show 2<9223372036854775807;decide) 177 n177 [.eptr (kvC s (wS V)) 0] (by simp [bndL,AV.bnd]) (fun x=>decide (sum2 (ent V x.b.toNat x.a.toNat) x.most<0)) (fun x hx=>allows1_pc s h hV x (sB_bos h hy x hx))
 have hany:(!(sB y).any fun x=>decide (sum2 (ent V x.b.toNat x.a.toNat) x.most<0))=allowsB V y:=by
  rw [sB_two hy]
  unfold allowsB
  simp
 simp only [go_sem,boxA,zB,zD,zC,reduceIte,reduceCtorEq,zA]
 refine cp n91 (zDy y) (SubL.refl _) ?_
 simp only [go_sem,zB,zD,zC,reduceIte,reduceCtorEq,zA]
 refine cl n176 hC (LntL.cons (.unk _ 2 .exact (bnds_bnd _ _ _)) (LntL.cons (Lnt.func1 (.ptr 0 0 _ rfl (by simp [bndL,AV.bnd]))) (LntL.nil _))) rfl ?_
 simp only [go_sem,zAm,hany,Tryz.f158,zB,zD,zC,reduceIte,reduceCtorEq,zA]
theorem with_draw {s:Survey} (h:Sw s) {V:Mat} (hV:Lv.knownV s=some V) {i j:Nat} (hi:i<Lv.num s) (hj:j<Lv.num s) (x:Bound) (hx:BoS (Lv.num s) x) (w:Int) (B N K:AV) (L:Nat) (H:List (Option Blk)) (nt:Nat) (tk:List Nat) (c0:cellsAt H 0=some (kvC s (wS V))) (cL:cellsAt H L=some (bndC x)) (Q:AQ)
  (hQ:Q .normal [(2,.int .i64 i),(3,.int .i64 j),(4,.ref 0 0),(9,.int .i64 (min w (sum3 (ent V i x.a.toNat) x.most (ent V x.b.toNat j)))),(21,B),(22,N),(23,K)] ⟨H,nt,tk⟩) :
  WC (E 53) (.draw [2,3,4,9,21,22,23] 23 [] r159_5) Q [(2,.int .i64 i),(3,.int .i64 j),(4,.ref 0 0),(9,.int .i64 w),(21,B),(22,N),(23,K),(11,.ref L 0)] ⟨H,nt,tk⟩:=by
 have hsq:Sq (Lv.num s) V:=zBm (ds:=[]) hV
 obtain ⟨a,b,m⟩:=x
 have h1:=hx.a;have h2:=hx.b;have h3:=hx.most
 simp only at h1 h2 h3
 obtain ⟨a,rfl⟩:∃ a':Nat,a=a':=⟨a.toNat,by omega⟩
 obtain ⟨b,rfl⟩:∃ b':Nat,b=b':=⟨b.toNat,by omega⟩
 have ha:a<Lv.num s:=by omega
 have hb:b<Lv.num s:=by omega
 have hs:=sum3_eq (sm_ent h hV hi ha) (fun _=>h3) (sm_ent h hV hb hj)
 simp only [qQ] at hQ
 have hsum:=sum_pc' [ent V i a,m,ent V b j] (by show 3<9223372036854775807;decide)
 rw [hs] at hsum
 generalize sum3 (ent V i a) m (ent V b j)=z at *
 have hmn:(if z<w then z else w)=min w z:=by split <;> omega
 have ga:=zDh hsq hi
 have gl:=hsq.getD hi
 have ea:=zAz hsq hi ha
 have gb:=zDh hsq hb
 have gm:=hsq.getD hb
 have eb:=zAz hsq hb hj
 have xi:0≤(i:Int)∧(i:Int)<(V.length:Int):=by have:=hsq.1;omega
 have xb:0≤(b:Int)∧(b:Int)<(V.length:Int):=by have:=hsq.1;omega
 have xa:0≤(a:Int)∧(a:Int)<(Lv.num s:Int):=by omega
 have xj:0≤(j:Int)∧(j:Int)<(Lv.num s:Int):=by omega
 simp only [go_sem,c0,cL,xi,xb,xa,xj,ga,gl,ea,gb,gm,eb,zAd,and_self,zB,zD,zC,reduceIte,reduceCtorEq,zA]
 refine qp n151 hsum (SubL.cons (Sub.unk _ 3 .exact) (SubL.refl [])) ?_
 simp only [go_sem,zAa,minsA,hmn,zB,zD,zC,reduceIte,reduceCtorEq,zA]
 exact hQ
end Go.Av.Lx
end
section
set_option maxHeartbeats 2000000
namespace Go.Av.Lx
open Go Go.Av Go.Av.Tb Go.Av.Fx Go.Proofs
open Go.Lv (Sight Survey Sw Sv SightOk Try TryOk sum2 sum3 withL allowsB tried riseAt worstAt worstW bestAt)
open Go.Fw (Sq ent Bd Mat)
@[go_sem] theorem bd_lsight (a b c d:Int):buildA T 85 [(0,.int .i64 a),(1,.int .i64 b),(2,.int .i64 c),(3,.int .i64 d)]=some (.agg [.int .i64 a,.int .i64 b,.int .i64 c,.int .i64 d]):=rfl
theorem with_pc (s:Survey) (h:Sw s) {V:Mat} (hV:Lv.knownV s=some V) (y:Sight) (hy:SightOk s.stations y) {i j:Nat} (hi:i<Lv.num s) (hj:j<Lv.num s):PC Tryz.prog 159 [kA s V,.agg (sgtC y),.int .i64 i,.int .i64 j] (.pure (.int .i64 (withL V y i j))):=by
 refine PC.of_empty (AC.run (E_ok _) mix Tryz.func159 m159 rfl rfl rfl (zE rfl) ?_) (by simp [bndL,AV.bnd]) rfl
 have hsq:Sq (Lv.num s) V:=zBm (ds:=[]) hV
 have ga:=zDh hsq hi
 have gl:=hsq.getD hi
 have e:=zAz hsq hi hj
 have xa:0≤(i:Int)∧(i:Int)<(V.length:Int):=by have:=hsq.1;omega
 have xb:0≤(j:Int)∧(j:Int)<(Lv.num s:Int):=by omega
 obtain ⟨F,hF⟩:∃ F:Int→Bound→Int,F=fun w x=>min w (sum3 (ent V i x.a.toNat) x.most (ent V x.b.toNat j)):=⟨_,rfl⟩
 have hres:withL V y i j=(sB y).foldl F (ent V i j):=by rw [sB_two hy,hF];rfl
 have hbos:=sB_bos h hy
 have hl2:(sB y).length=2:=rfl
 rw [hres]
 simp only [go_sem,boxA,xa,xb,ga,gl,e,zAd,and_self,zB,zD,zC,reduceIte,reduceCtorEq,zA]
 refine cp n91 (zDy y) (SubL.refl _) ?_
 have hlen:zAa T St.empty .len [138] [.slice (bnds (sB y)) 2 .exact]=some (.pure (.int .i64 (2:Nat))):=rfl
 simp only [go_sem,zAa,zB,zD,zC,reduceIte,reduceCtorEq,zA]
 refine zCz 2 (fun k=>[(2,.int .i64 i),(3,.int .i64 j),(4,.ref 0 0),(9,.int .i64 (((sB y).take k).foldl F (ent V i j))),(21,.slice (bnds (sB y)) 2 .exact),(22,.int .i64 (2:Nat)),(23,.int .i64 (k:Nat))])
  (fun k S => ∃ X,S=⟨[some (.cells (kvC s (wS V))),some (.cells (sgtC y))] ++ X,0,[]⟩) rfl ⟨[],rfl⟩ ?_
 rintro k hk S ⟨X,rfl⟩ I hI
 by_cases hlt:k<2
 ·have h1:(k:Int)<(2:Nat):=by omega
  have h2:0≤(k:Int)∧(k:Int)<(2:Nat):=by omega
  have h3:k * 3+3≤(bnds (sB y)).length:=by rw [bnds_len,hl2];omega
  have h4:IntKind.i64.wrap ((k:Int)+1)=(k+1:Nat):=wrap64 (by omega)
  have h5:=bnds_at (sB y) k (by rw [hl2];exact hlt)
  have hx:=hbos _ (zV (by rw [hl2];exact hlt:k<(sB y).length))
  have hI:=hI hlt
  rw [zDf _ _ _ _ (by rw [hl2];exact hlt)] at hI
  have c1:=fun l=>zAg X l
  have c2:=fun x B=>zAs X x B
  generalize ((sB y).take k).foldl F (ent V i j)=w at *
  generalize (sB y)[k]=x at *
  obtain ⟨D,hD⟩:∃ D,MC.draw [2,3,4,9,21,22,23] 23 [] r159_5=D:=⟨_,rfl⟩
  unfold l159_0
  rw [hD]
  simp only [go_sem,h1,decide_true,h2,h3,h5,zAd,and_self,c1,c2,zAc,AV.cells,AV.one,zK,zM,zJ,splice,zI,zH,zB,zD,zC,reduceIte,reduceCtorEq,zA]
  subst hD
  refine with_draw h hV hi hj x hx w _ _ _ _ _ _ _ rfl ?_ _ ?_
  ·exact zAg (some (.cells (kvC s (wS V))) :: some (.cells (sgtC y)) :: X) _
  simp only [go_sem,h4,zB,zD,zC,reduceIte,reduceCtorEq,zA]
  rw [hF] at hI
  exact hI _ ⟨X ++ [some (.cells (bndC x))],rfl⟩
 ·have h1:¬ (k:Int)<(2:Nat):=by omega
  have ek:k=2:=by omega
  subst ek
  have e2:(sB y).take 2=sB y:=rfl
  rw [e2]
  simp only [go_sem,l159_0,h1,decide_false,Tryz.f159,zB,zD,zC,reduceIte,reduceCtorEq,zA]
theorem withL_bd {s:Survey} (h:Sw s) {V:Mat} (hV:Lv.knownV s=some V) {y:Sight} (hy:SightOk s.stations y) (ha:allowsB V y=true) {i j:Nat} (hi:i<Lv.num s) (hj:j<Lv.num s) (hf:ent V i j<far):-8400≤withL V y i j∧withL V y i j≤8400:=by
 have hk:=Lv.with_known h hy hV
 rw [ha] at hk
 cases hV':Lv.knownV (Lv.withS s y) with
 | none=>rw [hV'] at hk;cases hk
 | some V' =>
  have e:=Lv.with_ent h hy hV hV' hi hj hf
  have hle:withL V y i j≤ent V i j:=by unfold withL;omega
  have:=Lv.known_bd (Lv.with_sw h hy) hV' (i:=i) (j:=j) hi hj (by rw [e];exact Int.lt_of_le_of_lt hle hf)
  rw [e] at this
  exact this
theorem tryWorst_pc (s:Survey) (h:Sw s) {V:Mat} (hV:Lv.knownV s=some V) (x:Try) (hx:TryOk s.stations x) {i j:Nat} (hi:i<Lv.num s) (hj:j<Lv.num s) (hf:ent V i j<far):PC Tryz.prog 116 [kA s V,.agg (tryC x),.int .i64 i,.int .i64 j] (.pure (.int .i64 (worstW V x i j))):=by
 refine PC.of_empty (AC.run (E_ok _) mix Tryz.func116 m116 rfl rfl rfl (zE rfl) ?_) (by simp [bndL,AV.bnd]) rfl
 have hf2:=Lv.known_sym h hV hi hj hf
 have b1:=Lv.known_bd h hV hi hj hf
 have b2:=Lv.known_bd h hV hj hi hf2
 have hsq:Sq (Lv.num s) V:=zBm (ds:=[]) hV
 simp only [go_sem,boxA,zB,zD,zC,reduceIte,reduceCtorEq,zA]
 refine zCz 2001 (fun k=>[(2,.int .i64 i),(3,.int .i64 j),(4,.ref 0 0),(5,.ref 1 0),(9,.int .i64 (worstAt V x i j k)),(10,.int .i64 (riseAt k))])
  (fun k S => ∃ X,S=⟨[some (.cells (kvC s (wS V))),some (.cells (tryC x))] ++ X,0,[]⟩) rfl ⟨[],rfl⟩ ?_
 rintro k hk S ⟨X,rfl⟩ I hI
 by_cases hlt:k<2001
 ·have h1:riseAt k≤1000:=by unfold riseAt;omega
  have h4:IntKind.i64.wrap (riseAt k+1)=riseAt (k+1):=by unfold riseAt;rw [wrap64 (by omega)];omega
  have hr:-1000≤riseAt k∧riseAt k≤1000:=⟨by unfold riseAt;omega,h1⟩
  have hy:=Lv.tried_ok hx hr
  have hI:=hI hlt
  have hw:worstAt V x i j (k+1)=if allowsB V (tried x (riseAt k))=true then max (worstAt V x i j k) (withL V (tried x (riseAt k)) i j+withL V (tried x (riseAt k)) j i) else worstAt V x i j k:=rfl
  rw [hw,← h4] at hI
  have hap:=allows_pc s h hV _ hy
  have hwp1:=with_pc s h hV _ hy hi hj
  have hwp2:=with_pc s h hV _ hy hj hi
  have hbd1:=fun ha=>withL_bd h hV hy ha hi hj hf
  have hbd2:=fun ha=>withL_bd h hV hy ha hj hi hf2
  have ht:sgtC (tried x (riseAt k))=[.int .i64 x.frm,.int .i64 x.to,.int .i64 (riseAt k),.int .i64 x.off]:=rfl
  rw [ht] at hap hwp1 hwp2
  generalize tried x (riseAt k)=y at *
  generalize riseAt k=r at *
  generalize worstAt V x i j k=w at *
  have c1:=fun l=>zAg X l
  have c2:=fun x B=>zAs X x B
  simp only [go_sem,l116_0,h1,decide_true,c1,c2,zAc,AV.cells,AV.one,zK,zM,zJ,splice,zI,zH,and_self,zB,zD,zC,reduceIte,reduceCtorEq,zA]
  refine cp n158 hap (SubL.refl _) ?_
  cases ha:allowsB V y
  ·rw [ha,if_neg (by decide)] at hI
   simp only [go_sem,zB,zD,zC,reduceIte,reduceCtorEq,zA]
   exact hI _ ⟨X ++ [some (.cells [.int .i64 x.frm,.int .i64 x.to,.int .i64 r,.int .i64 x.off])],rfl⟩
  ·rw [ha,if_pos rfl] at hI
   have a1:=hbd1 ha
   have a2:=hbd2 ha
   have wz:IntKind.i64.wrap (withL V y i j+withL V y j i)=withL V y i j+withL V y j i:=wrap64 (by omega)
   have hmx:(if withL V y i j+withL V y j i > w then withL V y i j+withL V y j i else w)=max w (withL V y i j+withL V y j i):=by split <;> omega
   simp only [go_sem,c1,zB,zD,zC,reduceIte,reduceCtorEq,zA]
   refine qp n159 hwp1 (SubL.refl _) ?_
   simp only [go_sem,c1,zB,zD,zC,reduceIte,reduceCtorEq,zA]
   refine qp n159 hwp2 (SubL.refl _) ?_
   simp only [go_sem,wz,zAa,maxsA,hmx,zB,zD,zC,reduceIte,reduceCtorEq,zA]
   exact hI _ ⟨X ++ [some (.cells [.int .i64 x.frm,.int .i64 x.to,.int .i64 r,.int .i64 x.off])],rfl⟩
 ·have h1:¬ riseAt k≤1000:=by unfold riseAt;omega
  have ek:k=2001:=by omega
  subst ek
  unfold worstW
  by_cases hn:worstAt V x i j 2001<0
  ·rw [if_pos hn]
   have ga:=zDh hsq hi
   have gl:=hsq.getD hi
   have ea:=zAz hsq hi hj
   have gb:=zDh hsq hj
   have gm:=hsq.getD hj
   have eb:=zAz hsq hj hi
   have xi:0≤(i:Int)∧(i:Int)<(V.length:Int):=by have:=hsq.1;omega
   have xb:0≤(j:Int)∧(j:Int)<(V.length:Int):=by have:=hsq.1;omega
   have xa:0≤(i:Int)∧(i:Int)<(Lv.num s:Int):=by omega
   have xj:0≤(j:Int)∧(j:Int)<(Lv.num s:Int):=by omega
   have wz:IntKind.i64.wrap (ent V i j+ent V j i)=ent V i j+ent V j i:=wrap64 (by omega)
   simp only [go_sem,l116_0,h1,decide_false,hn,decide_true,zB,zD,zC,reduceIte,reduceCtorEq,zA]
   simp only [go_sem,xi,xb,xa,xj,ga,gl,ea,gb,gm,eb,zAd,and_self,wz,Tryz.f116,zB,zD,zC,reduceIte,reduceCtorEq,zA]
  ·rw [if_neg hn]
   simp only [go_sem,l116_0,h1,decide_false,hn,Tryz.f116,zB,zD,zC,reduceIte,reduceCtorEq,zA]
end Go.Av.Lx
end
