/- Part 21 of the proof. -/
import Derived.Test.YtclmbbofpaecaaaGreatDoorVn20
set_option linter.all false
set_option linter.unusedVariables false
set_option linter.unusedSimpArgs false
set_option linter.unusedSectionVars false
open Bool renaming and_self → zJ, not_true → zV, not_false → qF, false_and → qH, true_and → qY
open List renaming getElem?_eq_getElem → zF, getD_eq_getElem?_getD → zG, set_cons_succ → zH, set_cons_zero → zI, all_cons → zL, getElem?_eq_none → zN, all_nil → zO, length_cons → zW, getElem_mem → qB, length_append → qC, getElem?_map → qK, take_succ_eq_append_getElem → qM, getElem?_range → qR, flatMap_cons → qW, not_mem_nil → yA, getElem?_set → yC, getElem?_replicate → yD, mem_cons → yM, range_succ → yN, take_length → yO
open Nat renaming reduceLeDiff → zA, reduceEqDiff → zB, reduceAdd → zC, reduceBEq → zD, le_of_ble_eq_true → zE, le_refl → zM, lt_or_ge → zU, zero_le → qG, not_lt_zero → qU, mul_one → yL
open Option renaming map_some → zX
open Option.some renaming injEq → yT
section
set_option maxHeartbeats 1000000
namespace Go.Av.Lx
open Go Go.Av Go.Av.Tb Go.Av.Fx Go.Proofs
open Go.Lv (Sight Survey Sw Sv SightOk Leg LegOk RangeOk Tun TunOk Try TryOk Stp fallW meetL meetH bestAt driveF wideI)
open Go.Fw (Sq ent Bd Mat)
theorem legs_at (l:List Leg) (k:Nat) (h:k<l.length):((legsC l).drop (k * 3)).take 3=legC l[k]:=cat_at (f:=legC) (w:=3) (fun _=>rfl) l k h
theorem tries_at (l:List Try) (k:Nat) (h:k<l.length):((triesC l).drop (k * 3)).take 3=tryC l[k]:=cat_at (f:=tryC) (w:=3) (fun _=>rfl) l k h
theorem indexFuncL_pc (l:List Leg) (hl:okL l.length) (g:FuncId) (ng:Callable Tryz.prog g) (caps:List AV) (hc:bndL 0 0 caps=true) (p:Leg→Bool) (hg:∀ x∈l,PC Tryz.prog g (.agg (legC x) :: caps) (.pure (.bool (p x)))) :
  PC Tryz.prog 155 [.slice (legsC l) l.length .unk,.func (.func g) [] caps] (.pure (.int .i64 (idx p l))):=by
 refine PC.of_empty (AC.run (E_ok _) mix Tryz.func155 m155 rfl rfl rfl (zE rfl) ?_) (by simp [bndL,AV.bnd,hc]) rfl
 simp only [go_sem,zAa,zB,zD,zC,reduceIte,reduceCtorEq,zA]
 refine zBi l.length (fun k => ∀ i (hi:i<k) (hil:i<l.length),p l[i]=false) (fun k=>[(0,.slice (legsC l) l.length .unk),(1,.func (.func g) [] caps),(7,.int .i64 l.length),(8,.int .i64 k)]) (fun _=>St.empty) (fun i hi=>absurd hi (qU _)) rfl rfl ?_
 intro k hk hP I hI
 by_cases h:k<l.length
 ·have h':(k:Int)<l.length:=by omega
  have h2:0≤(k:Int)∧(k:Int)<l.length:=by omega
  have h3:k * 3+3≤(legsC l).length:=by rw [legsC_len];omega
  have h4:IntKind.i64.wrap ((k:Int)+1)=(k+1:Nat):=wrap64 (by omega)
  have h5:=legs_at l k h
  simp only [go_sem,l155_0,h',decide_true,zB,zD,zC,reduceIte,reduceCtorEq,zA]
  simp only [go_sem,h2,zAi,and_self,h3,h5,zB,zD,zC,reduceIte,reduceCtorEq,zA]
  refine cp ng (hg _ (qB h)) (SubL.refl _) ?_
  simp only [go_sem,zB,zD,zC,reduceIte,reduceCtorEq,zA]
  refine sb_bool (fun hb => ?_) (fun hb => ?_)
  ·simp only [go_sem,Tryz.f155,zB,zD,zC,reduceIte,reduceCtorEq,zA]
   rw [idx_at h hb (fun i hi=>hP i hi (by omega))]
  ·simp only [go_sem,h4,zB,zD,zC,reduceIte,reduceCtorEq,zA]
   refine hI h fun i hi hil => ?_
   by_cases e:i=k
   ·subst e;exact hb
   ·exact hP i (by omega) hil
 ·have h':¬ (k:Int)<l.length:=by omega
  simp only [go_sem,l155_0,h',decide_false,Tryz.f155,zB,zD,zC,reduceIte,reduceCtorEq,zA]
  rw [zDs fun i hi=>hP i (by omega) hi]
theorem containsFuncL_pc (l:List Leg) (hl:okL l.length) (g:FuncId) (ng:Callable Tryz.prog g) (caps:List AV) (hc:bndL 0 0 caps=true) (p:Leg→Bool) (hg:∀ x∈l,PC Tryz.prog g (.agg (legC x) :: caps) (.pure (.bool (p x)))) :
  PC Tryz.prog 102 [.slice (legsC l) l.length .unk,.func (.func g) [] caps] (.pure (.bool (l.any p))):=by
 refine PC.of_empty (AC.run (E_ok _) mix Tryz.func102 m102 rfl rfl rfl (zE rfl) ?_) (by simp [bndL,AV.bnd,hc]) rfl
 simp only [go_sem,zB,zD,zC,reduceIte,reduceCtorEq,zA]
 refine cp n155 (indexFuncL_pc l hl g ng caps hc p hg) (SubL.refl _) ?_
 simp only [go_sem,Tryz.f102,zCg,zB,zD,zC,reduceIte,reduceCtorEq,zA]
theorem indexFuncT_pc (l:List Try) (hl:okL l.length) (g:FuncId) (ng:Callable Tryz.prog g) (caps:List AV) (hc:bndL 0 0 caps=true) (p:Try→Bool) (hg:∀ x∈l,PC Tryz.prog g (.agg (tryC x) :: caps) (.pure (.bool (p x)))) :
  PC Tryz.prog 157 [.slice (triesC l) l.length .unk,.func (.func g) [] caps] (.pure (.int .i64 (idx p l))):=by
 refine PC.of_empty (AC.run (E_ok _) mix Tryz.func157 m157 rfl rfl rfl (zE rfl) ?_) (by simp [bndL,AV.bnd,hc]) rfl
 simp only [go_sem,zAa,zB,zD,zC,reduceIte,reduceCtorEq,zA]
 refine zBi l.length (fun k => ∀ i (hi:i<k) (hil:i<l.length),p l[i]=false) (fun k=>[(0,.slice (triesC l) l.length .unk),(1,.func (.func g) [] caps),(7,.int .i64 l.length),(8,.int .i64 k)]) (fun _=>St.empty) (fun i hi=>absurd hi (qU _)) rfl rfl ?_
 intro k hk hP I hI
 by_cases h:k<l.length
 ·have h':(k:Int)<l.length:=by omega
  have h2:0≤(k:Int)∧(k:Int)<l.length:=by omega
  have h3:k * 3+3≤(triesC l).length:=by rw [triesC_len];omega
  have h4:IntKind.i64.wrap ((k:Int)+1)=(k+1:Nat):=wrap64 (by omega)
  have h5:=tries_at l k h
  simp only [go_sem,l157_0,h',decide_true,zB,zD,zC,reduceIte,reduceCtorEq,zA]
  simp only [go_sem,h2,zAi,and_self,h3,h5,zB,zD,zC,reduceIte,reduceCtorEq,zA]
  refine cp ng (hg _ (qB h)) (SubL.refl _) ?_
  simp only [go_sem,zB,zD,zC,reduceIte,reduceCtorEq,zA]
  refine sb_bool (fun hb => ?_) (fun hb => ?_)
  ·simp only [go_sem,Tryz.f157,zB,zD,zC,reduceIte,reduceCtorEq,zA]
   rw [idx_at h hb (fun i hi=>hP i hi (by omega))]
  ·simp only [go_sem,h4,zB,zD,zC,reduceIte,reduceCtorEq,zA]
   refine hI h fun i hi hil => ?_
   by_cases e:i=k
   ·subst e;exact hb
   ·exact hP i (by omega) hil
 ·have h':¬ (k:Int)<l.length:=by omega
  simp only [go_sem,l157_0,h',decide_false,Tryz.f157,zB,zD,zC,reduceIte,reduceCtorEq,zA]
  rw [zDs fun i hi=>hP i (by omega) hi]
theorem containsFuncT_pc (l:List Try) (hl:okL l.length) (g:FuncId) (ng:Callable Tryz.prog g) (caps:List AV) (hc:bndL 0 0 caps=true) (p:Try→Bool) (hg:∀ x∈l,PC Tryz.prog g (.agg (tryC x) :: caps) (.pure (.bool (p x)))) :
  PC Tryz.prog 113 [.slice (triesC l) l.length .unk,.func (.func g) [] caps] (.pure (.bool (l.any p))):=by
 refine PC.of_empty (AC.run (E_ok _) mix Tryz.func113 m113 rfl rfl rfl (zE rfl) ?_) (by simp [bndL,AV.bnd,hc]) rfl
 simp only [go_sem,zB,zD,zC,reduceIte,reduceCtorEq,zA]
 refine cp n157 (indexFuncT_pc l hl g ng caps hc p hg) (SubL.refl _) ?_
 simp only [go_sem,Tryz.f113,zCg,zB,zD,zC,reduceIte,reduceCtorEq,zA]
theorem indexFuncB_pc (l:List Bound) (hl:okL l.length) (g:FuncId) (ng:Callable Tryz.prog g) (caps:List AV) (hc:bndL 0 0 caps=true) (p:Bound→Bool) (hg:∀ x∈l,PC Tryz.prog g (.agg (bndC x) :: caps) (.pure (.bool (p x)))) :
  PC Tryz.prog 189 [.slice (bnds l) l.length .unk,.func (.func g) [] caps] (.pure (.int .i64 (idx p l))):=by
 refine PC.of_empty (AC.run (E_ok _) mix Tryz.func189 m189 rfl rfl rfl (zE rfl) ?_) (by simp [bndL,AV.bnd,hc]) rfl
 simp only [go_sem,zAa,zB,zD,zC,reduceIte,reduceCtorEq,zA]
 refine zBi l.length (fun k => ∀ i (hi:i<k) (hil:i<l.length),p l[i]=false) (fun k=>[(0,.slice (bnds l) l.length .unk),(1,.func (.func g) [] caps),(7,.int .i64 l.length),(8,.int .i64 k)]) (fun _=>St.empty) (fun i hi=>absurd hi (qU _)) rfl rfl ?_
 intro k hk hP I hI
 by_cases h:k<l.length
 ·have h':(k:Int)<l.length:=by omega
  have h2:0≤(k:Int)∧(k:Int)<l.length:=by omega
  have h3:k * 3+3≤(bnds l).length:=by rw [bnds_len];omega
  have h4:IntKind.i64.wrap ((k:Int)+1)=(k+1:Nat):=wrap64 (by omega)
  have h5:=bnds_at l k h
  simp only [go_sem,l189_0,h',decide_true,zB,zD,zC,reduceIte,reduceCtorEq,zA]
  simp only [go_sem,h2,zAi,and_self,h3,h5,zB,zD,zC,reduceIte,reduceCtorEq,zA]
  refine cp ng (hg _ (qB h)) (SubL.refl _) ?_
  simp only [go_sem,zB,zD,zC,reduceIte,reduceCtorEq,zA]
  refine sb_bool (fun hb => ?_) (fun hb => ?_)
  ·simp only [go_sem,Tryz.f189,zB,zD,zC,reduceIte,reduceCtorEq,zA]
   rw [idx_at h hb (fun i hi=>hP i hi (by omega))]
  ·simp only [go_sem,h4,zB,zD,zC,reduceIte,reduceCtorEq,zA]
   refine hI h fun i hi hil => ?_
   by_cases e:i=k
   ·subst e;exact hb
   ·exact hP i (by omega) hil
 ·have h':¬ (k:Int)<l.length:=by omega
  simp only [go_sem,l189_0,h',decide_false,Tryz.f189,zB,zD,zC,reduceIte,reduceCtorEq,zA]
  rw [zDs fun i hi=>hP i (by omega) hi]
theorem containsFuncB_pc (l:List Bound) (hl:okL l.length) (g:FuncId) (ng:Callable Tryz.prog g) (caps:List AV) (hc:bndL 0 0 caps=true) (p:Bound→Bool) (hg:∀ x∈l,PC Tryz.prog g (.agg (bndC x) :: caps) (.pure (.bool (p x)))) :
  PC Tryz.prog 176 [.slice (bnds l) l.length .unk,.func (.func g) [] caps] (.pure (.bool (l.any p))):=by
 refine PC.of_empty (AC.run (E_ok _) mix Tryz.func176 m176 rfl rfl rfl (zE rfl) ?_) (by simp [bndL,AV.bnd,hc]) rfl
 simp only [go_sem,zB,zD,zC,reduceIte,reduceCtorEq,zA]
 refine cp n189 (indexFuncB_pc l hl g ng caps hc p hg) (SubL.refl _) ?_
 simp only [go_sem,Tryz.f176,zCg,zB,zD,zC,reduceIte,reduceCtorEq,zA]
theorem carries1_pc (s:Survey) (x:Leg):PC Tryz.prog 103 [.agg (legC x),.eptr (surC s) 0] (.pure (.bool (!legB s x))):=by
 refine PC.of_empty (AC.run (E_ok _) mix Tryz.func103 m103 rfl rfl rfl (zE rfl) ?_) (by simp [bndL,AV.bnd]) rfl
 simp only [go_sem,boxA,zB,zD,zC,reduceIte,reduceCtorEq,zA]
 refine cp n104 (isLeg_pc s x) (SubL.refl _) ?_
 simp only [go_sem,zAg,Tryz.f103,zB,zD,zC,reduceIte,reduceCtorEq,zA]
def legsB (s:Survey) (l:List Leg):Bool:=inB l.length 1 6 && l.all (legB s)
end Go.Av.Lx
end
section
set_option maxHeartbeats 1000000
namespace Go.Av.Lx
open Go Go.Av Go.Av.Tb Go.Av.Fx Go.Proofs
open Go.Lv (Sight Survey Sw Sv SightOk Leg LegOk RangeOk Tun TunOk Try TryOk Stp fallW meetL meetH bestAt driveF wideI carryW carryB)
open Go.Fw (Sq ent Bd Mat)
def lbB (lo hi:Int) (x:Leg):List Bound:=[⟨x.to,x.frm,x.long * hi⟩,⟨x.frm,x.to,-(x.long * lo)⟩]
def lbs (lo hi:Int) (l:List Leg):List Bound:=l.flatMap (lbB lo hi)
theorem lbs_bd (lo hi:Int) (l:List Leg):(lbs lo hi l).map bd=Lv.legsP lo hi l:=by
 unfold lbs Lv.legsP
 rw [List.map_flatMap];rfl
theorem lbs_len (lo hi:Int) (l:List Leg):(lbs lo hi l).length=l.length * 2:=by
 unfold lbs
 induction l with
 | nil=>rfl
 | cons x l ih=>rw [qW,qC,ih,zW];simp [lbB];omega
theorem lbs_ok {s:Survey} (h:Sw s) {lo hi:Int} (hr:RangeOk lo hi) {l:List Leg} (hl:∀ x∈l,LegOk s.stations x):∀ b∈lbs lo hi l,BOk (Lv.num s) b:=fun b hb=>by
 obtain ⟨x,hx,hb⟩:=List.mem_flatMap.1 hb
 have ho:=hl x hx
 obtain ⟨s1,s2⟩:=Lv.leg_small ho hr
 have h1:=ho.frm;have h2:=ho.to
 have h3:=h.st
 have e:((Lv.num s:Nat):Int)=s.stations:=by show ((s.stations.toNat:Nat):Int)=_;omega
 simp only [lbB,yM,yA,or_false] at hb
 rcases hb with rfl | rfl
 ·exact ⟨by rw [e];exact h2,by rw [e];exact h1,by show -20000≤x.long * hi∧x.long * hi≤20000;omega⟩
 ·exact ⟨by rw [e];exact h1,by rw [e];exact h2,by show -20000 ≤ -(x.long * lo) ∧ -(x.long * lo)≤20000;omega⟩
def joinAll (V:Mat) (l:List Leg):Bool:=l.all fun x=>decide (ent V x.frm.toNat x.to.toNat<far)
def zEw (s:Survey) (l:List Leg) (lo hi:Int):AV:=
 if zAp s && (legsB s l && rangeB lo hi) then (match Lv.knownV s with
  | some V=>if joinAll V l=true then .tuple [.int .i64 (carryW s V l lo hi),.int .i64 0] else .tuple [.int .i64 0,.int .i64 5]
  | none=>.tuple [.int .i64 0,.int .i64 7])
 else .tuple [.int .i64 0,.int .i64 2]
theorem carriesA_bnd (s:Survey) (l:List Leg) (lo hi:Int):(zEw s l lo hi).bnd 0 0=true:=by
 unfold zEw
 split
 ·split
  ·split <;> rfl
  ·rfl
 ·rfl
def surelyB (V:Mat) (l:List Leg) (lo hi:Int):Bool:=l.all fun x=>decide (fallW V x lo hi=3)
theorem possK_carry {s:Survey} {l:List Leg} {lo hi:Int}:possK s (lbs lo hi l)=carryB s l lo hi:=by
 unfold possK kn carryB
 rw [lbs_bd]
theorem Carries_pc (s:Survey) (hl:okL s.sights.length) (l:List Leg) (hll:okL l.length) (lo hi:Int):PC Tryz.prog 35 [surA s,legsA l,.int .i64 lo,.int .i64 hi] (.pure (zEw s l lo hi)):=by
 refine PC.of_empty (AC.run (E_ok _) mix Tryz.func35 m35 rfl rfl rfl (zE rfl) ?_) (by simp [bndL,AV.bnd]) (carriesA_bnd _ _ _ _)
 unfold zEw legsB
 have hno:∀ b,b=false→askedA s b=.tuple [zeroK,.int .i64 2]:=fun b e=>by subst e;unfold askedA;rw [Bool.and_false];rfl
 simp only [go_sem,boxA,zAa,zB,zD,zC,reduceIte,reduceCtorEq,zA]
 refine cp n100 (in_pc _ _ _) (SubL.refl _) ?_
 rw [show (decide ((l.length:Int) ≥ 1) && decide ((l.length:Int)≤6))=inB l.length 1 6 from rfl]
 cases h1:inB l.length 1 6
 ·simp only [go_sem,qH,Bool.and_false,zB,zD,zC,reduceIte,reduceCtorEq,zA]
  refine cp n86 (zCd s hl false) (SubL.refl _) ?_
  rw [hno false rfl]
  simp only [go_sem,zAc,Tryz.f35,zB,zD,zC,reduceIte,reduceCtorEq,zA]
  simp
 simp only [go_sem,qY,zB,zD,zC,reduceIte,reduceCtorEq,zA]
 refine cp n101 (isRange_pc lo hi) (SubL.refl _) ?_
 cases h2:rangeB lo hi
 ·simp only [go_sem,qH,Bool.and_false,zB,zD,zC,reduceIte,reduceCtorEq,zA]
  refine cp n86 (zCd s hl false) (SubL.refl _) ?_
  rw [hno false rfl]
  simp only [go_sem,zAc,Tryz.f35,zB,zD,zC,reduceIte,reduceCtorEq,zA]
  simp
 have hC:=containsFuncL_pc l hll 103 n103 [.eptr (surC s) 0] (by simp [bndL,AV.bnd]) (fun x => !legB s x) (fun x _=>carries1_pc s x)
 simp only [go_sem,Bool.and_true,zB,zD,zC,reduceIte,reduceCtorEq,zA]
 refine cl n102 hC (LntL.cons (.same _ (by simp [AV.bnd])) (LntL.cons (Lnt.func1 (.ptr 0 0 _ rfl (by simp [bndL,AV.bnd]))) (LntL.nil _))) rfl ?_
 have hany:(!l.any fun x => !legB s x)=l.all (legB s):=by
  rw [← List.all_eq_not_any_not]
 simp only [go_sem,zAg,hany,zB,zD,zC,reduceIte,reduceCtorEq,zA]
 cases h3:l.all (legB s)
 ·refine cp n86 (zCd s hl false) (SubL.refl _) ?_
  rw [hno false rfl]
  simp only [go_sem,zAc,Tryz.f35,zB,zD,zC,reduceIte,reduceCtorEq,zA]
  simp
 refine cp n86 (zCd s hl true) (SubL.refl _) ?_
 unfold askedA
 cases hs:zAp s
 ·simp only [go_sem,qH,zAc,Tryz.f35,zB,zD,zC,reduceIte,reduceCtorEq,zA]
  all_goals rfl
 have hv:=zCk.1 hs
 cases hV:Lv.knownV s with
 | none =>
  simp only [go_sem,zJ,zAc,Tryz.f35,zB,zD,zC,reduceIte,reduceCtorEq,zA]
  all_goals rfl
 | some V =>
  have hr:=range_iff.1 h2
  have hlen:l.length≤6:=by have:=inB_iff.1 h1;omega
  have hlg:∀ x∈l,LegOk s.stations x:=fun x hx=>(leg_iff hv.st).1 (List.all_eq_true.1 h3 x hx)
  simp only [zJ,if_true]
  simp only [go_sem,zJ,zAc,kvC,zAa,zB,zD,zC,reduceIte,reduceCtorEq,zA]
  refine zAu (fun m ts' S' => ∃ k W nt tk X,k≤l.length∧m=l.length - k∧ts'=[(2,.int .i64 lo),(3,.int .i64 hi),(4,.ref 0 0),(11,.ref 1 0),(13,W),(14,.bool (surelyB V (l.take k) lo hi)),(40,legsA l),(41,.int .i64 l.length),(42,.int .i64 (k:Nat))]∧S'=⟨[some (.cells (surC s)),some (.cells (kvC s (wS V)))] ++ X,nt,tk⟩∧MoreA (lbs lo hi (l.take k)) W ⟨[],nt,tk⟩ nt∧joinAll V (l.take k)=true) l.length ⟨0,.nilS,0,[],[],qG _,rfl,by simp [surelyB],rfl,.inl ⟨rfl,by simp [lbs]⟩,by simp [joinAll]⟩ ?_
  rintro m ts' S' ⟨k,W,nt,tk,X,hk,rfl,rfl,rfl,hM,hJ⟩
  by_cases hlt:k<l.length
  ·have k1:(k:Int)<l.length:=by omega
   have k2:0≤(k:Int)∧(k:Int)<l.length:=by omega
   have k3:k * 3+3≤(legsC l).length:=by rw [legsC_len];omega
   have k4:IntKind.i64.wrap ((k:Int)+1)=(k+1:Nat):=wrap64 (by omega)
   have k5:=legs_at l k hlt
   have hx:=hlg _ (qB hlt)
   have tk1:l.take (k+1)=l.take k ++ [l[k]]:=qM hlt
   have hnj:¬ ent V l[k].frm.toNat l[k].to.toNat<far→joinAll V l=false:=fun h=>by
    unfold joinAll
    rw [List.all_eq_false]
    exact ⟨l[k],qB hlt,by rw [decide_eq_true_iff];exact h⟩
   have hll2:(lbs lo hi (l.take k)).length+(lbB lo hi l[k]).length≤1000000:=by rw [lbs_len,List.length_take];simp [lbB];omega
   have hlb:lbs lo hi (l.take (k+1))=lbs lo hi (l.take k) ++ lbB lo hi l[k]:=by rw [tk1];unfold lbs;rw [List.flatMap_append];simp
   have hsu:surelyB V (l.take (k+1)) lo hi=(surelyB V (l.take k) lo hi && decide (fallW V l[k] lo hi=3)):=by rw [tk1];unfold surelyB;rw [List.all_append];simp
   have hjo:joinAll V (l.take (k+1))=(joinAll V (l.take k) && decide (ent V l[k].frm.toNat l[k].to.toNat<far)):=by rw [tk1];unfold joinAll;rw [List.all_append];simp
   generalize l[k]=x at *
   have c1:∀ a b q,cellsAt (a :: b :: (X ++ [some (.cells q)])) (X.length+1+1)=some q:=fun a b q=>zAf (a :: b :: X) q
   have c2:∀ a b y B,setH (a :: b :: (X ++ [y])) (X.length+1+1) B=a :: b :: (X ++ [some B]):=fun a b y B=>zAs (a :: b :: X) y B
   obtain ⟨s1,s2⟩:=Lv.leg_small hx hr
   have hsm:=hx.long
   have o1:=hx.frm
   have o2:=hx.to
   obtain ⟨a,ha⟩:∃ a:Nat,x.frm=a:=⟨x.frm.toNat,by omega⟩
   obtain ⟨b,hb⟩:∃ b:Nat,x.to=b:=⟨x.to.toNat,by omega⟩
   have ea:a<Lv.num s:=by show a<s.stations.toNat;omega
   have eb:b<Lv.num s:=by show b<s.stations.toNat;omega
   have hjp:=joined_pc s (zBk (ds:=[]) hV) ea eb
   rw [← ha,← hb] at hjp
   have w1:IntKind.i64.wrap (x.long * hi)=x.long * hi:=wrap64 (by omega)
   have w2:IntKind.i64.wrap (0 - x.long) = -x.long:=by rw [wrap64 (by omega)];omega
   have w3:IntKind.i64.wrap (-x.long * lo) = -(x.long * lo):=by rw [Int.neg_mul];exact wrap64 (by omega)
   simp only [go_sem,l35_0,k1,decide_true,k2,k3,k5,zAi,and_self,c1,c2,zAd,AV.cells,AV.one,zL,zO,zJ,splice,zI,zH,zB,zD,zC,reduceIte,reduceCtorEq,zA]
   refine cp n105 hjp (SubL.refl _) ?_
   have hab:ent V a b=ent V x.frm.toNat x.to.toNat:=by rw [ha,hb];rfl
   rw [hab]
   by_cases hf:ent V x.frm.toNat x.to.toNat<far
   ·have hjn:=joinP hv.toSw hV o1 o2 hf
    rw [decide_eq_true hf] at hjo ⊢
    simp only [go_sem,zAg,zV,c1,zB,zD,zC,reduceIte,reduceCtorEq,zA]
    cases hsb:surelyB V (l.take k) lo hi
    ·simp only [go_sem,c1,w1,w2,w3,unA,zAa,zB,zD,zC,reduceIte,reduceCtorEq,zA]
     refine MoreA.app (S:=⟨some (.cells (surC s)) :: some (.cells (kvC s (wS V))) :: (X ++ [some (.cells (legC x))]),nt,tk⟩) (l:=lbB lo hi x) (N:=nt) (hM.mono (fun k hk _=>hk) (zM _)) (zM _) (by simp [lbB]) hll2 fun M3 tk3 hM3 => ?_
     simp only [go_sem,k4,zB,zD,zC,reduceIte,reduceCtorEq,zA]
     refine zAj (l.length - (k+1)) (by omega) ⟨k+1,M3,nt+1,tk3,_,hlt,rfl, ?_,rfl, ?_,by rw [hjo,hJ];rfl⟩
     ·rw [hsu,hsb];rfl
     ·rw [hlb];exact hM3.mono (fun k hk _=>hk) (zM _)
    ·simp only [go_sem,c1,w1,w2,w3,unA,zAa,zB,zD,zC,reduceIte,reduceCtorEq,zA]
     refine cp n106 (falls_pc s V x lo hi hx hr hjn) (SubL.refl _) ?_
     simp only [go_sem,c1,w1,w2,w3,unA,zAa,zB,zD,zC,reduceIte,reduceCtorEq,zA]
     refine MoreA.app (S:=⟨some (.cells (surC s)) :: some (.cells (kvC s (wS V))) :: (X ++ [some (.cells (legC x))]),nt,tk⟩) (l:=lbB lo hi x) (N:=nt) (hM.mono (fun k hk _=>hk) (zM _)) (zM _) (by simp [lbB]) hll2 fun M3 tk3 hM3 => ?_
     simp only [go_sem,k4,zB,zD,zC,reduceIte,reduceCtorEq,zA]
     refine zAj (l.length - (k+1)) (by omega) ⟨k+1,M3,nt+1,tk3,_,hlt,rfl, ?_,rfl, ?_,by rw [hjo,hJ];rfl⟩
     ·rw [hsu,hsb];rfl
     ·rw [hlb];exact hM3.mono (fun k hk _=>hk) (zM _)
   ·rw [decide_eq_false hf]
    simp only [go_sem,zAg,qF,Tryz.f35,zB,zD,zC,reduceIte,reduceCtorEq,zA]
    rw [hnj hf];rfl
  ·have k1:¬ (k:Int)<l.length:=by omega
   have ek:k=l.length:=by omega
   subst ek
   rw [yO] at hM hJ
   rw [hJ,if_pos rfl]
   have hcw:carryW s V l lo hi=if surelyB V l lo hi=true then 3 else if carryB s l lo hi=true then 2 else 1:=rfl
   rw [hcw]
   simp only [go_sem,l35_0,k1,decide_false,yO,zB,zD,zC,reduceIte,reduceCtorEq,zA]
   cases hsb:surelyB V l lo hi
   ·simp only [go_sem,zB,zD,zC,reduceIte,reduceCtorEq,zA]
    have hM1:W.cells=[W]∧W.one=true:=by
     rcases hM with ⟨rfl,_⟩ | ⟨k,rfl,_,_⟩
     ·exact ⟨rfl,rfl⟩
     ·exact ⟨rfl,rfl⟩
    refine zCb (E:=E _) n107 (possible_ac s hv.toSw (by have:=hv.many;omega) (lbs lo hi l) (by rw [lbs_len];omega) (lbs_ok hv.toSw hr hlg) W hM1 _ nt tk (hM.mono (fun k hk _=>hk) (zM _))) (fun v S' hR => ?_) (fun v S' hR=>by cases hR.1)
    obtain ⟨e,A,nt',tk',rfl,_⟩:=hR
    cases e
    rw [possK_carry]
    cases hcb:carryB s l lo hi
    ·simp only [go_sem,zAg,qF,Tryz.f35,zB,zD,zC,reduceIte,reduceCtorEq,zA]
     all_goals rfl
    ·simp only [go_sem,zAg,zV,Tryz.f35,zB,zD,zC,reduceIte,reduceCtorEq,zA]
     all_goals rfl
   ·simp only [go_sem,Tryz.f35,zB,zD,zC,reduceIte,reduceCtorEq,zA]
    all_goals rfl
end Go.Av.Lx
end
section
set_option maxHeartbeats 4000000
namespace Go.Av.Lx
open Go Go.Av Go.Av.Tb Go.Av.Fx Go.Proofs
open Go.Lv (Sight Survey Sw Sv SightOk Leg LegOk RangeOk Tun TunOk Try TryOk Stp fallW meetL meetH bestAt driveF wideI carryW carryB Clos Both)
open Go.Fw (Sq ent Bd Mat upd row stage upto)

end Go.Av.Lx
end
section
set_option maxHeartbeats 2000000
namespace Go.Av.Lx
open Go Go.Av Go.Av.Tb Go.Av.Fx Go.Proofs
open Go.Lv (Sight Survey Sw Sv SightOk Stp zBr walkRow rowStep rowOne)
open Go.Fw (Sq ent Bd Mat)
theorem rem_nat {x y:Nat} (h:0<y):intOp .rem .i64 (x:Int) (y:Int)=some (.int .i64 (x % y:Nat)):=by
 show (if (y:Int)=0 then none else some (AV.int .i64 (Int.tmod x y)))=_
 rw [if_neg (by omega)];rfl
theorem quo_nat {x y:Nat} (h:0<y) (hx:x≤1000000000):intOp .quo .i64 (x:Int) (y:Int)=some (.int .i64 (x / y:Nat)):=by
 show (if (y:Int)=0 then none else some (AV.int .i64 (IntKind.i64.wrap (Int.tdiv x y))))=_
 rw [if_neg (by omega)]
 have e:Int.tdiv (x:Int) y=((x / y:Nat):Int):=rfl
 have:x / y≤x:=Nat.div_le_self _ _
 rw [e]
 generalize x / y=q at *
 rw [wrap64 (by omega)]
theorem divisor_pc (a b:Nat):PC Tryz.prog 148 [.int .i64 a,.int .i64 b] (.pure (.int .i64 (Nat.gcd a b:Nat))):=by
 refine PC.of_empty (AC.run (E_ok _) mix Tryz.func148 m148 rfl rfl rfl (zE rfl) ?_) (by simp [bndL,AV.bnd]) rfl
 simp only [go_sem,zB,zD,zC,reduceIte,reduceCtorEq,zA]
 refine zAu (fun m ts' S' => ∃ x y:Nat,m=y∧ts'=[(0,.int .i64 x),(1,.int .i64 y)]∧S'=St.empty∧Nat.gcd x y=Nat.gcd a b) b ⟨a,b,rfl,rfl,rfl,rfl⟩ ?_
 rintro m ts' S' ⟨x,y,rfl,rfl,rfl,hg⟩
 by_cases h:0<m
 ·have h1:(m:Int) > 0:=by omega
  have hq:=rem_nat (x:=x) h
  simp only [go_sem,l148_0,h1,decide_true,hq,zB,zD,zC,reduceIte,reduceCtorEq,zA]
  refine zAj (x % m) (Nat.mod_lt _ h) ⟨m,x % m,rfl,rfl,rfl, ?_⟩
  rw [← hg,Nat.gcd_comm x m,Nat.gcd_rec m x,Nat.gcd_comm]
 ·have h1:¬ (m:Int) > 0:=by omega
  have e:m=0:=by omega
  subst e
  simp only [go_sem,l148_0,h1,decide_false,Tryz.f148,zB,zD,zC,reduceIte,reduceCtorEq,zA]
  rw [← hg,Nat.gcd_zero_right]
theorem wS_bnd (W:Mat):(wS W).bnd 0 0=true:=by
 have:bndL 0 0 (W.map sl)=true:=bndL_map _ (fun _=>by simp [AV.bnd]) W
 simp [AV.bnd,this]
def rowsF (f:Nat→Nat) (m n:Nat):List AV:=(List.range m).map fun i=>.sref (f i) 0 n n
@[simp] theorem rowsF_len (f:Nat→Nat) (m n:Nat):(rowsF f m n).length=m:=by simp [rowsF]
theorem rowsF_get {f:Nat→Nat} {m n i:Nat} (h:i<m):(rowsF f m n)[i]? = some (.sref (f i) 0 n n):=by simp [rowsF,qR h]
theorem rowsF_snoc (f:Nat→Nat) (m n:Nat):rowsF f m n ++ [.sref (f m) 0 n n]=rowsF f (m+1) n:=by simp [rowsF,yN]
theorem cells_block {h:List (Option Blk)} {i:Nat} {l:List AV} (hc:cellsAt h i=some l):h[i]? = some (some (.cells l)):=by
 unfold cellsAt at hc
 split at hc
 ·rename_i e;cases hc;exact e
 ·cases hc
theorem zDu {h:List (Option Blk)} {i:Nat} {l:List AV} (hc:cellsAt h i=some l):i<h.length:=by
 rcases zU i h.length with h' | h'
 ·exact h'
 ·have:=cells_block hc
  rw [zN h'] at this;cases this
theorem zBw {h:List (Option Blk)} {i j:Nat} {B:Blk} (hj:j<h.length) (hij:i≠j):cellsAt (setH h j B) i=cellsAt h i:=by
 rw [setH_at hj]
 unfold cellsAt
 rw [yC,if_neg (fun e=>hij e.symm)]
theorem cells_self {h:List (Option Blk)} {j:Nat} {l:List AV} (hj:j<h.length):cellsAt (setH h j (.cells l)) j=some l:=by
 rw [setH_at hj]
 unfold cellsAt
 rw [yC,if_pos rfl,if_pos hj]
theorem setH_len {h:List (Option Blk)} {j:Nat} {B:Blk} (hj:j<h.length):(setH h j B).length=h.length:=by rw [setH_at hj,List.length_set]
theorem rowsF_frz {h:List (Option Blk)} {f:Nat→Nat} {n:Nat} {rows:Nat→List Int} (hl:∀ i,i<n→(rows i).length=n) (hc:∀ i,i<n→cellsAt h (f i)=some (ints (rows i))) (t:Tail):Frz h (.slice (rowsF f n n) n t) (wS ((List.range n).map rows)):=by
 show Frz h _ (.slice (((List.range n).map rows).map sl) ((List.range n).map rows).length .unk)
 rw [show ((List.range n).map rows).length=n by simp]
 refine .slice _ _ _ _ (by simp) fun j x y hx hy => ?_
 have hj:j<n:=by
  rcases zU j n with h' | h'
  ·exact h'
  ·rw [zN (by simpa using h')] at hx;cases hx
 rw [rowsF_get hj] at hx
 simp only [yT] at hx
 subst hx
 rw [List.map_map,qK,qR hj] at hy
 simp only [zX,yT] at hy
 subst hy
 have:=Frz.row (h:=h) (f j) 0 n n 1 _ (cells_block (hc j hj)) (by simp [hl j hj]) (zM _)
 rw [List.drop_zero,List.take_of_length_le (by simp [hl j hj])] at this
 show Frz h _ (.slice (ints (rows j)) (rows j).length .unk)
 rw [hl j hj];exact this
theorem still_pc (s:Survey) (h:Sw s):PC Tryz.prog 146 [surA s] (.pure (wS ((List.range (Lv.num s)).map (zBr (Lv.num s))))):=by
 refine PC.of_frz (AC.run (E_ok _) mix Tryz.func146 m146 rfl rfl rfl (zE rfl) ?_) (by simp [bndL,AV.bnd]) (wS_bnd _)
 obtain ⟨n,hn⟩:∃ n,n=Lv.num s:=⟨_,rfl⟩
 have hst:s.stations=(n:Int):=by have:=h.st;rw [hn];show _=((s.stations.toNat:Nat):Int);omega
 have hn2:2≤n∧n≤8:=by have:=h.st;omega
 rw [← hn]
 simp only [go_sem,boxA,hst,zB,zD,zC,reduceIte,reduceCtorEq,zA]
 refine zAu (fun m ts' S' => ∃ a V nt tk Hh,a≤n∧m=n - a∧ts'=[(1,.ref 0 0),(3,V),(6,.int .i64 n),(7,.int .i64 (a:Nat))]∧S'=⟨Hh,nt,tk⟩∧cellsAt Hh 0=some [.int .i64 n,.slice (sgts s.sights) s.sights.length .unk]∧Hh.length=1+a∧(∀ i,i<a→cellsAt Hh (1+i)=some (ints (zBr n i)))∧Own (rowsF (1 + ·) a n) a V nt tk) n ⟨0,.nilS,0,[],_,qG _,rfl,rfl,rfl,rfl,rfl,fun i hi=>absurd hi (qU _),Own.nil _ _⟩ ?_
 rintro m ts' S' ⟨a,V,nt,tk,Hh,ha,rfl,rfl,rfl,c0,hlen,hrows,ho⟩
 by_cases hlt:a<n
 ·have h1:(a:Int)<n:=by omega
  have h4:IntKind.i64.wrap ((a:Int)+1)=(a+1:Nat):=wrap64 (by omega)
  have lm:(rowsF (1 + ·) a n).length=a * 1:=by simp
  have cax:=fun X=>zAn c0 X
  simp only [go_sem,l146_0,h1,decide_true,c0,zB,zD,zC,reduceIte,reduceCtorEq,zA]
  refine ca n150 (repeat_pc (-1099511627776) n (by omega) (by omega)) (SubL.cons (Sub.unk _ 1 .exact) (SubL.refl _)) ?_
  simp only [go_sem,hlen,zAa,zB,zD,zC,reduceIte,reduceCtorEq,zA]
  refine zEa (lx:=[.sref (1+a) 0 n n]) rowRows ho lm rfl (by decide) rfl (by omega) fun V' tk' g => ?_
  have gt:=g.tok
  have go:=g.own
  rw [rowsF_snoc (1 + ·) a n] at gt go
  have xa:0≤(a:Int)∧(a:Int)<(a+1:Nat):=by omega
  have xb:0≤(a:Int)∧(a:Int)<(n:Nat):=by omega
  have rg:(rowsF (1 + ·) (a+1) n)[a]? = some (.sref (1+a) 0 n n):=rowsF_get (f:=(1 + ·)) (by omega)
  have ce:cellsAt (Hh ++ [some (.cells (ints (List.replicate n (-1099511627776))))]) (1+a)=some (ints (List.replicate n (-1099511627776))):=by rw [← hlen];exact zAf _ _
  have se:setH (Hh ++ [some (.cells (ints (List.replicate n (-1099511627776))))]) (1+a) (.cells ((ints (List.replicate n (-1099511627776))).set a (.int .i64 0)))=Hh ++ [some (.cells (ints (zBr n a)))]:=by rw [← hlen,zAs,zDt];rfl
  have hk1:a+1≤n:=hlt
  rw [gt]
  simp only [go_sem,xa,xb,rg,zAi,yL,and_self,ce,zB,zD,zC,reduceIte,reduceCtorEq,zA]
  rw [← gt]
  simp only [go_sem,AV.cells,AV.one,zL,zO,zJ,splice,zCm,List.length_replicate,zAd,hk1,se,h4,zB,zD,zC,reduceIte,reduceCtorEq,zA]
  refine zAj (n - (a+1)) (by omega) ⟨a+1,V',nt+1,tk',_,hlt,rfl,rfl,rfl,cax _,by simp [hlen];omega,fun i hi => ?_,go⟩
  by_cases e:i=a
  ·subst e;rw [← hlen];exact zAf _ _
  ·exact zAn (hrows i (by omega)) _
 ·have h1:¬ (a:Int)<n:=by omega
  have e:a=n:=by omega
  subst e
  simp only [go_sem,l146_0,h1,decide_false,Tryz.f146,zB,zD,zC,reduceIte,reduceCtorEq,zA]
  have hV:∃ t,V=.slice (rowsF (1 + ·) a a) a t:=by
   rcases ho with ⟨_,_,h0⟩ | ⟨k,hk,_⟩
   ·omega
   ·exact ⟨_,hk⟩
  obtain ⟨t,rfl⟩:=hV
  exact ⟨_,rfl,rowsF_frz (fun i hi=>by simp [zBr]) hrows t⟩
end Go.Av.Lx
end
section
set_option maxHeartbeats 2000000
namespace Go.Av.Lx
open Go Go.Av Go.Av.Tb Go.Av.Fx Go.Proofs
open Go.Lv (Sight Survey Sw Sv SightOk Stp zBr walkRow rowStep rowOne)
open Go.Fw (Sq ent Bd Mat)
def posW (m i:Nat):Nat:=1+i * (m+1)
theorem posW_lt {m i a:Nat} (h:i<a):posW m i+(m+1)≤posW m a:=by
 unfold posW
 have:(i+1) * (m+1)≤a * (m+1):=Nat.mul_le_mul_right _ h
 rw [Nat.add_mul] at this
 omega
theorem rowOne_len (b r:List Int) (u v:Nat) (m:Int):(rowOne b r u v m).length=r.length:=by
 unfold rowOne;split
 ·rw [List.length_set]
 ·rfl
theorem rowStep_len (b r:List Int) (x:Sight):(rowStep b r x).length=r.length:=by unfold rowStep;rw [rowOne_len,rowOne_len]
theorem zEx (b:List Int):∀ (l:List Sight) (r:List Int),(l.foldl (rowStep b) r).length=r.length
 | [],r=>rfl
 | x :: l,r=>by rw [List.foldl_cons,zEx b l,rowStep_len]
structure WalkH (Hh:List (Option Blk)) (s:Survey) (rows:Nat→List Int) (m a:Nat) (r:List Int) (L:Nat):Prop where
 c0:cellsAt Hh 0=some [.int .i64 (Lv.num s),.slice (sgts s.sights) s.sights.length .unk]
 rows:∀ i,i<a→cellsAt Hh (posW m i)=some (ints (rows i))
 cur:cellsAt Hh (posW m a)=some (ints r)
 len:Hh.length=L
theorem WalkH.app {Hh:List (Option Blk)} {s:Survey} {rows:Nat→List Int} {m a:Nat} {r:List Int} {L:Nat} (h:WalkH Hh s rows m a r L) (y:Option Blk):WalkH (Hh ++ [y]) s rows m a r (L+1):=
 ⟨zAn h.c0 _,fun i hi=>zAn (h.rows i hi) _,zAn h.cur _,by simp [h.len]⟩
theorem WalkH.put {Hh:List (Option Blk)} {s:Survey} {rows:Nat→List Int} {m a:Nat} {r:List Int} {L:Nat} (h:WalkH Hh s rows m a r L) (r':List Int):WalkH (setH Hh (posW m a) (.cells (ints r'))) s rows m a r' L:=by
 have hl:=zDu h.cur
 refine ⟨?_,fun i hi => ?_,cells_self hl,by rw [setH_len hl];exact h.len⟩
 ·rw [zBw hl (by unfold posW;omega)];exact h.c0
 ·have:=posW_lt (m:=m) hi
  rw [zBw hl (by omega)];exact h.rows i hi
structure WalkM (n:Nat) (W:Mat):Prop where
 sq:Sq n W
 low:∀ i v,i<n→v<n → -far≤ent W i v
 high:∀ i v,i<n→v<n→ent W i v≤1000000
theorem walk_bd {b:List Int} {n:Nat} (hb:∀ v,v<n → -far≤b.getD v 0∧b.getD v 0≤1000000) {r:List Int} (hr:∀ v,v<r.length → -far≤r.getD v 0∧r.getD v 0≤1001000) (hl:r.length=n) {x:Sight} {k:Int} (hx:SightOk k x) (hk:k.toNat=n) :
  ∀ v,v<(rowStep b r x).length → -far≤(rowStep b r x).getD v 0∧(rowStep b r x).getD v 0≤1001000:=by
 have h1:=hx.frm;have h2:=hx.to;have h3:=hx.rise
 have one:∀ (r:List Int) (u v:Nat) (m:Int),u<n → -1000≤m→m≤1000→r.length=n→(∀ v,v<r.length → -far≤r.getD v 0∧r.getD v 0≤1001000)→v<n → ∀ w,w<(rowOne b r u v m).length → -far≤(rowOne b r u v m).getD w 0∧(rowOne b r u v m).getD w 0≤1001000:=by
  intro r u v m hu m1 m2 hl hr hv w hw
  unfold rowOne at hw ⊢
  split at hw
  ·rename_i g
   rw [if_pos g,Lv.getD_set (by omega)]
   rw [List.length_set] at hw
   split
   ·have a:=hr v (by omega)
    have c:=hb u hu
    omega
   ·exact hr w hw
  ·rename_i g
   rw [if_neg g];exact hr w hw
 unfold rowStep
 refine one _ _ _ _ (by omega) (by omega) (by omega) (by rw [rowOne_len];exact hl) (one _ _ _ _ (by omega) (by omega) (by omega) hl hr (by omega)) (by omega)
theorem walks_pc (s:Survey) (h:Sw s) (hl:s.sights.length≤100) {W:Mat} (hW:WalkM (Lv.num s) W):PC Tryz.prog 147 [surA s,wS W] (.pure (wS ((List.range (Lv.num s)).map fun a=>walkRow s (W.getD a [])))):=by
 refine PC.of_frz (AC.run (E_ok _) mix Tryz.func147 m147 rfl rfl rfl (zE rfl) ?_) (by simp only [bndL,wS_bnd];simp [AV.bnd,bndL]) (wS_bnd _)
 obtain ⟨n,hn⟩:∃ n,n=Lv.num s:=⟨_,rfl⟩
 have hst:s.stations=(n:Int):=by have:=h.st;rw [hn];show _=((s.stations.toNat:Nat):Int);omega
 have hn2:2≤n∧n≤8:=by have:=h.st;omega
 rw [← hn] at hW ⊢
 obtain ⟨m,hm⟩:∃ m,s.sights.length=m:=⟨_,rfl⟩
 simp only [go_sem,boxA,hst,zB,zD,zC,reduceIte,reduceCtorEq,zA]
 refine zAu (fun q ts' S' => ∃ a V nt tk Hh,a≤n∧q=n - a∧ts'=[(1,wS W),(2,.ref 0 0),(5,V),(12,.int .i64 n),(13,.int .i64 (a:Nat))]∧S'=⟨Hh,nt,tk⟩∧cellsAt Hh 0=some [.int .i64 n,.slice (sgts s.sights) s.sights.length .unk]∧Hh.length=posW m a∧(∀ i,i<a→cellsAt Hh (posW m i)=some (ints (walkRow s (W.getD i []))))∧Own (rowsF (posW m) a n) a V nt tk) n ⟨0,.nilS,0,[],_,qG _,rfl,rfl,rfl,rfl,by simp [posW],fun i hi=>absurd hi (qU _),Own.nil _ _⟩ ?_
 rintro q ts' S' ⟨a,V,nt,tk,Hh,ha,rfl,rfl,rfl,c0,hlen,hrows,ho⟩
 by_cases hlt:a<n
 rotate_left
 ·have h1:¬ (a:Int)<n:=by omega
  have e:a=n:=by omega
  subst e
  simp only [go_sem,l147_0,h1,decide_false,Tryz.f147,zB,zD,zC,reduceIte,reduceCtorEq,zA]
  have hV:∃ t,V=.slice (rowsF (posW m) a a) a t:=by
   rcases ho with ⟨_,_,h0⟩ | ⟨k,hk,_⟩
   ·omega
   ·exact ⟨_,hk⟩
  obtain ⟨t,rfl⟩:=hV
  refine ⟨_,rfl,rowsF_frz (fun i hi => ?_) hrows t⟩
  unfold walkRow
  rw [zEx];simp [← hn]
 have h1:(a:Int)<n:=by omega
 have h4:IntKind.i64.wrap ((a:Int)+1)=(a+1:Nat):=wrap64 (by omega)
 have lm:(rowsF (posW m) a n).length=a * 1:=by simp
 simp only [go_sem,l147_0,h1,decide_true,c0,zB,zD,zC,reduceIte,reduceCtorEq,zA]
 refine ca n150 (repeat_pc (-1099511627776) n (by omega) (by omega)) (SubL.cons (Sub.unk _ 1 .exact) (SubL.refl _)) ?_
 simp only [go_sem,hlen,zAa,zB,zD,zC,reduceIte,reduceCtorEq,zA]
 refine zEa (lx:=[.sref (posW m a) 0 n n]) rowRows ho lm rfl (by decide) rfl (by omega) fun V' tk' g => ?_
 have gt:=g.tok
 have go:=g.own
 rw [rowsF_snoc] at gt go
 subst gt
 have w0:WalkH (Hh ++ [some (.cells (ints (List.replicate n (-1099511627776))))]) s (fun i=>walkRow s (W.getD i [])) m a (List.replicate n (-far)) (posW m a+1):=
  ⟨by rw [← hn];exact zAn c0 _,fun i hi=>zAn (hrows i hi) _,by rw [← hlen];exact zAf _ _,by simp [hlen]⟩
 generalize Hh ++ [some (.cells (ints (List.replicate n (-1099511627776))))]=Hi at *
 have d0:=w0.c0
 rw [← hn] at d0
 simp only [go_sem,d0,zAa,zB,zD,zC,reduceIte,reduceCtorEq,zA]
 clear hrows c0 hlen ho g
 have hwa:(W.map sl)[a]? = some (sl (W.getD a [])):=zDl hW.sq hlt
 have hbl:(W.getD a []).length=n:=hW.sq.getD hlt
 have hWl:W.length=n:=hW.sq.1
 have hbb:∀ v,v<n → -far≤(W.getD a []).getD v 0∧(W.getD a []).getD v 0≤1000000:=fun v hv=>⟨hW.low a v hlt hv,hW.high a v hlt hv⟩
 obtain ⟨b,hb⟩:∃ b,W.getD a []=b:=⟨_,rfl⟩
 have hrowEq:walkRow s b=s.sights.foldl (rowStep b) (List.replicate n (-far)):=by unfold walkRow;rw [hn];rfl
 rw [hb] at hwa hbl hbb
 have hrb:∀ j,j≤m → ∀ v,v<((s.sights.take j).foldl (rowStep b) (List.replicate n (-far))).length → -far≤((s.sights.take j).foldl (rowStep b) (List.replicate n (-far))).getD v 0∧((s.sights.take j).foldl (rowStep b) (List.replicate n (-far))).getD v 0≤1001000:=by
  intro j
  induction j with
  | zero =>
   intro _ v hv
   rw [List.take_zero,List.foldl_nil] at hv ⊢
   rw [List.length_replicate] at hv
   have:(List.replicate n (-far)).getD v 0 = -far:=by rw [zG,yD,if_pos hv];rfl
   rw [this]
   have:far=1099511627776:=rfl
   omega
  | succ j ih =>
   intro hj
   rw [zCz _ _ _ _ (by omega)]
   exact walk_bd hbb (ih (by omega)) (by rw [zEx];simp) (h.sights _ (qB (by omega))) hn.symm
 refine wc_forE m (fun j=>[(1,wS W),(2,.ref 0 0),(5,.slice (rowsF (posW m) (a+1) n) (a+1) (.tok nt)),(12,.int .i64 n),(13,.int .i64 (a:Nat)),(6,.int .i64 (a:Nat)),(24,.slice (sgts s.sights) s.sights.length .unk),(25,.int .i64 s.sights.length),(26,.int .i64 (j:Nat))])
  (fun j S => ∃ Hh,S=⟨Hh,nt+1,tk'⟩∧WalkH Hh s (fun i=>walkRow s (W.getD i [])) m a ((s.sights.take j).foldl (rowStep b) (List.replicate n (-far))) (posW m a+1+j)) rfl ⟨_,rfl,w0⟩ ?_
 rintro j hj S ⟨Hj,rfl,wj⟩ I hI
 by_cases hlt2:j<m
 rotate_left
 ·have k1:¬ (j:Int)<s.sights.length:=by omega
  have ej:j=m:=by omega
  subst ej
  simp only [go_sem,l147_1,k1,decide_false,h4,zB,zD,zC,reduceIte,reduceCtorEq,zA]
  refine zAj (n - (a+1)) (by omega) ⟨a+1,_,nt+1,tk',Hj,hlt,rfl,rfl,rfl,by rw [hn];exact wj.c0,by rw [wj.len];unfold posW;rw [Nat.add_mul];omega,fun i hi => ?_,go⟩
  by_cases e:i=a
  ·subst e
   rw [hb,hrowEq]
   have:=wj.cur
   rw [← hm,yO] at this
   rw [← hm];exact this
  ·exact wj.rows i (by omega)
 have k1:(j:Int)<s.sights.length:=by omega
 have k2:0≤(j:Int)∧(j:Int)<s.sights.length:=by omega
 have k3:j * 4+4≤(sgts s.sights).length:=by rw [zBf];omega
 have h6:IntKind.i64.wrap ((j:Int)+1)=(j+1:Nat):=wrap64 (by omega)
 have k5:=zCj s.sights j (by omega)
 have hx:=h.sights _ (qB (by omega:j<s.sights.length))
 have hnext:(s.sights.take (j+1)).foldl (rowStep b) (List.replicate n (-far))=rowStep b ((s.sights.take j).foldl (rowStep b) (List.replicate n (-far))) s.sights[j]:=zCz _ _ _ _ (by omega)
 have hrbj:=hrb j (by omega)
 have hrl:((s.sights.take j).foldl (rowStep b) (List.replicate n (-far))).length=n:=by rw [zEx];simp
 have hI:=hI hlt2
 generalize (s.sights.take j).foldl (rowStep b) (List.replicate n (-far))=r at *
 generalize s.sights[j]=x at *
 obtain ⟨f,t,ρ,o⟩:=x
 have x1:=hx.frm;have x2:=hx.to;have x3:=hx.rise
 simp only at x1 x2 x3
 obtain ⟨f,rfl⟩:∃ f':Nat,f=f':=⟨f.toNat,by omega⟩
 obtain ⟨t,rfl⟩:∃ t':Nat,t=t':=⟨t.toNat,by omega⟩
 have hf:f<n:=by omega
 have ht:t<n:=by omega
 have hlen:=wj.len
 have w1:=wj.app (some (.cells [.int .i64 (f:Nat),.int .i64 (t:Nat),.int .i64 ρ,.int .i64 o]))
 have cx:=fun l=>zAf Hj l
 have sx:=fun x B=>zAs Hj x B
 have hpos:posW m a<Hj.length:=zDu wj.cur
 have xw:0≤(a:Int)∧(a:Int)<(W.length:Int):=by omega
 have xr:0≤(a:Int)∧(a:Int)<(a+1:Nat):=by omega
 have xf:0≤(f:Int)∧(f:Int)<(b.length:Int):=by omega
 have xt:0≤(t:Int)∧(t:Int)<(b.length:Int):=by omega
 have xfn:0≤(f:Int)∧(f:Int)<(n:Int):=by omega
 have xtn:0≤(t:Int)∧(t:Int)<(n:Int):=by omega
 have gbf:b[f]? = some (b.getD f 0):=by rw [zG,zF (by omega)];rfl
 have gbt:b[t]? = some (b.getD t 0):=by rw [zG,zF (by omega)];rfl
 have rg:(rowsF (posW m) (a+1) n)[a]? = some (.sref (posW m a) 0 n n):=rowsF_get (by omega)
 have bf:=hbb f hf
 have bt:=hbb t ht
 have far_eq:far=1099511627776:=rfl
 have w1':IntKind.i64.wrap (b.getD f 0+ρ)=b.getD f 0+ρ:=wrap64 (by omega)
 have w2:IntKind.i64.wrap (b.getD t 0 - ρ)=b.getD t 0 - ρ:=wrap64 (by omega)
 have kt:t+1≤n:=ht
 have kf:f+1≤n:=hf
 simp only [go_sem,l147_1,k1,decide_true,k2,k3,k5,cx,sx,zAd,AV.cells,AV.one,zL,zO,zJ,splice,zI,zH,and_self,zAi,yL,zB,zD,zC,reduceIte,reduceCtorEq,zA]
 by_cases g1:b.getD f 0 > -far
 ·have g1':b.getD f 0 > -1099511627776:=g1
  have hone:rowOne b r f t ρ=r.set t (max (r.getD t 0) (b.getD f 0+ρ)):=if_pos g1
  have hmx1:(if b.getD f 0+ρ > r.getD t 0 then b.getD f 0+ρ else r.getD t 0)=max (r.getD t 0) (b.getD f 0+ρ):=by split <;> omega
  have hw2:=w1.put (r.set t (max (r.getD t 0) (b.getD f 0+ρ)))
  have gt1:r[t]? = some (r.getD t 0):=by rw [zG,zF (by omega)];rfl
  have cu1:=w1.cur
  simp only [go_sem,hwa,xw,xf,xt,xfn,xtn,gbf,ints_get,zX,cx,xr,rg,cu1,gt1,g1',decide_true,w1',zAa,maxsA,hmx1,kt,zCm,hrl,zDt,zAd,AV.cells,AV.one,zL,zO,zJ,splice,zI,zH,and_self,zAi,yL,zB,zD,zC,reduceIte,reduceCtorEq,zA]
  have cx2:cellsAt (setH (Hj ++ [some (.cells [.int .i64 (f:Nat),.int .i64 (t:Nat),.int .i64 ρ,.int .i64 o])]) (posW m a) (.cells (ints (r.set t (max (r.getD t 0) (b.getD f 0+ρ)))))) Hj.length=some [.int .i64 (f:Nat),.int .i64 (t:Nat),.int .i64 ρ,.int .i64 o]:=by
   rw [zBw (by simp;omega) (by omega)];exact cx _
  have hrl2:(r.set t (max (r.getD t 0) (b.getD f 0+ρ))).length=n:=by rw [List.length_set];exact hrl
  generalize setH (Hj ++ [some (.cells [.int .i64 (f:Nat),.int .i64 (t:Nat),.int .i64 ρ,.int .i64 o])]) (posW m a) (.cells (ints (r.set t (max (r.getD t 0) (b.getD f 0+ρ)))))=H2 at *
  generalize r.set t (max (r.getD t 0) (b.getD f 0+ρ))=r2 at *
  by_cases g2:b.getD t 0 > -far
  ·have g2':b.getD t 0 > -1099511627776:=g2
   have hmx:(if b.getD t 0 - ρ > (r2).getD f 0 then b.getD t 0 - ρ else (r2).getD f 0)=max ((r2).getD f 0) (b.getD t 0 + -ρ):=by split <;> omega
   have hw3:=hw2.put ((r2).set f (max ((r2).getD f 0) (b.getD t 0 + -ρ)))
   have hstep:rowStep b r ⟨f,t,ρ,o⟩=(r2).set f (max ((r2).getD f 0) (b.getD t 0 + -ρ)):=by
    show rowOne b (rowOne b r f t ρ) t f (-ρ)=_
    rw [hone]
    exact if_pos g2
   have gf:(r2)[f]? = some ((r2).getD f 0):=by rw [zG,zF (by omega)];rfl
   have cu:=hw2.cur
   have kf:f+1≤n:=hf
   simp only [go_sem,hwa,xw,xf,xt,xfn,xtn,gbt,ints_get,zX,cx2,xr,rg,cu,gf,g2',decide_true,w2,zAa,maxsA,hmx,kf,zCm,hrl2,zDt,h6,zAd,AV.cells,AV.one,zL,zO,zJ,splice,zI,zH,and_self,zAi,yL,zB,zD,zC,reduceIte,reduceCtorEq,zA]
   exact hI _ ⟨_,rfl,by rw [hnext,hstep];exact hw3⟩
  ·have g2':¬ b.getD t 0 > -1099511627776:=g2
   have hstep:rowStep b r ⟨f,t,ρ,o⟩=r2:=by
    show rowOne b (rowOne b r f t ρ) t f (-ρ)=_
    rw [hone]
    exact if_neg g2
   simp only [go_sem,hwa,xw,xf,xt,xfn,xtn,gbt,ints_get,zX,cx2,g2',decide_false,h6,zAd,AV.cells,AV.one,zL,zO,zJ,splice,zI,zH,and_self,zAi,yL,zB,zD,zC,reduceIte,reduceCtorEq,zA]
   exact hI _ ⟨_,rfl,by rw [hnext,hstep];exact hw2⟩
 ·have g1':¬ b.getD f 0 > -1099511627776:=g1
  have hone:rowOne b r f t ρ=r:=if_neg g1
  have hrl2:=hrl
  simp only [go_sem,hwa,xw,xf,xt,gbf,ints_get,zX,cx,g1',decide_false,zAd,AV.cells,AV.one,zL,zO,zJ,splice,zI,zH,and_self,zAi,yL,zB,zD,zC,reduceIte,reduceCtorEq,zA]
  by_cases g2:b.getD t 0 > -far
  ·have g2':b.getD t 0 > -1099511627776:=g2
   have hmx:(if b.getD t 0 - ρ > (r).getD f 0 then b.getD t 0 - ρ else (r).getD f 0)=max ((r).getD f 0) (b.getD t 0 + -ρ):=by split <;> omega
   have hw3:=w1.put ((r).set f (max ((r).getD f 0) (b.getD t 0 + -ρ)))
   have hstep:rowStep b r ⟨f,t,ρ,o⟩=(r).set f (max ((r).getD f 0) (b.getD t 0 + -ρ)):=by
    show rowOne b (rowOne b r f t ρ) t f (-ρ)=_
    rw [hone]
    exact if_pos g2
   have gf:(r)[f]? = some ((r).getD f 0):=by rw [zG,zF (by omega)];rfl
   have cu:=w1.cur
   have kf:f+1≤n:=hf
   simp only [go_sem,hwa,xw,xf,xt,xfn,xtn,gbt,ints_get,zX,cx,xr,rg,cu,gf,g2',decide_true,w2,zAa,maxsA,hmx,kf,zCm,hrl2,zDt,h6,zAd,AV.cells,AV.one,zL,zO,zJ,splice,zI,zH,and_self,zAi,yL,zB,zD,zC,reduceIte,reduceCtorEq,zA]
   exact hI _ ⟨_,rfl,by rw [hnext,hstep];exact hw3⟩
  ·have g2':¬ b.getD t 0 > -1099511627776:=g2
   have hstep:rowStep b r ⟨f,t,ρ,o⟩=r:=by
    show rowOne b (rowOne b r f t ρ) t f (-ρ)=_
    rw [hone]
    exact if_neg g2
   simp only [go_sem,hwa,xw,xf,xt,xfn,xtn,gbt,ints_get,zX,cx,g2',decide_false,h6,zAd,AV.cells,AV.one,zL,zO,zJ,splice,zI,zH,and_self,zAi,yL,zB,zD,zC,reduceIte,reduceCtorEq,zA]
   exact hI _ ⟨_,rfl,by rw [hnext,hstep];exact w1⟩
end Go.Av.Lx
end
