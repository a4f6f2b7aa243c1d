/- Part 17 of the proof. -/
import Derived.Test.YtclmbbofpaecaaaGreatDoorVn14
import Derived.Test.YtclmbbofpaecaaaGreatDoorVn16
set_option linter.all false
set_option linter.unusedVariables false
set_option linter.unusedSimpArgs false
set_option linter.unusedSectionVars false
open Bool renaming false_eq_true → zS, and_eq_true → zT, not_true → zV, not_false → qF, true_and → qY, not_eq_true' → yE
open List renaming getElem?_eq_getElem → zF, getD_eq_getElem?_getD → zG, getElem?_eq_none → zN, mem_cons_self → zP, mem_cons_of_mem → zR, getElem?_append_right → zY, getElem_mem → qB, length_append → qC, getElem?_append_left → qJ, getElem?_map → qK, getElem?_range → qR, flatMap_cons → qW, range_succ → yN
open Nat renaming reduceLeDiff → zA, reduceEqDiff → zB, reduceAdd → zC, reduceBEq → zD, le_of_ble_eq_true → zE, le_refl → zM, lt_or_ge → zU, zero_le → qG, not_lt_zero → qU
open Option renaming map_some → zX
open Option.some renaming injEq → yT
section
namespace Go.Av.Fx
open Go Go.Av Go.Av.Tb Go.Proofs
open Go.Lv (Sight Survey Sw Sv SightOk)
abbrev sgtC (x:Sight):List AV:=[.int .i64 x.frm,.int .i64 x.to,.int .i64 x.rise,.int .i64 x.off]
def sgts (l:List Sight):List AV:=l.flatMap sgtC
@[simp] theorem zBf (l:List Sight):(sgts l).length=4 * l.length:=by
 induction l with
 | nil=>rfl
 | cons c l ih=>simp only [sgts,qW,qC] at ih ⊢;rw [ih];simp [sgtC];omega
@[simp] theorem sgts_bnd (n k:Nat) (l:List Sight):bndL n k (sgts l)=true:=zBb _ (fun _=>rfl) l
abbrev surC (s:Survey):List AV:=[.int .i64 s.stations,.slice (sgts s.sights) s.sights.length .unk]
abbrev surA (s:Survey):AV:=.agg (surC s)
attribute [go_sem] surC sgtC
theorem zCj:∀ (l:List Sight) (k:Nat) (h:k<l.length),((sgts l).drop (k * 4)).take 4=sgtC l[k]
 | c :: l,0,h=>by simp [sgts,sgtC]
 | c :: l,k+1,h=>by
  have:=zCj l k (by simpa using h)
  rw [show (k+1) * 4=4+k * 4 by omega,← List.drop_drop]
  simpa [sgts,sgtC] using this
theorem rin_pc (x lo hi:Int):PC Tryz.prog 88 [.int .i64 x,.int .i64 lo,.int .i64 hi] (.pure (.bool (inB x lo hi))):=by
 refine PC.of_empty (AC.run (E_ok _) mix Tryz.func88 m88 rfl rfl rfl (zE rfl) ?_) rfl rfl
 simp only [go_sem,zB,zD,zC,reduceIte,reduceCtorEq,zA]
 refine sg_dec (fun h => ?_) (fun h => ?_)
 ·simp only [go_sem,h,decide_true,Tryz.f88,zB,zD,zC,reduceIte,reduceCtorEq,zA]
  unfold inB;rw [decide_eq_true h];rfl
 ·simp only [go_sem,h,decide_false,Tryz.f88,zB,zD,zC,reduceIte,reduceCtorEq,zA]
  unfold inB;rw [decide_eq_false h];rfl
def lastS (s:Survey):Int:=IntKind.i64.wrap (s.stations - 1)
def staB (s:Survey) (n:Int):Bool:=inB n 0 (lastS s)
theorem zCo (s:Survey) (n:Int):PC Tryz.prog 142 [surA s,.int .i64 n] (.pure (.bool (staB s n))):=by
 refine PC.of_empty (AC.run (E_ok _) mix Tryz.func142 m142 rfl rfl rfl (zE rfl) ?_) (by simp [bndL,AV.bnd]) rfl
 simp only [go_sem,boxA,zB,zD,zC,reduceIte,reduceCtorEq,zA]
 refine cp n100 (in_pc _ _ _) (SubL.refl _) ?_
 simp only [go_sem,Tryz.f142,zB,zD,zC,reduceIte,reduceCtorEq,zA]
 rfl
theorem zDi (s:Survey) (n:Int):PC Tryz.prog 30 [surA s,.int .i64 n] (.pure (.bool (staB s n))):=by
 refine PC.of_empty (AC.run (E_ok _) mix Tryz.func30 m30 rfl rfl rfl (zE rfl) ?_) (by simp [bndL,AV.bnd]) rfl
 simp only [go_sem,boxA,zB,zD,zC,reduceIte,reduceCtorEq,zA]
 refine cp n88 (rin_pc _ _ _) (SubL.refl _) ?_
 simp only [go_sem,Tryz.f30,zB,zD,zC,reduceIte,reduceCtorEq,zA]
 rfl
theorem endsS_pc (x:Sight):PC Tryz.prog 238 [.agg (sgtC x)] (.pure (.tuple [.int .i64 x.frm,.int .i64 x.to])):=by
 refine PC.of_empty (AC.run (E_ok _) mix Tryz.func238 m238 rfl rfl rfl (zE rfl) ?_) (by simp [bndL,AV.bnd]) rfl
 simp only [go_sem,boxA,Tryz.f238,zB,zD,zC,reduceIte,reduceCtorEq,zA]
def linkB (s:Survey) (a b:Int):Bool:=staB s a && (staB s b && decide (a≠b))
theorem zEq (s:Survey) {t:TypeId} {g:FuncId} (hM:lvM t "quinaria/level.ends" = some g) (ng:Callable Tryz.prog g) (v:AV) (hv:v.bnd 0 0=true) (a b:Int) (hg:PC Tryz.prog g [v] (.pure (.tuple [.int .i64 a,.int .i64 b]))) :
  PC Tryz.prog 115 [surA s,.iface t v] (.pure (.bool (linkB s a b))):=by
 refine PC.of_empty (AC.run (E_ok _) mix Tryz.func115 m115 rfl rfl rfl (zE rfl) ?_) (by simp [bndL,AV.bnd,hv]) rfl
 have hM':∀ n,(E n).M t "quinaria/level.ends" = some g:=fun n=>hM
 unfold linkB
 simp only [go_sem,boxA,hM',zX,zB,zD,zC,reduceIte,reduceCtorEq,zA]
 refine cp ng hg (SubL.refl _) ?_
 simp only [go_sem,zAc,zB,zD,zC,reduceIte,reduceCtorEq,zA]
 refine cp n142 (zCo s a) (SubL.refl _) ?_
 cases ha:staB s a
 ·simp only [go_sem,Tryz.f115,zB,zD,zC,reduceIte,reduceCtorEq,zA]
  rfl
 simp only [go_sem,zB,zD,zC,reduceIte,reduceCtorEq,zA]
 refine cp n142 (zCo s b) (SubL.refl _) ?_
 cases hb:staB s b
 ·simp only [go_sem,Tryz.f115,zB,zD,zC,reduceIte,reduceCtorEq,zA]
  rfl
 simp only [go_sem,Tryz.f115,zB,zD,zC,reduceIte,reduceCtorEq,zA]
 rfl
@[go_sem] theorem bd_sight (a b c d:Int):buildA T 140 [(0,.agg [.int .i64 a,.int .i64 b,.int .i64 c,.int .i64 d])]=some (.agg [.int .i64 a,.int .i64 b,.int .i64 c,.int .i64 d]):=rfl
@[go_sem] theorem d_sight:descOf T 140=some ti140.desc:=rfl
@[go_sem] theorem i_sight:isIface ti140.desc=false:=rfl
def badSgt (s:Survey) (x:Sight):Bool:=!linkB s x.frm x.to || (!inB x.rise (-1000) 1000 || !inB x.off 0 50)
theorem isSurvey1_pc (s:Survey) (x:Sight):PC Tryz.prog 145 [.agg (sgtC x),.eptr (surC s) 0] (.pure (.bool (badSgt s x))):=by
 refine PC.of_empty (AC.run (E_ok _) mix Tryz.func145 m145 rfl rfl rfl (zE rfl) ?_) (by simp [bndL,AV.bnd]) rfl
 have hI:=zEq s (t:=140) (g:=238) rfl n238 (.agg (sgtC x)) (by simp [AV.bnd,bndL]) _ _ (endsS_pc x)
 unfold badSgt
 simp only [go_sem,boxA,zB,zD,zC,reduceIte,reduceCtorEq,zA]
 refine cp n115 hI (SubL.refl _) ?_
 cases hl:linkB s x.frm x.to
 ·simp only [go_sem,zAg,qF,Tryz.f145,zB,zD,zC,reduceIte,reduceCtorEq,zA]
 simp only [go_sem,zAg,zV,zB,zD,zC,reduceIte,reduceCtorEq,zA]
 refine cp n100 (in_pc _ _ _) (SubL.refl _) ?_
 rw [show (decide (x.rise ≥ -1000) && decide (x.rise≤1000))=inB x.rise (-1000) 1000 from rfl]
 cases hr:inB x.rise (-1000) 1000
 ·simp only [go_sem,zAg,qF,Tryz.f145,zB,zD,zC,reduceIte,reduceCtorEq,zA]
 simp only [go_sem,zAg,zV,zB,zD,zC,reduceIte,reduceCtorEq,zA]
 refine cp n100 (in_pc _ _ _) (SubL.refl _) ?_
 rw [show (decide (x.off ≥ 0) && decide (x.off≤50))=inB x.off 0 50 from rfl]
 simp only [go_sem,zAg,Tryz.f145,zB,zD,zC,reduceIte,reduceCtorEq,zA]
theorem indexFuncS_pc (l:List Sight) (hl:okL l.length) (g:FuncId) (ng:Callable Tryz.prog g) (caps:List AV) (hc:bndL 0 0 caps=true) (p:Sight→Bool) (hg:∀ x∈l,PC Tryz.prog g (.agg (sgtC x) :: caps) (.pure (.bool (p x)))) :
  PC Tryz.prog 170 [.slice (sgts l) l.length .unk,.func (.func g) [] caps] (.pure (.int .i64 (idx p l))):=by
 refine PC.of_empty (AC.run (E_ok _) mix Tryz.func170 m170 rfl rfl rfl (zE rfl) ?_) (by simp [bndL,AV.bnd,hc]) rfl
 simp only [go_sem,zAa,zB,zD,zC,reduceIte,reduceCtorEq,zA]
 refine zBi l.length (fun k => ∀ i (hi:i<k) (hil:i<l.length),p l[i]=false) (fun k=>[(0,.slice (sgts l) l.length .unk),(1,.func (.func g) [] caps),(7,.int .i64 l.length),(8,.int .i64 k)]) (fun _=>St.empty) (fun i hi=>absurd hi (qU _)) rfl rfl ?_
 intro k hk hP I hI
 by_cases h:k<l.length
 ·have h':(k:Int)<l.length:=by omega
  have h2:0≤(k:Int)∧(k:Int)<l.length:=by omega
  have h3:k * 4+4≤(sgts l).length:=by rw [zBf];omega
  have h4:IntKind.i64.wrap ((k:Int)+1)=(k+1:Nat):=wrap64 (by omega)
  have h5:=zCj l k h
  simp only [go_sem,l170_0,h',decide_true,zB,zD,zC,reduceIte,reduceCtorEq,zA]
  simp only [go_sem,h2,zAi,and_self,h3,h5,zB,zD,zC,reduceIte,reduceCtorEq,zA]
  refine cp ng (hg _ (qB h)) (SubL.refl _) ?_
  simp only [go_sem,zB,zD,zC,reduceIte,reduceCtorEq,zA]
  refine sb_bool (fun hb => ?_) (fun hb => ?_)
  ·simp only [go_sem,Tryz.f170,zB,zD,zC,reduceIte,reduceCtorEq,zA]
   rw [idx_at h hb (fun i hi=>hP i hi (by omega))]
  ·simp only [go_sem,h4,zB,zD,zC,reduceIte,reduceCtorEq,zA]
   refine hI h fun i hi hil => ?_
   by_cases e:i=k
   ·subst e;exact hb
   ·exact hP i (by omega) hil
 ·have h':¬ (k:Int)<l.length:=by omega
  simp only [go_sem,l170_0,h',decide_false,Tryz.f170,zB,zD,zC,reduceIte,reduceCtorEq,zA]
  rw [zDs fun i hi=>hP i (by omega) hi]
theorem zDj (l:List Sight) (hl:okL l.length) (g:FuncId) (ng:Callable Tryz.prog g) (caps:List AV) (hc:bndL 0 0 caps=true) (p:Sight→Bool) (hg:∀ x∈l,PC Tryz.prog g (.agg (sgtC x) :: caps) (.pure (.bool (p x)))) :
  PC Tryz.prog 131 [.slice (sgts l) l.length .unk,.func (.func g) [] caps] (.pure (.bool (l.any p))):=by
 refine PC.of_empty (AC.run (E_ok _) mix Tryz.func131 m131 rfl rfl rfl (zE rfl) ?_) (by simp [bndL,AV.bnd,hc]) rfl
 simp only [go_sem,zB,zD,zC,reduceIte,reduceCtorEq,zA]
 refine cp n170 (indexFuncS_pc l hl g ng caps hc p hg) (SubL.refl _) ?_
 simp only [go_sem,Tryz.f131,zCg,zB,zD,zC,reduceIte,reduceCtorEq,zA]
def zAp (s:Survey):Bool:=inB s.stations 2 8 && (decide ((s.sights.length:Int)≤14) && !s.sights.any (badSgt s))
theorem zBn (s:Survey) (hl:okL s.sights.length):PC Tryz.prog 89 [surA s] (.pure (.bool (zAp s))):=by
 refine PC.of_empty (AC.run (E_ok _) mix Tryz.func89 m89 rfl rfl rfl (zE rfl) ?_) (by simp [bndL,AV.bnd]) rfl
 unfold zAp
 simp only [go_sem,boxA,zB,zD,zC,reduceIte,reduceCtorEq,zA]
 refine cp n100 (in_pc _ _ _) (SubL.refl _) ?_
 rw [show (decide (s.stations ≥ 2) && decide (s.stations≤8))=inB s.stations 2 8 from rfl]
 cases h1:inB s.stations 2 8
 ·simp only [go_sem,Tryz.f89,zB,zD,zC,reduceIte,reduceCtorEq,zA]
  rfl
 by_cases h2:(s.sights.length:Int)≤14
 rotate_left
 ·simp only [go_sem,zAa,h2,decide_false,Tryz.f89,zB,zD,zC,reduceIte,reduceCtorEq,zA]
  rfl
 have hC:=zDj s.sights hl 145 n145 [.eptr (surC s) 0] (by simp [bndL,AV.bnd]) (badSgt s) (fun x _=>isSurvey1_pc s x)
 simp only [go_sem,zAa,h2,decide_true,zB,zD,zC,reduceIte,reduceCtorEq,zA]
 refine cl n131 hC (LntL.cons (.same _ (by simp [AV.bnd])) (LntL.cons (Lnt.func1 (.ptr 0 0 _ rfl (by simp [bndL,AV.bnd]))) (LntL.nil _))) rfl ?_
 simp only [go_sem,zAg,Tryz.f89,zB,zD,zC,reduceIte,reduceCtorEq,zA]
 rfl
theorem last_eq {s:Survey} (h:2≤s.stations∧s.stations≤8):lastS s=s.stations - 1:=wrap64 (by omega)
theorem zBd {s:Survey} (h:2≤s.stations∧s.stations≤8) {n:Int}:staB s n=true↔0≤n∧n<s.stations:=by
 unfold staB;rw [inB_iff,last_eq h];omega
theorem sgt_iff {s:Survey} (h:2≤s.stations∧s.stations≤8) {x:Sight}:badSgt s x=false↔SightOk s.stations x:=by
 unfold badSgt linkB
 rw [Bool.or_eq_false_iff,Bool.or_eq_false_iff,Bool.not_eq_false',Bool.not_eq_false',Bool.not_eq_false',zT,zT,zBd h,zBd h,inB_iff,inB_iff,decide_eq_true_iff]
 exact ⟨fun ⟨⟨a,b,c⟩,d,e⟩=>⟨a,b,c,d,e⟩,fun ⟨a,b,c,d,e⟩=>⟨⟨a,b,c⟩,d,e⟩⟩
theorem zCk {s:Survey}:zAp s=true↔Sv s:=by
 unfold zAp
 rw [zT,zT,inB_iff,decide_eq_true_iff,yE,List.any_eq_false]
 constructor
 ·rintro ⟨h1,h2,h3⟩
  exact ⟨⟨h1,fun x hx=>(sgt_iff h1).1 (by simpa using h3 x hx)⟩,by omega⟩
 ·rintro ⟨⟨h1,h2⟩,h3⟩
  exact ⟨h1,by omega,fun x hx=>by rw [(sgt_iff h1).2 (h2 x hx)];decide⟩
theorem rsights_pc (s:Survey) (hl:s.sights.length≤1000):PC Tryz.prog 96 [surA s] (.pure (.bool (!s.sights.any (badSgt s)))):=by
 refine PC.of_empty (AC.run (E_ok _) mix Tryz.func96 m96 rfl rfl rfl (zE rfl) ?_) (by simp [bndL,AV.bnd]) rfl
 simp only [go_sem,boxA,zB,zD,zC,reduceIte,reduceCtorEq,zA]
 refine wc_forGP s.sights.length (fun k => ∀ i (hi:i<k) (hil:i<s.sights.length),badSgt s s.sights[i]=false) (fun k=>[(1,.ref 0 0),(3,.int .i64 k)]) (fun _=>⟨[some (.cells (surC s))],0,[]⟩) (fun i hi=>absurd hi (qU _)) rfl rfl (fun k hk => ?_) ?_
 ·refine ⟨qG _,qG _,by simp [bndTS,AV.bnd],fun i B hB => ?_,fun t ht=>by cases ht⟩
  match i,hB with
  | 0,hB=>simp at hB;subst hB;simp [Blk.bnd,bndL,AV.bnd]
  | i+1,hB=>simp at hB
 intro k hk hP I hI
 by_cases h:k<s.sights.length
 ·have h1:(k:Int)<s.sights.length:=by omega
  have h2:0≤(k:Int)∧(k:Int)<s.sights.length:=by omega
  have h3:k * 4+4≤(sgts s.sights).length:=by rw [zBf];omega
  have h4:IntKind.i64.wrap ((k:Int)+1)=(k+1:Nat):=wrap64 (by omega)
  have h5:=zCj s.sights k h
  have hany:badSgt s s.sights[k]=true→(!s.sights.any (badSgt s))=false:=fun hh=>by
   rw [Bool.not_eq_false',List.any_eq_true]
   exact ⟨_,qB h,hh⟩
  have hnx:badSgt s s.sights[k]=false → ∀ i (hi:i<k+1) (hil:i<s.sights.length),badSgt s s.sights[i]=false:=fun hh i hi hil=>by
   by_cases e:i=k
   ·subst e;exact hh
   ·exact hP i (by omega) hil
  have hI:=hI h
  generalize s.sights[k]=x at *
  have hb:badSgt s x=(!(staB s x.frm && (staB s x.to && decide (x.frm≠x.to))) || (!inB x.rise (-1000) 1000 || !inB x.off 0 50)):=rfl
  simp only [go_sem,l96_0,zAa,h1,decide_true,h2,h3,h5,zB,zD,zC,reduceIte,reduceCtorEq,zA]
  refine cp n30 (zDi s x.frm) (SubL.refl _) ?_
  cases h6:staB s x.frm
  ·rw [hany (by rw [hb,h6];rfl)]
   simp only [go_sem,zAg,qF,Tryz.f96,zB,zD,zC,reduceIte,reduceCtorEq,zA]
  simp only [go_sem,zAg,zV,zB,zD,zC,reduceIte,reduceCtorEq,zA]
  refine cp n30 (zDi s x.to) (SubL.refl _) ?_
  cases h7:staB s x.to
  ·rw [hany (by rw [hb,h6,h7];rfl)]
   simp only [go_sem,zAg,qF,Tryz.f96,zB,zD,zC,reduceIte,reduceCtorEq,zA]
  by_cases h8:x.frm=x.to
  ·rw [hany (by rw [hb,h6,h7,decide_eq_false (fun hh=>hh h8)];rfl)]
   have d8:=decide_eq_true h8
   simp only [go_sem,zAg,zV,d8,Tryz.f96,zB,zD,zC,reduceIte,reduceCtorEq,zA]
  have d8:=decide_eq_false h8
  simp only [go_sem,zAg,zV,d8,zB,zD,zC,reduceIte,reduceCtorEq,zA]
  refine cp n88 (rin_pc _ _ _) (SubL.refl _) ?_
  cases h9:inB x.rise (-1000) 1000
  ·rw [hany (by rw [hb,h9];simp)]
   simp only [go_sem,zAg,qF,Tryz.f96,zB,zD,zC,reduceIte,reduceCtorEq,zA]
  simp only [go_sem,zAg,zV,zB,zD,zC,reduceIte,reduceCtorEq,zA]
  refine cp n88 (rin_pc _ _ _) (SubL.refl _) ?_
  cases h10:inB x.off 0 50
  ·rw [hany (by rw [hb,h10];simp)]
   simp only [go_sem,zAg,qF,Tryz.f96,zB,zD,zC,reduceIte,reduceCtorEq,zA]
  simp only [go_sem,zAg,zV,h4,zB,zD,zC,reduceIte,reduceCtorEq,zA]
  exact hI (hnx (by rw [hb,h6,h7,h9,h10,decide_eq_true h8];rfl)) [_]
 ·have h1:¬ (k:Int)<s.sights.length:=by omega
  have ht:(!s.sights.any (badSgt s))=true:=by
   rw [yE,List.any_eq_false]
   intro x hx
   obtain ⟨i,hi,rfl⟩:=List.mem_iff_getElem.1 hx
   rw [hP i (by omega) hi];decide
  simp only [go_sem,l96_0,zAa,h1,decide_false,Tryz.f96,zB,zD,zC,reduceIte,reduceCtorEq,zA]
  rw [ht]
theorem rSurvey_pc (s:Survey) (hl:okL s.sights.length):PC Tryz.prog 33 [surA s] (.pure (.bool (zAp s))):=by
 refine PC.of_empty (AC.run (E_ok _) mix Tryz.func33 m33 rfl rfl rfl (zE rfl) ?_) (by simp [bndL,AV.bnd]) rfl
 unfold zAp
 simp only [go_sem,boxA,zB,zD,zC,reduceIte,reduceCtorEq,zA]
 refine cp n88 (rin_pc _ _ _) (SubL.refl _) ?_
 cases h1:inB s.stations 2 8
 ·simp only [go_sem,Tryz.f33,zB,zD,zC,reduceIte,reduceCtorEq,zA]
  rfl
 by_cases h2:(s.sights.length:Int)≤14
 rotate_left
 ·simp only [go_sem,zAa,h2,decide_false,Tryz.f33,zB,zD,zC,reduceIte,reduceCtorEq,zA]
  rfl
 simp only [go_sem,zAa,h2,decide_true,zB,zD,zC,reduceIte,reduceCtorEq,zA]
 refine cp n96 (rsights_pc s (by omega)) (SubL.refl _) ?_
 simp only [go_sem,Tryz.f33,zB,zD,zC,reduceIte,reduceCtorEq,zA]
 rfl
def farH (n:Int):Bool:=!inB n (-20000) 20000
def listOk (s:Survey) (hs:List Int):Bool:=decide ((hs.length:Int)=s.stations) && !hs.any farH
def offB (hs:List Int) (x:Sight):Bool:=!inB (hs.getD x.to.toNat 0 - hs.getD x.frm.toNat 0) (x.rise - x.off) (x.rise+x.off)
theorem fits1_pc (n:Int):PC Tryz.prog 130 [.int .i64 n] (.pure (.bool (farH n))):=by
 refine PC.of_empty (AC.run (E_ok _) mix Tryz.func130 m130 rfl rfl rfl (zE rfl) ?_) rfl rfl
 simp only [go_sem,zB,zD,zC,reduceIte,reduceCtorEq,zA]
 refine cp n100 (in_pc _ _ _) (SubL.refl _) ?_
 simp only [go_sem,zAg,Tryz.f130,zB,zD,zC,reduceIte,reduceCtorEq,zA]
 rfl
structure HsOk (n:Int) (hs:List Int):Prop where
 len:(hs.length:Int)=n
 bd:∀ h∈hs,-20000≤h∧h≤20000
theorem HsOk.at {n:Int} {hs:List Int} (h:HsOk n hs) (i:Nat):-20000≤hs.getD i 0∧hs.getD i 0≤20000:=by
 rw [zG]
 cases hx:hs[i]? with
 | none=>simp
 | some g=>exact h.bd g (List.mem_of_getElem? hx)
theorem fits2_pc (n:Int) (hs:List Int) (hh:HsOk n hs) (x:Sight) (hx:SightOk n x):PC Tryz.prog 132 [.agg (sgtC x),.eptr [sl hs] 0] (.pure (.bool (offB hs x))):=by
 refine PC.of_empty (AC.run (E_ok _) mix Tryz.func132 m132 rfl rfl rfl (zE rfl) ?_) (by simp [bndL,AV.bnd]) rfl
 have h1:=hx.frm;have h2:=hx.to;have h3:=hx.rise;have h4:=hx.off;have h5:=hh.len
 have i1:0≤x.to∧x.to<hs.length:=by omega
 have i2:0≤x.frm∧x.frm<hs.length:=by omega
 have g1:hs[x.to.toNat]? = some (hs.getD x.to.toNat 0):=by rw [zG,zF (by omega)];rfl
 have g2:hs[x.frm.toNat]? = some (hs.getD x.frm.toNat 0):=by rw [zG,zF (by omega)];rfl
 have b1:=hh.at x.to.toNat
 have b2:=hh.at x.frm.toNat
 unfold offB
 generalize hs.getD x.to.toNat 0=u at *
 generalize hs.getD x.frm.toNat 0=v at *
 have w1:IntKind.i64.wrap (u - v)=u - v:=wrap64 (by omega)
 have w2:IntKind.i64.wrap (x.rise - x.off)=x.rise - x.off:=wrap64 (by omega)
 have w3:IntKind.i64.wrap (x.rise+x.off)=x.rise+x.off:=wrap64 (by omega)
 simp only [go_sem,boxA,i1,i2,ints_get,g1,g2,zX,w1,w2,w3,zB,zD,zC,reduceIte,reduceCtorEq,zA]
 first | refine cp n100 (in_pc _ _ _) (SubL.refl _) ?_ | refine qp n100 (in_pc _ _ _) (SubL.refl _) ?_
 simp only [go_sem,zAg,Tryz.f132,zB,zD,zC,reduceIte,reduceCtorEq,zA]
 rfl
theorem list_iff {s:Survey} {hs:List Int}:listOk s hs=true↔HsOk s.stations hs:=by
 unfold listOk
 rw [zT,decide_eq_true_iff,yE,List.any_eq_false]
 constructor
 ·rintro ⟨h1,h2⟩
  refine ⟨h1,fun h hh => ?_⟩
  have:=h2 h hh
  unfold farH at this
  simp only [yE,Bool.not_eq_false] at this
  exact inB_iff.1 this
 ·rintro ⟨h1,h2⟩
  refine ⟨h1,fun h hh => ?_⟩
  unfold farH
  rw [inB_iff.2 (h2 h hh)];decide
def fitB (s:Survey) (hs:List Int):Bool:=!s.sights.any (offB hs)
def fitsA (s:Survey) (hs:List Int):AV:=if zAp s=true∧listOk s hs=true then .tuple [.bool (fitB s hs),.int .i64 0] else .tuple [.bool false,.int .i64 2]
theorem fitsA_bnd (s:Survey) (hs:List Int):(fitsA s hs).bnd 0 0=true:=by
 unfold fitsA
 split <;> simp [bndL,AV.bnd]
theorem Fits_pc (s:Survey) (hl:okL s.sights.length) (hs:List Int) (hh:okL hs.length):PC Tryz.prog 64 [surA s,sl hs] (.pure (fitsA s hs)):=by
 refine PC.of_empty (AC.run (E_ok _) mix Tryz.func64 m64 rfl rfl rfl (zE rfl) ?_) (by simp [bndL,AV.bnd]) (fitsA_bnd s hs)
 unfold fitsA
 have hw:((hs.length:Int)≠s.stations)∨(hs.length:Int)=s.stations:=by omega
 simp only [go_sem,boxA,zB,zD,zC,reduceIte,reduceCtorEq,zA]
 refine cp n89 (zBn s hl) (SubL.refl _) ?_
 cases h1:zAp s
 ·rw [if_neg (fun h=>by cases h.1)]
  simp only [go_sem,zAg,qF,Tryz.f64,zB,zD,zC,reduceIte,reduceCtorEq,zA]
 by_cases h2:(hs.length:Int)≠s.stations
 ·have d2:=decide_eq_true h2
  rw [if_neg (fun h=>h2 (list_iff.1 h.2).len)]
  simp only [go_sem,zAg,zV,zAa,d2,Tryz.f64,zB,zD,zC,reduceIte,reduceCtorEq,zA]
 have d2:=decide_eq_false h2
 have e2:(hs.length:Int)=s.stations:=Decidable.not_not.1 h2
 simp only [go_sem,zAg,zV,zAa,d2,zB,zD,zC,reduceIte,reduceCtorEq,zA]
 refine cp n129 (containsFunc_pc hs hh 130 n130 [] rfl farH (fun x _=>fits1_pc x)) (SubL.refl _) ?_
 have hl0:listOk s hs = !hs.any farH:=by unfold listOk;rw [decide_eq_true e2,qY]
 cases h3:hs.any farH
 rotate_left
 ·rw [if_neg (fun h=>by rw [hl0,h3] at h;cases h)]
  simp only [go_sem,Tryz.f64,zB,zD,zC,reduceIte,reduceCtorEq,zA]
 have hl1:listOk s hs=true:=by rw [hl0,h3];rfl
 rw [if_pos hl1]
 have hk:=list_iff.1 hl1
 have hv:=zCk.1 h1
 have hC:=zDj s.sights hl 132 n132 [.eptr [sl hs] 0] (by simp [bndL,AV.bnd]) (offB hs) (fun x hx=>fits2_pc _ hs hk x (hv.sights x hx))
 simp only [go_sem,zB,zD,zC,reduceIte,reduceCtorEq,zA]
 refine cl n131 hC (LntL.cons (.same _ (by simp [AV.bnd])) (LntL.cons (Lnt.func1 (.ptr 1 0 _ rfl (by simp [bndL,AV.bnd]))) (LntL.nil _))) rfl ?_
 simp only [go_sem,zAg,Tryz.f64,zB,zD,zC,reduceIte,reduceCtorEq,zA]
 rfl
theorem rList_pc (s:Survey) (hs:List Int) (hh:okL hs.length):PC Tryz.prog 56 [surA s,sl hs] (.pure (.bool (listOk s hs))):=by
 refine PC.of_empty (AC.run (E_ok _) mix Tryz.func56 m56 rfl rfl rfl (zE rfl) ?_) (by simp [bndL,AV.bnd]) rfl
 unfold okL at hh
 simp only [go_sem,boxA,zB,zD,zC,reduceIte,reduceCtorEq,zA]
 refine zBi hs.length (fun k => ∀ i (hi:i<k) (hil:i<hs.length),farH hs[i]=false) (fun k=>[(1,sl hs),(2,.ref 0 0),(5,.int .i64 k)]) (fun _=>⟨[some (.cells (surC s))],0,[]⟩) (fun i hi=>absurd hi (qU _)) rfl rfl ?_
 intro k hk hP I hI
 by_cases h:k<hs.length
 ·have h1:(k:Int)<hs.length:=by omega
  have h2:0≤(k:Int)∧(k:Int)<hs.length:=by omega
  have h3:hs[k]? = some hs[k]:=zF h
  have h4:IntKind.i64.wrap ((k:Int)+1)=(k+1:Nat):=wrap64 (by omega)
  simp only [go_sem,l56_0,zAa,h1,decide_true,h2,ints_get,h3,zX,zB,zD,zC,reduceIte,reduceCtorEq,zA]
  refine cp n88 (rin_pc _ _ _) (SubL.refl _) ?_
  have hf:farH hs[k] = !inB hs[k] (-20000) 20000:=rfl
  cases h5:inB hs[k] (-20000) 20000
  ·have hb:listOk s hs=false:=by
    unfold listOk
    rw [Bool.and_eq_false_iff]
    right
    rw [Bool.not_eq_false',List.any_eq_true]
    exact ⟨_,qB h,by rw [hf,h5];rfl⟩
   simp only [go_sem,zAg,qF,Tryz.f56,zB,zD,zC,reduceIte,reduceCtorEq,zA]
   rw [hb]
  ·simp only [go_sem,zAg,zV,h4,zB,zD,zC,reduceIte,reduceCtorEq,zA]
   refine hI h fun i hi hil => ?_
   by_cases e:i=k
   ·subst e;rw [hf,h5];rfl
   ·exact hP i (by omega) hil
 ·have h1:¬ (k:Int)<hs.length:=by omega
  have ha:hs.any farH=false:=by
   rw [List.any_eq_false]
   intro x hx
   obtain ⟨i,hi,rfl⟩:=List.mem_iff_getElem.1 hx
   rw [hP i (by omega) hi];decide
  have hb:listOk s hs=decide ((hs.length:Int)=s.stations):=by unfold listOk;rw [ha];simp
  simp only [go_sem,l56_0,zAa,h1,decide_false,Tryz.f56,zB,zD,zC,reduceIte,reduceCtorEq,zA]
  rw [hb]
theorem fit_iff {s:Survey} {hs:List Int}:fitB s hs=true↔Go.Lv.Fit s fun i=>hs.getD i 0:=by
 unfold fitB
 rw [yE,List.any_eq_false]
 constructor
 ·intro h x hx
  have:=h x hx
  unfold offB at this
  simp only [yE,Bool.not_eq_false] at this
  exact inB_iff.1 this
 ·intro h x hx
  unfold offB
  rw [inB_iff.2 (h x hx)];decide
end Go.Av.Fx
end
section
namespace Go.Av.Fx
open Go Go.Av Go.Av.Tb Go.Proofs
open Go.Lv (Sight Survey Sw Sv SightOk)
open Go.Fw (Sq ent Bd Mat)
def sB (x:Sight):List Bound:=[⟨x.frm,x.to,IntKind.i64.wrap (x.rise+x.off)⟩,⟨x.to,x.frm,IntKind.i64.wrap (x.off - x.rise)⟩]
theorem zDn (x:Sight):PC Tryz.prog 91 [.agg (sgtC x)] (.pure (.slice (bnds (sB x)) 2 .exact)):=by
 refine PC.of_empty (AC.run (E_ok _) mix Tryz.func91 m91 rfl rfl rfl (zE rfl) ?_) (by simp [bndL,AV.bnd]) (by simp [AV.bnd])
 simp only [go_sem,boxA,Tryz.f91,zB,zD,zC,reduceIte,reduceCtorEq,zA]
 rfl
theorem sB_eq {n:Int} {x:Sight} (h:SightOk n x):(sB x).map bd=Lv.sightB x:=by
 have h1:=h.rise;have h2:=h.off
 have w1:IntKind.i64.wrap (x.rise+x.off)=x.rise+x.off:=wrap64 (by omega)
 have w2:IntKind.i64.wrap (x.off - x.rise)=x.off - x.rise:=wrap64 (by omega)
 simp only [sB,w1,w2];rfl
def sumF (acc:Int):List Int→Int
 | []=>acc
 | x :: l=>if x ≥ far then far else sumF (IntKind.i64.wrap (acc+x)) l
theorem sum_pc' (l:List Int) (hl:okL l.length):PC Tryz.prog 151 [sl l] (.pure (.int .i64 (sumF 0 l))):=by
 refine PC.of_empty (AC.run (E_ok _) mix Tryz.func151 m151 rfl rfl rfl (zE rfl) ?_) (by simp [bndL,AV.bnd]) rfl
 generalize hz:sumF 0 l=z
 simp only [go_sem,zAa,zB,zD,zC,reduceIte,reduceCtorEq,zA]
 refine zAu (fun m ts' S' => ∃ k acc,k≤l.length∧m=l.length - k∧sumF acc (l.drop k)=z∧ts'=[(3,.int .i64 acc),(6,sl l),(7,.int .i64 l.length),(8,.int .i64 k)]∧S'=St.empty) l.length ⟨0,0,qG _,rfl,hz,rfl,rfl⟩ ?_
 rintro m ts' S' ⟨k,acc,hk,rfl,hs,rfl,rfl⟩
 by_cases h:k<l.length
 ·have h1:(k:Int)<l.length:=by omega
  have h2:0≤(k:Int)∧(k:Int)<l.length:=by omega
  have h3:l[k]? = some l[k]:=zF h
  have h4:IntKind.i64.wrap ((k:Int)+1)=(k+1:Nat):=wrap64 (by unfold okL at hl;omega)
  rw [List.drop_eq_getElem_cons h] at hs
  unfold sumF at hs
  by_cases g:l[k] ≥ far
  ·rw [if_pos g] at hs
   have g':l[k] ≥ 1099511627776:=g
   simp only [go_sem,l151_0,h1,decide_true,h2,ints_get,h3,zX,zAi,zB,zD,zC,reduceIte,reduceCtorEq,zA]
   simp only [go_sem,g',decide_true,Tryz.f151,zB,zD,zC,reduceIte,reduceCtorEq,zA]
   rw [← hs];rfl
  ·rw [if_neg g] at hs
   have g':¬ l[k] ≥ 1099511627776:=g
   simp only [go_sem,l151_0,h1,decide_true,h2,ints_get,h3,zX,zAi,zB,zD,zC,reduceIte,reduceCtorEq,zA]
   simp only [go_sem,g',decide_false,h4,zB,zD,zC,reduceIte,reduceCtorEq,zA]
   exact zAj (l.length - (k+1)) (by omega) ⟨k+1,_,h,rfl,hs,rfl,rfl⟩
 ·have h1:¬ (k:Int)<l.length:=by omega
  rw [List.drop_of_length_le (by omega)] at hs
  unfold sumF at hs
  simp only [go_sem,l151_0,h1,decide_false,Tryz.f151,zB,zD,zC,reduceIte,reduceCtorEq,zA]
  rw [hs]
def MoreA (ds:List Bound) (M:AV) (S:St) (N:Nat):Prop:=(M=.nilS∧ds=[]) ∨ ∃ k,M=.slice (bnds ds) ds.length (.tok k)∧k∈S.toks∧k<N
theorem MoreA.app {ds l:List Bound} {M:AV} {S:St} {N:Nat} (h:MoreA ds M S N) (hN:N≤S.nt) (hl:l≠[]) (hlen:ds.length+l.length≤1000000) {tl:Tail} {K:AV→St→Prop} {hK:Hold K} (next:∀ M' toks,MoreA (ds ++ l) M' ⟨S.heap,S.nt+1,toks⟩ (S.nt+1)→K M' ⟨S.heap,S.nt+1,toks⟩) :
  sr K hK (appendA T S 138 M (.slice (bnds l) l.length tl)) S:=by
 have hp:l.length≠0:=fun e=>hl (List.length_eq_zero_iff.1 e)
 rcases h with ⟨rfl,rfl⟩ | ⟨k,rfl,hk,hkN⟩
 ·have:appendA T S 138 .nilS (.slice (bnds l) l.length tl)=some (.tok none fun j=>.slice (bnds l) l.length (.tok j)):=by
   unfold appendA
   rw [show descOf T 138=some (.slice 150) from rfl]
   simp only [show T 150=some ti150 from rfl]
   rw [if_neg (by decide)]
   have hh:heldA S ti150.size (.slice (bnds l) l.length tl)=some (bnds l,l.length):=by
    unfold heldA
    simp [show ti150.size=3 from rfl,Nat.mul_comm]
   rw [hh]
   simp only [if_neg hp,bnds_one,zV,zS,if_false]
   have hb:ti150.bytes=24:=rfl
   rw [if_pos ⟨by rw [hb];simp at hlen;omega,by simp at hlen;omega⟩]
  rw [this,sr_tok]
  exact next _ _ (.inr ⟨S.nt,rfl,zP,Nat.lt_succ_self _⟩)
 ·rw [zCs (e:=150) (ei:=ti150) (lx:=bnds l) (nx:=l.length) rfl rfl (by decide) (by unfold heldA;simp [show ti150.size=3 from rfl,Nat.mul_comm]) hp (bnds_one l) (by rw [show ti150.bytes=24 from rfl];omega) (by omega) (by rw [bnds_len,show ti150.size=3 from rfl];omega)]
  rw [zBu]
  refine ⟨hk, ?_⟩
  rw [bnds_app,← qC]
  exact next _ _ (.inr ⟨S.nt,rfl,zP,Nat.lt_succ_self _⟩)
theorem MoreA.mono {ds:List Bound} {M:AV} {S S':St} {N N':Nat} (h:MoreA ds M S N) (ht:∀ k∈S.toks,k<N→k∈S'.toks) (hN:N≤N'):MoreA ds M S' N':=by
 rcases h with h | ⟨k,h1,h2,h3⟩
 ·exact .inl h
 ·exact .inr ⟨k,h1,ht k h2 h3,by omega⟩
end Go.Av.Fx
end
section
namespace Go.Av.Fx
open Go Go.Av Go.Av.Tb Go.Proofs
open Go.Lv (Sight Survey Sw Sv SightOk)
open Go.Fw (Sq ent Bd Mat upd row stage upto)
theorem zAn {h:List (Option Blk)} {b:Nat} {l:List AV} (hb:cellsAt h b=some l) (g:List (Option Blk)):cellsAt (h ++ g) b=some l:=by
 unfold cellsAt at hb ⊢
 have:b<h.length:=by
  rcases zU b h.length with h' | h'
  ·exact h'
  ·rw [zN h'] at hb;cases hb
 rw [qJ this];exact hb
theorem zAf (h:List (Option Blk)) (l:List AV):cellsAt (h ++ [some (.cells l)]) h.length=some l:=by
 unfold cellsAt;rw [zY (zM _),Nat.sub_self];rfl
theorem zAs (h:List (Option Blk)) (x:Option Blk) (B:Blk):setH (h ++ [x]) h.length B=h ++ [some B]:=by
 have:=zDf h [x] 0 B
 rw [Nat.add_zero] at this;rw [this];rfl
def rowsO (off m n:Nat):List AV:=(List.range m).map fun i=>.sref (off+i) 0 n n
@[simp] theorem rowsO_len (off m n:Nat):(rowsO off m n).length=m:=by simp [rowsO]
theorem zDb {off m n i:Nat} (h:i<m):(rowsO off m n)[i]? = some (.sref (off+i) 0 n n):=by
 simp [rowsO,qR h]
theorem rowsO_snoc (off m n:Nat):rowsO off m n ++ [.sref (off+m) 0 n n]=rowsO off (m+1) n:=by simp [rowsO,yN]
theorem zEr {A C:List (Option Blk)} {V:Mat} {n:Nat} (h:Sq n V) {a:Nat} (ha:a<n) {off:Nat} (ho:A.length=off):cellsAt (A ++ (heapR V ++ C)) (off+a)=some (ints (V.getD a [])):=by
 subst ho
 have hl:a<V.length:=by rw [h.1];exact ha
 unfold cellsAt
 rw [zY (by omega),Nat.add_sub_cancel_left,heapR_get hl,zG,zF hl];rfl
theorem setH_mid {A C:List (Option Blk)} {V:Mat} {n:Nat} (h:Sq n V) {a:Nat} (ha:a<n) {off:Nat} (ho:A.length=off) (b:Nat) (v:Int) :
  setH (A ++ (heapR V ++ C)) (off+a) (.cells ((ints (V.getD a [])).set b (.int .i64 v)))=A ++ (heapR (Fw.put V a b v) ++ C):=by
 subst ho
 have hl:a<V.length:=by rw [h.1];exact ha
 rw [zDf,zDt,setH_R hl];rfl
theorem cells_end {A:List (Option Blk)} {R:Mat} {k:Nat} (hR:R.length=k) (l:List AV) {off:Nat} (ho:A.length=off):cellsAt (A ++ (heapR R ++ [some (.cells l)])) (off+k)=some l:=by
 subst ho
 unfold cellsAt
 rw [zY (by omega),Nat.add_sub_cancel_left,zY (by simp [hR]),heapR_len,hR,Nat.sub_self];rfl
theorem grid_frz {A C:List (Option Blk)} {n off:Nat} {V:Mat} (h:Sq n V) (ho:A.length=off) (t:Tail):Frz (A ++ (heapR V ++ C)) (.slice (rowsO off n n) n t) (.slice (V.map sl) V.length .unk):=by
 subst ho
 rw [h.1]
 refine .slice _ _ _ _ (by simp [h.1]) fun j x y hx hy => ?_
 have hj:j<n:=by
  rcases zU j n with h' | h'
  ·exact h'
  ·rw [zN (by simpa using h')] at hx;cases hx
 have hl:j<V.length:=by rw [h.1];exact hj
 rw [zDb hj] at hx
 simp only [yT] at hx
 subst hx
 rw [qK,zF hl] at hy
 simp only [zX,yT] at hy
 subst hy
 have hlen:V[j].length=n:=h.2 j _ (zF hl)
 have hc:(A ++ (heapR V ++ C))[A.length+j]? = some (some (.cells (ints V[j]))):=by
  rw [zY (by omega),Nat.add_sub_cancel_left,heapR_get hl]
 have:=Frz.row (h:=A ++ (heapR V ++ C)) (A.length+j) 0 n n 1 (ints V[j]) hc (by simp [hlen]) (zM _)
 rw [List.drop_zero,List.take_of_length_le (by simp [hlen])] at this
 show Frz _ _ (.slice (ints V[j]) V[j].length .unk)
 rw [hlen];exact this
def RowA (off n a:Nat) (V:AV) (toks:List Nat) (N nt:Nat):Prop:=(a=0∧V=.nilS) ∨ ∃ k,V=.slice (rowsO off a n) a (.tok k)∧k∈toks∧N≤k∧k<nt
theorem RowA.app {off n a:Nat} {V:AV} {toks:List Nat} {N:Nat} {h:List (Option Blk)} {nt:Nat} {ds:List Bound} {M:AV} {S:St} (h':RowA off n a V toks N nt) (hm:MoreA ds M ⟨S.heap,nt,toks⟩ N) (ha:a≤1000) (hN:N≤nt) {b:St} {K:AV→St→Prop} {hK:Hold K}
  (next:∀ toks',RowA off n (a+1) (.slice (rowsO off (a+1) n) (a+1) (.tok nt)) toks' N (nt+1)→MoreA ds M ⟨S.heap,nt+1,toks'⟩ N→K (.slice (rowsO off (a+1) n) (a+1) (.tok nt)) ⟨h,nt+1,toks'⟩) :
  sr K hK (appendA T b 35 V (.slice [.sref (off+a) 0 n n] 1 .exact)) ⟨h,nt,toks⟩:=by
 have hr:RowA off n (a+1) (.slice (rowsO off (a+1) n) (a+1) (.tok nt)) (nt :: toks) N (nt+1):=.inr ⟨nt,rfl,zP,hN,Nat.lt_succ_self _⟩
 rcases h' with ⟨rfl,rfl⟩ | ⟨k,rfl,hk,hkN,hkn⟩
 ·have:appendA T b 35 .nilS (.slice [.sref (off+0) 0 n n] 1 .exact)=some (.tok none (fun j=>.slice [.sref (off+0) 0 n n] 1 (.tok j))):=rfl
  rw [this,sr_tok]
  exact next _ hr (hm.mono (fun k hk _=>zR _ hk) (zM _))
 ·rw [zCs (e:=32) (ei:=ti32) (lx:=[.sref (off+a) 0 n n]) (nx:=1) rfl rfl (by decide) rfl (by decide) rfl (by rw [show ti32.bytes=24 from rfl];omega) (by omega) (by rw [rowsO_len,show ti32.size=1 from rfl];omega)]
  rw [zBu]
  refine ⟨hk, ?_⟩
  rw [rowsO_snoc]
  refine next _ (.inr ⟨nt,rfl,zP,hN,Nat.lt_succ_self _⟩) (hm.mono (fun j hj hjN=>zR _ ?_) (zM _))
  unfold killTok
  exact List.mem_filter.2 ⟨hj,by simp;omega⟩
@[go_sem] theorem bd132 (a b:AV):buildA T 132 [(0,.agg [a,b])]=some (.agg [a,b,.nilS]):=rfl
@[go_sem] theorem bs35_1 (i o n c:Nat):zAe T 35 1 [(0,.sref i o n c)]=some (.slice [.sref i o n c] 1 .exact):=rfl
@[go_sem] theorem d_against:descOf T 191=some ti191.desc:=rfl
@[go_sem] theorem i_against:isIface ti191.desc=false:=rfl
@[go_sem] theorem bd_against (a:Int):buildA T 191 [(0,.int .i64 a)]=some (.agg [.int .i64 a]):=rfl
end Go.Av.Fx
end
